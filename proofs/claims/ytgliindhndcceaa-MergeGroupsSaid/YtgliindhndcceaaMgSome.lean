/- The walk of the law's own helper some: rows of edits in memory of their own. -/
import Derived.Test.YtgliindhndcceaaMgFew
namespace Go.Proofs.Ytgliindhndcceaa
open Go.RowKit

/-- a row of edits in blocks of its own -/
structure Rw.Own (w : World) (base : Nat) (r : Rw) : Prop where
  row : w.ownsRow base 48 5 (.slice r.A r.n r.c) r.n (cellsE r.row)
  els : ∀ e ∈ r.row, e.Own w base
theorem Rw.Own.on {w w' : World} {base : Nat} {r : Rw} (h : r.Own w base) (hb : Below w.heap.size w w') : r.Own w' base := ⟨own_on h.row hb, fun e he => (h.els e he).on hb⟩
theorem Rw.Own.less {w : World} {base base' : Nat} {r : Rw} (h : r.Own w base) (hb : base' ≤ base) : r.Own w base' := ⟨own_base h.row hb, fun e he => (h.els e he).less hb⟩
theorem Rw.Own.grown {w w' : World} {base b2 : Nat} {t2 : TypeId} {s2 n2 : Nat} {v2 : Value} {x2 : List Value} {r : Rw} (h : r.Own w base) (h2 : w.ownsRow b2 t2 s2 v2 n2 x2) (hne : 5 ≠ t2) (hne2 : 48 ≠ t2) (hg : w.grownBy w' v2.ownBlock) : r.Own w' base :=
  ⟨h.row.kept hg (own_ne h.row h2 hne2), fun e he => (h.els e he).grown h2 hne hg⟩
theorem Rw.Own.ok {w : World} {base : Nat} {r : Rw} (h : r.Own w base) : Row w w.heap.size r.A r.n r.c r.row := Row.of_few h.row h.els
theorem Rows2.of_own {w : World} {base : Nat} {A : Option Addr} {n c : Nat} {L : List Rw} (h : w.ownsRow base 22 1 (.slice A n c) n (L.map Rw.val)) (ho : ∀ r ∈ L, r.Own w base) : Rows2 w w.heap.size A n c L := by
  obtain ⟨A', c', hv, h1, h2, h3⟩ := own_slice h
  injection hv with e1 e2 e3
  subst e1 e3
  exact ⟨h3, fun r hr => (ho r hr).ok, h1, h2⟩
/-- what rows hold -/
def Rw.nrm (r : Rw) : List Ed := r.row.map Ed.nrm
/-- what some keeps of a row -/
def Rw.cut (r : Rw) : List Ed := (r.row.take 60).map Ed.cut
theorem rows_info2 : (Try.prog.info? 22).map (fun i => (i.zero, i.size, i.bytes)) = some (some (.slice none 0 0), 1, 24) := by kernel_rfl
set_option maxRecDepth 100000 in
set_option maxHeartbeats 16000000 in
theorem some_any (A : Option Addr) (n c N : Nat) (R : List Rw) (w : World) (hA : Rows2 w w.heap.size A n c R) (hN : (if 12 < n then 12 else n) = N) :
    Calls Try.prog 20 #[.slice A n c] w fun e w' => ∃ (A' : Option Addr) (c' : Nat) (L : List Rw), e = .returned (.slice A' N c') ∧ w'.ownsRow w.heap.size 22 1 (.slice A' N c') N (L.map Rw.val) ∧ (∀ r ∈ L, r.Own w' w.heap.size ∧ r.n ≤ 60) ∧ L.map Rw.nrm = (R.take 12).map Rw.cut ∧ Below w.heap.size w w' := by
  obtain ⟨i0, hti, hz0, hz1, hz2⟩ := info_parts rows_info2
  obtain ⟨f2, f3, _⟩ := cut_min hN
  have f1 : (if (12 : Int) < (n : Int) then (12 : Int) else (n : Int)) = (N : Int) := by rw [← hN]; split <;> split <;> omega
  have hcap := hA.cap
  have HTK := hide (cut_take hA.len hN)
  have HA := hide hA
  have HL := hide hA.len
  have f4 : (N : Int) ≤ (c : Int) := by omega
  have f5 : (0 : Int) ≤ (N : Int) := by omega
  clear hA hN
  go_enter Try.func20, Try.ntmps20
  go_wp2_with fail
  go_loopw [3, 12] (fun ov i wr => ∃ (j : Nat) (L : List Rw), i = .int .i64 (j : Int) ∧ j ≤ N ∧ L.length = j ∧ Hid (wr.ownsRow w.heap.size 22 1 ov L.length (L.map Rw.val)) ∧ Hid (∀ r ∈ L, r.Own wr w.heap.size ∧ r.n ≤ 60) ∧ Hid (L.map Rw.nrm = (R.take j).map Rw.cut) ∧ Hid (Below w.heap.size w wr)) (fun _ i _ => N - (intOf i).toNat)
  case atStart => exact ⟨0, [], rfl, Nat.zero_le _, rfl, hide (World.ownsRow_nil _ _ _ _), hide (fun _ h => by cases h), hide rfl, hide (Below.refl _ _)⟩
  case round =>
    obtain ⟨j, L, rfl, hj, hLj, hown, hOk, hOm, hb⟩ := hrel
    by_cases hlt : j < N
    · have hjl : j < R.length := by rw [HL.out]; omega
      have HR := hide (HA.out.on hb.out)
      obtain ⟨b, o, rfl, hbw, hcell⟩ := HR.out.cell hjl
      have hj0 : (0 : Int) ≤ (j : Int) := by omega
      have hj1 : (j : Int) < (N : Int) := by omega
      have HE := hide (HR.out.ok R[j] (List.getElem_mem hjl))
      have HTJ := hide (show R.take (j + 1) = R.take j ++ [R[j]] from List.take_succ_eq_append_getElem hjl)
      obtain ⟨r, hr⟩ : ∃ r, r = R[j] := ⟨_, rfl⟩
      rw [← hr] at hcell HE HTJ
      clear hr
      go_wp2_with fail
      have hk := (cut_min (n := r.n) (N := if 60 < r.n then 60 else r.n) (M := 60) rfl).2.1
      refine Calls.mono (few_any r.A r.n r.c 60 _ r.row _ HE.out rfl (by omega)) ?_
      rintro e w2 ⟨A2, c2, es, rfl, hown2, hok2, hnr2, hb2⟩
      have hszw : w.heap.size ≤ wr.heap.size := hb.out.size
      generalize (if 60 < r.n then 60 else r.n) = K at *
      have HR2 := hide (show (⟨A2, K, c2, es⟩ : Rw).Own w2 w.heap.size from Rw.Own.less ⟨hown2, hok2⟩ hszw)
      have HB2 := hide (hb.out.trans (hb2.mono hszw))
      have HO2 := hide (own_on hown.out hb2)
      have HK2 := hide (fun q (hq : q ∈ L) => show q.Own w2 w.heap.size from (hOk.out q hq).1.on hb2)
      have HNR := hide hnr2
      have hszW := HB2.out.size
      clear hown2 hok2 hnr2 hb2 hcell
      go_wp2_with (at_builtin; go_loud (refine wpList_append_reads rfl (.tmp 16) (.tmp 19) _ rfl w.heap.size 22 i0 _ 1 24 Try.underlying35 hti hz0 hz1 hz2 rfl (by omega) u3 L.length (L.map Rw.val) rfl (HO2.out.alloc _) (w2.heap.size + 1) (some ⟨w2.heap.size, 0, none⟩) 1 1 [.slice A2 K c2] rfl (Reads.one _ _ _) (by intro u hu; simp at hu; subst hu; rfl) (by unfold maxLen; omega) (by omega) (Nat.le_trans hszW (below_alloc _ _).size) ?_); intro v9 w9 hown9 hg9 hat9)
      all_goals
        have HB9 := hide (show Below w.heap.size w w9 from (HB2.out.alloc hszW _).grown hg9 (Nat.le_trans hszW (below_alloc _ _).size) fun k hk => (HO2.out.lt k hk).1)
        go_roundw
        case rel => exact ⟨j + 1, L ++ [⟨A2, K, c2, es⟩], by go_num, by omega, by simp; omega, hide (by rw [List.map_append, List.length_append]; exact hown9), hide (fun q hq => by
          rcases List.mem_append.1 hq with h | h
          · exact ⟨((HK2.out q h).on (below_alloc _ _)).grown (HO2.out.alloc _) (by decide) (by decide) hg9, (hOk.out q h).2⟩
          · obtain rfl : q = _ := by simpa using h
            exact ⟨(HR2.out.on (below_alloc _ _)).grown (HO2.out.alloc _) (by decide) (by decide) hg9, hk⟩), hide (by rw [HTJ.out, List.map_append, List.map_append, hOm.out, List.map_singleton, List.map_singleton]; exact congrArg _ (congrArg (fun z => [z]) HNR.out)), HB9⟩
        case measure => simp [intOf]; omega
    · obtain rfl : j = N := by omega
      have hown2 := hown.out
      rw [hLj] at hown2
      obtain ⟨A9, c9, e9, _⟩ := own_slice hown2
      rw [e9] at hown2 ⊢
      have HOWN := hide hown2
      have HF := hide (show L.map Rw.nrm = (R.take 12).map Rw.cut by rw [hOm.out, HTK.out])
      clear hown2 hown
      go_wp2_with fail
      go_ret
      exact ⟨A9, c9, L, rfl, HOWN.out, hOk.out, HF.out, hb.out⟩
end Go.Proofs.Ytgliindhndcceaa
