/- The walks of Merge and Sort. -/
import Derived.Test.YtgliindhndcceaaMgMerged
namespace Go.Proofs.Ytgliindhndcceaa
open Go.RowKit

theorem own_base {w : World} {base base' : Nat} {e : TypeId} {size : Nat} {v : Value} {n : Nat} {xs : List Value} (h : w.ownsRow base e size v n xs) (hb : base' ≤ base) : w.ownsRow base' e size v n xs := by
  refine ⟨h.1, ?_⟩
  rcases h.2 with hn | ⟨g, cap, cur, hv, hg, rest⟩
  · exact .inl hn
  · exact .inr ⟨g, cap, cur, hv, Nat.le_trans hb hg, rest⟩
/-- what Merge and Sort answer -/
def MAs (ok : Bool) (T : List Ed) (w : World) (e : Ending) (w' : World) : Prop := if ok = true then MergedAs T w e w' else Below w.heap.size w w' ∧ e = .returned (.tuple #[.slice none 0 0, .int .i64 250])
theorem MAs.below {ok : Bool} {T : List Ed} {w w' : World} {e : Ending} (h : MAs ok T w e w') : Below w.heap.size w w' := by
  unfold MAs at h
  split at h
  · exact h.1
  · exact h.1
/-- what comes back is one pair -/
theorem MergedAs.pair {T : List Ed} {w w' : World} {e : Ending} (h : MergedAs T w e w') : ∃ v k, e = .returned (.tuple #[v, .int .i64 k]) := by
  have := h.2
  split at this
  · obtain ⟨v, he, _⟩ := this; exact ⟨v, 0, he⟩
  · exact ⟨_, 3, this⟩
theorem MergedAs.from {T : List Ed} {w0 w w' : World} {e : Ending} (h : MergedAs T w e w') (hb : Below w0.heap.size w0 w) : MergedAs T w0 e w' := by
  refine ⟨below_then hb h.1, ?_⟩
  have h2 := h.2
  split at h2
  · rename_i hl
    obtain ⟨v, he, ho⟩ := h2
    rw [if_pos hl]
    exact ⟨v, he, own_base ho hb.size⟩
  · rename_i hl
    rw [if_neg hl]
    exact h2
theorem right_kn {l : List Ed} (h : l.all Ed.may = true) : ∀ e ∈ l, e.kn ≤ 1048576 := by
  intro e he
  have := List.all_eq_true.1 h e he
  unfold Ed.may mayB at this
  simp only [Bool.and_eq_true, decide_eq_true_eq] at this
  omega
def rightAll (L : List Rw) : Bool := L.all fun r => right r.row
set_option maxHeartbeats 8000000 in
theorem merge_any (A : Option Addr) (n c : Nat) (L : List Rw) (w : World) (hA : Rows2 w w.heap.size A n c L) (hn : n ≤ 80000) :
    Calls Try.prog 21 #[.slice A n c] w (MAs (rightAll L) (srt (flat L)) w) := by
  have HA := hide hA
  have HL := hide hA.len
  clear hA
  go_enter Try.func21, Try.ntmps21
  go_wp2_with fail
  go_loopw [9] (fun i wr => ∃ j : Nat, i = .int .i64 (j : Int) ∧ j ≤ n ∧ Hid (Below w.heap.size w wr) ∧ Hid (∀ p (h : p < L.length), p < j → right L[p].row = true)) (fun i _ => n - (intOf i).toNat)
  case atStart => exact ⟨0, rfl, Nat.zero_le _, hide (Below.refl _ _), hide (fun p h hp => absurd hp (by omega))⟩
  case round =>
    obtain ⟨j, rfl, hj, hb, hst⟩ := hrel
    by_cases hlt : j < n
    · have hjl : j < L.length := by rw [HL.out]; exact hlt
      have HAW := hide (HA.out.on hb.out)
      obtain ⟨b, o, rfl, hbB, hcell⟩ := HAW.out.cell hjl
      have HROW := hide (HAW.out.ok L[j] (List.getElem_mem hjl))
      have hj0 : (0 : Int) ≤ (j : Int) := by omega
      have hj1 : (j : Int) < (n : Int) := by omega
      obtain ⟨r, hr⟩ : ∃ r, r = L[j] := ⟨_, rfl⟩
      rw [← hr] at hcell HROW
      have HR := hide hr
      clear hr
      go_wp2_with fail
      refine Calls.mono (check_any r.A r.n r.c r.row _ HROW.out) ?_
      rintro e2 w2 ⟨rfl, hb2⟩
      have HB2 := hide (below_then hb.out hb2)
      clear hb2 hcell
      cases hrt : right r.row with
      | false =>
        have HF := hide (show rightAll L = false by
          cases h : rightAll L with
          | false => rfl
          | true =>
            rw [HR.out, List.all_eq_true.1 h _ (List.getElem_mem hjl)] at hrt
            cases hrt)
        rw [rightE_no hrt]
        clear hrt
        go_wp2_with fail
        go_ret2
        unfold MAs
        rw [if_neg (by rw [HF.out]; decide)]
        exact ⟨HB2.out, rfl⟩
      | true =>
        have HRT := hide hrt
        rw [rightE_yes hrt]
        clear hrt
        go_wp2_with fail
        go_roundw
        case rel => exact ⟨j + 1, by go_num, by omega, HB2, hide (fun q h hq => by
          by_cases hqe : q = j
          · subst hqe; rw [← HR.out]; exact HRT.out
          · exact hst.out q h (by omega))⟩
        case measure => simp [intOf]; omega
    · obtain rfl : j = n := by omega
      have HF := hide (show rightAll L = true by
        unfold rightAll
        rw [List.all_eq_true]
        intro r hr
        obtain ⟨i, hi, rfl⟩ := List.getElem_of_mem hr
        exact hst.out i hi (by have := HL.out; omega))
      have hrt : ∀ r ∈ L, right r.row = true := fun r hr => List.all_eq_true.1 HF.out r hr
      have HU := hide (fun r (hr : r ∈ L) => show up r.row by have := hrt r hr; unfold right at this; rw [Bool.and_eq_true] at this; exact this.2)
      have HK := hide (fun e (he : e ∈ flat L) => show e.kn ≤ 1048576 by
        obtain ⟨r, hr, her⟩ := List.mem_flatMap.1 he
        have := hrt r hr
        unfold right at this
        rw [Bool.and_eq_true] at this
        exact right_kn this.1 e her)
      clear hrt
      go_wp2_with fail
      refine Calls.mono (merged_any A j c L _ (HA.out.on hb.out) HU.out HK.out hn) ?_
      rintro e2 w2 hm
      obtain ⟨v, k, rfl⟩ := hm.pair
      have HM := hide hm
      clear hm
      go_wp2_with fail
      go_ret2
      unfold MAs
      rw [if_pos HF.out]
      exact HM.out.from hb.out
theorem rows_info : (Try.prog.info? 22).map (fun i => (i.zero, i.size, i.bytes)) = some (some (.slice none 0 0), 1, 24) := by kernel_rfl
theorem up_one (e : Ed) : up [e] := rfl
set_option maxHeartbeats 16000000 in
theorem sort_any (A : Option Addr) (n c : Nat) (l : List Ed) (w : World) (hA : Row w w.heap.size A n c l) (hn : n ≤ 80000) :
    Calls Try.prog 16 #[.slice A n c] w (MAs (l.all Ed.may) (srt l) w) := by
  obtain ⟨i0, hti, hz0, hz1, hz2⟩ := info_parts rows_info
  have HA := hide hA
  have HL := hide hA.len
  have hcap := hA.cap
  clear hA
  go_enter Try.func16, Try.ntmps16
  go_wp2_with fail
  go_loopw [4, 9] (fun rv i wr => ∃ (j : Nat) (L : List Rw), i = .int .i64 (j : Int) ∧ j ≤ n ∧ L.length = j ∧ Hid (flat L = l.take j) ∧ Hid (∀ r ∈ L, Row wr w.heap.size r.A r.n r.c r.row ∧ r.row.length = 1) ∧ Hid (wr.ownsRow w.heap.size 22 1 rv j (L.map Rw.val)) ∧ Hid (Below w.heap.size w wr) ∧ Hid (∀ p (h : p < l.length), p < j → l[p].may = true)) (fun _ i _ => n - (intOf i).toNat)
  case atStart => exact ⟨0, [], rfl, Nat.zero_le _, rfl, hide (by simp [flat]), hide (fun r h => by cases h), hide (World.ownsRow_nil _ _ _ _), hide (Below.refl _ _), hide (fun p h hp => absurd hp (by omega))⟩
  case round =>
    obtain ⟨j, L, rfl, hj, hLj, hfl, hrows, hown, hb, hst⟩ := hrel
    by_cases hlt : j < n
    · have hjl : j < l.length := by rw [HL.out]; exact hlt
      have HR := hide (HA.out.below hb.out)
      obtain ⟨b, o, rfl, hbw, c0, c1, c2, c3, c4⟩ := HR.out.cell hjl
      have hj0 : (0 : Int) ≤ (j : Int) := by omega
      have hj1 : (j : Int) < (n : Int) := by omega
      have hj2 : (j : Int) + 1 ≤ (c : Int) := by omega
      have HM := hide (may_any l[j])
      obtain ⟨e, he⟩ : ∃ e, e = l[j] := ⟨_, rfl⟩
      rw [← he] at HM c0 c1 c2 c3 c4
      have HE := hide he
      have hszw := hb.out.size
      clear he
      go_wp2_with fail
      refine Calls.mono (HM.out _) ?_
      rintro e2 w2 ⟨rfl, hb2⟩
      have HB2x := hide ((below_alloc wr _).trans (hb2.mono (by simp)))
      have HB2 := hide (hb.out.trans (HB2x.out.mono hszw))
      have HO2 := hide (own_on hown.out HB2x.out)
      have hsz2 := HB2.out.size
      clear hb2 c0 c1 c2 c3 c4
      cases hm : e.may with
      | false =>
        have HF := hide (show l.all Ed.may = false by
          cases h : l.all Ed.may with
          | false => rfl
          | true =>
            rw [HE.out, List.all_eq_true.1 h _ (List.getElem_mem hjl)] at hm
            cases hm)
        clear hm
        go_wp2_with fail
        go_ret2
        unfold MAs
        rw [if_neg (by rw [HF.out]; decide)]
        exact ⟨HB2.out, rfl⟩
      | true =>
        have HMM := hide hm
        clear hm
        have hszb := hszw
        go_wp2_with (at_builtin; go_loud (refine wpList_append_reads rfl (.tmp 17) (.tmp 25) _ rfl w.heap.size 22 i0 (.slice none 0 0) 1 24 Try.underlying35 hti hz0 hz1 hz2 rfl (by omega) u4 j (L.map Rw.val) rfl (HO2.out.alloc _) (w2.heap.size + 1) (some ⟨w2.heap.size, 0, none⟩) 1 1 [.slice (some ⟨b, o + j * 5, none⟩) 1 1] rfl (Reads.one _ _ _) (by intro u hu; simp at hu; subst hu; rfl) (by unfold maxLen; omega) (by omega) (by simp; omega) ?_); intro v8 w8 hown8 hg8 hat8)
        have HBx8 := hide (show Below w.heap.size wr w8 from (HB2x.out.mono hszw).trans (((Below.refl w.heap.size w2).alloc hsz2 (.cells #[.slice (some ⟨b, o + j * 5, none⟩) 1 1] 22)).grown hg8 (by simp; omega) fun q hq => (HO2.out.lt q hq).1))
        have HR1 := hide (show Row wr w.heap.size (some ⟨b, o + j * 5, none⟩) 1 1 [e] by
          have h1 := (HR.out.drop j (by omega)).take 1 (by omega)
          have h2 : (l.drop j).take 1 = [e] := by rw [List.drop_eq_getElem_cons hjl, HE.out]; rfl
          rw [h2, if_neg (by omega)] at h1
          have h3 := h1.cells
          simp only [Option.map_some, addr_add] at h3
          exact ⟨h3, h1.ok, Nat.le_refl _, by unfold maxLen; omega⟩)
        go_roundw
        case rel => exact ⟨j + 1, L ++ [⟨some ⟨b, o + j * 5, none⟩, 1, 1, [e]⟩], rfl, by omega, by simp; omega, hide (by rw [flat_snoc, hfl.out, List.take_succ_eq_append_getElem hjl, HE.out]), hide (fun r hr => by
          rcases List.mem_append.1 hr with h | h
          · obtain ⟨h1, h2⟩ := hrows.out r h
            exact ⟨h1.below HBx8.out, h2⟩
          · obtain rfl : r = _ := by simpa using h
            exact ⟨HR1.out.below HBx8.out, rfl⟩), hide (by rw [List.map_append]; exact hown8), hide (hb.out.trans HBx8.out), hide (fun q h hq => by
          by_cases hqe : q = j
          · subst hqe; rw [← HE.out]; exact HMM.out
          · exact hst.out q h (by omega))⟩
        case measure => simp [intOf]; omega
    · obtain rfl : j = n := by omega
      have HF := hide (show l.all Ed.may = true by
        rw [List.all_eq_true]
        intro e he
        obtain ⟨i, hi, rfl⟩ := List.getElem_of_mem he
        exact hst.out i hi (by have := HL.out; omega))
      obtain ⟨A6, c6, rfl, hc6, hm6, hr6⟩ := own_slice hown.out
      have HFL := hide (show flat L = l by rw [hfl.out, List.take_of_length_le (by rw [HL.out]; exact Nat.le_refl _)])
      have HR2 := hide (show Rows2 wr wr.heap.size A6 j c6 L from ⟨hr6, fun r hr => (hrows.out r hr).1.more hb.out.size, hc6, hm6⟩)
      have HU := hide (fun r (hr : r ∈ L) => show up r.row by
        have := (hrows.out r hr).2
        match hrw : r.row, this with
        | [e], _ => exact up_one e)
      have HK := hide (fun e (he : e ∈ flat L) => show e.kn ≤ 1048576 by rw [HFL.out] at he; exact right_kn HF.out e he)
      clear hr6 hc6 hm6 hown hrows
      go_wp2_with fail
      refine Calls.mono (merged_any A6 j c6 L _ HR2.out HU.out HK.out hn) ?_
      rintro e2 w2 hm
      rw [HFL.out] at hm
      obtain ⟨v, k, rfl⟩ := hm.pair
      have HM := hide hm
      clear hm
      go_wp2_with fail
      go_ret2
      unfold MAs
      rw [if_pos HF.out]
      exact HM.out.from hb.out
end Go.Proofs.Ytgliindhndcceaa
