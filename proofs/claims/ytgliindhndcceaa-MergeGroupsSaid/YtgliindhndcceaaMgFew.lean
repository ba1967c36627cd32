/- The walk of the law's own helper few: a row of edits in memory of its own. -/
import Derived.Test.YtgliindhndcceaaMgRefMath
import Derived.Test.YtgliindhndcceaaDag
import Derived.Deep.LoopGhost
import Derived.Deep.RegionLaw
namespace Go.Proofs.Ytgliindhndcceaa
open Go.RowKit
attribute [local go_sem] Dag.gives

/-- what few keeps of an edit -/
def Ed.cut (e : Ed) : Ed := Ed.nrm ⟨none, 0, 0, e.key.take 121, e.put, none, 0, 0, e.val.take 101, e.int, e.n⟩
/-- a slice of bytes in a block of its own, behind block X -/
def Dag.OwB (X : Nat) (l : List UInt8) : Value → World → Prop := fun v w => ∃ n, w.ownsRow (X + 1) 5 1 v n (bytes l)
theorem Dag.Stable.owB (X : Nat) (l : List UInt8) : Dag.Stable (Dag.OwB X l) := fun _ _ _ hb ⟨n, h⟩ => ⟨n, own_on h hb⟩
theorem own_off {W : World} {X : Nat} {t : TypeId} {v : Value} {n : Nat} {l : List UInt8} (h : W.ownsRow (X + 1) t 1 v n (bytes l)) (k : Nat) (u : Value) : (W.setCell ⟨X, k, none⟩ u).ownsRow (X + 1) t 1 v n (bytes l) :=
  h.kept (row := some X) (grown_setCell W X k u) (.inr fun e => by have := (h.lt X e).1; omega)
theorem own_ne {w : World} {b1 b2 : Nat} {t1 t2 : TypeId} {s1 s2 n1 n2 : Nat} {v1 v2 : Value} {x1 x2 : List Value} (h1 : w.ownsRow b1 t1 s1 v1 n1 x1) (h2 : w.ownsRow b2 t2 s2 v2 n2 x2) (hne : t1 ≠ t2) : v1.ownBlock = none ∨ v1.ownBlock ≠ v2.ownBlock := by
  rcases h1.2 with ⟨rfl, _⟩ | ⟨g1, c1, r1, rfl, _, hg1, _⟩
  · exact .inl rfl
  · rcases h2.2 with ⟨rfl, _⟩ | ⟨g2, c2, r2, rfl, _, hg2, _⟩
    · exact .inr (by simp [Value.ownBlock])
    · refine .inr fun e => ?_
      simp only [Value.ownBlock, Option.some.injEq] at e
      subst e
      rw [hg1] at hg2
      injection hg2 with hg2
      injection hg2 with _ h
      exact hne h
/-- an edit whose key and value lie in blocks of their own -/
structure Ed.Own (w : World) (base : Nat) (e : Ed) : Prop where
  k : w.ownsRow base 5 1 (.slice e.kA e.kn e.kc) e.kn (bytes e.key)
  v : w.ownsRow base 5 1 (.slice e.vA e.vn e.vc) e.vn (bytes e.val)
theorem Ed.Own.on {w w' : World} {base : Nat} {e : Ed} (h : e.Own w base) (hb : Below w.heap.size w w') : e.Own w' base := ⟨own_on h.k hb, own_on h.v hb⟩
theorem Ed.Own.less {w : World} {base base' : Nat} {e : Ed} (h : e.Own w base) (hb : base' ≤ base) : e.Own w base' := ⟨own_base h.k hb, own_base h.v hb⟩
theorem Ed.Own.grown {w w' : World} {base b2 : Nat} {t2 : TypeId} {s2 n2 : Nat} {v2 : Value} {x2 : List Value} {e : Ed} (h : e.Own w base) (h2 : w.ownsRow b2 t2 s2 v2 n2 x2) (hne : 5 ≠ t2) (hg : w.grownBy w' v2.ownBlock) : e.Own w' base :=
  ⟨h.k.kept hg (own_ne h.k h2 hne), h.v.kept hg (own_ne h.v h2 hne)⟩
theorem Ed.Own.ok {w : World} {base : Nat} {e : Ed} (h : e.Own w base) : e.Ok w w.heap.size := by
  obtain ⟨A, c, hv, h1, h2, h3⟩ := own_slice h.k
  injection hv with e1 e2 e3
  subst e1 e3
  obtain ⟨A', c', hv, k1, k2, k3⟩ := own_slice h.v
  injection hv with e1 e2 e3
  subst e1 e3
  exact ⟨h3, k3, h1, h2, k1, k2⟩
theorem cut_min {n N M : Nat} (h : (if M < n then M else n) = N) : N ≤ n ∧ N ≤ M ∧ (if M < n then (M : Int) else (n : Int)) = (N : Int) := by
  rw [← h]
  refine ⟨?_, ?_, ?_⟩ <;> split <;> (try split) <;> omega
theorem cut_take {α : Type} {l : List α} {n N M : Nat} (hl : l.length = n) (h : (if M < n then M else n) = N) : l.take N = l.take M := by
  rw [← h]
  split
  · rfl
  · rw [List.take_of_length_le (by omega), List.take_of_length_le (by omega)]
set_option maxRecDepth 100000 in
set_option maxHeartbeats 16000000 in
theorem few_any (A : Option Addr) (n c M N : Nat) (l : List Ed) (w : World) (hA : Row w w.heap.size A n c l) (hN : (if M < n then M else n) = N) (hM : M ≤ 80000) :
    Calls Try.prog 11 #[.slice A n c, .int .i64 (M : Int)] w fun e w' => ∃ A' c' es, e = .returned (.slice A' N c') ∧ w'.ownsRow w.heap.size 48 5 (.slice A' N c') N (cellsE es) ∧ (∀ e ∈ es, e.Own w' w.heap.size) ∧ es.map Ed.nrm = (l.take M).map Ed.cut ∧ Below w.heap.size w w' := by
  obtain ⟨i0, hti, hz0, hz1, hz2⟩ := info_parts edit_info
  obtain ⟨f2, f3, f1⟩ := cut_min hN
  have hcap := hA.cap
  have HTK := hide (cut_take hA.len hN)
  have HA := hide (hA.take N f2)
  have HL := hide HA.out.len
  have f4 : (N : Int) ≤ (c : Int) := by omega
  have f5 : (0 : Int) ≤ (N : Int) := by omega
  clear hA hN
  go_enter Try.func11, Try.ntmps11
  go_wp2_with fail
  go_loopw [5, 15] (fun ov i wr => ∃ (j : Nat) (O : List Ed), i = .int .i64 (j : Int) ∧ j ≤ N ∧ O.length = j ∧ Hid (wr.ownsRow w.heap.size 48 5 ov O.length (cellsE O)) ∧ Hid (∀ e ∈ O, e.Own wr w.heap.size) ∧ Hid (O.map Ed.nrm = ((l.take N).take j).map Ed.cut) ∧ Hid (Below w.heap.size w wr)) (fun _ i _ => N - (intOf i).toNat)
  case atStart => exact ⟨0, [], rfl, Nat.zero_le _, rfl, hide (World.ownsRow_nil _ _ _ _), hide (fun _ h => by cases h), hide rfl, hide (Below.refl _ _)⟩
  case round =>
    obtain ⟨j, O, rfl, hj, hOj, hown, hOk, hOm, hb⟩ := hrel
    by_cases hlt : j < N
    · have hjl : j < (l.take N).length := by rw [HL.out]; exact hlt
      have HR := hide (HA.out.on hb.out)
      obtain ⟨b, o, rfl, hbw, c0, c1, c2, c3, c4⟩ := HR.out.cell hjl
      have hj0 : (0 : Int) ≤ (j : Int) := by omega
      have hj1 : (j : Int) < (N : Int) := by omega
      have HE := hide (HR.out.ok (l.take N)[j] (List.getElem_mem hjl))
      have HTJ := hide (show (l.take N).take (j + 1) = (l.take N).take j ++ [(l.take N)[j]] from List.take_succ_eq_append_getElem hjl)
      obtain ⟨e, he⟩ : ∃ e, e = (l.take N)[j] := ⟨_, rfl⟩
      rw [← he] at c0 c1 c2 c3 c4 HE HTJ
      clear he
      go_wp2_with fail
      clear c0 c1 c2 c3 c4
      have HX5 := hide (new_cells wr (.cells #[.slice e.kA e.kn e.kc, .bool e.put, .slice e.vA e.vn e.vc, .bool e.int, .int .i64 e.n] 48))
      have HB5 := hide (below_alloc wr (.cells #[.slice e.kA e.kn e.kc, .bool e.put, .slice e.vA e.vn e.vc, .bool e.int, .int .i64 e.n] 48))
      obtain ⟨X, hX⟩ : ∃ X, X = wr.heap.size := ⟨_, rfl⟩
      have HXE := hide hX
      rw [← hX] at HX5 ⊢
      generalize wr.alloc (.cells #[.slice e.kA e.kn e.kc, .bool e.put, .slice e.vA e.vn e.vc, .bool e.int, .int .i64 e.n] 48) = w5 at *
      clear hX
      have HXL := hide (lt_cells HX5.out)
      obtain ⟨K, hK⟩ : ∃ K, (if 121 < e.kn then 121 else e.kn) = K := ⟨_, rfl⟩
      obtain ⟨V, hV⟩ : ∃ V, (if 101 < e.vn then 101 else e.vn) = V := ⟨_, rfl⟩
      obtain ⟨K1, K2, K9⟩ := cut_min hK
      obtain ⟨V1, V2, V9⟩ := cut_min hV
      have HTK1 := hide (cut_take HE.out.klen hK)
      have HTV1 := hide (cut_take HE.out.vlen hV)
      have HK3 := hide (show (if (121 : Int) < (e.kn : Int) then (121 : Int) else (e.kn : Int)) = (K : Int) by rw [← hK]; split <;> split <;> omega)
      have HV3 := hide (show (if (101 : Int) < (e.vn : Int) then (101 : Int) else (e.vn : Int)) = (V : Int) by rw [← hV]; split <;> split <;> omega)
      have hkc : (K : Int) ≤ (e.kc : Int) := by have := HE.out.kc; omega
      have hvc : (V : Int) ≤ (e.vc : Int) := by have := HE.out.vc; omega
      have hk0 : (0 : Int) ≤ (K : Int) := by omega
      have hv0 : (0 : Int) ≤ (V : Int) := by omega
      have HK2 := hide (show K ≤ 1048576 by omega)
      have HV2 := hide (show V ≤ 1048576 by omega)
      have HKT := hide (show ∀ W, Below w5.heap.size w5 W → RB W e.kA K (e.key.take 121) from fun W h => by rw [← HTK1.out]; exact (((HE.out.rb (Nat.le_refl _)).on HB5.out).on h).take K K1)
      have HVT := hide (show ∀ W, Below w5.heap.size w5 W → RB W e.vA V (e.val.take 101) from fun W h => by rw [← HTV1.out]; exact (((HE.out.rv (Nat.le_refl _)).on HB5.out).on h).take V V1)
      clear hK hV K1 K2 V1 V2 K9 V9
      refine Dag.wp_region_facts 17 (Dag.list [Dag.Is (.pointer (some ⟨X, 0, none⟩)), Dag.Is (.slice e.kA e.kn e.kc), Dag.Is (.pointer (some ⟨X, 0, none⟩)), Dag.Is (.slice e.kA e.kn e.kc), Dag.Is (.int .i64 (e.kn : Int)), Dag.Is (.int .i64 (K : Int)), Dag.Is (.slice e.kA K e.kc), Dag.OwB X (e.key.take 121), Dag.Is (.pointer (some ⟨X, 2, none⟩)), Dag.Is (.slice e.vA e.vn e.vc), Dag.Is (.pointer (some ⟨X, 2, none⟩)), Dag.Is (.slice e.vA e.vn e.vc), Dag.Is (.int .i64 (e.vn : Int)), Dag.Is (.int .i64 (V : Int)), Dag.Is (.slice e.vA V e.vc), Dag.OwB X (e.val.take 101), Dag.Is (.pointer (some ⟨X, 0, none⟩))]) (by kernel_rfl) (by kernel_rfl) (Dag.stable_list (by simp [Dag.Stable.is, Dag.Stable.owB])) ?_ ?_
      · intro vs W hbW
        simp only [Dag.allOps, List.take_succ_cons, List.take_zero, Dag.fill, Act.put, List.setIfInBounds_toArray, List.set_cons_succ, List.set_cons_zero, Dag.deps, Region.binds, Dag.list, Dag.Is, List.getD_cons_zero, List.getD_cons_succ, and_true, forall_const, Nat.reduceAdd, Region.wanted, reduceIte]
        refine ⟨?_, ?_, ?_, ?_, ?_, ?_, ?_, ?_, ?_, ?_, ?_, ?_, ?_, ?_, ?_, ?_, ?_⟩
        · (try intro hd); go_simp; (first | done | exact ⟨Below.refl _ _, rfl⟩ | exact Below.refl _ _ | (intro h; cases h))
        · (try intro hd); obtain ⟨z0, z1, z2, z3, z4⟩ := five_cells (on_cells HX5.out hbW); go_simp; (first | done | exact ⟨Below.refl _ _, rfl⟩ | exact Below.refl _ _)
        · (try intro hd); go_simp; (first | done | exact ⟨Below.refl _ _, rfl⟩ | exact Below.refl _ _ | (intro h; cases h))
        · (try intro hd); obtain ⟨z0, z1, z2, z3, z4⟩ := five_cells (on_cells HX5.out hbW); go_simp; (first | done | exact ⟨Below.refl _ _, rfl⟩ | exact Below.refl _ _)
        · (try intro hd); go_simp; (first | done | exact ⟨Below.refl _ _, rfl⟩ | exact Below.refl _ _ | (intro h; cases h))
        · (try intro hd); go_simp; exact ⟨Below.refl _ _, by rw [HK3.out]⟩
        · (try intro hd); go_simp; (first | done | exact ⟨Below.refl _ _, rfl⟩ | exact Below.refl _ _ | (intro h; cases h))
        · (try intro hd); go_simp; refine (clone_any _ _ _ _ _ (HKT.out _ hbW) HK2.out).mono ?_; rintro x w' ⟨v, rfl, ho, hb'⟩; exact ⟨_, rfl, hb', _, own_base ho (Nat.le_trans HXL.out hbW.size)⟩
        · (try intro hd); go_simp; (first | done | exact ⟨Below.refl _ _, rfl⟩ | exact Below.refl _ _ | (intro h; cases h))
        · (try intro hd); obtain ⟨z0, z1, z2, z3, z4⟩ := five_cells (on_cells HX5.out hbW); go_simp; (first | done | exact ⟨Below.refl _ _, rfl⟩ | exact Below.refl _ _)
        · (try intro hd); go_simp; (first | done | exact ⟨Below.refl _ _, rfl⟩ | exact Below.refl _ _ | (intro h; cases h))
        · (try intro hd); obtain ⟨z0, z1, z2, z3, z4⟩ := five_cells (on_cells HX5.out hbW); go_simp; (first | done | exact ⟨Below.refl _ _, rfl⟩ | exact Below.refl _ _)
        · (try intro hd); go_simp; (first | done | exact ⟨Below.refl _ _, rfl⟩ | exact Below.refl _ _ | (intro h; cases h))
        · (try intro hd); go_simp; exact ⟨Below.refl _ _, by rw [HV3.out]⟩
        · (try intro hd); go_simp; (first | done | exact ⟨Below.refl _ _, rfl⟩ | exact Below.refl _ _ | (intro h; cases h))
        · (try intro hd); go_simp; refine (clone_any _ _ _ _ _ (HVT.out _ hbW) HV2.out).mono ?_; rintro x w' ⟨v, rfl, ho, hb'⟩; exact ⟨_, rfl, hb', _, own_base ho (Nat.le_trans HXL.out hbW.size)⟩
        · (try intro hd); go_simp; (first | done | exact ⟨Below.refl _ _, rfl⟩ | exact Below.refl _ _ | (intro h; cases h))
      · intro vs W hbW hk
        simp only [Dag.known, Dag.list, Dag.Is, List.getD_cons_zero, List.getD_cons_succ, and_true] at hk
        obtain ⟨k0, k1, k2, k3, k4, k5, k6, k7, k8, k9, k10, k11, k12, k13, k14, k15, k16⟩ := hk
        simp only [List.take_succ_cons, List.take_zero, List.drop_succ_cons, List.drop_zero, Dag.fill, Act.put, List.setIfInBounds_toArray, List.set_cons_succ, List.set_cons_zero, Nat.reduceAdd, k0, k1, k2, k3, k4, k5, k6, k8, k9, k10, k11, k12, k13, k14, k16]
        clear k0 k1 k2 k3 k4 k5 k6 k8 k9 k10 k11 k12 k13 k14 k16
        obtain ⟨n7, ho7⟩ := k7
        obtain ⟨n15, ho15⟩ := k15
        obtain ⟨A7, c7, e7, hc7, hm7, _⟩ := own_slice ho7
        obtain ⟨A15, c15, e15, hc15, hm15, _⟩ := own_slice ho15
        rw [e7] at ho7
        rw [e15] at ho15
        simp only [e7, e15]
        clear e7 e15
        have HC7 := hide (And.intro hc7 hm7)
        have HC15 := hide (And.intro hc15 hm15)
        clear hc7 hm7 hc15 hm15
        have HXW := hide (on_cells HX5.out hbW)
        obtain ⟨z0, z1, z2, z3, z4⟩ := five_cells HXW.out
        have y0 : W.frozen? ⟨X, 0, none⟩ = false := frozen_of_row _ _ 0 _ _ HXW.out
        have y2 : W.frozen? ⟨X, 2, none⟩ = false := frozen_of_row _ _ 2 _ _ HXW.out
        have HBW := hide (show Below wr.heap.size wr ((W.setCell ⟨X, 0, none⟩ (.slice A7 n7 c7)).setCell ⟨X, 2, none⟩ (.slice A15 n15 c15)) from ((HB5.out.trans (hbW.mono HB5.out.size)).setCell (p := ⟨X, 0, none⟩) (Nat.le_of_eq HXE.out.symm) _).setCell (p := ⟨X, 2, none⟩) (Nat.le_of_eq HXE.out.symm) _)
        have H7 := hide (own_off (own_off ho7 0 (.slice A7 n7 c7)) 2 (.slice A15 n15 c15))
        have H15 := hide (own_off (own_off ho15 0 (.slice A7 n7 c7)) 2 (.slice A15 n15 c15))
        have HO2 := hide (own_on hown.out HBW.out)
        have hszw : w.heap.size ≤ wr.heap.size := hb.out.size
        have hszV : ((W.setCell ⟨X, 0, none⟩ (.slice A7 n7 c7)).setCell ⟨X, 2, none⟩ (.slice A15 n15 c15)).heap.size = W.heap.size := by simp [World.setCell]
        have hszW : w.heap.size ≤ W.heap.size := by rw [← hszV]; exact Nat.le_trans hszw HBW.out.size
        have HRN := hide (show Reads (((W.setCell ⟨X, 0, none⟩ (.slice A7 n7 c7)).setCell ⟨X, 2, none⟩ (.slice A15 n15 c15)).alloc (.cells #[.slice A7 n7 c7, .bool e.put, .slice A15 n15 c15, .bool e.int, .int .i64 e.n] 48)) (W.heap.size + 1) 5 (some ⟨W.heap.size, 0, none⟩) 1 (cellsE [⟨A7, n7, c7, e.key.take 121, e.put, A15, n15, c15, e.val.take 101, e.int, e.n⟩]) by
          have h := Reads.new ((W.setCell ⟨X, 0, none⟩ (.slice A7 n7 c7)).setCell ⟨X, 2, none⟩ (.slice A15 n15 c15)) 48 (0, 0) #[.slice A7 n7 c7, .bool e.put, .slice A15 n15 c15, .bool e.int, .int .i64 e.n] 1 5 (cellsE [⟨A7, n7, c7, e.key.take 121, e.put, A15, n15, c15, e.val.take 101, e.int, e.n⟩]) rfl (fun j u hu => by simpa [cellsE, Ed.cells] using hu)
          rwa [hszV] at h)
        clear ho7 ho15
        go_wp2_with (at_builtin; go_loud (refine wpList_append_reads rfl (.tmp 37) (.tmp 39) _ rfl w.heap.size 48 i0 _ 5 72 Try.underlying22 hti hz0 hz1 hz2 rfl (by omega) u5 O.length (cellsE O) rfl (HO2.out.alloc _) (W.heap.size + 1) (some ⟨W.heap.size, 0, none⟩) 1 1 (cellsE [⟨A7, n7, c7, e.key.take 121, e.put, A15, n15, c15, e.val.take 101, e.int, e.n⟩]) rfl HRN.out cellsE_one (by unfold maxLen; omega) (by omega) (Nat.le_trans (Nat.le_trans hszw HBW.out.size) (below_alloc _ _).size) ?_); intro v9 w9 hown9 hg9 hat9)
        all_goals
          have HBA := hide (HBW.out.trans ((below_alloc ((W.setCell ⟨X, 0, none⟩ (.slice A7 n7 c7)).setCell ⟨X, 2, none⟩ (.slice A15 n15 c15)) (.cells #[.slice A7 n7 c7, .bool e.put, .slice A15 n15 c15, .bool e.int, .int .i64 e.n] 48)).mono HBW.out.size))
          have HB9 := hide (show Below w.heap.size w w9 from (hb.out.trans (HBA.out.mono hszw)).grown hg9 (Nat.le_trans hszw HBA.out.size) fun k hk => (HO2.out.lt k hk).1)
          have hXw : w.heap.size ≤ X + 1 := by rw [HXE.out]; omega
          go_roundw
          case rel => exact ⟨j + 1, O ++ [⟨A7, n7, c7, e.key.take 121, e.put, A15, n15, c15, e.val.take 101, e.int, e.n⟩], by go_num, by omega, by simp; omega, hide (by rw [cellsE_append, List.length_append]; exact hown9), hide (fun f hf => by
            rcases List.mem_append.1 hf with h | h
            · exact ((hOk.out f h).on HBA.out).grown (HO2.out.alloc _) (by decide) hg9
            · obtain rfl : f = _ := by simpa using h
              exact Ed.Own.grown (Ed.Own.on (Ed.Own.less ⟨H7.out, H15.out⟩ hXw) (below_alloc _ _)) (HO2.out.alloc _) (by decide) hg9), hide (by rw [HTJ.out, List.map_append, List.map_append, hOm.out]; rfl), HB9⟩
          case measure => simp [intOf]; omega
    · obtain rfl : j = N := by omega
      have hown2 := hown.out
      rw [hOj] at hown2
      obtain ⟨A9, c9, e9, _⟩ := own_slice hown2
      rw [e9] at hown2 ⊢
      have HOWN := hide hown2
      clear hown2 hown
      have HF := hide (show O.map Ed.nrm = (l.take M).map Ed.cut by rw [hOm.out, List.take_of_length_le (by rw [HL.out]; exact Nat.le_refl _), HTK.out])
      go_wp2_with fail
      go_ret
      exact ⟨A9, c9, O, rfl, HOWN.out, hOk.out, HF.out, hb.out⟩
theorem Row.of_few {w : World} {base : Nat} {A : Option Addr} {n c : Nat} {es : List Ed} (h : w.ownsRow base 48 5 (.slice A n c) n (cellsE es)) (ho : ∀ e ∈ es, e.Own w base) : Row w w.heap.size A n c es := Row.of_own h fun e he => (ho e he).ok
end Go.Proofs.Ytgliindhndcceaa
