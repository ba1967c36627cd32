/- The walk of the reference's Read; facts on blocks of five and two cells. -/
import Derived.Test.YtmkkbomkonociaaDocCodeMath
namespace Go.Proofs.Ytmkkbomkonociaa
open Go.RowKit
attribute [local go_sem] Dag.gives

section
variable {w : World} {b : Nat} {t : TypeId} {fr : Nat × Nat} {x0 x1 x2 x3 x4 : Value}
theorem five_at (h : w.heap[b]? = some (.cells #[x0, x1, x2, x3, x4] t fr)) : w.cell? ⟨b, 0, none⟩ = some x0 ∧ w.cell? ⟨b, 1, none⟩ = some x1 ∧ w.cell? ⟨b, 2, none⟩ = some x2 ∧ w.cell? ⟨b, 3, none⟩ = some x3 ∧ w.cell? ⟨b, 4, none⟩ = some x4 :=
  ⟨cell_of_row _ _ 0 _ _ _ h, cell_of_row _ _ 1 _ _ _ h, cell_of_row _ _ 2 _ _ _ h, cell_of_row _ _ 3 _ _ _ h, cell_of_row _ _ 4 _ _ _ h⟩
theorem old_heap (h : w.heap[b]? = some (.cells #[x0, x1, x2, x3, x4] t fr)) (o : Obj) : (w.alloc o).heap[b]? = some (.cells #[x0, x1, x2, x3, x4] t fr) :=
  (heap_alloc_old w o (Array.getElem?_eq_some_iff.1 h).1).trans h
theorem five_old (h : w.heap[b]? = some (.cells #[x0, x1, x2, x3, x4] t fr)) : (∀ o, (w.alloc o).cell? ⟨b, 0, none⟩ = some x0) ∧ (∀ o, (w.alloc o).cell? ⟨b, 1, none⟩ = some x1) ∧ (∀ o, (w.alloc o).cell? ⟨b, 2, none⟩ = some x2) ∧ (∀ o, (w.alloc o).cell? ⟨b, 3, none⟩ = some x3) ∧ (∀ o, (w.alloc o).cell? ⟨b, 4, none⟩ = some x4) :=
  ⟨fun o => (five_at (old_heap h o)).1, fun o => (five_at (old_heap h o)).2.1, fun o => (five_at (old_heap h o)).2.2.1, fun o => (five_at (old_heap h o)).2.2.2.1, fun o => (five_at (old_heap h o)).2.2.2.2⟩
theorem two_at (h : w.heap[b]? = some (.cells #[x0, x1] t fr)) : w.cell? ⟨b, 0, none⟩ = some x0 ∧ w.cell? ⟨b, 1, none⟩ = some x1 := ⟨cell_of_row _ _ 0 _ _ _ h, cell_of_row _ _ 1 _ _ _ h⟩
theorem two_heap (h : w.heap[b]? = some (.cells #[x0, x1] t fr)) (o : Obj) : (w.alloc o).heap[b]? = some (.cells #[x0, x1] t fr) :=
  (heap_alloc_old w o (Array.getElem?_eq_some_iff.1 h).1).trans h
theorem two_old (h : w.heap[b]? = some (.cells #[x0, x1] t fr)) : (∀ o, (w.alloc o).cell? ⟨b, 0, none⟩ = some x0) ∧ (∀ o, (w.alloc o).cell? ⟨b, 1, none⟩ = some x1) :=
  ⟨fun o => (two_at (two_heap h o)).1, fun o => (two_at (two_heap h o)).2⟩
theorem on_heap {w' : World} {cs : Array Value} (h : w.heap[b]? = some (.cells cs t fr)) (hb : Below w.heap.size w w') : w'.heap[b]? = some (.cells cs t fr) :=
  (hb.block b (Array.getElem?_eq_some_iff.1 h).1).trans h
theorem lt_heap {cs : Array Value} (h : w.heap[b]? = some (.cells cs t fr)) : b < w.heap.size := (Array.getElem?_eq_some_iff.1 h).1
end

set_option maxHeartbeats 4000000 in
theorem rread_any (A : Option Addr) (n c : Nat) (l : List UInt8) (w : World) (hA : RB w A n l) (hc : n ≤ c) :
    Calls Try.prog 26 #[.slice A n c] w fun e w' => e = .returned (.tuple #[.agg (readR l).1.cells, .bool (readR l).2]) ∧ Below w.heap.size w w' := by
  have hl := hA.len
  by_cases h21 : n = 21
  · subst h21
    obtain ⟨b, o, rfl, hbl, hc16⟩ := hA.cell (k := 16) (by omega)
    have h16 : (l.getD 16 0).toNat = (l[16]'(by omega)).toNat := by rw [List.getD_eq_getElem?_getD, List.getElem?_eq_getElem (by omega), Option.getD_some]
    by_cases hz : (l.getD 16 0).toNat ≤ 1
    · have HD := hide (show readR l = if mayB (decInf l) = true then (decInf l, true) else (noInf, false) by
        unfold readR
        by_cases hm : mayB (decInf l) = true
        · rw [if_pos hm, if_pos ⟨hl, hz, hm⟩]
        · rw [if_neg hm, if_neg (fun h => hm h.2.2)])
      have HL := hide hl
      have HOK := hide (decInf_ok l)
      have HI := hide (show decInf l = ⟨num4 l, num4 (l.drop 4), num4 (l.drop 8) * 4294967296 + num4 (l.drop 12), decide ((l.getD 16 0).toNat = 1), (num4 (l.drop 17) : Int)⟩ from rfl)
      rw [h16] at HI hz
      have l0 := num4_lt l
      have l1 := num4_lt (l.drop 4)
      have l2 := num4_lt (l.drop 8)
      have l3 := num4_lt (l.drop 12)
      have l4 := num4_lt (l.drop 17)
      have B0 := hide (show bn (l.take 4) = num4 l from bn_four (by omega))
      have B1 := hide (show bn ((l.take 8).drop 4) = num4 (l.drop 4) by rw [List.drop_take]; exact bn_four (by rw [List.length_drop]; omega))
      have B2 := hide (show bn ((l.take 16).drop 8) = num4 (l.drop 8) * 4294967296 + num4 (l.drop 12) by rw [List.drop_take]; have := bn_eight (l := l.drop 8) (by rw [List.length_drop]; omega); rwa [List.drop_drop] at this)
      have B4 := hide (show bn (l.drop 17) = num4 (l.drop 17) by have := bn_four (l := l.drop 17) (by rw [List.length_drop]; omega); rwa [List.take_of_length_le (by rw [List.length_drop]; omega)] at this)
      generalize num4 l = x0 at *
      generalize num4 (l.drop 4) = x1 at *
      generalize num4 (l.drop 8) = x2 at *
      generalize num4 (l.drop 12) = x3 at *
      generalize num4 (l.drop 17) = x4 at *
      generalize (l[16]'(by omega)).toNat = z at *
      obtain ⟨y, hy⟩ : ∃ y, y = x2 * 4294967296 + x3 := ⟨_, rfl⟩
      obtain ⟨d, hd⟩ : ∃ d, d = decide (z = 1) := ⟨_, rfl⟩
      rw [← hy, ← hd] at HI
      rw [← hy] at B2
      have hzd : ((z : Int) == 1) = d := by rw [hd, Bool.eq_iff_iff, beq_iff_eq, decide_eq_true_eq]; omega
      have c0 : IntKind.u32.wrap (x0 : Int) = (x0 : Int) := by unfold IntKind.wrap; simp [IntKind.signed, IntKind.bits]; omega
      have c1 : IntKind.u32.wrap (x1 : Int) = (x1 : Int) := by unfold IntKind.wrap; simp [IntKind.signed, IntKind.bits]; omega
      have c4 : IntKind.i64.wrap (x4 : Int) = (x4 : Int) := by rw [IntKind.wrap_i64]; omega
      have hz1 : ¬ (1 : Int) < (z : Int) := by omega
      have b4 : (4 : Int) ≤ (c : Int) := by omega
      have b8 : (8 : Int) ≤ (c : Int) := by omega
      have b16 : (16 : Int) ≤ (c : Int) := by omega
      have hr1 : RB (w.alloc (.cells #[.int .u32 0, .int .u32 0, .int .u64 0, .bool false, .int .i64 0] 48)) (some ⟨b, o, none⟩) 21 l := hA.on (below_alloc _ _)
      have hc16 := keep_cell (below_alloc w (.cells #[.int .u32 0, .int .u32 0, .int .u64 0, .bool false, .int .i64 0] 48)) hc16
      have HA := hide hA
      clear hl h16 l0 l1 l2 l3 l4 hy hd hz hA
      go_enter Try.func26, Try.ntmps26
      go_wp2_with fail
      refine Dag.wp_region_facts 22 (Dag.list [Dag.Is (.slice (some ⟨b, o, none⟩) 21 c), Dag.Sl (l.take 4), Dag.Is (.int .u64 (x0 : Int)), Dag.Is (.int .u32 (x0 : Int)), Dag.Is (.slice (some ⟨b, o, none⟩) 21 c), Dag.Sl ((l.take 8).drop 4), Dag.Is (.int .u64 (x1 : Int)), Dag.Is (.int .u32 (x1 : Int)), Dag.Is (.agg #[.int .u32 (x0 : Int), .int .u32 (x1 : Int)]), Dag.Is (.slice (some ⟨b, o, none⟩) 21 c), Dag.Sl ((l.take 16).drop 8), Dag.Is (.int .u64 (y : Int)), Dag.Is (.slice (some ⟨b, o, none⟩) 21 c), Dag.Is (.pointer (some ⟨b, o + 16, none⟩)), Dag.Is (.int .u8 (z : Int)), Dag.Is (.bool d), Dag.Is (.slice (some ⟨b, o, none⟩) 21 c), Dag.Sl (l.drop 17), Dag.Is (.int .u64 (x4 : Int)), Dag.Is (.int .i64 (x4 : Int)), Dag.Is (.agg #[.int .u32 (x0 : Int), .int .u32 (x1 : Int), .int .u64 (y : Int), .bool d, .int .i64 (x4 : Int)]), Dag.Made (w.heap.size + 1) #[.int .u32 0, .int .u32 0, .int .u64 0, .bool false, .int .i64 0] 48]) (by kernel_rfl) (by kernel_rfl) (Dag.stable_list (by simp [Dag.Stable.is, Dag.Stable.sl, Dag.Stable.made])) ?_ ?_
      · intro vs W hbW
        simp only [Dag.allOps, List.take_succ_cons, List.take_zero, Dag.fill, Act.put, List.setIfInBounds_toArray, List.set_cons_succ, List.set_cons_zero, Dag.deps, Region.binds, Dag.list, Dag.Is, List.getD_cons_zero, List.getD_cons_succ, and_true, forall_const, Nat.reduceAdd, Region.wanted, reduceIte]
        refine ⟨?_, ?_, ?_, ?_, ?_, ?_, ?_, ?_, ?_, ?_, ?_, ?_, ?_, ?_, ?_, ?_, ?_, ?_, ?_, ?_, ?_, ?_⟩
        · (try intro hd); go_simp; (first | done | exact ⟨Below.refl _ _, rfl⟩ | exact Below.refl _ _)
        · (try intro hd); go_simp; exact ⟨Below.refl _ _, _, _, _, rfl, by omega, (hr1.on hbW).take 4 (by omega)⟩
        · (try intro hd); obtain ⟨A', n', c', hv, hc', hr⟩ := hd; have hl' := hr.len; rw [List.length_take, HL.out] at hl'; go_simp; refine Calls.mono (rnum_any A' _ c' _ W hr (by omega)) ?_; rintro e w' ⟨rfl, rfl⟩; exact ⟨by rw [B0.out], Below.refl _ _⟩
        · (try intro hd); have := c0; go_simp; (first | done | exact ⟨Below.refl _ _, rfl⟩ | exact Below.refl _ _)
        · (try intro hd); go_simp; (first | done | exact ⟨Below.refl _ _, rfl⟩ | exact Below.refl _ _)
        · (try intro hd); go_simp; exact ⟨Below.refl _ _, _, _, _, rfl, by omega, ((hr1.on hbW).take 8 (by omega)).drop (k := 4) (by omega) (by omega)⟩
        · (try intro hd); obtain ⟨⟨A', n', c', hv, hc', hr⟩, _⟩ := hd; have hl' := hr.len; rw [List.length_drop, List.length_take, HL.out] at hl'; go_simp; refine Calls.mono (rnum_any A' _ c' _ W hr (by omega)) ?_; rintro e w' ⟨rfl, rfl⟩; exact ⟨by rw [B1.out], Below.refl _ _⟩
        · (try intro hd); have := c1; go_simp; (first | done | exact ⟨Below.refl _ _, rfl⟩ | exact Below.refl _ _)
        · (try intro hd); go_simp; (first | done | exact ⟨Below.refl _ _, rfl⟩ | exact Below.refl _ _)
        · (try intro hd); go_simp; (first | done | exact ⟨Below.refl _ _, rfl⟩ | exact Below.refl _ _)
        · (try intro hd); go_simp; exact ⟨Below.refl _ _, _, _, _, rfl, by omega, ((hr1.on hbW).take 16 (by omega)).drop (k := 8) (by omega) (by omega)⟩
        · (try intro hd); obtain ⟨⟨A', n', c', hv, hc', hr⟩, _⟩ := hd; have hl' := hr.len; rw [List.length_drop, List.length_take, HL.out] at hl'; go_simp; refine Calls.mono (rnum_any A' _ c' _ W hr (by omega)) ?_; rintro e w' ⟨rfl, rfl⟩; exact ⟨by rw [B2.out], Below.refl _ _⟩
        · (try intro hd); go_simp; (first | done | exact ⟨Below.refl _ _, rfl⟩ | exact Below.refl _ _)
        · (try intro hd); go_simp; (first | done | exact ⟨Below.refl _ _, rfl⟩ | exact Below.refl _ _)
        · (try intro hd); have hz := keep_cell hbW hc16; go_simp; (first | done | exact ⟨Below.refl _ _, rfl⟩ | exact Below.refl _ _)
        · (try intro hd); have := hzd; go_simp; (first | done | exact ⟨Below.refl _ _, rfl⟩ | exact Below.refl _ _)
        · (try intro hd); go_simp; (first | done | exact ⟨Below.refl _ _, rfl⟩ | exact Below.refl _ _)
        · (try intro hd); go_simp; exact ⟨Below.refl _ _, _, _, _, rfl, by omega, (hr1.on hbW).drop (k := 17) (by omega) hc⟩
        · (try intro hd); obtain ⟨⟨A', n', c', hv, hc', hr⟩, _⟩ := hd; have hl' := hr.len; rw [List.length_drop, HL.out] at hl'; go_simp; refine Calls.mono (rnum_any A' _ c' _ W hr (by omega)) ?_; rintro e w' ⟨rfl, rfl⟩; exact ⟨by rw [B4.out], Below.refl _ _⟩
        · (try intro hd); have := c4; go_simp; (first | done | exact ⟨Below.refl _ _, rfl⟩ | exact Below.refl _ _)
        · (try intro hd); go_simp; (first | done | exact ⟨Below.refl _ _, rfl⟩ | exact Below.refl _ _)
        · (try intro hd); go_simp; exact ⟨below_alloc _ _, W.heap.size, rfl, by have := hbW.size; simpa using this, by simp, heap_alloc_last _ _⟩
      · intro vs W hbW hk
        simp only [Dag.known, Dag.list, Dag.Is, List.getD_cons_zero, List.getD_cons_succ, and_true] at hk
        obtain ⟨k0, k1, k2, k3, k4, k5, k6, k7, k8, k9, k10, k11, k12, k13, k14, k15, k16, k17, k18, k19, k20, k21⟩ := hk
        simp only [List.take_succ_cons, List.take_zero, List.drop_succ_cons, List.drop_zero, Dag.fill, Act.put, List.setIfInBounds_toArray, List.set_cons_succ, List.set_cons_zero, Nat.reduceAdd, k0, k2, k3, k4, k6, k7, k8, k9, k11, k12, k13, k14, k15, k16, k18, k19, k20]
        clear k0 k2 k3 k4 k6 k7 k8 k9 k11 k12 k13 k14 k15 k16 k18 k19 k20
        obtain ⟨k, hv21, hkb, hkl, hk⟩ := k21
        rw [hv21]
        refine wpList_store_row rfl 48 _ _ rfl k #[.int .u32 (x0 : Int), .int .u32 (x1 : Int), .int .u64 (y : Int), .bool d, .int .i64 (x4 : Int)] rfl rfl 48 _ hk (by kernel_rfl) rfl (by simp [Value.oneCell']) ?_
        have hK := setRow_heap W k _ #[.int .u32 (x0 : Int), .int .u32 (x1 : Int), .int .u64 (y : Int), .bool d, .int .i64 (x4 : Int)] _ _ hk
        have hZ : (W.setRow k #[.int .u32 (x0 : Int), .int .u32 (x1 : Int), .int .u64 (y : Int), .bool d, .int .i64 (x4 : Int)]).heap[w.heap.size]? = some (.cells #[.int .u32 0, .int .u32 0, .int .u64 0, .bool false, .int .i64 0] 48 (0, 0)) :=
          (setRow_other W k _ _ (by omega)).trans ((hbW.block w.heap.size (by simp)).trans (heap_alloc_last w _))
        have hV : Below w.heap.size w (W.setRow k #[.int .u32 (x0 : Int), .int .u32 (x1 : Int), .int .u64 (y : Int), .bool d, .int .i64 (x4 : Int)]) := below_setRow ((below_alloc w _).trans (hbW.mono (by simp))) (by omega) _
        generalize W.setRow k #[.int .u32 (x0 : Int), .int .u32 (x1 : Int), .int .u64 (y : Int), .bool d, .int .i64 (x4 : Int)] = V at *
        obtain ⟨q0, q1, q2, q3, q4⟩ := five_at hK
        have HK := hide hK
        have HZ := hide hZ
        have HV := hide hV
        clear hK hZ hV hkb hkl hk hr1 hc16 hbW hv21
        have hin : (Value.agg #[.int .u32 (x0 : Int), .int .u32 (x1 : Int), .int .u64 (y : Int), .bool d, .int .i64 (x4 : Int)]) = .agg (decInf l).cells := by rw [HI.out]; rfl
        have HIN := hide hin
        clear hin
        go_wp2_with fail
        refine Calls.mono (by rw [HIN.out]; exact rmay_any _ HOK.out V) ?_
        rintro e w3 ⟨rfl, hb3⟩
        have H30 := hide (on_heap HZ.out hb3)
        have H31 := hide (on_heap HK.out hb3)
        have HV3 := hide (below_then HV.out hb3)
        clear hb3 HZ HK HV q0 q1 q2 q3 q4
        obtain ⟨q0, q1, q2, q3, q4⟩ := five_at H31.out
        obtain ⟨r0, r1, r2, r3, r4⟩ := five_at H30.out
        have f0 := frozen_of_row _ _ 0 _ _ H30.out
        have f1 := frozen_of_row _ _ 1 _ _ H30.out
        have f2 := frozen_of_row _ _ 2 _ _ H30.out
        have f3 := frozen_of_row _ _ 3 _ _ H30.out
        have f4 := frozen_of_row _ _ 4 _ _ H30.out
        cases hb : mayB (decInf l) with
        | false =>
          have HF := hide (show readR l = (noInf, false) by rw [HD.out, if_neg (by rw [hb]; simp)])
          clear hb
          go_wp2_with fail
          have p1 := (heap_set _ w.heap.size 4 _ _ _ (.int .i64 0) (heap_set _ w.heap.size 3 _ _ _ (.bool false) (heap_set _ w.heap.size 2 _ _ _ (.int .u64 0) (heap_set _ w.heap.size 1 _ _ _ (.int .u32 0) (heap_set _ w.heap.size 0 _ _ _ (.int .u32 0) H30.out)))))
          have q3 := hide (((((HV3.out.setCell (p := ⟨w.heap.size, 0, none⟩) (Nat.le_refl _) (.int .u32 0)).setCell (p := ⟨w.heap.size, 1, none⟩) (Nat.le_refl _) (.int .u32 0)).setCell (p := ⟨w.heap.size, 2, none⟩) (Nat.le_refl _) (.int .u64 0)).setCell (p := ⟨w.heap.size, 3, none⟩) (Nat.le_refl _) (.bool false)).setCell (p := ⟨w.heap.size, 4, none⟩) (Nat.le_refl _) (.int .i64 0))
          have s0 := cell_of_row _ _ 0 _ _ _ p1
          have s1 := cell_of_row _ _ 1 _ _ _ p1
          have s2 := cell_of_row _ _ 2 _ _ _ p1
          have s3 := cell_of_row _ _ 3 _ _ _ p1
          have s4 := cell_of_row _ _ 4 _ _ _ p1
          generalize (((((w3.setCell ⟨w.heap.size, 0, none⟩ (.int .u32 0)).setCell ⟨w.heap.size, 1, none⟩ (.int .u32 0)).setCell ⟨w.heap.size, 2, none⟩ (.int .u64 0)).setCell ⟨w.heap.size, 3, none⟩ (.bool false)).setCell ⟨w.heap.size, 4, none⟩ (.int .i64 0)) = V9 at *
          exact bodyPost_ret (v := .tuple #[.agg #[.int .u32 0, .int .u32 0, .int .u64 0, .bool false, .int .i64 0], .bool false]) (by simp [results, Try.results26, go_sem, s0, s1, s2, s3, s4]) rfl ⟨by rw [HF.out]; rfl, q3.out⟩
        | true =>
          have HF := hide (show readR l = (decInf l, true) by rw [HD.out, if_pos hb])
          clear hb
          go_wp2_with fail
          have p1 := (heap_set _ w.heap.size 4 _ _ _ (.int .i64 (x4 : Int)) (heap_set _ w.heap.size 3 _ _ _ (.bool d) (heap_set _ w.heap.size 2 _ _ _ (.int .u64 (y : Int)) (heap_set _ w.heap.size 1 _ _ _ (.int .u32 (x1 : Int)) (heap_set _ w.heap.size 0 _ _ _ (.int .u32 (x0 : Int)) H30.out)))))
          have q3 := hide (((((HV3.out.setCell (p := ⟨w.heap.size, 0, none⟩) (Nat.le_refl _) (.int .u32 (x0 : Int))).setCell (p := ⟨w.heap.size, 1, none⟩) (Nat.le_refl _) (.int .u32 (x1 : Int))).setCell (p := ⟨w.heap.size, 2, none⟩) (Nat.le_refl _) (.int .u64 (y : Int))).setCell (p := ⟨w.heap.size, 3, none⟩) (Nat.le_refl _) (.bool d)).setCell (p := ⟨w.heap.size, 4, none⟩) (Nat.le_refl _) (.int .i64 (x4 : Int)))
          have s0 := cell_of_row _ _ 0 _ _ _ p1
          have s1 := cell_of_row _ _ 1 _ _ _ p1
          have s2 := cell_of_row _ _ 2 _ _ _ p1
          have s3 := cell_of_row _ _ 3 _ _ _ p1
          have s4 := cell_of_row _ _ 4 _ _ _ p1
          generalize (((((w3.setCell ⟨w.heap.size, 0, none⟩ (.int .u32 (x0 : Int))).setCell ⟨w.heap.size, 1, none⟩ (.int .u32 (x1 : Int))).setCell ⟨w.heap.size, 2, none⟩ (.int .u64 (y : Int))).setCell ⟨w.heap.size, 3, none⟩ (.bool d)).setCell ⟨w.heap.size, 4, none⟩ (.int .i64 (x4 : Int))) = V9 at *
          exact bodyPost_ret (v := .tuple #[.agg #[.int .u32 (x0 : Int), .int .u32 (x1 : Int), .int .u64 (y : Int), .bool d, .int .i64 (x4 : Int)], .bool true]) (by simp [results, Try.results26, go_sem, s0, s1, s2, s3, s4]) rfl ⟨by rw [HF.out, HI.out]; rfl, q3.out⟩
    · have HD := hide (show readR l = (noInf, false) by unfold readR; rw [if_neg (fun h => hz h.2.1)])
      rw [h16] at hz
      generalize (l[16]'(by omega)).toNat = z at *
      have hz1 : (1 : Int) < (z : Int) := by omega
      have hc16 := keep_cell (below_alloc w (.cells #[.int .u32 0, .int .u32 0, .int .u64 0, .bool false, .int .i64 0] 48)) hc16
      clear hz h16 hl hA
      go_enter Try.func26, Try.ntmps26
      go_wp2_with fail
      exact bodyPost_ret (v := .tuple #[.agg #[.int .u32 0, .int .u32 0, .int .u64 0, .bool false, .int .i64 0], .bool false]) (by simp [results, Try.results26, go_sem]) rfl ⟨by rw [HD.out]; rfl, below_alloc _ _⟩
  · have HD := hide (show readR l = (noInf, false) by unfold readR; rw [if_neg (fun h => h21 (by omega))])
    have hne : ((n : Int) != 21) = true := by rw [bne_iff_ne]; omega
    clear h21 hl hA
    go_enter Try.func26, Try.ntmps26
    go_wp2_with fail
    exact bodyPost_ret (v := .tuple #[.agg #[.int .u32 0, .int .u32 0, .int .u64 0, .bool false, .int .i64 0], .bool false]) (by simp [results, Try.results26, go_sem]) rfl ⟨by rw [HD.out]; rfl, below_alloc _ _⟩
end Go.Proofs.Ytmkkbomkonociaa
