/- Proved: davenportlaw19.DocNexts returns true for every input: Next returns the successor of any revision for any body, or the documented error. No condition. -/
import Derived.Test.YtmkkbomkonociaaRows
import Derived.Test.YtmkkbomkonociaaOpen
import Derived.Test.YtmkkbomkonociaaDocOpen
import Derived.Test.YtmkkbomkonociaaDocWakes
import Derived.Test.YtmkkbomkonociaaDocNextRef
import Derived.Test.YtmkkbomkonociaaDag
namespace Go.Proofs.Ytmkkbomkonociaa.LawDocNexts
open Go.ChangeShapes Go.WideShapes Go.ChangeAt Go.RowKit
open Go.ChangeMaps (open_string shut_string)
attribute [local go_sem] Dag.gives

theorem next_no {g m : Nat} {l : List UInt8} (h : isRev g m = false) : nextRev g m l = (0, 0, 291) := by unfold nextRev; rw [if_neg (by rw [h]; simp)]
theorem next_over {m : Nat} {l : List UInt8} : nextRev 4294967295 m l = (0, 0, 5) := rfl
theorem next_yes {g m : Nat} {l : List UInt8} (h : isRev g m = true) (hg : g < 4294967295) : nextRev g m l = (g + 1, Crc.more 0 (nums (Crc.laid m ++ l)), 0) := by unfold nextRev; rw [if_pos h, if_neg (by omega)]

set_option maxHeartbeats 4000000 in
theorem walk (g m : Nat) (A : Option Addr) (n c : Nat) (l : List UInt8) (w : World) (hg : g < 4294967296) (hm : m < 4294967296) (hA : Arg w A n c l) :
    Calls Try.prog 6 #[.agg #[.int .u32 (g : Int), .int .u32 (m : Int)], .slice A n c] w fun e w' => e = .returned (.bool true) ∧ Below w.heap.size w w' := by
  obtain ⟨hr, hnc, hc⟩ := hA
  have HG := hide hg
  have HM := hide hm
  have HR := hide hr
  have HC := hide (And.intro hnc hc)
  clear hg hm hr hnc hc
  go_enter Try.func6, Try.ntmps6
  go_wp2_with fail
  refine Calls.mono (wakes_any _) ?_
  rintro e w1 ⟨rfl, hb1⟩
  have hx1 := hide ((hb1.block w.heap.size (by simp)).trans (heap_alloc_last w _))
  have B1 := hide (below_then (below_alloc w _) hb1)
  have S1 := hide (show w.heap.size < w1.heap.size by have := hb1.size; simp at this; omega)
  clear hb1
  go_wp2_with fail
  refine Calls.mono (few_rb A n c l _ (HR.out.on B1.out) HC.out.1 HC.out.2) ?_
  rintro e w2 ⟨A2, n2, c2, rfl, hr2, hn2, hc2, hm2, hb2⟩
  generalize hL : l.take FEW = L at *
  have hx2 := (hb2.block w.heap.size S1.out).trans hx1.out
  have B2 := hide (below_then B1.out hb2)
  have S2 := hide (show w.heap.size < w2.heap.size by have := S1.out; have := hb2.size; omega)
  have HR2 := hide hr2
  have HL := hide hL
  have HN2 := hide (And.intro hn2 (And.intro hc2 hm2))
  have a0 := cell_of_row _ _ 0 _ _ _ hx2
  have a1 := cell_of_row _ _ 1 _ _ _ hx2
  have HX2 := hide hx2
  clear hb2 hx1 hx2 hr2 hL hn2 hc2 hm2 B1 S1
  go_wp2_with fail
  refine Calls.mono (next_any g m A2 n2 c2 L _ HG.out HM.out HR2.out (by have := HN2.out.1; omega)) ?_
  rintro e w3 ⟨hb3, rfl⟩
  have hx3 := hide ((hb3.block w.heap.size S2.out).trans HX2.out)
  have B3 := hide (below_then B2.out hb3)
  have S3 := hide (show w.heap.size < w3.heap.size by have := S2.out; have := hb3.size; omega)
  have HR3 := hide (HR2.out.on hb3)
  clear hb3 a0 a1 HX2 B2 S2 HR2
  have ax0 : ∀ x y : Value, (w3.alloc (.cells #[x, y] 28)).cell? ⟨w.heap.size, 0, none⟩ = some (.int .u32 (g : Int)) := fun x y => by
    rw [cell_of_row _ _ 0 _ _ _ ((heap_alloc_old w3 (.cells #[x, y] 28) S3.out).trans hx3.out)]; rfl
  have ax1 : ∀ x y : Value, (w3.alloc (.cells #[x, y] 28)).cell? ⟨w.heap.size, 1, none⟩ = some (.int .u32 (m : Int)) := fun x y => by
    rw [cell_of_row _ _ 1 _ _ _ ((heap_alloc_old w3 (.cells #[x, y] 28) S3.out).trans hx3.out)]; rfl
  cases hb : isRev g m with
  | false =>
    rw [next_no hb]
    have HB := hide hb
    clear hb
    go_wp2_with fail
    refine Calls.mono (refIs_any g m _ HG.out HM.out) ?_
    rintro e w5 ⟨rfl, hb5⟩
    rw [HB.out]
    have B5 := hide (below_then B3.out (below_then (below_alloc w3 _) hb5))
    have HR5 := hide (HR3.out.on (below_then (below_alloc w3 _) hb5))
    have hx5 := (hb5.block w.heap.size (by simp; have := S3.out; omega)).trans ((heap_alloc_old w3 _ S3.out).trans hx3.out)
    have hy5 := (hb5.block w3.heap.size (by simp)).trans (heap_alloc_last w3 _)
    have S5 := hide (show w.heap.size < w5.heap.size ∧ w3.heap.size < w5.heap.size by have := S3.out; have := hb5.size; simp at this; omega)
    have a0 := cell_of_row _ _ 0 _ _ _ hx5
    have a1 := cell_of_row _ _ 1 _ _ _ hx5
    have d0 := cell_of_row _ _ 0 _ _ _ hy5
    have d1 := cell_of_row _ _ 1 _ _ _ hy5
    have HX5 := hide hx5
    have HY5 := hide hy5
    clear hb5 hx5 hy5 ax0 ax1 hx3 B3 HR3
    go_wp2_with fail
    go_ret
    exact ⟨rfl, B5.out⟩
  | true =>
    have HB := hide hb
    by_cases hov : g = 4294967295
    · subst hov
      rw [next_over]
      clear hb
      go_wp2_with fail
      refine Calls.mono (refIs_any _ m _ HG.out HM.out) ?_
      rintro e w5 ⟨rfl, hb5⟩
      rw [HB.out]
      have B5 := hide (below_then B3.out (below_then (below_alloc w3 _) hb5))
      have HR5 := hide (HR3.out.on (below_then (below_alloc w3 _) hb5))
      have hx5 := (hb5.block w.heap.size (by simp; have := S3.out; omega)).trans ((heap_alloc_old w3 _ S3.out).trans hx3.out)
      have hy5 := (hb5.block w3.heap.size (by simp)).trans (heap_alloc_last w3 _)
      have S5 := hide (show w.heap.size < w5.heap.size ∧ w3.heap.size < w5.heap.size by have := S3.out; have := hb5.size; simp at this; omega)
      have a0 := cell_of_row _ _ 0 _ _ _ hx5
      have a1 := cell_of_row _ _ 1 _ _ _ hx5
      have d0 := cell_of_row _ _ 0 _ _ _ hy5
      have d1 := cell_of_row _ _ 1 _ _ _ hy5
      have HX5 := hide hx5
      have HY5 := hide hy5
      clear hb5 hx5 hy5 ax0 ax1 hx3 B3 HR3
      go_wp2_with fail
      go_ret
      exact ⟨rfl, B5.out⟩
    · have hlt : g < 4294967295 := by have := HG.out; omega
      rw [next_yes hb hlt]
      dsimp only
      have HLT := hide hlt
      have hne : ((g : Int) == 4294967295) = false := by rw [beq_eq_false_iff_ne]; omega
      obtain ⟨r, hr⟩ : ∃ r, r = Crc.more 0 (nums (Crc.laid m ++ L)) := ⟨_, rfl⟩
      obtain ⟨g1, hg1⟩ : ∃ x, x = g + 1 := ⟨_, rfl⟩
      rw [← hr, ← hg1]
      have HRR := hide hr
      have HG1 := hide hg1
      clear hb hov hlt hr hg1
      go_wp2_with fail
      refine Calls.mono (refIs_any g m _ HG.out HM.out) ?_
      rintro e w5 ⟨rfl, hb5⟩
      rw [HB.out]
      have B5 := hide (below_then B3.out (below_then (below_alloc w3 _) hb5))
      have HR5 := hide (HR3.out.on (below_then (below_alloc w3 _) hb5))
      have hx5 := (hb5.block w.heap.size (by simp; have := S3.out; omega)).trans ((heap_alloc_old w3 _ S3.out).trans hx3.out)
      have hy5 := (hb5.block w3.heap.size (by simp)).trans (heap_alloc_last w3 _)
      have S5 := hide (show w.heap.size < w5.heap.size ∧ w3.heap.size < w5.heap.size by have := S3.out; have := hb5.size; simp at this; omega)
      have a0 := cell_of_row _ _ 0 _ _ _ hx5
      have a1 := cell_of_row _ _ 1 _ _ _ hx5
      have d0 := cell_of_row _ _ 0 _ _ _ hy5
      have d1 := cell_of_row _ _ 1 _ _ _ hy5
      have HX5 := hide hx5
      have HY5 := hide hy5
      clear hb5 hx5 hy5 ax0 ax1 hx3 B3 HR3
      have HLN := hide (show L.length ≤ 300 by have := HR5.out.len; have := HN2.out.1; omega)
      go_wp2_with fail
      refine Dag.wp_region_facts 15 (Dag.list [Dag.Is (.int .i64 0), Dag.Is (.bool true), Dag.Is (.bool true), Dag.Is (.agg #[.int .u32 (g1 : Int), .int .u32 (r : Int)]), Dag.Is (.agg #[.int .u32 (g : Int), .int .u32 (m : Int)]), Dag.Is (.slice A2 n2 c2), Dag.Is (.agg #[.int .u32 (g1 : Int), .int .u32 (r : Int)]), Dag.Is (.bool true), Dag.Is (.bool true), Dag.Is (.bool true), Dag.Is (.slice A2 n2 c2), Dag.Is (.slice A n c), Dag.Sl L, Dag.Is (.bool true), Dag.Is (.bool true)]) (by kernel_rfl) (by kernel_rfl) (Dag.stable_list (by simp [Dag.Stable.is, Dag.Stable.sl])) ?_ ?_
      · intro vs W hbW
        simp only [Dag.allOps, List.take_succ_cons, List.take_zero, Dag.fill, Act.put, List.setIfInBounds_toArray, List.set_cons_succ, List.set_cons_zero, Dag.deps, Region.binds, Dag.list, Dag.Is, List.getD_cons_zero, List.getD_cons_succ, and_true, forall_const, Nat.reduceAdd, Region.wanted, reduceIte]
        refine ⟨?_, ?_, ?_, ?_, ?_, ?_, ?_, ?_, ?_, ?_, ?_, ?_, ?_, ?_, ?_⟩
        · (try intro hd); go_simp; (first | done | exact ⟨Below.refl _ _, rfl⟩ | exact Below.refl _ _)
        · (try intro hd); go_simp; (first | done | exact ⟨Below.refl _ _, rfl⟩ | exact Below.refl _ _)
        · (try intro hd); go_simp; (first | done | exact ⟨Below.refl _ _, rfl⟩ | exact Below.refl _ _)
        · (try intro hd); have hy := (hbW.block w3.heap.size S5.out.2).trans HY5.out; have y0 := cell_of_row _ _ 0 _ _ _ hy; have y1 := cell_of_row _ _ 1 _ _ _ hy; go_simp; (first | done | exact ⟨Below.refl _ _, rfl⟩ | exact Below.refl _ _)
        · (try intro hd); have hy := (hbW.block w.heap.size S5.out.1).trans HX5.out; have y0 := cell_of_row _ _ 0 _ _ _ hy; have y1 := cell_of_row _ _ 1 _ _ _ hy; go_simp; (first | done | exact ⟨Below.refl _ _, rfl⟩ | exact Below.refl _ _)
        · (try intro hd); go_simp; (first | done | exact ⟨Below.refl _ _, rfl⟩ | exact Below.refl _ _)
        · (try intro hd); go_simp; refine Calls.mono (rnext_any g m A2 n2 c2 L W HLT.out HM.out (HR5.out.on hbW) (by have := HN2.out.1; omega)) ?_; rintro e w' ⟨rfl, hb'⟩; exact ⟨by rw [HG1.out, HRR.out], hb'⟩
        · (try intro hd); go_simp; (first | done | exact ⟨Below.refl _ _, rfl⟩ | exact Below.refl _ _)
        · (try intro hd); go_simp; (first | done | exact ⟨Below.refl _ _, rfl⟩ | exact Below.refl _ _)
        · (try intro hd); go_simp; (first | done | exact ⟨Below.refl _ _, rfl⟩ | exact Below.refl _ _)
        · (try intro hd); go_simp; (first | done | exact ⟨Below.refl _ _, rfl⟩ | exact Below.refl _ _)
        · (try intro hd); go_simp; (first | done | exact ⟨Below.refl _ _, rfl⟩ | exact Below.refl _ _)
        · (try intro hd); go_simp; refine Calls.mono (few_rb A n c l W (HR.out.on (below_then B5.out hbW)) HC.out.1 HC.out.2) ?_; rintro e w' ⟨A4, n4, c4, rfl, hr4, hn4, hc4, hm4, hb4⟩; rw [HL.out] at hr4; exact ⟨_, rfl, hb4, _, _, _, rfl, hc4, hr4⟩
        · (try intro hd); (obtain ⟨hv10, ⟨A4, n4, c4, e4, hc4, hr4⟩, _, hv9⟩ := hd; have l4 := hr4.len; have l5 := HLN.out; go_simp; refine Calls.mono (equal_b A2 A4 n2 n4 c2 c4 L L W (HR5.out.on hbW) hr4 (by have := HN2.out.1; omega) (by omega)) ?_; rintro e w' ⟨rfl, hb'⟩; exact ⟨by simp, hb'⟩)
        · (try intro hd); go_simp; (first | done | exact ⟨Below.refl _ _, rfl⟩ | exact Below.refl _ _)
      · intro vs W hbW hk
        simp only [Dag.known, Dag.list, Dag.Is, List.getD_cons_zero, List.getD_cons_succ, and_true] at hk
        obtain ⟨k0, k1, k2, k3, k4, k5, k6, k7, k8, k9, k10, k11, k12, k13, k14⟩ := hk
        simp only [List.take_succ_cons, List.take_zero, List.drop_succ_cons, List.drop_zero, Dag.fill, Act.put, List.setIfInBounds_toArray, List.set_cons_succ, List.set_cons_zero, Nat.reduceAdd, k0, k1, k2, k3, k4, k5, k6, k7, k8, k9, k10, k11, k13, k14]
        clear k0 k1 k2 k3 k4 k5 k6 k7 k8 k9 k10 k11 k13 k14
        go_wp2_with fail
        go_ret
        exact ⟨rfl, below_then B5.out hbW⟩
/-! ### the row's step, written by program after the guide's skeleton -/
theorem own : ownKnob Try.prog.godebug = none := by kernel_rfl
theorem laidOut : laidOutB Try.prog = true := by kernel_rfl
set_option maxRecDepth 100000 in
theorem lifted (os : Os) (started : os.Started) (H : Type) (enc : TypeId × Value → H) :
    ReturnsInHanded {} Try.checked os 6 .any (Rows.docNextsSpec.pre6 enc Try.prog Try.f6 Rows.docNextsRow.domain false) (Rows.docNextsSpec.post enc Try.prog Try.f6 false true false false) := by
  refine returnsInHanded_of_change (C := Try.checked) own started (by kernel_rfl) Try.func6
    (ChangeSpec.witness6 (enc := enc) (C := Try.checked) false ⟨#[], #[.agg #[.int .u32 0, .int .u32 0], .slice none 0 0], []⟩ 8 (by kernel_rfl) (by kernel_rfl) (by kernel_rfl) (by kernel_rfl)) ?_
  intro W base args ds gs before hval0 hW hcnd _
  have hval : ∀ (j : Nat) t v, Try.f6.params[j]? = some t → args[j]? = some v → Value.okWide Try.prog W .any base t v := hval0
  have hW' := hW
  obtain ⟨p, q, hA0, hV, rfl, hfz, hnd⟩ := hW
  have hA : DataW.TrodAll enc Try.prog W 0 (fun _ => true) true Try.f6.params.toList args.toList ds p := hA0
  rw [Try.params6] at hA hval
  obtain ⟨v0, vs0, d0, ds0, p0, q0, hargs, rfl, rfl, h0, r0⟩ := trodAll_cons hA
  obtain ⟨v1, vs1, d1, ds1, p1, q1, rfl, rfl, rfl, h1, r1⟩ := trodAll_cons r0
  obtain ⟨rfl, rfl, rfl⟩ := trodAll_nil r1
  obtain rfl : args = #[v0, v1] := by cases args; simp_all
  obtain ⟨rfl, rfl⟩ := trodVars_none hV
  have k0 := h0
  have lt0 := trod_lt' k0
  obtain ⟨x0g, x0m, rfl, w0g, w0m⟩ := arg_rev (hval 0 28 v0 rfl rfl) h0
  have k1 := h1
  have lt1 := trod_lt' k1
  obtain ⟨a1, n1, c1, l1, rfl, w1⟩ := arg_bytes Try.underlying40 Try.underlying5 (by kernel_rfl) (hval 1 40 v1 rfl rfl) h1
  clear hA0 hval0
  refine (walk x0g x0m a1 n1 c1 l1 W w0g w0m w1).mono fun e W' ⟨he, bel⟩ => ?_
  subst he
  exact ⟨_, rfl, _, _, _, [], _, [], hW', trodAll_mk1 (shut_bool Try.underlying4 _), (trodAll_cons_mk (Below.trod laidOut (by kernel_rfl) (of_decide_eq_true (by kernel_rfl)) k0 bel lt0) (trodAll_cons_mk (Below.trod laidOut (by kernel_rfl) (of_decide_eq_true (by kernel_rfl)) k1 bel lt1) trodAll_mk0)), rfl, bel.frame _, fun h => by cases h⟩

theorem over : Rows.docNextsRow.holds Try.pinned (OpenSpec.ofChange Rows.docNextsSpec) :=
  OpenClaim.holds_of_wide 6 Try.f6 rfl rfl rfl rfl rfl rfl rfl ⟨rfl, rfl, rfl, rfl, rfl⟩ rfl rfl rfl rfl rfl (by kernel_rfl) Try.func6 (by kernel_rfl)
    (of_decide_eq_true (by kernel_rfl)) (by unfold Func.isWrapper; first | (rw [if_pos (by decide +kernel)]; kernel_rfl) | (rw [if_neg (by decide +kernel)]; exact ⟨rfl, rfl⟩))
    (fun os started H enc _ => lifted os started H enc)

theorem proved : Rows.DocNextsSaid := over
end Go.Proofs.Ytmkkbomkonociaa.LawDocNexts
