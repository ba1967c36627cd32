/- The walk of utf's sized, form by form (written by gen_sized.py). -/
import Derived.Test.YtbnibiealnogdaaDoorUtfWalk
namespace Go.Proofs.YtbnibiealnogdaaDoor
open Go.RowKit

theorem Gl.old {w : World} (h : Gl w) (o : Obj) : Gl (w.alloc o) := h.on (below_alloc w o)
theorem Gl.olds {w : World} (h : Gl w) : (∀ o, (w.alloc o).cell? ⟨0, 0, none⟩ = some (.int .i64 0)) ∧ (∀ o, (w.alloc o).cell? ⟨0, 1, none⟩ = some (.int .i64 0)) := ⟨fun o => (h.old o).1, fun o => (h.old o).2⟩
theorem Gl.lt {w : World} (h : Gl w) : 0 < w.heap.size := World.block_lt_of_cell? w _ h.1
theorem forms_at0 (W : World) : (Instr.index 108 formsV (.int .i64 0)).run Tryd.prog W = .ok (.agg #[.int .i64 0, .int .i64 0]) W := by kernel_rfl
theorem forms_at1 (W : World) : (Instr.index 108 formsV (.int .i64 1)).run Tryd.prog W = .ok (.agg #[.int .i64 7, .int .i64 0]) W := by kernel_rfl
theorem forms_at2 (W : World) : (Instr.index 108 formsV (.int .i64 2)).run Tryd.prog W = .ok (.agg #[.int .i64 5, .int .i64 192]) W := by kernel_rfl
theorem forms_at3 (W : World) : (Instr.index 108 formsV (.int .i64 3)).run Tryd.prog W = .ok (.agg #[.int .i64 4, .int .i64 224]) W := by kernel_rfl
theorem forms_at4 (W : World) : (Instr.index 108 formsV (.int .i64 4)).run Tryd.prog W = .ok (.agg #[.int .i64 3, .int .i64 240]) W := by kernel_rfl
/-- the bits behind the mark, and the mark, by a row's size -/
def bitsOf (n : Nat) : Int := if n = 1 then 7 else if n = 2 then 5 else if n = 3 then 4 else if n = 4 then 3 else 0
def markOf (n : Nat) : Int := if n = 2 then 192 else if n = 3 then 224 else if n = 4 then 240 else 0
theorem size_iff {c : Nat} (hc : c < 256) : (Utf.sizeOf c = 1 ↔ c / 128 = 0) ∧ (Utf.sizeOf c = 2 ↔ c / 32 = 6) ∧ (Utf.sizeOf c = 3 ↔ c / 16 = 14) ∧ (Utf.sizeOf c = 4 ↔ c / 8 = 30) ∧ Utf.sizeOf c ≤ 4 := by
  unfold Utf.sizeOf
  by_cases h1 : c < 128
  · rw [if_pos h1]; omega
  · rw [if_neg h1]
    by_cases h2 : c < 192
    · rw [if_pos h2]; omega
    · rw [if_neg h2]
      by_cases h3 : c < 224
      · rw [if_pos h3]; omega
      · rw [if_neg h3]
        by_cases h4 : c < 240
        · rw [if_pos h4]; omega
        · rw [if_neg h4]
          by_cases h5 : c < 248
          · rw [if_pos h5]; omega
          · rw [if_neg h5]; omega
theorem stored2 {w V : World} {b : Nat} {t : TypeId} {z0 z1 : Value} (hr : V.heap[b]? = some (.cells #[z0, z1] t (0, 0))) (hb : Below b w V) (x y : Value) :
    ((V.setCell ⟨b, 0, none⟩ x).setCell ⟨b, 1, none⟩ y).cell? ⟨b, 0, none⟩ = some x ∧ ((V.setCell ⟨b, 0, none⟩ x).setCell ⟨b, 1, none⟩ y).cell? ⟨b, 1, none⟩ = some y ∧ Below b w ((V.setCell ⟨b, 0, none⟩ x).setCell ⟨b, 1, none⟩ y) := by
  obtain ⟨h0, h1⟩ := two_cells (x0 := x) (x1 := y) (set_cells (set_cells hr 0 x) 1 y)
  exact ⟨h0, h1, (hb.setCell (p := ⟨b, 0, none⟩) (Nat.le_refl _) x).setCell (p := ⟨b, 1, none⟩) (Nat.le_refl _) y⟩
theorem sized_end {w wr : World} {b : Nat} {t : TypeId} {z0 z1 : Value} (hr : wr.heap[b]? = some (.cells #[z0, z1] t (0, 0))) (hb : Below b w wr) (o : Obj) (nq : Nat) (x y : Value) :
    ((((((wr.alloc o).drewN nq).setCell ⟨b + 1, 0, none⟩ x).setCell ⟨b + 1, 1, none⟩ y).setCell ⟨b, 0, none⟩ x).setCell ⟨b, 1, none⟩ y).cell? ⟨b, 0, none⟩ = some x ∧
    ((((((wr.alloc o).drewN nq).setCell ⟨b + 1, 0, none⟩ x).setCell ⟨b + 1, 1, none⟩ y).setCell ⟨b, 0, none⟩ x).setCell ⟨b, 1, none⟩ y).cell? ⟨b, 1, none⟩ = some y ∧
    Below b w ((((((wr.alloc o).drewN nq).setCell ⟨b + 1, 0, none⟩ x).setCell ⟨b + 1, 1, none⟩ y).setCell ⟨b, 0, none⟩ x).setCell ⟨b, 1, none⟩ y) := by
  have h1 : ((wr.alloc o).drewN nq).heap[b]? = some (.cells #[z0, z1] t (0, 0)) := old_cells hr o
  have h2 : ((((wr.alloc o).drewN nq).setCell ⟨b + 1, 0, none⟩ x).setCell ⟨b + 1, 1, none⟩ y).heap[b]? = some (.cells #[z0, z1] t (0, 0)) := by
    rw [heap_setCell_other _ _ _ _ (by simp), heap_setCell_other _ _ _ _ (by simp)]; exact h1
  have hs := lt_cells hr
  have h3 : Below b w ((wr.alloc o).drewN nq) := hb.trans ((below_then (below_alloc wr o) (below_drewN _ nq)).mono (by omega))
  exact stored2 h2 ((h3.setCell (p := ⟨b + 1, 0, none⟩) (by simp) x).setCell (p := ⟨b + 1, 1, none⟩) (by simp) y) x y
set_option maxHeartbeats 8000000 in
theorem sized_any (c : Nat) (hc : c < 256) (w : World) (hg : Gl w) : Calls Tryd.prog 62 #[.int .u8 (c : Int)] w fun e w' => e = .returned (.tuple #[.agg #[.int .i64 (bitsOf (Utf.sizeOf c)), .int .i64 (markOf (Utf.sizeOf c))], .int .i64 (Utf.sizeOf c : Nat)]) ∧ Below w.heap.size w w' := by
  have hlt := hg.lt
  have HG := hide hg
  have HI := hide (size_iff hc)
  obtain ⟨g0, g1⟩ := hg
  have hi0 := forms_at0
  have hi1 := forms_at1
  have hi2 := forms_at2
  have hi3 := forms_at3
  have hi4 := forms_at4
  go_enter Tryd.func62, Tryd.ntmps62
  go_wp2_with fail
  go_step3
  go_wp2_with fail
  go_step3
  go_wp2_with fail
  refine Calls.mono (forms_any _) ?_
  rintro e w1 ⟨rfl, hb1⟩
  have HR1 := hide (on_cells (old_cells (new_cells w (.cells #[.int .i64 0, .int .i64 0] 104)) (.cells #[.int .i64 0, .int .i64 0] 104)) hb1)
  have HB1 := hide (below_then (below_then (below_alloc w _) (below_alloc _ _)) hb1)
  have HO1 : Hid (w1.heap[w.heap.size + 1]? = some (.cells #[.int .i64 0, .int .i64 0] 104 (0, 0))) := hide ((hb1.block _ (by simp)).trans (by rw [show w.heap.size + 1 = (w.alloc (.cells #[.int .i64 0, .int .i64 0] 104)).heap.size by simp]; exact new_cells _ _))
  clear hb1 g0 g1
  go_wp2_with fail
  go_loopw [5, 10] (fun a i wr => ∃ j : Nat, j ≤ 5 ∧ i = .int .i64 (j : Int) ∧ a = .int .i64 0 ∧ Hid (Utf.sizeOf c = 0 ∨ j ≤ Utf.sizeOf c) ∧ Hid (wr.heap[w.heap.size]? = some (.cells #[.int .i64 0, .int .i64 0] 104 (0, 0))) ∧ Hid (wr.heap[w.heap.size + 1]? = some (.cells #[.int .i64 0, .int .i64 0] 104 (0, 0))) ∧ Hid (Below w.heap.size w wr)) (fun _ i _ => 5 - (intOf i).toNat)
  case atStart => exact ⟨0, by omega, rfl, rfl, hide (Or.inr (Nat.zero_le _)), HR1, HO1, HB1⟩
  case round =>
    obtain ⟨j, hj, rfl, rfl, hs, hr, ho, hb⟩ := hrel
    have hlt1 := lt_cells hr.out
    obtain ⟨g0, g1⟩ := (HG.out.on hb.out).olds
    by_cases h0 : j = 0
    · subst h0
      go_wp2_with fail
      go_quiet (fail)
      go_wp2_with fail
      exact ⟨⟨1, by omega, rfl, rfl, hide (by have := hs.out; omega), hide (old_cells hr.out _), hide (old_cells ho.out _), hide (below_then hb.out (below_then (below_alloc _ _) (below_drewN _ _)))⟩, by simp [intOf]⟩
    · by_cases h1 : j = 1
      · subst h1
        by_cases hh : Utf.sizeOf c = 1
        · have ht : ((c : Int) / 128 == 0) = true := by rw [beq_iff_eq]; have := HI.out; omega
          have HH := hide hh
          obtain ⟨y0, y1⟩ := two_olds ho.out
          have f0 : ∀ o, (wr.alloc o).frozen? ⟨w.heap.size + 1, 0, none⟩ = false := fun o => frozen_of_row _ _ 0 _ _ (old_cells ho.out o)
          have f1 : ∀ o, (wr.alloc o).frozen? ⟨w.heap.size + 1, 1, none⟩ = false := fun o => frozen_of_row _ _ 1 _ _ (old_cells ho.out o)
          have d0 : ∀ o, (wr.alloc o).frozen? ⟨w.heap.size, 0, none⟩ = false := fun o => frozen_of_row _ _ 0 _ _ (old_cells hr.out o)
          have d1 : ∀ o, (wr.alloc o).frozen? ⟨w.heap.size, 1, none⟩ = false := fun o => frozen_of_row _ _ 1 _ _ (old_cells hr.out o)
          obtain ⟨z0, z1⟩ := two_olds hr.out
          clear hh
          go_wp2_with fail
          go_quiet (fail)
          go_wp2_with fail
          obtain ⟨r0, r1, rb⟩ := sized_end hr.out hb.out (.cells #[.int .i64 7, .int .i64 0] 104) nq (.int .i64 7) (.int .i64 0)
          rw [Exit.noGoto_ret]
          exact bodyPost_ret (v := .tuple #[.agg #[.int .i64 7, .int .i64 0], .int .i64 1]) (by simp [results, Tryd.results62, go_sem, r0, r1]) rfl ⟨by rw [HH.out]; rfl, rb⟩
        · have ht : ((c : Int) / 128 == 0) = false := by rw [beq_eq_false_iff_ne]; have := HI.out; omega
          have HS2 := hide (show Utf.sizeOf c = 0 ∨ 2 ≤ Utf.sizeOf c by have := hs.out; omega)
          clear hh
          go_wp2_with fail
          go_quiet (fail)
          go_wp2_with fail
          exact ⟨⟨2, by omega, rfl, rfl, HS2, hide (old_cells hr.out _), hide (old_cells ho.out _), hide (below_then hb.out (below_then (below_alloc _ _) (below_drewN _ _)))⟩, by simp [intOf]⟩
      · by_cases h2 : j = 2
        · subst h2
          by_cases hh : Utf.sizeOf c = 2
          · have ht : ((c : Int) / 32 == 6) = true := by rw [beq_iff_eq]; have := HI.out; omega
            have HH := hide hh
            obtain ⟨y0, y1⟩ := two_olds ho.out
            have f0 : ∀ o, (wr.alloc o).frozen? ⟨w.heap.size + 1, 0, none⟩ = false := fun o => frozen_of_row _ _ 0 _ _ (old_cells ho.out o)
            have f1 : ∀ o, (wr.alloc o).frozen? ⟨w.heap.size + 1, 1, none⟩ = false := fun o => frozen_of_row _ _ 1 _ _ (old_cells ho.out o)
            have d0 : ∀ o, (wr.alloc o).frozen? ⟨w.heap.size, 0, none⟩ = false := fun o => frozen_of_row _ _ 0 _ _ (old_cells hr.out o)
            have d1 : ∀ o, (wr.alloc o).frozen? ⟨w.heap.size, 1, none⟩ = false := fun o => frozen_of_row _ _ 1 _ _ (old_cells hr.out o)
            obtain ⟨z0, z1⟩ := two_olds hr.out
            clear hh
            go_wp2_with fail
            go_quiet (fail)
            go_wp2_with fail
            obtain ⟨r0, r1, rb⟩ := sized_end hr.out hb.out (.cells #[.int .i64 5, .int .i64 192] 104) nq (.int .i64 5) (.int .i64 192)
            rw [Exit.noGoto_ret]
            exact bodyPost_ret (v := .tuple #[.agg #[.int .i64 5, .int .i64 192], .int .i64 2]) (by simp [results, Tryd.results62, go_sem, r0, r1]) rfl ⟨by rw [HH.out]; rfl, rb⟩
          · have ht : ((c : Int) / 32 == 6) = false := by rw [beq_eq_false_iff_ne]; have := HI.out; omega
            have HS2 := hide (show Utf.sizeOf c = 0 ∨ 3 ≤ Utf.sizeOf c by have := hs.out; omega)
            clear hh
            go_wp2_with fail
            go_quiet (fail)
            go_wp2_with fail
            exact ⟨⟨3, by omega, rfl, rfl, HS2, hide (old_cells hr.out _), hide (old_cells ho.out _), hide (below_then hb.out (below_then (below_alloc _ _) (below_drewN _ _)))⟩, by simp [intOf]⟩
        · by_cases h3 : j = 3
          · subst h3
            by_cases hh : Utf.sizeOf c = 3
            · have ht : ((c : Int) / 16 == 14) = true := by rw [beq_iff_eq]; have := HI.out; omega
              have HH := hide hh
              obtain ⟨y0, y1⟩ := two_olds ho.out
              have f0 : ∀ o, (wr.alloc o).frozen? ⟨w.heap.size + 1, 0, none⟩ = false := fun o => frozen_of_row _ _ 0 _ _ (old_cells ho.out o)
              have f1 : ∀ o, (wr.alloc o).frozen? ⟨w.heap.size + 1, 1, none⟩ = false := fun o => frozen_of_row _ _ 1 _ _ (old_cells ho.out o)
              have d0 : ∀ o, (wr.alloc o).frozen? ⟨w.heap.size, 0, none⟩ = false := fun o => frozen_of_row _ _ 0 _ _ (old_cells hr.out o)
              have d1 : ∀ o, (wr.alloc o).frozen? ⟨w.heap.size, 1, none⟩ = false := fun o => frozen_of_row _ _ 1 _ _ (old_cells hr.out o)
              obtain ⟨z0, z1⟩ := two_olds hr.out
              clear hh
              go_wp2_with fail
              go_quiet (fail)
              go_wp2_with fail
              obtain ⟨r0, r1, rb⟩ := sized_end hr.out hb.out (.cells #[.int .i64 4, .int .i64 224] 104) nq (.int .i64 4) (.int .i64 224)
              rw [Exit.noGoto_ret]
              exact bodyPost_ret (v := .tuple #[.agg #[.int .i64 4, .int .i64 224], .int .i64 3]) (by simp [results, Tryd.results62, go_sem, r0, r1]) rfl ⟨by rw [HH.out]; rfl, rb⟩
            · have ht : ((c : Int) / 16 == 14) = false := by rw [beq_eq_false_iff_ne]; have := HI.out; omega
              have HS2 := hide (show Utf.sizeOf c = 0 ∨ 4 ≤ Utf.sizeOf c by have := hs.out; omega)
              clear hh
              go_wp2_with fail
              go_quiet (fail)
              go_wp2_with fail
              exact ⟨⟨4, by omega, rfl, rfl, HS2, hide (old_cells hr.out _), hide (old_cells ho.out _), hide (below_then hb.out (below_then (below_alloc _ _) (below_drewN _ _)))⟩, by simp [intOf]⟩
          · by_cases h4 : j = 4
            · subst h4
              by_cases hh : Utf.sizeOf c = 4
              · have ht : ((c : Int) / 8 == 30) = true := by rw [beq_iff_eq]; have := HI.out; omega
                have HH := hide hh
                obtain ⟨y0, y1⟩ := two_olds ho.out
                have f0 : ∀ o, (wr.alloc o).frozen? ⟨w.heap.size + 1, 0, none⟩ = false := fun o => frozen_of_row _ _ 0 _ _ (old_cells ho.out o)
                have f1 : ∀ o, (wr.alloc o).frozen? ⟨w.heap.size + 1, 1, none⟩ = false := fun o => frozen_of_row _ _ 1 _ _ (old_cells ho.out o)
                have d0 : ∀ o, (wr.alloc o).frozen? ⟨w.heap.size, 0, none⟩ = false := fun o => frozen_of_row _ _ 0 _ _ (old_cells hr.out o)
                have d1 : ∀ o, (wr.alloc o).frozen? ⟨w.heap.size, 1, none⟩ = false := fun o => frozen_of_row _ _ 1 _ _ (old_cells hr.out o)
                obtain ⟨z0, z1⟩ := two_olds hr.out
                clear hh
                go_wp2_with fail
                go_quiet (fail)
                go_wp2_with fail
                obtain ⟨r0, r1, rb⟩ := sized_end hr.out hb.out (.cells #[.int .i64 3, .int .i64 240] 104) nq (.int .i64 3) (.int .i64 240)
                rw [Exit.noGoto_ret]
                exact bodyPost_ret (v := .tuple #[.agg #[.int .i64 3, .int .i64 240], .int .i64 4]) (by simp [results, Tryd.results62, go_sem, r0, r1]) rfl ⟨by rw [HH.out]; rfl, rb⟩
              · have ht : ((c : Int) / 8 == 30) = false := by rw [beq_eq_false_iff_ne]; have := HI.out; omega
                have HS2 := hide (show Utf.sizeOf c = 0 ∨ 5 ≤ Utf.sizeOf c by have := hs.out; omega)
                clear hh
                go_wp2_with fail
                go_quiet (fail)
                go_wp2_with fail
                exact ⟨⟨5, by omega, rfl, rfl, HS2, hide (old_cells hr.out _), hide (old_cells ho.out _), hide (below_then hb.out (below_then (below_alloc _ _) (below_drewN _ _)))⟩, by simp [intOf]⟩
            · obtain rfl : j = 5 := by omega
              have HH := hide (show Utf.sizeOf c = 0 by have := hs.out; have := HI.out; omega)
              obtain ⟨y0, y1⟩ := two_cells ho.out
              obtain ⟨z0, z1⟩ := two_cells hr.out
              have d0 := frozen_of_row _ _ 0 _ _ hr.out
              have d1 := frozen_of_row _ _ 1 _ _ hr.out
              go_wp2_with fail
              obtain ⟨r0, r1, rb⟩ := stored2 hr.out hb.out (.int .i64 0) (.int .i64 0)
              rw [Exit.noGoto_ret]
              exact bodyPost_ret (v := .tuple #[.agg #[.int .i64 0, .int .i64 0], .int .i64 0]) (by simp [results, Tryd.results62, go_sem, r0, r1]) rfl ⟨by rw [HH.out]; rfl, rb⟩
end Go.Proofs.YtbnibiealnogdaaDoor
