/- The walk of doc's Next. -/
import Derived.Test.YtmkkbomkonociaaDoorDocParse
import Derived.Test.YtmkkbomkonociaaDoorCrcProg
import Derived.Test.YtmkkbomkonociaaDoorCrcRef
import Derived.Test.YtmkkbomkonociaaDoorDag
namespace Go.Proofs.YtmkkbomkonociaaDoor
open Go.RowKit
attribute [local go_sem] Dag.gives

/-- a block of two cells -/
def Two (W : World) (b : Nat) (t : TypeId) (x y : Value) : Prop := W.heap[b]? = some (.cells #[x, y] t (0, 0))
section
variable {W W' : World} {b B : Nat} {t : TypeId} {x y : Value}
theorem Two.at0 (h : Two W b t x y) : W.cell? ⟨b, 0, none⟩ = some x := cell_of_row _ _ 0 _ _ _ h
theorem Two.at1 (h : Two W b t x y) : W.cell? ⟨b, 1, none⟩ = some y := cell_of_row _ _ 1 _ _ _ h
theorem Two.free (h : Two W b t x y) (k : Nat) : W.frozen? ⟨b, k, none⟩ = false := frozen_of_row _ _ _ _ _ h
theorem Two.on (h : Two W b t x y) (hb : Below B W W') (hl : b < B) : Two W' b t x y := (hb.block b hl).trans h
theorem Two.lt (h : Two W b t x y) : b < W.heap.size := (Array.getElem?_eq_some_iff.1 h).1
theorem Two.set (h : Two W b t x y) (x' y' : Value) : Two ((W.setCell ⟨b, 0, none⟩ x').setCell ⟨b, 1, none⟩ y') b t x' y' :=
  heap_set _ b 1 _ _ _ y' (heap_set W b 0 _ _ _ x' h)
theorem Two.new (W : World) (t : TypeId) (x y : Value) : Two (W.alloc (.cells #[x, y] t)) W.heap.size t x y := heap_alloc_new W _
theorem Two.alloc (h : Two W b t x y) (o : Obj) : Two (W.alloc o) b t x y := (heap_alloc_old W o h.lt).trans h
theorem Two.below (hb : Below B W W') (hl : B ≤ b) (x' y' : Value) : Below B W ((W'.setCell ⟨b, 0, none⟩ x').setCell ⟨b, 1, none⟩ y') := (hb.setCell (p := ⟨b, 0, none⟩) hl x').setCell (p := ⟨b, 1, none⟩) hl y'
end
/-- the revision behind one, and the error -/
def nextRev (g m : Nat) (l : List UInt8) : Nat × Nat × Nat :=
  if isRev g m = true then (if g = 4294967295 then (0, 0, 5) else (g + 1, Crc.more 0 (nums (Crc.laid m ++ l)), 0)) else (0, 0, 291)
def NextAs (g m : Nat) (l : List UInt8) (w : World) (e : Ending) (w' : World) : Prop :=
  Below w.heap.size w w' ∧ e = .returned (.tuple #[.agg #[.int .u32 ((nextRev g m l).1 : Int), .int .u32 ((nextRev g m l).2.1 : Int)], .int .i64 ((nextRev g m l).2.2 : Int)])

theorem laid_cells (m : Nat) : [Value.int .u8 ((m : Int) % 256), .int .u8 ((m : Int) / 256 % 256), .int .u8 ((m : Int) / 65536 % 256), .int .u8 ((m : Int) / 16777216 % 256)] = bytes (Crc.laid m) := by
  simp only [Crc.laid, Crc.laidAt, bytes, List.map_cons, List.map_nil, u8_of]
  rw [show m / 2 ^ (8 * 0) = m by simp, show m / 2 ^ (8 * 1) = m / 256 from rfl, show m / 2 ^ (8 * 2) = m / 65536 from rfl, show m / 2 ^ (8 * 3) = m / 16777216 from rfl]
  rfl

theorem next_any (g m : Nat) (A : Option Addr) (n c : Nat) (l : List UInt8) (w : World) (hg : g < 4294967296) (hm : m < 4294967296) (hA : RB w A n l) (hn : n ≤ 65536) :
    Calls Tryd.prog 8 #[.agg #[.int .u32 (g : Int), .int .u32 (m : Int)], .slice A n c] w (NextAs g m l w) := by
  have HGM := hide (And.intro hg hm)
  cases hb : isRev g m with
  | false =>
    have HB := hide hb
    have HN := hide (show nextRev g m l = (0, 0, 291) by simp [nextRev, hb])
    clear hg hm hb
    go_enter Tryd.func8, Tryd.ntmps8
    go_wp2_with fail
    refine Calls.mono (is_any g m _ HGM.out.1 HGM.out.2) ?_
    rintro e w1 ⟨rfl, hb1⟩
    rw [HB.out]
    have T1 := hide (((Two.new (w.alloc (.cells #[.int .u32 (g : Int), .int .u32 (m : Int)] 24)) 24 (.int .u32 0) (.int .u32 0))).on hb1 (by simp))
    rw [World.size_alloc] at T1
    have c0 := T1.out.at0
    have c1 := T1.out.at1
    have f0 := T1.out.free 0
    have f1 := T1.out.free 1
    have HBW := hide (below_then ((below_alloc w _).alloc (by simp) _) hb1)
    clear hb1
    go_wp2_with fail
    have T9 := T1.out.set (.int .u32 0) (.int .u32 0)
    have HB9 := hide (Two.below HBW.out (Nat.le_succ w.heap.size) (.int .u32 0) (.int .u32 0))
    generalize (w1.setCell ⟨w.heap.size + 1, 0, none⟩ (.int .u32 0)).setCell ⟨w.heap.size + 1, 1, none⟩ (.int .u32 0) = V9 at *
    have r0 := T9.at0
    have r1 := T9.at1
    exact bodyPost_ret (v := .tuple #[.agg #[.int .u32 0, .int .u32 0], .int .i64 291]) (by simp [results, Tryd.results8, go_sem, r0, r1]) rfl ⟨HB9.out, by rw [HN.out]; rfl⟩
  | true =>
    have HB := hide hb
    by_cases hov : g = 4294967295
    · have HN := hide (show nextRev g m l = (0, 0, 5) by unfold nextRev; rw [if_pos hb, if_pos hov])
      have hw : IntKind.u32.wrap ((g : Int) + 1) = 0 := by rw [hov]; rfl
      clear hg hm hb hov
      go_enter Tryd.func8, Tryd.ntmps8
      go_wp2_with fail
      refine Calls.mono (is_any g m _ HGM.out.1 HGM.out.2) ?_
      rintro e w1 ⟨rfl, hb1⟩
      rw [HB.out]
      have T1 := hide (((Two.new (w.alloc (.cells #[.int .u32 (g : Int), .int .u32 (m : Int)] 24)) 24 (.int .u32 0) (.int .u32 0))).on hb1 (by simp))
      have T0 := hide (((Two.new w 24 (.int .u32 (g : Int)) (.int .u32 (m : Int))).alloc (.cells #[.int .u32 0, .int .u32 0] 24)).on hb1 (by simp; omega))
      rw [World.size_alloc] at T1
      have c0 := T1.out.at0
      have c1 := T1.out.at1
      have f0 := T1.out.free 0
      have f1 := T1.out.free 1
      have d0 := T0.out.at0
      have d1 := T0.out.at1
      have HBW := hide (below_then ((below_alloc w _).alloc (by simp) _) hb1)
      clear hb1
      go_wp2_with fail
      have T9 := T1.out.set (.int .u32 0) (.int .u32 0)
      have HB9 := hide (Two.below HBW.out (Nat.le_succ w.heap.size) (.int .u32 0) (.int .u32 0))
      generalize (w1.setCell ⟨w.heap.size + 1, 0, none⟩ (.int .u32 0)).setCell ⟨w.heap.size + 1, 1, none⟩ (.int .u32 0) = V9 at *
      have r0 := T9.at0
      have r1 := T9.at1
      exact bodyPost_ret (v := .tuple #[.agg #[.int .u32 0, .int .u32 0], .int .i64 5]) (by simp [results, Tryd.results8, go_sem, r0, r1]) rfl ⟨HB9.out, by rw [HN.out]; rfl⟩
    · have HN := hide (show nextRev g m l = (g + 1, Crc.more 0 (nums (Crc.laid m ++ l)), 0) by simp [nextRev, hb, hov])
      have hw : IntKind.u32.wrap ((g : Int) + 1) = (g : Int) + 1 := by unfold IntKind.wrap; simp [IntKind.signed, IntKind.bits]; omega
      have hz : ((g : Int) + 1 == 0) = false := by rw [beq_eq_false_iff_ne]; omega
      clear hg hm hb hov
      go_enter Tryd.func8, Tryd.ntmps8
      go_wp2_with fail
      refine Calls.mono (is_any g m _ HGM.out.1 HGM.out.2) ?_
      rintro e w1 ⟨rfl, hb1⟩
      rw [HB.out]
      have T1 := hide (((Two.new (w.alloc (.cells #[.int .u32 (g : Int), .int .u32 (m : Int)] 24)) 24 (.int .u32 0) (.int .u32 0))).on hb1 (by simp))
      have T0 := hide (((Two.new w 24 (.int .u32 (g : Int)) (.int .u32 (m : Int))).alloc (.cells #[.int .u32 0, .int .u32 0] 24)).on hb1 (by simp; omega))
      rw [World.size_alloc] at T1
      have d0 := T0.out.at0
      have d1 := T0.out.at1
      have HBW := hide (below_then ((below_alloc w _).alloc (by simp) _) hb1)
      have hsz : w.heap.size + 2 ≤ w1.heap.size := by have := hb1.size; simp at this; omega
      clear hb1
      go_wp2_with fail
      have HL := hide (RB.lit w1 5 (fr := (0, 0)) #[.int .u8 ((m : Int) % 256), .int .u8 ((m : Int) / 256 % 256), .int .u8 ((m : Int) / 65536 % 256), .int .u8 ((m : Int) / 16777216 % 256)] (Crc.laid m) 4 rfl (laid_cells m))
      refine Calls.mono (sum_any _ _ _ _ _ HL.out (by omega)) ?_
      rintro e w2 ⟨rfl, hb2⟩
      have hb12 := below_then (below_alloc w1 _) hb2
      have T0' := hide (T0.out.on hb12 (by omega))
      have T1' := hide (T1.out.on hb12 (by omega))
      have HBW2 := hide (below_then HBW.out hb12)
      have hR2 := hide (RB.on hA HBW2.out)
      have hsz2 := hb12.size
      have HS := hide (Crc.more_lt 0 (nums (Crc.laid m)))
      have HM := hide (show Crc.more (Crc.more 0 (nums (Crc.laid m))) (nums l) = Crc.more 0 (nums (Crc.laid m ++ l)) by rw [nums_append]; exact Crc.more_append 0 _ _ (nums_lt _))
      clear hb2 hb12 d0 d1 T0 T1 HL
      generalize Crc.more 0 (nums (Crc.laid m)) = t at *
      generalize Crc.more 0 (nums (Crc.laid m ++ l)) = u at *
      go_wp2_with fail
      refine Dag.wp_region_facts 7 (Dag.list [Dag.Is (.pointer (some ⟨w.heap.size, 0, none⟩)), Dag.Is (.int .u32 (g : Int)), Dag.Is (.int .u32 ((g : Int) + 1)), Dag.Is (.int .u32 (t : Int)), Dag.Is (.slice A n c), Dag.Is (.int .u32 (u : Int)), Dag.Is (.agg #[.int .u32 ((g : Int) + 1), .int .u32 (u : Int)])]) (by kernel_rfl) (by kernel_rfl) (Dag.stable_list (by simp [Dag.Stable.is])) ?_ ?_
      · intro vs W hbW
        simp only [Dag.allOps, List.take_succ_cons, List.take_zero, Dag.fill, Act.put, List.setIfInBounds_toArray, List.set_cons_succ, List.set_cons_zero, Dag.deps, Region.binds, Dag.list, Dag.Is, List.getD_cons_zero, List.getD_cons_succ, and_true, forall_const, Nat.reduceAdd, Region.wanted, reduceIte]
        refine ⟨?_, ?_, ?_, ?_, ?_, ?_, ?_⟩
        · (try intro hd); go_simp; (first | done | exact ⟨Below.refl _ _, rfl⟩ | exact Below.refl _ _)
        · (try intro hd); have d0 := (T0'.out.on hbW (by omega)).at0; go_simp; (first | done | exact Below.refl _ _)
        · (try intro hd); go_simp; (first | done | exact ⟨Below.refl _ _, rfl⟩ | exact Below.refl _ _)
        · (try intro hd); go_simp; (first | done | exact ⟨Below.refl _ _, rfl⟩ | exact Below.refl _ _)
        · (try intro hd); go_simp; (first | done | exact ⟨Below.refl _ _, rfl⟩ | exact Below.refl _ _)
        · (try intro hd); go_simp; refine Calls.mono (more_any (t : Int) A n c l _ (by omega) (by have := HS.out; omega) (hR2.out.on hbW) hn) ?_; rintro e w' ⟨rfl, hb⟩; exact ⟨by rw [Int.toNat_natCast, HM.out], hb⟩
        · (try intro hd); go_simp; (first | done | exact ⟨Below.refl _ _, rfl⟩ | exact Below.refl _ _)
      · intro vs W hbW hk
        simp only [Dag.known, Dag.list, Dag.Is, List.getD_cons_zero, List.getD_cons_succ, and_true] at hk
        obtain ⟨k0, k1, k2, k3, k4, k5, k6⟩ := hk
        simp only [List.take_succ_cons, List.take_zero, List.drop_succ_cons, List.drop_zero, Dag.fill, Act.put, List.setIfInBounds_toArray, List.set_cons_succ, List.set_cons_zero, Nat.reduceAdd, k0, k1, k2, k3, k4, k5, k6]
        clear k0 k1 k2 k3 k4 k5 k6
        have T1W := T1'.out.on hbW (by omega)
        have c0 := T1W.at0
        have c1 := T1W.at1
        have f0 := T1W.free 0
        have f1 := T1W.free 1
        have HB8 := hide (HBW2.out.trans (hbW.mono HBW2.out.size))
        go_wp2_with fail
        have T9 := T1W.set (.int .u32 ((g : Int) + 1)) (.int .u32 (u : Int))
        have HB9 := hide (Two.below HB8.out (Nat.le_succ w.heap.size) (.int .u32 ((g : Int) + 1)) (.int .u32 (u : Int)))
        generalize (W.setCell ⟨w.heap.size + 1, 0, none⟩ (.int .u32 ((g : Int) + 1))).setCell ⟨w.heap.size + 1, 1, none⟩ (.int .u32 (u : Int)) = V9 at *
        have r0 := T9.at0
        have r1 := T9.at1
        exact bodyPost_ret (v := .tuple #[.agg #[.int .u32 ((g : Int) + 1), .int .u32 (u : Int)], .int .i64 0]) (by simp [results, Tryd.results8, go_sem, r0, r1]) rfl ⟨HB9.out, by rw [HN.out]; rfl⟩
end Go.Proofs.YtmkkbomkonociaaDoor
