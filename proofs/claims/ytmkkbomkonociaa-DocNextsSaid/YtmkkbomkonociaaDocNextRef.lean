/- The walk of the reference's Next. -/
import Derived.Test.YtmkkbomkonociaaDocNum
import Derived.Test.YtmkkbomkonociaaCrcRef
namespace Go.Proofs.Ytmkkbomkonociaa
open Go.RowKit
attribute [local go_sem] Dag.gives

theorem laid_rb (m : Nat) (w : World) (hm : m < 4294967296) :
    Calls Try.prog 37 #[.int .u32 (m : Int)] w fun e w' => ∃ A n c, e = .returned (.slice A n c) ∧ RB w' A n (Crc.laid m) ∧ n ≤ 4 ∧ Below w.heap.size w w' := by
  refine (laid_any (m : Int) w (by omega) (by omega)).mono fun e w' ⟨he, hr, hb⟩ => ⟨_, 4, 4, he, ?_, Nat.le_refl _, hb⟩
  rwa [Int.toNat_natCast] at hr
theorem rnext_any (g m : Nat) (A : Option Addr) (n c : Nat) (l : List UInt8) (w : World) (hg : g < 4294967295) (hm : m < 4294967296) (hA : RB w A n l) (hn : n ≤ 60000) :
    Calls Try.prog 20 #[.agg #[.int .u32 (g : Int), .int .u32 (m : Int)], .slice A n c] w fun e w' =>
      e = .returned (.agg #[.int .u32 ((g + 1 : Nat) : Int), .int .u32 (Crc.more 0 (nums (Crc.laid m ++ l)) : Nat)]) ∧ Below w.heap.size w w' := by
  obtain ⟨i0, hi, hz0, hz1, hz2⟩ := info_parts u8_info
  have HA := hide hA
  have HG := hide hg
  have HL := hide hA.len
  clear hA hg
  go_enter Try.func20, Try.ntmps20
  go_wp2_with fail
  have W3 := World.ownsRow_lit (base := w.heap.size + 2) (e := 5) (size := 1) ((w.alloc (.cells #[.int .u32 (g : Int), .int .u32 (m : Int)] 28)).alloc (.cells #[.int .u32 0, .int .u32 0] 28)) #[] 0 (by simp) (by simp [maxLen]) rfl
  have hA3 : RB (((w.alloc (.cells #[.int .u32 (g : Int), .int .u32 (m : Int)] 28)).alloc (.cells #[.int .u32 0, .int .u32 0] 28)).alloc (.cells #[] 5)) A n l := HA.out.on (below_then (below_alloc w _) (below_then (below_alloc _ _) (below_alloc _ _)))
  have B3 := below_then (below_alloc w (.cells #[.int .u32 (g : Int), .int .u32 (m : Int)] 28)) (below_then (below_alloc _ (.cells #[.int .u32 0, .int .u32 0] 28)) (below_alloc _ (.cells #[] 5)))
  have hc0 : (((w.alloc (.cells #[.int .u32 (g : Int), .int .u32 (m : Int)] 28)).alloc (.cells #[.int .u32 0, .int .u32 0] 28)).alloc (.cells #[] 5)).heap[w.heap.size]? = some (.cells #[.int .u32 (g : Int), .int .u32 (m : Int)] 28) := by
    rw [heap_alloc_old _ _ (by simp; omega), heap_alloc_old _ _ (by simp), heap_alloc_last]
  have hc1 : (((w.alloc (.cells #[.int .u32 (g : Int), .int .u32 (m : Int)] 28)).alloc (.cells #[.int .u32 0, .int .u32 0] 28)).alloc (.cells #[] 5)).heap[w.heap.size + 1]? = some (.cells #[.int .u32 0, .int .u32 0] 28) := by
    rw [heap_alloc_old _ _ (by simp), show w.heap.size + 1 = (w.alloc (.cells #[.int .u32 (g : Int), .int .u32 (m : Int)] 28)).heap.size by simp, heap_alloc_last]
  have hsz : (((w.alloc (.cells #[.int .u32 (g : Int), .int .u32 (m : Int)] 28)).alloc (.cells #[.int .u32 0, .int .u32 0] 28)).alloc (.cells #[] 5)).heap.size = w.heap.size + 3 := by simp
  have W3' : (((w.alloc (.cells #[.int .u32 (g : Int), .int .u32 (m : Int)] 28)).alloc (.cells #[.int .u32 0, .int .u32 0] 28)).alloc (.cells #[] 5)).ownsRow (w.heap.size + 2) 5 1 (.slice (some ⟨w.heap.size + 1 + 1, 0, none⟩) 0 0) 0 [] := by simpa using W3
  generalize ((w.alloc (.cells #[.int .u32 (g : Int), .int .u32 (m : Int)] 28)).alloc (.cells #[.int .u32 0, .int .u32 0] 28)).alloc (.cells #[] 5) = V at *
  refine Calls.mono (laid_rb m _ hm) ?_
  rintro e w1 ⟨AL, n4, c4, rfl, hr1, hn4, hb1⟩
  have ho1 := own_on W3' hb1
  have hA1 := hA3.on hb1
  have B1 := below_then B3 hb1
  have HC0 := hide ((hb1.block w.heap.size (by omega)).trans hc0)
  have HC1 := hide ((hb1.block (w.heap.size + 1) (by omega)).trans hc1)
  have hs1 : w.heap.size + 3 ≤ w1.heap.size := by have := hb1.size; omega
  have B2 : Below (w.heap.size + 2) w1 w1 := Below.refl _ _
  clear hA3 B3 hb1 W3 W3'
  have HR1 := hide hr1
  have HO1 := hide ho1
  have HS1 := hide hs1
  have HN4 := hide hn4
  have HB1 := hide B1
  have HN := hide hn
  clear hc0 hc1 hA1 hr1 ho1 hs1 hn4 B1 B2 hsz
  go_wp2_with (at_builtin; first
    | (refine wpList_append_reads rfl (.tmp 6) (.tmp 9) _ rfl (w.heap.size + 2) 5 i0 (.int .u8 0) 1 1 Try.underlying40 hi hz0 hz1 hz2 rfl (by omega) (.slice (some ⟨w.heap.size + 1 + 1, 0, none⟩) 0 0) 0 [] rfl HO1.out w1.heap.size AL n4 c4 (bytes (Crc.laid m)) rfl HR1.out bytes_one (by have := HN4.out; unfold maxLen; omega) (by have := HN4.out; omega) (by have := HS1.out; omega) ?_; intro v2 w2 hown2 hg2 hat2; have B3 := hide (below_append HB1.out HO1.out (by omega) hg2); have HC := hide ((Below.refl (w.heap.size + 2) w1).grown hg2 (by have := HS1.out; omega) fun j hj => (HO1.out.lt j hj).1); have HO2 := hide hown2; have HS2 := hide hg2.size; clear hown2 hg2 hat2)
    | (refine wpList_append_reads rfl (.tmp 11) (.tmp 12) _ rfl (w.heap.size + 2) 5 i0 (.int .u8 0) 1 1 Try.underlying40 hi hz0 hz1 hz2 rfl (by omega) v2 (0 + n4) ([] ++ bytes (Crc.laid m)) rfl HO2.out w2.heap.size A n c (bytes l) rfl (HA.out.on B3.out) bytes_one (by have := HN4.out; have := HN.out; unfold maxLen; omega) (by have := HN4.out; have := HN.out; omega) (by have := HS1.out; have := HS2.out; omega) ?_; intro v3 w3 hown3 hg3 hat3; have B4 := hide (below_append B3.out HO2.out (by omega) hg3); have HC3 := hide (HC.out.grown hg3 (by have := HS1.out; have := HS2.out; omega) fun j hj => (HO2.out.lt j hj).1); have HO3 := hide hown3; have HS3 := hide hg3.size; clear hown3 hg3 hat3))
  obtain ⟨A3, c3, rfl, hc3, hm3, hr3⟩ := own_slice HO3.out
  have HR3 : Hid (RB w3 A3 (0 + n4 + n) (Crc.laid m ++ l)) := hide (by rw [RB, bytes_append]; rw [List.nil_append] at hr3; exact hr3)
  have h0 := (HC3.out.block w.heap.size (by omega)).trans HC0.out
  have H1 := hide ((HC3.out.block (w.heap.size + 1) (by omega)).trans HC1.out)
  have hc0 := cell_of_row _ _ 0 _ _ _ h0
  have hw : IntKind.u32.wrap ((g : Int) + 1) = ((g + 1 : Nat) : Int) := by have := HG.out; unfold IntKind.wrap; simp [IntKind.signed, IntKind.bits]; omega
  obtain ⟨g1, hg1⟩ : ∃ x, x = g + 1 := ⟨_, rfl⟩
  obtain ⟨r, hr⟩ : ∃ x, x = Crc.more 0 (nums (Crc.laid m ++ l)) := ⟨_, rfl⟩
  rw [← hg1] at hw
  have HG1 := hide hg1
  have HRR := hide hr
  clear hc3 hm3 hr3 h0 hg1 hr HC0 HC1 HO3 HO2 HC
  refine Dag.wp_region_facts 6 (Dag.list [Dag.Is (.pointer (some ⟨w.heap.size, 0, none⟩)), Dag.Is (.int .u32 (g : Int)), Dag.Is (.int .u32 (g1 : Int)), Dag.Is (.slice A3 (0 + n4 + n) c3), Dag.Is (.int .u32 (r : Int)), Dag.Is (.agg #[.int .u32 (g1 : Int), .int .u32 (r : Int)])]) (by kernel_rfl) (by kernel_rfl) (Dag.stable_list (by simp [Dag.Stable.is])) ?_ ?_
  · intro vs W hbW
    simp only [Dag.allOps, List.take_succ_cons, List.take_zero, Dag.fill, Act.put, List.setIfInBounds_toArray, List.set_cons_succ, List.set_cons_zero, Dag.deps, Region.binds, Dag.list, Dag.Is, List.getD_cons_zero, List.getD_cons_succ, and_true, forall_const, Nat.reduceAdd, Region.wanted, reduceIte]
    refine ⟨?_, ?_, ?_, ?_, ?_, ?_⟩
    · (try intro hd); go_simp; (first | done | exact ⟨Below.refl _ _, rfl⟩ | exact Below.refl _ _)
    · (try intro hd); have hz := keep_cell hbW hc0; go_simp; (first | done | exact ⟨Below.refl _ _, rfl⟩ | exact Below.refl _ _)
    · (try intro hd); have := hw; go_simp; (first | done | exact ⟨Below.refl _ _, rfl⟩ | exact Below.refl _ _)
    · (try intro hd); go_simp; (first | done | exact ⟨Below.refl _ _, rfl⟩ | exact Below.refl _ _)
    · (try intro hd); go_simp; refine Calls.mono (rMore_any 0 A3 _ c3 _ W (by omega) (by omega) (by have h := HR3.out.on hbW; rw [Nat.zero_add] at h; exact h) (by have := HN4.out; have := HN.out; omega)) ?_; rintro e w' ⟨rfl, rfl⟩; exact ⟨by rw [HRR.out]; rfl, Below.refl _ _⟩
    · (try intro hd); go_simp; (first | done | exact ⟨Below.refl _ _, rfl⟩ | exact Below.refl _ _)
  · intro vs W hbW hk
    simp only [Dag.known, Dag.list, Dag.Is, List.getD_cons_zero, List.getD_cons_succ, and_true] at hk
    obtain ⟨k0, k1, k2, k3, k4, k5⟩ := hk
    simp only [List.take_succ_cons, List.take_zero, List.drop_succ_cons, List.drop_zero, Dag.fill, Act.put, List.setIfInBounds_toArray, List.set_cons_succ, List.set_cons_zero, Nat.reduceAdd, k0, k1, k2, k3, k4, k5]
    clear k0 k1 k2 k3 k4 k5
    have h1 := (hbW.block (w.heap.size + 1) (by have := HS1.out; have := HS2.out; have := HS3.out; omega)).trans H1.out
    have c0 := cell_of_row _ _ 0 _ _ _ h1
    have c1 := cell_of_row _ _ 1 _ _ _ h1
    have f0 := frozen_of_row _ _ 0 _ _ h1
    have f1 := frozen_of_row _ _ 1 _ _ h1
    have HH1 := hide h1
    have HBW := hide (below_then B4.out hbW)
    clear h1 hbW
    go_wp2_with fail
    have q1 := heap_set (W.setCell ⟨w.heap.size + 1, 0, none⟩ (.int .u32 (g1 : Int))) (w.heap.size + 1) 1 _ _ _ (.int .u32 (r : Int)) (heap_set W (w.heap.size + 1) 0 _ _ _ (.int .u32 (g1 : Int)) HH1.out)
    have r0 := cell_of_row _ _ 0 _ _ _ q1
    have r1 := cell_of_row _ _ 1 _ _ _ q1
    have q3 := hide ((HBW.out.setCell (p := ⟨w.heap.size + 1, 0, none⟩) (by simp) (.int .u32 (g1 : Int))).setCell (p := ⟨w.heap.size + 1, 1, none⟩) (by simp) (.int .u32 (r : Int)))
    generalize (W.setCell ⟨w.heap.size + 1, 0, none⟩ (.int .u32 (g1 : Int))).setCell ⟨w.heap.size + 1, 1, none⟩ (.int .u32 (r : Int)) = V9 at *
    exact bodyPost_ret (v := .agg #[.int .u32 (g1 : Int), .int .u32 (r : Int)]) (by simp [results, Try.results20, go_sem, r0, r1]) rfl ⟨by rw [HG1.out, HRR.out], q3.out⟩
end Go.Proofs.Ytmkkbomkonociaa
