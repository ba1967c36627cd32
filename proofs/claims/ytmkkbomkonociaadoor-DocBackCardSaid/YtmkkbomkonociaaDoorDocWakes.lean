/- The walk of the law's own look whether the layer is there: wakes. -/
import Derived.Test.YtmkkbomkonociaaDoorDocNum
import Derived.Test.YtmkkbomkonociaaDoorDocId
import Derived.Test.YtmkkbomkonociaaDoorFew
namespace Go.Proofs.YtmkkbomkonociaaDoor
open Go.RowKit

theorem wtext : revText 3 171 = [51, 45, 48, 48, 48, 48, 48, 48, 97, 98] := by
  unfold revText
  rw [if_neg (by omega), Num.dig_small (by omega)]
  decide
theorem wparsed : parsed [51, 45, 48, 48, 48, 48, 48, 48, 97, 98] = some (3, 171) := by
  unfold parsed
  rw [show scan [51, 45, 48, 48, 48, 48, 48, 48, 97, 98] 0 0 false = (3, 171) by decide +kernel]
  exact if_pos ⟨rfl, wtext⟩
theorem wparsed0 : parsed [48, 51, 45, 48, 48, 48, 48, 48, 48, 97, 98] = none := by
  unfold parsed
  rw [show scan [48, 51, 45, 48, 48, 48, 48, 48, 48, 97, 98] 0 0 false = (3, 171) by decide +kernel]
  refine if_neg fun h => ?_
  have := h.2
  rw [show 3 % 4294967296 = 3 from rfl, wtext] at this
  revert this; decide
def winf : Inf := ⟨1, 2, 3, false, 4⟩
theorem wmay : mayB winf = true := by decide
theorem wdec : decoded (infBytes winf) = (winf, 0) := by kernel_rfl
theorem wok : winf.Ok := ⟨by decide, by decide, by decide, by decide, by decide⟩
theorem wstr : str (revText 3 171) = ByteArray.mk #[51, 45, 48, 48, 48, 48, 48, 48, 97, 98] := by rw [wtext]; rfl

set_option maxRecDepth 100000 in
set_option maxHeartbeats 4000000 in
theorem wakes_any (w : World) : Calls Tryd.prog 4 #[] w fun e w' => e = .returned (.bool true) ∧ Below w.heap.size w w' := by
  go_enter Tryd.func4, Tryd.ntmps4
  go_wp2_with fail
  refine Calls.mono (revtext_any 3 171 _ (by omega) (by omega)) ?_
  rintro e w1 ⟨rfl, hb1⟩
  rw [wstr, show revErr 3 171 = 0 from rfl]
  go_wp2_with fail
  refine Calls.mono (parserev_any _ _ (by decide)) ?_
  rintro e w2 ⟨hb2, rfl⟩
  rw [show parsed (ByteArray.mk #[51, 45, 48, 48, 48, 48, 48, 48, 97, 98]).data.toList = some (3, 171) from wparsed]
  dsimp only
  go_wp2_with fail
  refine Calls.mono (parserev_any _ _ (by decide)) ?_
  rintro e w3 ⟨hb3, rfl⟩
  rw [show parsed (ByteArray.mk #[48, 51, 45, 48, 48, 48, 48, 48, 48, 97, 98]).data.toList = none from wparsed0]
  dsimp only
  have h3 := hide ((hb3.block w2.heap.size (by simp)).trans (heap_alloc_last w2 _))
  have B3 := hide (below_then (below_then hb1 hb2) (below_then (below_alloc w2 _) hb3))
  have S3 := hide (show w2.heap.size < w3.heap.size by have := hb3.size; simp at this; omega)
  clear hb1 hb2 hb3
  go_wp2_with fail
  refine Calls.mono (next_any 0 0 none 0 0 [] _ (by omega) (by omega) (RB.empty _ _) (by omega)) ?_
  rintro e w4 ⟨hb4, rfl⟩
  rw [show nextRev 0 0 [] = (1, Crc.more 0 (nums (Crc.laid 0 ++ [])), 0) from rfl]
  dsimp only
  have h4 := hide ((hb4.block w2.heap.size (by simp; have := S3.out; omega)).trans ((heap_alloc_old w3 _ S3.out).trans h3.out))
  have B4 := hide (below_then B3.out (below_then (below_alloc w3 _) hb4))
  have S4 := hide (show w2.heap.size < w4.heap.size by have := S3.out; have := hb4.size; simp at this; omega)
  clear hb4 h3 B3 S3
  generalize Crc.more 0 (nums (Crc.laid 0 ++ [])) = M
  go_wp2_with fail
  refine Calls.mono (encode_any winf wok _) ?_
  rintro e w5 ⟨hb5, he⟩
  rw [if_pos wmay] at he
  obtain ⟨A, c, rfl, hc, hm, hr⟩ := he
  have h5 := hide ((hb5.block w2.heap.size (by simp; have := S4.out; omega)).trans ((heap_alloc_old _ _ (by simp; have := S4.out; omega)).trans ((heap_alloc_old w4 _ S4.out).trans h4.out)))
  have h7 := hide ((hb5.block w4.heap.size (by simp; omega)).trans ((heap_alloc_old _ _ (by simp)).trans (heap_alloc_last w4 _)))
  have h9 : Hid (w5.heap[w4.heap.size + 1]? = some (.cells #[.int .u32 1, .int .u32 2, .int .u64 3, .bool false, .int .i64 4] 36)) := hide ((hb5.block (w4.heap.size + 1) (by simp)).trans (by rw [show w4.heap.size + 1 = (w4.alloc (.cells #[.int .u32 1, .int .u32 (M : Int)] 24)).heap.size by simp]; exact heap_alloc_last _ _))
  have B5 := hide (below_then B4.out (below_then (below_alloc w4 _) (below_then (below_alloc _ _) hb5)))
  have S5 := hide (show w2.heap.size < w5.heap.size ∧ w4.heap.size + 1 < w5.heap.size by have := S4.out; have := hb5.size; simp at this; omega)
  clear hb5 h4 B4 S4
  go_wp2_with fail
  refine Calls.mono (decode_any A 21 c _ _ hr hc (by omega)) ?_
  rintro e w6 ⟨hb6, rfl⟩
  rw [wdec]
  have h5 := hide ((hb6.block w2.heap.size S5.out.1).trans h5.out)
  have h7 := hide ((hb6.block w4.heap.size (by have := S5.out.2; omega)).trans h7.out)
  have h9 := hide ((hb6.block (w4.heap.size + 1) S5.out.2).trans h9.out)
  have B6 := hide (below_then B5.out hb6)
  have S6 := hide (show w2.heap.size < w6.heap.size ∧ w4.heap.size + 1 < w6.heap.size by have := S5.out; have := hb6.size; omega)
  clear hb6 B5 S5 hr hm
  unfold winf Inf.cells
  dsimp only
  go_wp2_with fail
  have h5 := hide ((heap_alloc_old w6 (.cells #[.int .u32 1, .int .u32 2, .int .u64 3, .bool false, .int .i64 4] 36) S6.out.1).trans h5.out)
  have h7 := hide ((heap_alloc_old w6 (.cells #[.int .u32 1, .int .u32 2, .int .u64 3, .bool false, .int .i64 4] 36) (by have := S6.out.2; omega)).trans h7.out)
  have h9 := hide ((heap_alloc_old w6 (.cells #[.int .u32 1, .int .u32 2, .int .u64 3, .bool false, .int .i64 4] 36) S6.out.2).trans h9.out)
  have h12 := heap_alloc_last w6 (.cells #[.int .u32 1, .int .u32 2, .int .u64 3, .bool false, .int .i64 4] 36)
  have B7 := hide (below_then B6.out (below_alloc w6 (.cells #[.int .u32 1, .int .u32 2, .int .u64 3, .bool false, .int .i64 4] 36)))
  clear B6 S6
  generalize w6.alloc (.cells #[.int .u32 1, .int .u32 2, .int .u64 3, .bool false, .int .i64 4] 36) = V at *
  have a0 := cell_of_row _ _ 0 _ _ _ h5.out
  have a1 := cell_of_row _ _ 1 _ _ _ h5.out
  have b0 := cell_of_row _ _ 0 _ _ _ h7.out
  have c0 := cell_of_row _ _ 0 _ _ _ h9.out
  have c1 := cell_of_row _ _ 1 _ _ _ h9.out
  have c2 := cell_of_row _ _ 2 _ _ _ h9.out
  have c3 := cell_of_row _ _ 3 _ _ _ h9.out
  have c4 := cell_of_row _ _ 4 _ _ _ h9.out
  have d0 := cell_of_row _ _ 0 _ _ _ h12
  have d1 := cell_of_row _ _ 1 _ _ _ h12
  have d2 := cell_of_row _ _ 2 _ _ _ h12
  have d3 := cell_of_row _ _ 3 _ _ _ h12
  have d4 := cell_of_row _ _ 4 _ _ _ h12
  refine Calls.mono (check_any _ _ (by decide)) ?_
  rintro e w7 ⟨rfl, rfl⟩
  rw [show idErr (ByteArray.mk #[97, 45, 49]).data.toList = 0 from by decide]
  go_wp2_with fail
  refine Calls.mono (check_any _ _ (by decide)) ?_
  rintro e w8 ⟨rfl, rfl⟩
  rw [show idErr (ByteArray.mk #[65]).data.toList = 290 from by decide]
  go_wp2_with fail
  go_ret
  exact ⟨rfl, B7.out⟩

end Go.Proofs.YtmkkbomkonociaaDoor
