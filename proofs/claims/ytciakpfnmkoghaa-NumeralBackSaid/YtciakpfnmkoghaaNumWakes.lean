/- The walk of the law's own look whether the layer is there: wakes. -/
import Derived.Test.YtciakpfnmkoghaaNumRead
import Derived.Test.YtciakpfnmkoghaaNumSize
import Derived.Test.YtciakpfnmkoghaaFew
import Derived.Lib.SlBytesConst
namespace Go.Proofs.Ytciakpfnmkoghaa
open Go.RowKit

theorem read1 : Num.read [97, 45, 55, 98] 1 = (-7, 3, 0) := by decide +kernel
theorem read2 : Num.read [49, 46] 0 = (0, 2, 7) := by decide +kernel
theorem read3 : Num.read [120, 50, 69, 55] 1 = (0, 1, 130) := by decide +kernel
theorem read4 : Num.read [48, 49] 0 = (0, 1, 0) := by decide +kernel
theorem print120 : Num.print (-120) = [45, 49, 50, 48] := by
  show 45 :: Num.dig 120 = _
  rw [Num.dig_big (by omega), Num.dig_big (by omega), Num.dig_small (by omega)]; rfl
theorem print0 : Num.print 0 = [48] := by
  show Num.dig 0 = _
  rw [Num.dig_small (by omega)]; rfl
theorem str120 : str (Num.print (-120)) = ByteArray.mk #[45, 49, 50, 48] := by rw [print120]; rfl

set_option maxRecDepth 100000 in
theorem wakes_any (w : World) : Calls Try.prog 9 #[] w fun e w' => e = .returned (.bool true) ∧ Below w.heap.size w w' := by
  have kc := fun (W : World) (C : Array Value) (n c : Nat) => Lib.run_convert_bytes_const (P := Try.prog) W 32 5 C n c Try.underlying32 Try.underlying5
  go_enter Try.func9, Try.ntmps9
  go_wp2_with fail
  refine Calls.mono (read_any _ 4 _ [97, 45, 55, 98] _ _ (by exact RB.lit _ _ _ _ 4 rfl rfl) (by omega) (by omega) (by omega) (by omega)) ?_
  rintro e w1 ⟨rfl, hb1⟩
  rw [read1]
  have hb1' := below_then (below_alloc w _) hb1
  go_wp2_with fail
  refine Calls.mono (read_any _ 2 _ [49, 46] _ _ (by exact RB.lit _ _ _ _ 2 rfl rfl) (by omega) (by omega) (by omega) (by omega)) ?_
  rintro e w2 ⟨rfl, hb2⟩
  rw [read2]
  have hb2' := below_then hb1' (below_then (below_alloc w1 _) hb2)
  go_wp2_with fail
  refine Calls.mono (read_any _ 4 _ [120, 50, 69, 55] _ _ (by exact RB.lit _ _ _ _ 4 rfl rfl) (by omega) (by omega) (by omega) (by omega)) ?_
  rintro e w3 ⟨rfl, hb3⟩
  rw [read3]
  have hb3' := below_then hb2' (below_then (below_alloc w2 _) hb3)
  go_wp2_with fail
  refine Calls.mono (read_any _ 2 _ [48, 49] _ _ (by exact RB.lit _ _ _ _ 2 rfl rfl) (by omega) (by omega) (by omega) (by omega)) ?_
  rintro e w4 ⟨rfl, hb4⟩
  rw [read4]
  have hb4' := below_then hb3' (below_then (below_alloc w3 _) hb4)
  clear hb1 hb2 hb3 hb4 hb1' hb2' hb3'
  go_wp2_with fail
  refine Calls.mono (print_any (-120) _ (by omega) (by omega)) ?_
  rintro e w5 ⟨rfl, hb5⟩
  rw [str120]
  go_wp2_with fail
  refine Calls.mono (size_any 0 _ (by omega) (by omega)) ?_
  rintro e w6 ⟨rfl, hb6⟩
  rw [print0]
  go_wp2_with fail
  go_ret
  exact ⟨rfl, below_then (below_then hb4' hb5) hb6⟩
end Go.Proofs.Ytciakpfnmkoghaa
