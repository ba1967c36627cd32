/- A slice of a slice of bytes, as the walks of this seat use it. -/
import Derived.Test.YtbnibiealnogdaaDoorSlices
namespace Go.Proofs.YtbnibiealnogdaaDoor
open Go.RowKit

theorem RB.cut {w : World} {A : Option Addr} {n c : Nat} {l : List UInt8} (h : RB w A n l) {lo hi : Nat} (h1 : lo ≤ hi) (h2 : hi ≤ n) (hc : n ≤ c) :
    RB w (if c = lo then A else A.map (·.add lo)) (hi - lo) ((l.drop lo).take (hi - lo)) :=
  (h.drop (k := lo) (cap := c) (by omega) hc).take (hi - lo) (by omega)
theorem under_elem : Tryd.prog.underlying 29 = some (.slice (Tryd.prog.elem 29)) := by kernel_rfl
theorem size_elem (W : World) : (sizeOf (Tryd.prog.elem 29)).run Tryd.prog W = .ok 1 W := by go_simp
theorem run_cut {A : Option Addr} {n c lo hi : Nat} (h1 : lo ≤ hi) (h2 : hi ≤ n) (hc : n ≤ c) (W : World) :
    (Instr.sliceAt 29 (.slice A n c) (some (.int .i64 (lo : Int))) (some (.int .i64 (hi : Int))) none).run Tryd.prog W = .ok (.slice (if c = lo then A else A.map (·.add lo)) (hi - lo) (c - lo)) W := by
  rw [run_sliceAt_slice (P := Tryd.prog) (w := W) 29 _ _ _ _ under_elem, run_slice_lh (P := Tryd.prog) (w := W) 29 A n c under_elem _ _ _ _ (by omega) (by omega) (by omega), size_elem]
  show Result.ok (Go.sliced _ _ _ _ _) W = _
  unfold Go.sliced
  rw [Int.toNat_natCast, Int.toNat_natCast, Nat.mul_one]
theorem cut_any {A : Option Addr} {n c : Nat} {l : List UInt8} {lo hi : Nat} {w : World} (h : RB w A n l) (h1 : lo ≤ hi) (h2 : hi ≤ n) (hc : n ≤ c) :
    ∃ A', (∀ W : World, (Instr.sliceAt 29 (.slice A n c) (some (.int .i64 (lo : Int))) (some (.int .i64 (hi : Int))) none).run Tryd.prog W = .ok (.slice A' (hi - lo) (c - lo)) W) ∧ RB w A' (hi - lo) ((l.drop lo).take (hi - lo)) :=
  ⟨_, run_cut h1 h2 hc, h.cut h1 h2 hc⟩
end Go.Proofs.YtbnibiealnogdaaDoor
