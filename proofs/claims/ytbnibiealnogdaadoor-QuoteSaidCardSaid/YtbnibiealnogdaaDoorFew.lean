/- Walks of the law's own helper: few. -/
import Derived.Test.YtbnibiealnogdaaDoorSlices
namespace Go.Proofs.YtbnibiealnogdaaDoor
open Go.RowKit

/-- how many bytes are of interest -/
def FEW : Nat := 400
theorem few_any (A : Option Addr) (n c : Nat) (l : List UInt8) (w : World) (hA : RB w A n l) (hnc : n ≤ c) (hn : n ≤ 9223372036854775807) :
    Calls Tryd.prog 15 #[.slice A n c] w fun e w' => ∃ v, e = .returned v ∧ w'.ownsRow w.heap.size 5 1 v (min n FEW) (bytes (l.take FEW)) ∧ Below w.heap.size w w' := by
  have hl := hA.len
  by_cases h : n ≤ 400
  · have hm : min n FEW = n := by unfold FEW; omega
    have HT := hide (show l.take FEW = l from List.take_of_length_le (by unfold FEW; omega))
    have HM := hide hm
    have HR := hide hA
    clear hl hm
    go_enter Tryd.func15, Tryd.ntmps15
    go_wp2_with (go_at_call 35; refine (clone_any _ _ _ _ _ HR.out (by omega)).mono ?_; rintro e w1 ⟨v, rfl, ho, hb⟩)
    go_ret
    exact ⟨v, rfl, by rw [HM.out, HT.out]; exact ho, hb⟩
  · have hm : min n FEW = 400 := by unfold FEW; omega
    have HM := hide hm
    have HR := hide (hA.take 400 (by omega))
    clear hl hm
    go_enter Tryd.func15, Tryd.ntmps15
    go_wp2_with (go_at_call 35; refine (clone_any _ _ _ _ _ HR.out (by omega)).mono ?_; rintro e w1 ⟨v, rfl, ho, hb⟩)
    go_ret
    exact ⟨v, rfl, by rw [HM.out]; exact ho, hb⟩
theorem few_rb (A : Option Addr) (n c : Nat) (l : List UInt8) (w : World) (hA : RB w A n l) (hnc : n ≤ c) (hn : c ≤ maxLen) :
    Calls Tryd.prog 15 #[.slice A n c] w fun e w' => ∃ A' n' c', e = .returned (.slice A' n' c') ∧ RB w' A' n' (l.take FEW) ∧ n' ≤ 400 ∧ n' ≤ c' ∧ c' ≤ maxLen ∧ Below w.heap.size w w' := by
  have hm : min n FEW ≤ 400 := Nat.min_le_right _ _
  refine (few_any A n c l w hA hnc (by unfold maxLen at hn; omega)).mono fun e w' ⟨v, he, ho, hb⟩ => ?_
  obtain ⟨A', c', rfl, hc, hcm, hr⟩ := own_slice ho
  exact ⟨A', _, c', he, hr, hm, hc, hcm, hb⟩
end Go.Proofs.YtbnibiealnogdaaDoor
