/- The ids in plain Lean, and the walks of doc's plain, Check and of the reference's Id. -/
import Derived.Test.YtmkkbomkonociaaDoorSlices
namespace Go.Proofs.YtmkkbomkonociaaDoor
open Go.RowKit

def plainB (c : UInt8) : Bool := (decide (97 ≤ c.toNat) && decide (c.toNat ≤ 122)) || (decide (48 ≤ c.toNat) && decide (c.toNat ≤ 57)) || decide (c.toNat = 45)
def isId (l : List UInt8) : Bool := decide (1 ≤ l.length) && decide (l.length ≤ 24) && l.all plainB
def idErr (l : List UInt8) : Int := if isId l then 0 else 290

theorem plain_any (c : UInt8) (w : World) : Calls Tryd.prog 25 #[.int .u8 (c.toNat : Int)] w fun e w' => e = .returned (.bool (plainB c)) ∧ w' = w := by
  obtain ⟨x, hx⟩ : ∃ x, c.toNat = x := ⟨_, rfl⟩
  rw [hx]
  have HX := hide hx
  clear hx
  go_enter Tryd.func25, Tryd.ntmps25
  go_wp2
  all_goals
    go_ret
    refine ⟨ret_bool ?_, rfl⟩
    unfold plainB
    rw [HX.out]
    clear HX
    first
    | (simp; done)
    | (simp; omega)
    | (rw [Bool.eq_iff_iff]; simp; omega)
theorem all_take_succ (s : ByteArray) (j : Nat) (h : j < s.size) : (s.data.toList.take (j + 1)).all plainB = ((s.data.toList.take j).all plainB && plainB s[j]) := by
  rw [List.take_succ_eq_append_getElem (by simpa using h), List.all_append]
  simp only [List.all_cons, List.all_nil, Bool.and_true]; rfl
theorem plain_at (c : UInt8) (b : Bool) (hb : plainB c = b) (w : World) : Calls Tryd.prog 25 #[.int .u8 (c.toNat : Int)] w fun e w' => e = .returned (.bool b) ∧ w' = w := by
  rw [← hb]; exact plain_any c w

theorem check_any (s : ByteArray) (w : World) (hs : s.size ≤ 1048576) : Calls Tryd.prog 11 #[.string s] w fun e w' => e = .returned (.int .i64 (idErr s.data.toList)) ∧ w' = w := by
  by_cases h0 : s.size < 1
  · have HI := hide (show idErr s.data.toList = 290 by
      unfold idErr isId
      rw [if_neg]
      rw [show s.data.toList.length = s.size from rfl]
      simp only [Bool.and_eq_true, decide_eq_true_eq]
      omega)
    go_enter Tryd.func11, Tryd.ntmps11
    go_wp2
    go_loop [4, 16] (fun b i => ∃ j : Nat, j ≤ s.size ∧ i = .int .i64 j ∧ b = .bool false) (fun _ i => s.size - (intOf i).toNat)
    case atStart => exact ⟨0, Nat.zero_le _, rfl, by first | rfl | (simp; omega)⟩
    case round =>
      obtain ⟨j, hj, rfl, rfl⟩ := hrel
      by_cases hlt : j < s.size
      · go_wp2_with fail
        go_round
        case rel => exact ⟨j + 1, by omega, by go_num, rfl⟩
        case measure => simp [intOf]; omega
      · obtain rfl : j = s.size := by omega
        go_wp2_with fail
        go_ret
        exact ⟨by rw [HI.out]; rfl, rfl⟩
  by_cases h24 : 24 < s.size
  · have HI := hide (show idErr s.data.toList = 290 by
      unfold idErr isId
      rw [if_neg]
      rw [show s.data.toList.length = s.size from rfl]
      simp only [Bool.and_eq_true, decide_eq_true_eq]
      omega)
    go_enter Tryd.func11, Tryd.ntmps11
    go_wp2
    go_loop [4, 16] (fun b i => ∃ j : Nat, j ≤ s.size ∧ i = .int .i64 j ∧ b = .bool false) (fun _ i => s.size - (intOf i).toNat)
    case atStart => exact ⟨0, Nat.zero_le _, rfl, by first | rfl | (simp; omega)⟩
    case round =>
      obtain ⟨j, hj, rfl, rfl⟩ := hrel
      by_cases hlt : j < s.size
      · go_wp2_with fail
        go_round
        case rel => exact ⟨j + 1, by omega, by go_num, rfl⟩
        case measure => simp [intOf]; omega
      · obtain rfl : j = s.size := by omega
        go_wp2_with fail
        go_ret
        exact ⟨by rw [HI.out]; rfl, rfl⟩
  have HI := hide (show idErr s.data.toList = if s.data.toList.all plainB then 0 else 290 by
    unfold idErr isId
    rw [show s.data.toList.length = s.size from rfl, decide_eq_true (show 1 ≤ s.size by omega), decide_eq_true (show s.size ≤ 24 by omega)]; rfl)
  have g1 : 1 ≤ s.size := by omega
  have g2 : s.size ≤ 24 := by omega
  clear h0 h24
  go_enter Tryd.func11, Tryd.ntmps11
  go_wp2
  go_loop [4, 16] (fun b i => ∃ j : Nat, j ≤ s.size ∧ i = .int .i64 j ∧ b = .bool ((s.data.toList.take j).all plainB)) (fun _ i => s.size - (intOf i).toNat)
  case atStart => exact ⟨0, Nat.zero_le _, rfl, by first | rfl | (simp; omega)⟩
  case round =>
    obtain ⟨j, hj, rfl, rfl⟩ := hrel
    by_cases hlt : j < s.size
    · have HT := hide (all_take_succ s j hlt)
      have hj0 : (0 : Int) ≤ (j : Int) := by omega
      have hj1 : (j : Int) < (s.size : Int) := by omega
      cases hb : (s.data.toList.take j).all plainB with
      | false =>
        rw [hb] at HT
        have HT2 := hide (HT.out.trans (Bool.false_and _))
        clear HT hb
        go_wp2_with fail
        go_round
        case rel => exact ⟨j + 1, by omega, by go_num, by rw [HT2.out]⟩
        case measure => simp [intOf]; omega
      | true =>
        rw [hb] at HT
        have HT2 := hide (HT.out.trans (Bool.true_and _))
        clear HT hb
        have HC := hide (plain_any s[j])
        go_wp2_with (go_at_call 25; refine (HC.out _).mono ?_; rintro e w' ⟨rfl, rfl⟩)
        go_round
        case rel => exact ⟨j + 1, by omega, by go_num, by rw [HT2.out]⟩
        case measure => simp [intOf]; omega
    · obtain rfl : j = s.size := by omega
      rw [List.take_of_length_le (by simp)]
      cases hb : s.data.toList.all plainB with
      | false =>
        rw [hb] at HI
        go_wp2_with fail
        go_ret
        exact ⟨by rw [HI.out]; rfl, rfl⟩
      | true =>
        rw [hb] at HI
        go_wp2_with fail
        go_ret
        exact ⟨by rw [HI.out]; rfl, rfl⟩

end Go.Proofs.YtmkkbomkonociaaDoor
