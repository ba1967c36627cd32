/- The reading of a revision's text in plain Lean, and the walk of doc's digit. -/
import Derived.Test.YtmkkbomkonociaaDoorDocRev
namespace Go.Proofs.YtmkkbomkonociaaDoor
open Go.RowKit

/-- the number of a digit; 16: it is none -/
def digitN (c : Int) : Nat := if 48 ≤ c ∧ c ≤ 57 then (c - 48).toNat else if 97 ≤ c ∧ c ≤ 102 then (c - 87).toNat else 16
theorem hexd_digit {n : Nat} (h : n < 16) : digitN ((hexd n).toNat : Int) = n := by
  have : ∀ k : Fin 16, digitN ((hexd k.val).toNat : Int) = k.val := by decide
  exact this ⟨n, h⟩
theorem digit_hexd {c : Int} (h : digitN c < 16) : ((hexd (digitN c)).toNat : Int) = c := by
  have hx : ∀ k : Fin 16, ((hexd k.val).toNat : Int) = if k.val < 10 then 48 + (k.val : Int) else 87 + (k.val : Int) := by decide
  have h1 := hx ⟨digitN c, h⟩
  rw [show (hexd (digitN c)).toNat = (hexd (Fin.mk (digitN c) h).val).toNat from rfl, h1]
  unfold digitN at h ⊢
  split at h
  · rename_i hc
    simp only [hc, and_self, ite_true]
    rw [if_pos (by omega)]; omega
  · split at h
    · rename_i h2 hc
      simp only [h2, hc, and_self, ite_false, ite_true]
      rw [if_neg (by omega)]; omega
    · omega

theorem byte_wrap32 (b : UInt8) : wrap32 (b.toNat : Int) = (b.toNat : Int) := by
  have := b.toNat_lt
  unfold wrap32; omega
theorem digit_any (c : Int) (w : World) (h0 : -2147483648 ≤ c) (h1 : c ≤ 2147483647) :
    Calls Tryd.prog 13 #[.int .i32 c] w fun e w' => e = .returned (.int .u32 (digitN c : Nat)) ∧ w' = w := by
  have HC := hide (And.intro h0 h1)
  clear h0 h1
  go_enter Tryd.func13, Tryd.ntmps13
  go_wp2
  go_loop [4] (fun i => ∃ j : Nat, j ≤ 16 ∧ i = .int .i64 j ∧ Hid (digitN c = 16 ∨ j ≤ digitN c)) (fun i => 16 - (intOf i).toNat)
  case atStart => exact ⟨0, by omega, rfl, hide (Or.inr (Nat.zero_le _))⟩
  case round =>
    obtain ⟨j, hj, rfl, hd⟩ := hrel
    by_cases hlt : j < 16
    · have hlt2 : j < (ByteArray.mk #[48, 49, 50, 51, 52, 53, 54, 55, 56, 57, 97, 98, 99, 100, 101, 102]).size := hlt
      have hx := hex_at j hlt hlt2
      have hj0 : (0 : Int) ≤ (j : Int) := by omega
      have hj1 : (j : Int) < 16 := by omega
      by_cases hc : ((hexd j).toNat : Int) = c
      · have HR := hide (show digitN c = j by rw [← hc]; exact hexd_digit hlt)
        have ht : (wrap32 (((ByteArray.mk #[48, 49, 50, 51, 52, 53, 54, 55, 56, 57, 97, 98, 99, 100, 101, 102])[j]'hlt2).toNat : Int) == c) = true := by rw [byte_wrap32, hx, hc]; simp
        clear hx hc
        go_wp2_with fail
        go_ret
        exact ⟨by rw [HR.out]; rfl, rfl⟩
      · have HR := hide (show digitN c = 16 ∨ j + 1 ≤ digitN c by
          rcases hd.out with h | h
          · exact Or.inl h
          · by_cases he : digitN c = j
            · exact absurd (by rw [← he]; exact digit_hexd (by omega)) hc
            · right; omega)
        have ht : (wrap32 (((ByteArray.mk #[48, 49, 50, 51, 52, 53, 54, 55, 56, 57, 97, 98, 99, 100, 101, 102])[j]'hlt2).toNat : Int) == c) = false := by rw [byte_wrap32, hx, beq_eq_false_iff_ne]; exact hc
        clear hx hc
        go_wp2_with fail
        go_round
        case rel => exact ⟨j + 1, by omega, by go_num, HR⟩
        case measure => simp [intOf]; omega
    · obtain rfl : j = 16 := by omega
      have HR := hide (show digitN c = 16 by
        rcases hd.out with h | h
        · exact h
        · unfold digitN at h ⊢
          split
          · rename_i hc; rw [if_pos hc] at h; omega
          · rename_i hc; rw [if_neg hc] at h
            split
            · rename_i hc; rw [if_pos hc] at h; omega
            · rfl)
      go_wp2_with fail
      go_ret
      exact ⟨by rw [HR.out]; rfl, rfl⟩

/-- what is read of a text: the two numbers -/
def scan : List UInt8 → Nat → Nat → Bool → Nat × Nat
  | [], g, m, _ => (g, m)
  | c :: l, g, m, true => if digitN (c.toNat : Int) < 16 then scan l g (m * 16 % 4294967296 + digitN (c.toNat : Int)) true else (g, m)
  | c :: l, g, m, false =>
    if digitN (c.toNat : Int) < 10 then
      (if 4294967295 < 10 * g + digitN (c.toNat : Int) then (10 * g + digitN (c.toNat : Int), m) else scan l (10 * g + digitN (c.toNat : Int)) m false)
    else if c.toNat = 45 then scan l g m true else (g, m)
end Go.Proofs.YtmkkbomkonociaaDoor
