/- Walks of the reference's functions of the checksum. -/
import Derived.Test.YtmkkbomkonociaaDoorCrcTakes
import Derived.BigQuiet
namespace Go.Proofs.YtmkkbomkonociaaDoor
open Go.RowKit


theorem inner_step {s c k r : Nat} (h : r ^^^ c / 2 ^ k = Crc.bits k (s ^^^ c)) : Crc.bit (r ^^^ (c / 2 ^ k) % 2) ^^^ c / 2 ^ (k + 1) = Crc.bits (k + 1) (s ^^^ c) := by
  rw [Crc.bits_succ, ← h, Nat.pow_succ, ← Nat.div_div_eq_div_mul]
  generalize c / 2 ^ k = d
  have e : r ^^^ d = (r ^^^ d % 2) ^^^ (d - d % 2) := by
    have : d = d % 2 ^^^ (d - d % 2) := by
      apply Nat.eq_of_testBit_eq
      intro i
      rw [Nat.testBit_xor]
      cases i with
      | zero => simp only [Nat.testBit_zero]; rcases Nat.mod_two_eq_zero_or_one d with h | h <;> simp [h] <;> omega
      | succ i =>
        simp only [Nat.testBit_succ]
        rw [show d % 2 / 2 = 0 by omega, show (d - d % 2) / 2 = d / 2 by omega]
        simp
    rw [Nat.xor_assoc, ← this]
  have e2 : Crc.bit (d - d % 2) = d / 2 := by
    unfold Crc.bit
    rw [if_neg (by omega)]
    omega
  rw [e, Crc.bit_xor (r ^^^ d % 2) (d - d % 2), e2]

end Go.Proofs.YtmkkbomkonociaaDoor
