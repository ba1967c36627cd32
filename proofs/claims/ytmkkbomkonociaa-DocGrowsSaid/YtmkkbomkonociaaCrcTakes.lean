/- Walks of the checksum's leaf functions: a byte, a bit. -/
import Derived.Test.YtmkkbomkonociaaProg
import Derived.Test.YtmkkbomkonociaaCrcMath
import Derived.Test.YtmkkbomkonociaaKit
import Derived.WalkKit
import Derived.Outline
import Derived.WalkSpells
import Derived.WalkLawsBesides
import Derived.Lib.Hide
import Derived.Laws.BitsAllLaws
namespace Go.Proofs.Ytmkkbomkonociaa
open Go.RowKit

theorem low_u32 (x : Nat) (hx : x < 4294967296) : Go.bits .and .u32 (x : Int) 1 = ((x % 2 : Nat) : Int) := by
  rw [show (1 : Int) = ((1 : Nat) : Int) from rfl, u32_and_nat x 1 hx (by omega), nat_mask1]
theorem ret_u32 {a b : Int} (h : a = b) : Ending.returned (.int .u32 a) = .returned (.int .u32 b) := by rw [h]
theorem bit_odd {t : Nat} (ht : t < 4294967296) (h : t % 2 = 1) : Go.bits .xor .u32 ((t : Int) / 2) 2197175160 = (Crc.bit t : Int) := by
  rw [show (t : Int) / 2 = ((t / 2 : Nat) : Int) by omega, show (2197175160 : Int) = ((2197175160 : Nat) : Int) from rfl, u32_xor_nat _ _ (by omega) (by omega), Crc.bit, if_pos h]
theorem bit_even {t : Nat} (h : ¬ t % 2 = 1) : (t : Int) / 2 = (Crc.bit t : Int) := by
  rw [Crc.bit, if_neg h]; omega

theorem takes_any (s c b : Nat) (w : World) (hs : s < 4294967296) (hc : c < 256) (hcell : w.cell? ⟨b, 0, none⟩ = some (.int .u32 s)) (hf : w.frozen? ⟨b, 0, none⟩ = false) :
    Calls Try.prog 44 #[.pointer (some ⟨b, 0, none⟩), .int .u8 c] w fun e w' => e = .returned (.tuple #[]) ∧ w.setCell ⟨b, 0, none⟩ (.int .u32 (Crc.byte s c)) = w' := by
  have hx := u32_xor_nat s c hs (by omega)
  go_enter Try.func44, Try.ntmps44
  go_wp2
  go_loopw [16] (fun i wr => ∃ k : Nat, k ≤ 8 ∧ i = .int .i64 k ∧ wr = w.setCell ⟨b, 0, none⟩ (.int .u32 (Crc.bits k (s ^^^ c)))) (fun i _ => 8 - (intOf i).toNat)
  case atStart => exact ⟨0, by omega, rfl, rfl⟩
  case round =>
    obtain ⟨k, hk, rfl, rfl⟩ := hrel
    have hlt : Crc.bits k (s ^^^ c) < 4294967296 := Crc.bits_lt k (Crc.xor_lt hs (by omega))
    have hsucc := Crc.bits_succ k (s ^^^ c)
    have HS := hide hsucc
    clear hsucc hx
    by_cases h8 : k < 8
    · generalize Crc.bits k (s ^^^ c) = t at *
      have h1 := low_u32 t hlt
      by_cases ht : t % 2 = 1
      · have hb := bit_odd hlt ht
        go_wp2
        go_roundw
        case rel => exact ⟨k + 1, by omega, by go_num, by rw [HS.out, setCell_twice, setCell_twice]⟩
        case measure => simp [intOf]; omega
      · have hb := bit_even ht
        go_wp2
        go_roundw
        case rel => exact ⟨k + 1, by omega, by go_num, by rw [HS.out, setCell_twice]⟩
        case measure => simp [intOf]; omega
    · obtain rfl : k = 8 := by omega
      go_wp2
      go_end0
      exact ⟨rfl, rfl⟩

theorem ref_odd {s x : Nat} (hs : s < 4294967296) (hx : x < 2) (h : ¬ s % 2 = x) : Go.bits .xor .u32 ((s : Int) / 2) 2197175160 = (Crc.bit (s ^^^ x) : Int) := by
  have h2 : (s ^^^ x) / 2 = s / 2 := by rw [Nat.xor_div_two, show x / 2 = 0 by omega, Nat.xor_zero]
  have h1 : (s ^^^ x) % 2 = 1 := by have := @Nat.xor_mod_two_eq_one s x; omega
  rw [show (s : Int) / 2 = ((s / 2 : Nat) : Int) by omega, show (2197175160 : Int) = ((2197175160 : Nat) : Int) from rfl, u32_xor_nat _ _ (by omega) (by omega), Crc.bit, if_pos h1, h2]
theorem ref_even {s x : Nat} (hx : x < 2) (h : s % 2 = x) : (s : Int) / 2 = (Crc.bit (s ^^^ x) : Int) := by
  have h2 : (s ^^^ x) / 2 = s / 2 := by rw [Nat.xor_div_two, show x / 2 = 0 by omega, Nat.xor_zero]
  have h1 : ¬ (s ^^^ x) % 2 = 1 := by have := @Nat.xor_mod_two_eq_one s x; omega
  rw [Crc.bit, if_neg h1, h2]; omega

theorem bit_any (s x : Int) (w : World) (h0 : 0 ≤ s) (hs : s < 4294967296) (h1 : 0 ≤ x) (hx : x < 2) :
    Calls Try.prog 46 #[.int .u32 s, .int .u32 x] w fun e w' => e = .returned (.int .u32 (Crc.bit (s.toNat ^^^ x.toNat) : Nat)) ∧ w = w' := by
  obtain ⟨s, rfl⟩ := Int.eq_ofNat_of_zero_le h0
  obtain ⟨x, rfl⟩ := Int.eq_ofNat_of_zero_le h1
  by_cases h : s % 2 = x
  · have hb := ref_even (by omega) h
    have ht : ((s : Int) % 2 != (x : Int)) = false := by rw [bne_eq_false_iff_eq]; omega
    have H := hide h
    have HB := hide hb
    clear h hb
    go_enter Try.func46, Try.ntmps46
    go_wp2
    go_ret
    exact ⟨ret_u32 HB.out, rfl⟩
  · have hb := ref_odd (by omega) (by omega) h
    have ht : ((s : Int) % 2 != (x : Int)) = true := by rw [bne_iff_ne]; omega
    have HB := hide hb
    clear hb
    go_enter Try.func46, Try.ntmps46
    go_wp2
    go_ret
    exact ⟨ret_u32 HB.out, rfl⟩
end Go.Proofs.Ytmkkbomkonociaa
