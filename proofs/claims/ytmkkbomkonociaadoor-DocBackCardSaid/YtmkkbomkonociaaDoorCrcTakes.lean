/- Walks of the checksum's leaf functions: a byte, a bit. -/
import Derived.Test.YtmkkbomkonociaaDoorProg
import Derived.Test.YtmkkbomkonociaaDoorCrcMath
import Derived.Test.YtmkkbomkonociaaDoorKit
import Derived.WalkKit
import Derived.Outline
import Derived.WalkSpells
import Derived.WalkLawsBesides
import Derived.Lib.Hide
import Derived.Laws.BitsAllLaws
namespace Go.Proofs.YtmkkbomkonociaaDoor
open Go.RowKit

theorem low_u32 (x : Nat) (hx : x < 4294967296) : Go.bits .and .u32 (x : Int) 1 = ((x % 2 : Nat) : Int) := by
  rw [show (1 : Int) = ((1 : Nat) : Int) from rfl, u32_and_nat x 1 hx (by omega), nat_mask1]
theorem ret_u32 {a b : Int} (h : a = b) : Ending.returned (.int .u32 a) = .returned (.int .u32 b) := by rw [h]
theorem bit_odd {t : Nat} (ht : t < 4294967296) (h : t % 2 = 1) : Go.bits .xor .u32 ((t : Int) / 2) 2197175160 = (Crc.bit t : Int) := by
  rw [show (t : Int) / 2 = ((t / 2 : Nat) : Int) by omega, show (2197175160 : Int) = ((2197175160 : Nat) : Int) from rfl, u32_xor_nat _ _ (by omega) (by omega), Crc.bit, if_pos h]
theorem bit_even {t : Nat} (h : ¬ t % 2 = 1) : (t : Int) / 2 = (Crc.bit t : Int) := by
  rw [Crc.bit, if_neg h]; omega

theorem takes_any (s c b : Nat) (w : World) (hs : s < 4294967296) (hc : c < 256) (hcell : w.cell? ⟨b, 0, none⟩ = some (.int .u32 s)) (hf : w.frozen? ⟨b, 0, none⟩ = false) :
    Calls Tryd.prog 33 #[.pointer (some ⟨b, 0, none⟩), .int .u8 c] w fun e w' => e = .returned (.tuple #[]) ∧ w.setCell ⟨b, 0, none⟩ (.int .u32 (Crc.byte s c)) = w' := by
  have hx := u32_xor_nat s c hs (by omega)
  go_enter Tryd.func33, Tryd.ntmps33
  go_wp2
  go_loopw [16] (fun i wr => ∃ k : Nat, k ≤ 8 ∧ i = .int .i64 k ∧ wr = w.setCell ⟨b, 0, none⟩ (.int .u32 (Crc.bits k (s ^^^ c)))) (fun i _ => 8 - (intOf i).toNat)
  case atStart => exact ⟨0, by omega, rfl, rfl⟩
  case round =>
    obtain ⟨k, hk, rfl, rfl⟩ := hrel
    have hlt : Crc.bits k (s ^^^ c) < 4294967296 := Crc.bits_lt k (Crc.xor_lt hs (by omega))
    have hsucc := Crc.bits_succ k (s ^^^ c)
    have HS := hide hsucc
    clear hsucc hx
    by_cases h8 : k < 8
    · generalize Crc.bits k (s ^^^ c) = t at *
      have h1 := low_u32 t hlt
      by_cases ht : t % 2 = 1
      · have hb := bit_odd hlt ht
        go_wp2
        go_roundw
        case rel => exact ⟨k + 1, by omega, by go_num, by rw [HS.out, setCell_twice, setCell_twice]⟩
        case measure => simp [intOf]; omega
      · have hb := bit_even ht
        go_wp2
        go_roundw
        case rel => exact ⟨k + 1, by omega, by go_num, by rw [HS.out, setCell_twice]⟩
        case measure => simp [intOf]; omega
    · obtain rfl : k = 8 := by omega
      go_wp2
      go_end0
      exact ⟨rfl, rfl⟩

end Go.Proofs.YtmkkbomkonociaaDoor
