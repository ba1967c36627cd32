/- Walks of package crc: More, Sum. -/
import Derived.Test.YtmkkbomkonociaaDoorCrcTakes
import Derived.BigQuiet
import Derived.Laws.Unary
namespace Go.Proofs.YtmkkbomkonociaaDoor
open Go.RowKit

theorem inv_u32 (s : Nat) (hs : s < 4294967296) : Go.bits .xor .u32 IntKind.u32.max (s : Int) = (Crc.inv s : Int) := by
  have h : Crc.inv s = 4294967295 ^^^ s := by
    have := Crc.xor_lt (a := 4294967295) (b := s) (by omega) hs
    apply Nat.eq_of_testBit_eq
    intro i
    have h1 := Nat.testBit_two_pow_sub_succ (x := s) (n := 32) hs i
    rw [Nat.testBit_xor, show (4294967295 : Nat) = 2 ^ 32 - 1 from rfl, Nat.testBit_two_pow_sub_one]
    show (4294967295 - s).testBit i = _
    rw [show 4294967295 - s = 2 ^ 32 - (s + 1) by omega, h1]
    by_cases hi : i < 32
    · simp [hi]
    · simp [hi, Nat.testBit_lt_two_pow (Nat.lt_of_lt_of_le hs (Nat.pow_le_pow_right (n := 2) (by omega) (show 32 ≤ i by omega)))]
  rw [h, show IntKind.u32.max = ((4294967295 : Nat) : Int) from rfl, u32_xor_nat _ _ (by omega) hs]

theorem more_any (s : Int) (A : Option Addr) (n c : Nat) (l : List UInt8) (w : World) (h0 : 0 ≤ s) (hs : s < 4294967296) (hR : RB w A n l) (hn : n ≤ 65536) :
    Calls Tryd.prog 21 #[.int .u32 s, .slice A n c] w fun e w' => e = .returned (.int .u32 (Crc.more s.toNat (nums l) : Nat)) ∧ Below w.heap.size w w' := by
  obtain ⟨s, rfl⟩ := Int.eq_ofNat_of_zero_le h0
  rw [Int.toNat_natCast]
  have hs' : s < 4294967296 := by omega
  clear hs h0
  have hlen := hide hR.len
  have hi := inv_u32 s hs'
  go_enter Tryd.func21, Tryd.ntmps21
  go_wp2
  go_loopw [16] (fun i wr => ∃ k : Nat, k ≤ n ∧ i = .int .i64 k ∧ wr = w.alloc (.cells #[.int .u32 (Crc.take (Crc.inv s) ((nums l).take k) : Nat)] 79)) (fun i _ => n - (intOf i).toNat)
  case atStart => exact ⟨0, Nat.zero_le _, rfl, rfl⟩
  case round =>
    obtain ⟨k, hk, rfl, rfl⟩ := hrel
    have hr : Crc.take (Crc.inv s) ((nums l).take k) < 4294967296 := Crc.take_lt _ (Crc.inv_lt s) (fun c hc => nums_lt _ _ (List.mem_of_mem_take hc))
    by_cases hlt : k < n
    · have hkl : k < l.length := by rw [hlen.out]; exact hlt
      have HT := hide (nums_take_succ l k hkl)
      obtain ⟨b, off, rfl, hb, hc⟩ := hR.cell hkl
      have hc256 := (l[k]).toNat_lt
      generalize (l[k]).toNat = x at *
      generalize hg : Crc.take (Crc.inv s) ((nums l).take k) = r at *
      have HG := hide hg
      clear hg hi
      go_wp2_with (go_at_call 33; refine (takes_any r x _ _ hr hc256 (by simp) (by simp)).mono ?_; rintro e w' ⟨rfl, rfl⟩)
      go_roundw
      case rel => exact ⟨k + 1, by omega, by go_num, by rw [HT.out, Crc.take_snoc, HG.out]⟩
      case measure => simp [intOf]; omega
    · obtain rfl : k = n := by omega
      have HL := hide (show (nums l).take k = nums l from List.take_of_length_le (by rw [nums_len]; exact Nat.le_of_eq hlen.out))
      have hi' := inv_u32 _ hr
      clear hi
      go_wp2
      go_ret
      exact ⟨ret_u32 (by rw [HL.out]; rfl), below_alloc _ _⟩

theorem sum_any (A : Option Addr) (n c : Nat) (l : List UInt8) (w : World) (hR : RB w A n l) (hn : n ≤ 65536) :
    Calls Tryd.prog 20 #[.slice A n c] w fun e w' => e = .returned (.int .u32 (Crc.more 0 (nums l) : Nat)) ∧ Below w.heap.size w w' := by
  go_enter Tryd.func20, Tryd.ntmps20
  go_wp2_with (go_at_call 21; refine (more_any _ _ _ _ l _ (by omega) (by omega) hR hn).mono ?_; rintro e w' ⟨rfl, hb⟩)
  go_ret
  exact ⟨rfl, hb⟩
end Go.Proofs.YtmkkbomkonociaaDoor
