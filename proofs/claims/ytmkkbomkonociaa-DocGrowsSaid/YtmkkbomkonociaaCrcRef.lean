/- Walks of the reference's functions of the checksum. -/
import Derived.Test.YtmkkbomkonociaaCrcTakes
import Derived.BigQuiet
namespace Go.Proofs.Ytmkkbomkonociaa
open Go.RowKit


theorem inner_step {s c k r : Nat} (h : r ^^^ c / 2 ^ k = Crc.bits k (s ^^^ c)) : Crc.bit (r ^^^ (c / 2 ^ k) % 2) ^^^ c / 2 ^ (k + 1) = Crc.bits (k + 1) (s ^^^ c) := by
  rw [Crc.bits_succ, ← h, Nat.pow_succ, ← Nat.div_div_eq_div_mul]
  generalize c / 2 ^ k = d
  have e : r ^^^ d = (r ^^^ d % 2) ^^^ (d - d % 2) := by
    have : d = d % 2 ^^^ (d - d % 2) := by
      apply Nat.eq_of_testBit_eq
      intro i
      rw [Nat.testBit_xor]
      cases i with
      | zero => simp only [Nat.testBit_zero]; rcases Nat.mod_two_eq_zero_or_one d with h | h <;> simp [h] <;> omega
      | succ i =>
        simp only [Nat.testBit_succ]
        rw [show d % 2 / 2 = 0 by omega, show (d - d % 2) / 2 = d / 2 by omega]
        simp
    rw [Nat.xor_assoc, ← this]
  have e2 : Crc.bit (d - d % 2) = d / 2 := by
    unfold Crc.bit
    rw [if_neg (by omega)]
    omega
  rw [e, Crc.bit_xor (r ^^^ d % 2) (d - d % 2), e2]

theorem take_any (s : Int) (A : Option Addr) (n c : Nat) (l : List UInt8) (w : World) (h0 : 0 ≤ s) (hs : s < 4294967296) (h : RB w A n l) (hn : n ≤ 65536) :
    Calls Try.prog 45 #[.int .u32 s, .slice A n c] w fun e w' => e = .returned (.int .u32 (Crc.take s.toNat (nums l) : Nat)) ∧ w = w' := by
  obtain ⟨s, rfl⟩ := Int.eq_ofNat_of_zero_le h0
  rw [Int.toNat_natCast]
  have hs' : s < 4294967296 := by omega
  clear hs h0
  have hlen := hide h.len
  go_enter Try.func45, Try.ntmps45
  go_wp2
  go_loop [0, 5] (fun s' i => ∃ k : Nat, k ≤ n ∧ i = .int .i64 k ∧ s' = .int .u32 (Crc.take s ((nums l).take k) : Nat)) (fun _ i => n - (intOf i).toNat)
  case atStart => exact ⟨0, Nat.zero_le _, rfl, rfl⟩
  case round =>
    obtain ⟨k, hk, rfl, rfl⟩ := hrel
    have hr : Crc.take s ((nums l).take k) < 4294967296 := Crc.take_lt _ (by omega) (fun c hc => nums_lt _ _ (List.mem_of_mem_take hc))
    by_cases hlt : k < n
    · have hkl : k < l.length := by rw [hlen.out]; exact hlt
      have HT := hide (nums_take_succ l k hkl)
      obtain ⟨b, off, rfl, _, hc⟩ := h.cell hkl
      have hc256 := (l[k]).toNat_lt
      generalize (l[k]).toNat = x at *
      generalize hg : Crc.take s ((nums l).take k) = r at *
      have HG := hide hg
      clear hg
      go_wp2
      go_loop [0, 6, 7] (fun s' c' j => ∃ m r' : Nat, m ≤ 8 ∧ j = .int .i64 m ∧ r' < 4294967296 ∧ s' = .int .u32 r' ∧ c' = .int .u32 (x / 2 ^ m : Nat) ∧ Hid (r' ^^^ x / 2 ^ m = Crc.bits m (r ^^^ x))) (fun _ _ j => 8 - (intOf j).toNat)
      case atStart => exact ⟨0, r, by omega, rfl, hr, rfl, by simp, by simp [Hid, Crc.bits]⟩
      case round =>
        obtain ⟨m, r', hm, rfl, hr', rfl, rfl, hi⟩ := hrel
        by_cases h8 : m < 8
        · have HI := hide (inner_step hi.out)
          have HD := hide (show x / 2 ^ m / 2 = x / 2 ^ (m + 1) by rw [Nat.pow_succ, Nat.div_div_eq_div_mul])
          have hd : x / 2 ^ m < 256 := Nat.lt_of_le_of_lt (Nat.div_le_self _ _) hc256
          clear hi
          generalize x / 2 ^ m = d at *
          go_wp2_with (go_at_call 46; refine (bit_any _ _ _ (by omega) (by omega) (by omega) (by omega)).mono ?_; rintro e w' ⟨rfl, rfl⟩)
          go_round
          case rel => exact ⟨m + 1, Crc.bit (r' ^^^ d % 2), by omega, by go_num, Crc.bit_lt (Crc.xor_lt hr' (by omega)), rfl, by rw [← HD.out]; rfl, HI.out⟩
          case measure => simp [intOf]; omega
        · obtain rfl : m = 8 := by omega
          go_wp2
          go_round
          case rel =>
            refine ⟨k + 1, by omega, by go_num, ?_⟩
            rw [HT.out, Crc.take_snoc, HG.out]
            have h3 := hi.out
            rw [show x / 2 ^ 8 = 0 by omega, Nat.xor_zero] at h3
            rw [h3]; rfl
          case measure => simp [intOf]; omega
    · obtain rfl : k = n := by omega
      have HL := hide (show (nums l).take k = nums l from List.take_of_length_le (by rw [nums_len]; exact Nat.le_of_eq hlen.out))
      go_wp2
      go_ret
      exact ⟨ret_u32 (by rw [HL.out]), rfl⟩

theorem rMore_any (s : Int) (A : Option Addr) (n c : Nat) (l : List UInt8) (w : World) (h0 : 0 ≤ s) (hs : s < 4294967296) (h : RB w A n l) (hn : n ≤ 65536) :
    Calls Try.prog 38 #[.int .u32 s, .slice A n c] w fun e w' => e = .returned (.int .u32 (Crc.more s.toNat (nums l) : Nat)) ∧ w = w' := by
  obtain ⟨s, rfl⟩ := Int.eq_ofNat_of_zero_le h0
  rw [Int.toNat_natCast]
  have hs' : s < 4294967296 := by omega
  clear hs h0
  have hlt := Crc.take_lt (nums l) (s := Crc.inv s) (Crc.inv_lt s) (nums_lt l)
  go_enter Try.func38, Try.ntmps38
  go_wp2_with (go_at_call 45; refine (take_any _ _ _ _ l _ (by omega) (by omega) h hn).mono ?_; rintro e w' ⟨rfl, rfl⟩; rw [show (4294967295 - (s : Int)).toNat = Crc.inv s by unfold Crc.inv; omega])
  go_ret
  exact ⟨ret_u32 (by show _ = ((4294967295 - Crc.take (Crc.inv s) (nums l) : Nat) : Int); omega), rfl⟩

theorem laid_any (s : Int) (w : World) (h0 : 0 ≤ s) (hs : s < 4294967296) :
    Calls Try.prog 37 #[.int .u32 s] w fun e w' => e = .returned (.slice (some ⟨w.heap.size, 0, none⟩) 4 4) ∧ RB w' (some ⟨w.heap.size, 0, none⟩) 4 (Crc.laid s.toNat) ∧ Below w.heap.size w w' := by
  obtain ⟨s, rfl⟩ := Int.eq_ofNat_of_zero_le h0
  rw [Int.toNat_natCast]
  have hs' : s < 4294967296 := by omega
  clear hs h0
  go_enter Try.func37, Try.ntmps37
  go_wp2
  go_ret
  refine ⟨rfl, RB.lit _ _ _ _ _ rfl ?_, below_alloc _ _⟩
  simp only [Crc.laid, Crc.laidAt, bytes, List.map_cons, List.map_nil, u8_of]
  rw [show ((s : Int) / 16777216) = ((s / 16777216 % 256 : Nat) : Int) by omega, show s / 2 ^ (8 * 0) = s by simp, show s / 2 ^ (8 * 1) = s / 256 from rfl, show s / 2 ^ (8 * 2) = s / 65536 from rfl, show s / 2 ^ (8 * 3) = s / 16777216 from rfl]
  rfl
end Go.Proofs.Ytmkkbomkonociaa
