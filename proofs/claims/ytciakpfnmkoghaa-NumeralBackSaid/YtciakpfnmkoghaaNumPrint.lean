/- Walk of numeral.Print. -/
import Derived.Test.YtciakpfnmkoghaaNumMath
import Derived.Test.YtciakpfnmkoghaaSlices
import Derived.Lib.SlBytesConst
namespace Go.Proofs.Ytciakpfnmkoghaa
open Go.RowKit

theorem neg_wrap {n : Int} (h0 : -9223372036854775808 ≤ n) (hn : n < 0) : IntKind.u64.wrap (-IntKind.u64.wrap n) = ((n.natAbs : Nat) : Int) := by
  have e : IntKind.u64.wrap n = n + 18446744073709551616 := by unfold IntKind.wrap; simp [IntKind.signed, IntKind.bits]; omega
  rw [e]
  unfold IntKind.wrap; simp [IntKind.signed, IntKind.bits]; omega
theorem pos_wrap {n : Int} (hn : 0 ≤ n) (h1 : n ≤ 9223372036854775807) : IntKind.u64.wrap n = ((n.natAbs : Nat) : Int) := by
  unfold IntKind.wrap; simp [IntKind.signed, IntKind.bits]; omega

theorem zero_cell (k : Nat) (Y : List UInt8) (hk : 0 < k) : (bytes (List.replicate k 0 ++ Y))[k - 1]? = some (.int .u8 0) := by
  obtain ⟨j, rfl⟩ : ∃ j, k = j + 1 := ⟨k - 1, by omega⟩
  rw [List.replicate_succ', bytes_append, bytes_append]
  simp [bytes]
theorem zero_set (k : Nat) (Y : List UInt8) (d : UInt8) (hk : 0 < k) : (bytes (List.replicate k 0 ++ Y)).set (k - 1) (.int .u8 (d.toNat : Int)) = bytes (List.replicate (k - 1) 0 ++ d :: Y) := by
  obtain ⟨j, rfl⟩ : ∃ j, k = j + 1 := ⟨k - 1, by omega⟩
  rw [List.replicate_succ']
  simp [bytes]
theorem digit_at (j : Nat) (h : j < 10) (h' : j < (ByteArray.mk #[48, 49, 50, 51, 52, 53, 54, 55, 56, 57]).size) : (ByteArray.mk #[48, 49, 50, 51, 52, 53, 54, 55, 56, 57])[j]'h' = UInt8.ofNat (48 + j) := by
  match j, h with
  | 0, _ => rfl
  | 1, _ => rfl
  | 2, _ => rfl
  | 3, _ => rfl
  | 4, _ => rfl
  | 5, _ => rfl
  | 6, _ => rfl
  | 7, _ => rfl
  | 8, _ => rfl
  | 9, _ => rfl

def flag : Value → Nat
  | .bool true => 1
  | _ => 0

theorem print_any (n : Int) (w : World) (h0 : -9223372036854775808 ≤ n) (h1 : n ≤ 9223372036854775807) :
    Calls Try.prog 11 #[.int .i64 n] w fun e w' => e = .returned (.string (str (Num.print n))) ∧ Below w.heap.size w w' := by
  have hN : n.natAbs < 10 ^ 19 := by omega
  by_cases hn : n < 0
  · have hw := neg_wrap h0 hn
    have HN := hide hN
    clear hN
    go_enter Try.func11, Try.ntmps11
    go_wp2
    go_loopw [3, 5, 6] (fun a b c wr => ∃ (m : Nat) (Y : List UInt8) (f : Bool), a = .int .u64 m ∧ b = .int .i64 ((20 - Y.length : Nat) : Int) ∧ c = .bool f ∧ m ≤ n.natAbs ∧ Y.length ≤ 19 ∧ Num.Left n.natAbs m Y f ∧ wr = w.alloc (.cells (bytes (List.replicate (20 - Y.length) 0 ++ Y)).toArray 45)) (fun a _ c _ => 2 * (intOf a).toNat + flag c)
    case atStart => exact ⟨n.natAbs, [], true, rfl, rfl, rfl, Nat.le_refl _, by simp, Num.left_start _, rfl⟩
    case round =>
      obtain ⟨m, Y, f, rfl, rfl, rfl, hm, hY, hL, rfl⟩ := hrel
      have HH := hide hL
      by_cases hg : f = true ∨ m ≠ 0
      · have hY2 := Num.left_len hL hg HN.out
        have hm0 : f = false → 0 < m := by
          rintro rfl
          rcases hg with hg | hg
          · cases hg
          · omega
        have hcell := zero_cell (20 - Y.length) Y (by omega)
        clear hg hL
        cases f
        · have hmm := hm0 rfl
          clear hm0
          go_wp2
          refine ⟨⟨m / 10, UInt8.ofNat (48 + m % 10) :: Y, false, rfl, ?_, rfl, by omega, by simp; omega, Num.left_step HH.out (Or.inr (by omega)), ?_⟩, ?_⟩
          · simp only [List.length_cons]; congr 1; omega
          · rw [digit_at _ (by omega), zero_set _ _ _ (by omega)]; rfl
          · simp only [intOf, flag]; omega
        · clear hm0
          go_wp2
          refine ⟨⟨m / 10, UInt8.ofNat (48 + m % 10) :: Y, false, rfl, ?_, rfl, by omega, by simp; omega, Num.left_step HH.out (Or.inl rfl), ?_⟩, ?_⟩
          · simp only [List.length_cons]; congr 1; omega
          · rw [digit_at _ (by omega), zero_set _ _ _ (by omega)]; rfl
          · simp only [intOf, flag]; omega
      · obtain rfl : f = false := by cases f <;> simp_all
        obtain rfl : m = 0 := by
          rcases Nat.eq_zero_or_pos m with h | h
          · exact h
          · exact absurd (Or.inr (by omega)) hg
        have hY3 := Num.left_end hL
        have HY := hide hY3
        clear hg hL hY3
        have hal : Try.prog.arrayLen 45 = 20 := by kernel_rfl
        have hlo : ((20 - Y.length : Nat) : Int) - 1 = ((19 - Y.length : Nat) : Int) := by omega
        have hlo1 : ((19 - Y.length : Nat) : Int) ≤ (Try.prog.arrayLen 45 : Nat) := by rw [hal]; omega
        have hcell : (bytes (List.replicate (20 - Y.length) 0 ++ Y))[19 - Y.length]? = some (.int .u8 0) := by
          have := zero_cell (20 - Y.length) Y (by omega)
          rwa [show 20 - Y.length - 1 = 19 - Y.length by omega] at this
        have hs : ∀ W : World, (Instr.sliceAt 45 (.pointer (some ⟨w.heap.size, 0, none⟩)) (some (.int .i64 ((19 - Y.length : Nat) : Int))) none none).run Try.prog W = .ok (.slice (some ⟨w.heap.size, 19 - Y.length, none⟩) (Y.length + 1) (Y.length + 1)) W := by
          intro W
          rw [run_sliceAt_array_l _ _ _ (by kernel_rfl) _ _ (by omega) hlo1]
          rw [hal, Int.toNat_natCast, show (sizeOf (Try.prog.elem 45)).run Try.prog W = .ok 1 W by go_simp]
          show Result.ok (slicedAt _ _ _ _ _) W = _
          unfold slicedAt
          rw [if_neg (by omega), addr_add, Nat.zero_add, Nat.mul_one, show 20 - (19 - Y.length) = Y.length + 1 by omega]
        have hz : (bytes (List.replicate (20 - Y.length) 0 ++ Y)).set (19 - Y.length) (.int .u8 45) = bytes (List.replicate (19 - Y.length) 0 ++ 45 :: Y) := by
          have := zero_set (20 - Y.length) Y 45 (by omega)
          rwa [show 20 - Y.length - 1 = 19 - Y.length by omega] at this
        have hrb : RB (w.alloc (.cells (bytes (List.replicate (19 - Y.length) 0 ++ 45 :: Y)).toArray 45)) (some ⟨w.heap.size, 19 - Y.length, none⟩) (Y.length + 1) (45 :: Y) := by
          have h := RB.lit w 45 (fr := (0, 0)) (bytes (List.replicate (19 - Y.length) 0 ++ 45 :: Y)).toArray (List.replicate (19 - Y.length) 0 ++ 45 :: Y) _ rfl (by simp)
          have h2 := h.drop (k := 19 - Y.length) (cap := 20) (by simp only [List.length_append, List.length_replicate, List.length_cons]; omega) (by simp only [List.length_append, List.length_replicate, List.length_cons]; omega)
          rw [if_neg (by omega), List.drop_left' (by simp)] at h2
          simp only [Option.map_some, addr_add, Nat.zero_add] at h2
          have hl := h2.len
          rwa [← hl] at h2
        have hc := run_str (P := Try.prog) _ 32 9 5 _ (Y.length + 1) (Y.length + 1) _ hrb (by kernel_rfl) (by kernel_rfl) (by kernel_rfl)
        have HRB := hide hrb
        clear hrb hcell
        have hcell : (bytes (List.replicate (20 - Y.length) 0 ++ Y))[19 - Y.length]? = some (.int .u8 0) := by
          have := zero_cell (20 - Y.length) Y (by omega)
          rwa [show 20 - Y.length - 1 = 19 - Y.length by omega] at this
        go_wp2
        go_ret
        have e : Num.print n = 45 :: Y := by unfold Num.print; rw [if_pos hn, ← HY.out]
        exact ⟨by rw [e]; rfl, below_alloc _ _⟩
  · have hw := pos_wrap (by omega : 0 ≤ n) h1
    have HN := hide hN
    clear hN
    go_enter Try.func11, Try.ntmps11
    go_wp2
    go_loopw [3, 5, 6] (fun a b c wr => ∃ (m : Nat) (Y : List UInt8) (f : Bool), a = .int .u64 m ∧ b = .int .i64 ((20 - Y.length : Nat) : Int) ∧ c = .bool f ∧ m ≤ n.natAbs ∧ Y.length ≤ 19 ∧ Num.Left n.natAbs m Y f ∧ wr = w.alloc (.cells (bytes (List.replicate (20 - Y.length) 0 ++ Y)).toArray 45)) (fun a _ c _ => 2 * (intOf a).toNat + flag c)
    case atStart => exact ⟨n.natAbs, [], true, rfl, rfl, rfl, Nat.le_refl _, by simp, Num.left_start _, rfl⟩
    case round =>
      obtain ⟨m, Y, f, rfl, rfl, rfl, hm, hY, hL, rfl⟩ := hrel
      have HH := hide hL
      by_cases hg : f = true ∨ m ≠ 0
      · have hY2 := Num.left_len hL hg HN.out
        have hm0 : f = false → 0 < m := by
          rintro rfl
          rcases hg with hg | hg
          · cases hg
          · omega
        have hcell := zero_cell (20 - Y.length) Y (by omega)
        clear hg hL
        cases f
        · have hmm := hm0 rfl
          clear hm0
          go_wp2
          refine ⟨⟨m / 10, UInt8.ofNat (48 + m % 10) :: Y, false, rfl, ?_, rfl, by omega, by simp; omega, Num.left_step HH.out (Or.inr (by omega)), ?_⟩, ?_⟩
          · simp only [List.length_cons]; congr 1; omega
          · rw [digit_at _ (by omega), zero_set _ _ _ (by omega)]; rfl
          · simp only [intOf, flag]; omega
        · clear hm0
          go_wp2
          refine ⟨⟨m / 10, UInt8.ofNat (48 + m % 10) :: Y, false, rfl, ?_, rfl, by omega, by simp; omega, Num.left_step HH.out (Or.inl rfl), ?_⟩, ?_⟩
          · simp only [List.length_cons]; congr 1; omega
          · rw [digit_at _ (by omega), zero_set _ _ _ (by omega)]; rfl
          · simp only [intOf, flag]; omega
      · obtain rfl : f = false := by cases f <;> simp_all
        obtain rfl : m = 0 := by
          rcases Nat.eq_zero_or_pos m with h | h
          · exact h
          · exact absurd (Or.inr (by omega)) hg
        have hY3 := Num.left_end hL
        have HY := hide hY3
        clear hg hL hY3
        have hpos : 0 < Y.length := by rw [HY.out]; exact List.length_pos_iff.2 (Num.dig_ne _)
        have hal : Try.prog.arrayLen 45 = 20 := by kernel_rfl
        have hlo1 : ((20 - Y.length : Nat) : Int) ≤ (Try.prog.arrayLen 45 : Nat) := by rw [hal]; omega
        have hs : ∀ W : World, (Instr.sliceAt 45 (.pointer (some ⟨w.heap.size, 0, none⟩)) (some (.int .i64 ((20 - Y.length : Nat) : Int))) none none).run Try.prog W = .ok (.slice (some ⟨w.heap.size, 20 - Y.length, none⟩) Y.length Y.length) W := by
          intro W
          rw [run_sliceAt_array_l _ _ _ (by kernel_rfl) _ _ (by omega) hlo1]
          rw [hal, Int.toNat_natCast, show (sizeOf (Try.prog.elem 45)).run Try.prog W = .ok 1 W by go_simp]
          show Result.ok (slicedAt _ _ _ _ _) W = _
          unfold slicedAt
          rw [if_neg (by omega), addr_add, Nat.zero_add, Nat.mul_one, show 20 - (20 - Y.length) = Y.length by omega]
        have hrb : RB (w.alloc (.cells (bytes (List.replicate (20 - Y.length) 0 ++ Y)).toArray 45)) (some ⟨w.heap.size, 20 - Y.length, none⟩) Y.length Y := by
          have h := RB.lit w 45 (fr := (0, 0)) (bytes (List.replicate (20 - Y.length) 0 ++ Y)).toArray (List.replicate (20 - Y.length) 0 ++ Y) _ rfl (by simp)
          have h2 := h.drop (k := 20 - Y.length) (cap := 20) (by simp only [List.length_append, List.length_replicate]; omega) (by simp only [List.length_append, List.length_replicate]; omega)
          rw [if_neg (by omega), List.drop_left' (by simp)] at h2
          simp only [Option.map_some, addr_add, Nat.zero_add] at h2
          have hl := h2.len
          rwa [← hl] at h2
        have hc := run_str (P := Try.prog) _ 32 9 5 _ Y.length Y.length _ hrb (by kernel_rfl) (by kernel_rfl) (by kernel_rfl)
        have HRB := hide hrb
        clear hrb
        go_wp2
        go_ret
        have e : Num.print n = Y := by unfold Num.print; rw [if_neg (by omega), ← HY.out]
        exact ⟨by rw [e]; rfl, below_alloc _ _⟩
end Go.Proofs.Ytciakpfnmkoghaa
