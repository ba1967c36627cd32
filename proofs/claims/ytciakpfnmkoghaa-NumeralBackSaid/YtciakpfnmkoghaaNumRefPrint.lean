/- Walk of the reference's Print. -/
import Derived.Test.YtciakpfnmkoghaaNumPrint
namespace Go.Proofs.Ytciakpfnmkoghaa
open Go.RowKit

theorem print_len {n : Int} (h0 : -9223372036854775808 ≤ n) (h1 : n ≤ 9223372036854775807) : (Num.print n).length ≤ 20 := by
  have := Num.dig_le (N := n.natAbs) (by omega)
  unfold Num.print
  split
  · simp only [List.length_cons]; omega
  · omega
theorem str_append (a b : List UInt8) : str a ++ str b = str (a ++ b) := by
  apply ByteArray.ext
  simp [str, ByteArray.data_append]
theorem str_one (c : UInt8) : (ByteArray.mk #[c]) = str [c] := rfl

theorem print_neg_small (m : Nat) (h : 0 < m) (hm : m < 10) : str [45] ++ str (Num.print (m : Int)) = str (Num.print (-(m : Int))) := by
  rw [str_append]
  unfold Num.print
  rw [if_neg (by omega), if_pos (by omega), Int.natAbs_neg]; rfl
theorem print_neg_big (m : Nat) (hm : ¬ m < 10) : str (Num.print (-((m : Int) / 10))) ++ str (Num.print ((m : Int) % 10)) = str (Num.print (-(m : Int))) := by
  rw [str_append]
  unfold Num.print
  rw [if_pos (by omega), if_neg (by omega), if_pos (by omega), Int.natAbs_neg, Int.natAbs_neg, show ((m : Int) / 10).natAbs = m / 10 by omega, show ((m : Int) % 10).natAbs = m % 10 by omega, Int.natAbs_natCast, Num.dig_big hm, Num.dig_small (show m % 10 < 10 by omega)]; rfl
theorem print_pos_big (m : Nat) (hm : ¬ m < 10) : str (Num.print ((m : Int) / 10)) ++ str (Num.print ((m : Int) % 10)) = str (Num.print (m : Int)) := by
  rw [str_append]
  unfold Num.print
  rw [if_neg (by omega), if_neg (by omega), if_neg (by omega), show ((m : Int) / 10).natAbs = m / 10 by omega, show ((m : Int) % 10).natAbs = m % 10 by omega, Int.natAbs_natCast, Num.dig_big hm, Num.dig_small (show m % 10 < 10 by omega)]
theorem print_pos_small (m : Nat) (hm : m < 10) : Num.print (m : Int) = [UInt8.ofNat (48 + m)] := by
  unfold Num.print
  rw [if_neg (by omega), Int.natAbs_natCast, Num.dig_small hm]
theorem print_size {n : Int} (h0 : -9223372036854775808 ≤ n) (h1 : n ≤ 9223372036854775807) : (str (Num.print n)).size ≤ 20 := by
  rw [str_size]; exact print_len h0 h1

theorem refprint_any (k : Nat) : ∀ (n : Int) (w : World), (2 * n).natAbs + (if n < 0 then 1 else 0) < k → -9223372036854775808 ≤ n → n ≤ 9223372036854775807 →
    Calls Try.prog 10 #[.int .i64 n] w fun e w' => e = .returned (.string (str (Num.print n))) ∧ Below w.heap.size w w' := by
  induction k with
  | zero => intro n w h; omega
  | succ k ih =>
    intro n w h h0 h1
    by_cases hn : n < 0
    · rw [if_pos hn] at h
      obtain ⟨m, rfl⟩ : ∃ m : Nat, n = -(m : Int) := ⟨n.natAbs, by omega⟩
      by_cases h9 : m < 10
      · have hl := print_size (n := (m : Int)) (by omega) (by omega)
        have HS := hide (print_neg_small m (by omega) h9)
        go_enter Try.func10, Try.ntmps10
        go_wp2_with fail
        refine Calls.mono (ih _ _ (by rw [if_neg (by omega)]; omega) (by omega) (by omega)) ?_
        rintro e w1 ⟨rfl, hb⟩
        go_wp2_with fail
        go_ret
        exact ⟨by rw [← HS.out]; rfl, hb⟩
      · have hl1 := print_size (n := -((m : Int) / 10)) (by omega) (by omega)
        have hl2 := print_size (n := ((m : Int) % 10)) (by omega) (by omega)
        have HS := hide (print_neg_big m h9)
        go_enter Try.func10, Try.ntmps10
        go_wp2_with fail
        refine Calls.mono (ih _ _ (by rw [if_pos (by omega)]; omega) (by omega) (by omega)) ?_
        rintro e w1 ⟨rfl, hb⟩
        go_wp2_with fail
        refine Calls.mono (ih _ _ (by rw [if_neg (by omega)]; omega) (by omega) (by omega)) ?_
        rintro e w2 ⟨rfl, hb2⟩
        go_wp2_with fail
        go_ret
        exact ⟨by rw [← HS.out]; rfl, below_then hb hb2⟩
    · rw [if_neg hn] at h
      obtain ⟨m, rfl⟩ : ∃ m : Nat, n = (m : Int) := ⟨n.natAbs, by omega⟩
      by_cases h9 : m < 10
      · have HS := hide (print_pos_small m h9)
        have hv : ((UInt8.ofNat (48 + m)).toNat : Int) = 48 + (m : Int) := by rw [Num.ofNat_dig h9]; omega
        have hrb : RB (w.alloc (.cells #[.int .u8 (48 + (m : Int))] 5)) (some ⟨w.heap.size, 0, none⟩) 1 [UInt8.ofNat (48 + m)] := RB.lit w 5 _ _ 1 rfl (by simp only [bytes, List.map_cons, List.map_nil, hv])
        have hc := run_str (P := Try.prog) _ 32 9 5 _ 1 1 _ hrb (by kernel_rfl) (by kernel_rfl) (by kernel_rfl)
        clear hv hrb
        have HE := hide (congrArg str HS.out)
        generalize str [UInt8.ofNat (48 + m)] = S at hc HE
        go_enter Try.func10, Try.ntmps10
        go_wp2
        go_ret
        exact ⟨by rw [HE.out]; rfl, below_alloc _ _⟩
      · have hl1 := print_size (n := ((m : Int) / 10)) (by omega) (by omega)
        have hl2 := print_size (n := ((m : Int) % 10)) (by omega) (by omega)
        have HS := hide (print_pos_big m h9)
        go_enter Try.func10, Try.ntmps10
        go_wp2_with fail
        refine Calls.mono (ih _ _ (by rw [if_neg (by omega)]; omega) (by omega) (by omega)) ?_
        rintro e w1 ⟨rfl, hb⟩
        go_wp2_with fail
        refine Calls.mono (ih _ _ (by rw [if_neg (by omega)]; omega) (by omega) (by omega)) ?_
        rintro e w2 ⟨rfl, hb2⟩
        go_wp2_with fail
        go_ret
        exact ⟨by rw [← HS.out]; rfl, below_then hb hb2⟩
theorem refprint (n : Int) (w : World) (h0 : -9223372036854775808 ≤ n) (h1 : n ≤ 9223372036854775807) :
    Calls Try.prog 10 #[.int .i64 n] w fun e w' => e = .returned (.string (str (Num.print n))) ∧ Below w.heap.size w w' :=
  refprint_any _ n w (Nat.lt_succ_self _) h0 h1
end Go.Proofs.Ytciakpfnmkoghaa
