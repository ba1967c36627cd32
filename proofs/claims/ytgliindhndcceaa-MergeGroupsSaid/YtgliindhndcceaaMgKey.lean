/- The walks that compare keys. -/
import Derived.Test.YtgliindhndcceaaSlices
import Derived.Test.YtgliindhndcceaaConv
import Derived.Test.YtgliindhndcceaaMgMath
namespace Go.Proofs.Ytgliindhndcceaa
open Go.RowKit

theorem nan_any (x : Int) (w : World) : Calls Try.prog 45 #[.int .u8 x] w fun e w' => e = .returned (.bool false) ∧ w' = w := by
  have hx : (x != x) = false := by simp
  go_enter Try.func45, Try.ntmps45
  go_wp2
  go_ret
  exact ⟨rfl, rfl⟩
/-- what cmp.Compare answers -/
def sgn (x y : Int) : Int := if x < y then -1 else if y < x then 1 else 0
theorem ccmp_any (x y : Int) (w : World) : Calls Try.prog 40 #[.int .u8 x, .int .u8 y] w fun e w' => e = .returned (.int .i64 (sgn x y)) ∧ w' = w := by
  by_cases h1 : x < y
  · have HF := hide (show sgn x y = -1 by unfold sgn; rw [if_pos h1])
    go_enter Try.func40, Try.ntmps40
    go_wp2_with fail
    refine Calls.mono (nan_any x _) ?_
    rintro e w1 ⟨rfl, rfl⟩
    go_wp2_with fail
    refine Calls.mono (nan_any y _) ?_
    rintro e w2 ⟨rfl, rfl⟩
    go_wp2_with fail
    go_ret
    exact ⟨by rw [HF.out]; rfl, rfl⟩
  · by_cases h2 : y < x
    · have HF := hide (show sgn x y = 1 by unfold sgn; rw [if_neg h1, if_pos h2])
      go_enter Try.func40, Try.ntmps40
      go_wp2_with fail
      refine Calls.mono (nan_any x _) ?_
      rintro e w1 ⟨rfl, rfl⟩
      go_wp2_with fail
      refine Calls.mono (nan_any y _) ?_
      rintro e w2 ⟨rfl, rfl⟩
      go_wp2_with fail
      go_ret
      exact ⟨by rw [HF.out]; rfl, rfl⟩
    · have HF := hide (show sgn x y = 0 by unfold sgn; rw [if_neg h1, if_neg h2])
      go_enter Try.func40, Try.ntmps40
      go_wp2_with fail
      refine Calls.mono (nan_any x _) ?_
      rintro e w1 ⟨rfl, rfl⟩
      go_wp2_with fail
      refine Calls.mono (nan_any y _) ?_
      rintro e w2 ⟨rfl, rfl⟩
      go_wp2_with fail
      go_ret
      exact ⟨by rw [HF.out]; rfl, rfl⟩
theorem wrap_succ {j n : Nat} (h : j < n) (hn : n ≤ maxLen) : wrap64 ((j : Int) + 1) = (j : Int) + 1 := by
  unfold maxLen at hn
  unfold wrap64
  omega
set_option maxHeartbeats 4000000 in
theorem cmp_any (A B : Option Addr) (n m c d : Nat) (l k : List UInt8) (w : World) (hA : RB w A n l) (hB : RB w B m k) (hn : n ≤ maxLen) :
    Calls Try.prog 34 #[.slice A n c, .slice B m d] w fun e w' => e = .returned (.int .i64 (Mg.cmp l k)) ∧ w' = w := by
  have HL := hide hA.len
  have HK := hide hB.len
  have HN := hide hn
  clear hn
  go_enter Try.func34, Try.ntmps34
  go_wp2_with fail
  go_loop [11] (fun i => ∃ j : Nat, j ≤ n ∧ j ≤ m ∧ i = .int .i64 j ∧ Hid (l.take j = k.take j)) (fun i => n - (intOf i).toNat)
  case atStart => exact ⟨0, Nat.zero_le _, Nat.zero_le _, rfl, rfl⟩
  case round =>
    obtain ⟨j, hj, hjm, rfl, heq⟩ := hrel
    by_cases hlt : j < n
    · have hjl : j < l.length := by rw [HL.out]; exact hlt
      have HW := hide (wrap_succ hlt HN.out)
      obtain ⟨b1, o1, rfl, hb1, hc1⟩ := hA.cell (k := j) hjl
      have hj0 : (0 : Int) ≤ (j : Int) := by omega
      have hj1 : (j : Int) < (n : Int) := by omega
      by_cases hlm : j < m
      · have hjk : j < k.length := by rw [HK.out]; exact hlm
        obtain ⟨b2, o2, rfl, hb2, hc2⟩ := hB.cell (k := j) hjk
        have hj2 : (j : Int) < (m : Int) := by omega
        have HC := hide (Mg.cmp_at heq.out hjl hjk)
        have HX := hide (show l[j] = k[j] → l.take (j + 1) = k.take (j + 1) from fun hx => by rw [List.take_succ_eq_append_getElem hjl, List.take_succ_eq_append_getElem hjk, heq.out, hx])
        generalize l[j] = x at *
        generalize k[j] = y at *
        go_wp2_with fail
        refine Calls.mono (ccmp_any (x.toNat : Int) (y.toNat : Int) _) ?_
        rintro e w3 ⟨rfl, rfl⟩
        by_cases hx : x = y
        · subst hx
          have HF := HX.out rfl
          rw [show sgn (x.toNat : Int) (x.toNat : Int) = 0 by unfold sgn; rw [if_neg (by omega), if_neg (by omega)]]
          have HFF := hide HF
          clear HF
          go_wp2_with fail
          go_round
          case rel => exact ⟨j + 1, by omega, by omega, by rw [HW.out]; rfl, HFF⟩
          case measure => rw [HW.out]; simp [intOf]; omega
        · by_cases hxy : x.toNat < y.toNat
          · rw [show sgn (x.toNat : Int) (y.toNat : Int) = -1 by unfold sgn; rw [if_pos (by omega)]]
            have HF := hide (show Mg.cmp l k = -1 by rw [HC.out]; exact Mg.cmp_lo hxy)
            clear hx hxy
            go_wp2_with fail
            go_ret
            exact ⟨by rw [HF.out]; first | done | rfl, rfl⟩
          · have hyx : y.toNat < x.toNat := by rcases Nat.lt_trichotomy x.toNat y.toNat with h | h | h; exact absurd h hxy; exact absurd (UInt8.toNat_inj.1 h) hx; exact h
            rw [show sgn (x.toNat : Int) (y.toNat : Int) = 1 by unfold sgn; rw [if_neg (by omega), if_pos (by omega)]]
            have HF := hide (show Mg.cmp l k = 1 by rw [HC.out]; exact Mg.cmp_hi hyx)
            clear hx hxy hyx
            go_wp2_with fail
            go_ret
            exact ⟨by rw [HF.out]; first | done | rfl, rfl⟩
      · have hj2 : (m : Int) ≤ (j : Int) := by omega
        have HF := hide (Mg.cmp_longer heq.out hjl (by rw [HK.out]; omega))
        generalize l[j] = x at *
        go_wp2_with fail
        go_ret
        exact ⟨by rw [HF.out]; first | done | rfl, rfl⟩
    · obtain rfl : j = n := by omega
      have HF := hide (show Mg.cmp l k = if j < m then -1 else 0 by
        have h1 := heq.out
        have h2 := HL.out
        have h3 := HK.out
        subst h2 h3
        exact Mg.cmp_end h1)
      by_cases hlm : j < m
      · have hj2 : (j : Int) < (m : Int) := by omega
        rw [if_pos hlm] at HF
        go_wp2_with fail
        go_ret
        exact ⟨by rw [HF.out]; first | done | rfl, rfl⟩
      · have hj2 : ¬ (j : Int) < (m : Int) := by omega
        rw [if_neg hlm] at HF
        go_wp2_with fail
        go_ret
        exact ⟨by rw [HF.out]; first | done | rfl, rfl⟩
theorem less_any (A B : Option Addr) (n m c d : Nat) (l k : List UInt8) (w : World) (hA : RB w A n l) (hB : RB w B m k) (hn : n ≤ maxLen) :
    Calls Try.prog 14 #[.slice A n c, .slice B m d] w fun e w' => e = .returned (.bool (Mg.lt l k)) ∧ w' = w := by
  have HC := hide (Mg.cmp_neg l k)
  go_enter Try.func14, Try.ntmps14
  go_wp2_with fail
  refine Calls.mono (cmp_any A B n m c d l k _ hA hB hn) ?_
  rintro e w3 ⟨rfl, rfl⟩
  generalize Mg.cmp l k = z at *
  go_wp2_with fail
  go_ret
  exact ⟨by rw [← HC.out]; rfl, rfl⟩
theorem ahead_any (A B : Option Addr) (n m c d : Nat) (l k : List UInt8) (w : World) (hA : RB w A n l) (hB : RB w B m k) :
    Calls Try.prog 15 #[.slice A n c, .slice B m d] w fun e w' => e = .returned (.bool (Mg.lt l k)) ∧ w' = w := by
  have h1 := run_str (P := Try.prog) w 23 9 5 A n c l hA (by kernel_rfl) (by kernel_rfl) (by kernel_rfl)
  have h2 := run_str (P := Try.prog) w 23 9 5 B m d k hB (by kernel_rfl) (by kernel_rfl) (by kernel_rfl)
  have HF := hide (show Op.bytesLess (str l).toList (str k).toList = Mg.lt l k by rw [str_toList, str_toList, Mg.bytesLess_lt])
  generalize str l = L at *
  generalize str k = K at *
  go_enter Try.func15, Try.ntmps15
  go_wp2_with fail
  go_ret
  exact ⟨by rw [← HF.out]; rfl, rfl⟩
theorem is_any (A B : Option Addr) (n m c d : Nat) (l k : List UInt8) (w : World) (hA : RB w A n l) (hB : RB w B m k) :
    Calls Try.prog 38 #[.slice A n c, .slice B m d] w fun e w' => e = .returned (.bool (decide (l = k))) ∧ w' = w := by
  have h1 := run_str (P := Try.prog) w 23 9 5 A n c l hA (by kernel_rfl) (by kernel_rfl) (by kernel_rfl)
  have h2 := run_str (P := Try.prog) w 23 9 5 B m d k hB (by kernel_rfl) (by kernel_rfl) (by kernel_rfl)
  have HF := hide (show ((str l).toList == (str k).toList) = decide (l = k) by rw [str_toList, str_toList]; by_cases h : l = k <;> simp [h])
  generalize str l = L at *
  generalize str k = K at *
  go_enter Try.func38, Try.ntmps38
  go_wp2_with fail
  go_ret
  exact ⟨by rw [← HF.out]; rfl, rfl⟩
end Go.Proofs.Ytgliindhndcceaa
