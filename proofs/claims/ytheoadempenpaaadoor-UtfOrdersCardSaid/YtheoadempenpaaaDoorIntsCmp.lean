/- The walk of the library's Compare on slices of ints (numbers that are no less than 0). -/
import Derived.Test.YtheoadempenpaaaDoorUtfStr
import Derived.Test.YtheoadempenpaaaDoorUtfOrderMath
namespace Go.Proofs.YtheoadempenpaaaDoor
open Go.RowKit

theorem nan_any (x : Int) (w : World) : Calls Tryd.prog 44 #[.int .i64 x] w fun e w' => e = .returned (.bool false) ∧ w' = w := by
  have hx : (x != x) = false := by simp
  go_enter Tryd.func44, Tryd.ntmps44
  go_wp2
  go_ret
  exact ⟨rfl, rfl⟩
/-- what cmp.Compare answers -/
def sgn (x y : Int) : Int := if x < y then -1 else if y < x then 1 else 0
theorem ccmp_any (x y : Int) (w : World) : Calls Tryd.prog 40 #[.int .i64 x, .int .i64 y] w fun e w' => e = .returned (.int .i64 (sgn x y)) ∧ w' = w := by
  by_cases h1 : x < y
  · have HF := hide (show sgn x y = -1 by unfold sgn; rw [if_pos h1])
    go_enter Tryd.func40, Tryd.ntmps40
    go_wp2_with fail
    refine Calls.mono (nan_any x _) ?_
    rintro e w1 ⟨rfl, rfl⟩
    go_wp2_with fail
    refine Calls.mono (nan_any y _) ?_
    rintro e w2 ⟨rfl, rfl⟩
    go_wp2_with fail
    go_ret
    exact ⟨by rw [HF.out]; rfl, rfl⟩
  · by_cases h2 : y < x
    · have HF := hide (show sgn x y = 1 by unfold sgn; rw [if_neg h1, if_pos h2])
      go_enter Tryd.func40, Tryd.ntmps40
      go_wp2_with fail
      refine Calls.mono (nan_any x _) ?_
      rintro e w1 ⟨rfl, rfl⟩
      go_wp2_with fail
      refine Calls.mono (nan_any y _) ?_
      rintro e w2 ⟨rfl, rfl⟩
      go_wp2_with fail
      go_ret
      exact ⟨by rw [HF.out]; rfl, rfl⟩
    · have HF := hide (show sgn x y = 0 by unfold sgn; rw [if_neg h1, if_neg h2])
      go_enter Tryd.func40, Tryd.ntmps40
      go_wp2_with fail
      refine Calls.mono (nan_any x _) ?_
      rintro e w1 ⟨rfl, rfl⟩
      go_wp2_with fail
      refine Calls.mono (nan_any y _) ?_
      rintro e w2 ⟨rfl, rfl⟩
      go_wp2_with fail
      go_ret
      exact ⟨by rw [HF.out]; rfl, rfl⟩
theorem zs_at {ps : List Nat} {j : Nat} (h : j < ps.length) : (zs ps)[j]'(by rw [zs_len]; exact h) = (ps[j] : Int) := by simp [zs]
theorem split_at {l : List Nat} {j : Nat} (h : j < l.length) : l = l.take j ++ l[j] :: l.drop (j + 1) := by
  rw [List.getElem_cons_drop, List.take_append_drop]
theorem cmp_at {l k : List Nat} {j : Nat} (h : l.take j = k.take j) (h1 : j < l.length) (h2 : j < k.length) : Utf.ltL l k = Utf.ltL (l[j] :: l.drop (j + 1)) (k[j] :: k.drop (j + 1)) := by
  have e1 := split_at h1
  have e2 := split_at h2
  rw [← h] at e2
  conv => lhs; rw [e1, e2]
  exact Utf.ltL_same ..
theorem cmp_longer {l k : List Nat} {j : Nat} (h : l.take j = k.take j) (h1 : j < l.length) (h2 : k.length ≤ j) : Utf.ltL l k = false := by
  have e1 := split_at h1
  have e2 : k = k.take j ++ [] := by rw [List.take_of_length_le h2, List.append_nil]
  rw [← h] at e2
  rw [e1, e2, Utf.ltL_same]
  rfl
theorem cmp_end {l k : List Nat} (h : l.take l.length = k.take l.length) : Utf.ltL l k = decide (l.length < k.length) := by
  rw [List.take_length] at h
  by_cases h2 : l.length < k.length
  · have e2 := split_at h2
    rw [← h] at e2
    have e1 : l = l ++ [] := (List.append_nil l).symm
    have e3 := Utf.ltL_same l [] (k[l.length] :: k.drop (l.length + 1))
    rw [← e2, ← e1] at e3
    rw [e3, decide_eq_true h2]
    rfl
  · have e2 : l = k := by rw [h, List.take_of_length_le (by omega)]
    rw [decide_eq_false h2, e2]
    have e3 := Utf.ltL_same k [] []
    rw [List.append_nil] at e3
    rw [e3]
    rfl
set_option maxHeartbeats 4000000 in
theorem cmp_ints (A B : Option Addr) (n m c d : Nat) (l k : List Nat) (w : World) (hA : RI w A n (zs l)) (hB : RI w B m (zs k)) (hn : n ≤ 1048576) (hm : m ≤ 1048576) :
    Calls Tryd.prog 28 #[.slice A n c, .slice B m d] w fun e w' => (∃ z : Int, e = .returned (.int .i64 z) ∧ decide (z < 0) = Utf.ltL l k) ∧ w' = w := by
  have HL := hide hA.len
  have HK := hide hB.len
  rw [zs_len] at HL HK
  go_enter Tryd.func28, Tryd.ntmps28
  go_wp2_with fail
  go_loop [11] (fun i => ∃ j : Nat, j ≤ n ∧ j ≤ m ∧ i = .int .i64 j ∧ Hid (l.take j = k.take j)) (fun i => n - (intOf i).toNat)
  case atStart => exact ⟨0, Nat.zero_le _, Nat.zero_le _, rfl, rfl⟩
  case round =>
    obtain ⟨j, hj, hjm, rfl, heq⟩ := hrel
    by_cases hlt : j < n
    · have hjl : j < l.length := by rw [HL.out]; exact hlt
      obtain ⟨b1, o1, rfl, hb1, hc1⟩ := hA.cell (k := j) (by rw [zs_len]; exact hjl)
      rw [zs_at hjl] at hc1
      have hj0 : (0 : Int) ≤ (j : Int) := by omega
      have hj1 : (j : Int) < (n : Int) := by omega
      by_cases hlm : j < m
      · have hjk : j < k.length := by rw [HK.out]; exact hlm
        obtain ⟨b2, o2, rfl, hb2, hc2⟩ := hB.cell (k := j) (by rw [zs_len]; exact hjk)
        rw [zs_at hjk] at hc2
        have hj2 : (j : Int) < (m : Int) := by omega
        have HC := hide (cmp_at heq.out hjl hjk)
        have HX := hide (show l[j] = k[j] → l.take (j + 1) = k.take (j + 1) from fun hx => by rw [List.take_succ_eq_append_getElem hjl, List.take_succ_eq_append_getElem hjk, heq.out, hx])
        generalize l[j] = x at *
        generalize k[j] = y at *
        go_wp2_with fail
        refine Calls.mono (ccmp_any (x : Int) (y : Int) _) ?_
        rintro e w3 ⟨rfl, rfl⟩
        by_cases hx : x = y
        · subst hx
          have HF := HX.out rfl
          rw [show sgn (x : Int) (x : Int) = 0 by unfold sgn; rw [if_neg (by omega), if_neg (by omega)]]
          have HFF := hide HF
          clear HF
          go_wp2_with fail
          go_round
          case rel => exact ⟨j + 1, by omega, by omega, by go_num, HFF⟩
          case measure => simp [intOf]; omega
        · by_cases hxy : x < y
          · rw [show sgn (x : Int) (y : Int) = -1 by unfold sgn; rw [if_pos (by omega)]]
            have HF := hide (show Utf.ltL l k = true by rw [HC.out]; exact Utf.lt_head hxy)
            clear hx hxy
            go_wp2_with fail
            go_ret
            exact ⟨⟨_, rfl, by rw [HF.out]; rfl⟩, rfl⟩
          · rw [show sgn (x : Int) (y : Int) = 1 by unfold sgn; rw [if_neg (by omega), if_pos (by omega)]]
            have HF := hide (show Utf.ltL l k = false by rw [HC.out]; exact Utf.gt_head (by omega))
            clear hx hxy
            go_wp2_with fail
            go_ret
            exact ⟨⟨_, rfl, by rw [HF.out]; rfl⟩, rfl⟩
      · have hj2 : (m : Int) ≤ (j : Int) := by omega
        have HF := hide (cmp_longer heq.out hjl (by rw [HK.out]; omega))
        generalize l[j] = x at *
        go_wp2_with fail
        go_ret
        exact ⟨⟨_, rfl, by rw [HF.out]; rfl⟩, rfl⟩
    · obtain rfl : j = n := by omega
      have HF := hide (show Utf.ltL l k = decide (j < m) by
        have h1 := heq.out
        have h2 := HL.out
        have h3 := HK.out
        subst h2 h3
        exact cmp_end h1)
      by_cases hlm : j < m
      · have hj2 : (j : Int) < (m : Int) := by omega
        rw [decide_eq_true hlm] at HF
        go_wp2_with fail
        go_ret
        exact ⟨⟨_, rfl, by rw [HF.out]; rfl⟩, rfl⟩
      · have hj2 : ¬ (j : Int) < (m : Int) := by omega
        rw [decide_eq_false hlm] at HF
        go_wp2_with fail
        go_ret
        exact ⟨⟨_, rfl, by rw [HF.out]; rfl⟩, rfl⟩
theorem less_num : ∀ a b : List UInt8, Op.bytesLess a b = Utf.ltL (Utf.num a) (Utf.num b)
  | _, [] => by cases ‹List UInt8› <;> rfl
  | [], _ :: _ => rfl
  | x :: a, y :: b => by
    have ih := less_num a b
    unfold Op.bytesLess
    rw [ih]
    show _ = Utf.ltL (x.toNat :: Utf.num a) (y.toNat :: Utf.num b)
    rw [Utf.ltL]
    by_cases h1 : x.toNat < y.toNat
    · rw [if_pos h1, decide_eq_true (UInt8.lt_iff_toNat_lt.2 h1)]; rfl
    · rw [if_neg h1, decide_eq_false (fun h => h1 (UInt8.lt_iff_toNat_lt.1 h))]
      by_cases h2 : y.toNat < x.toNat
      · rw [if_pos h2, show (x == y) = false by rw [beq_eq_false_iff_ne]; rintro rfl; omega]; rfl
      · rw [if_neg h2, show (x == y) = true by rw [beq_iff_eq]; exact UInt8.toNat_inj.1 (by omega)]; simp
theorem less_texts {ps qs : List Nat} (hp : Utf.allCp ps) (hq : Utf.allCp qs) : Op.bytesLess (str (Utf.encs ps)).toList (str (Utf.encs qs)).toList = Utf.ltL ps qs := by
  rw [str_toList, str_toList, less_num, Utf.encs_order ps qs hp hq]
end Go.Proofs.YtheoadempenpaaaDoor
