/- Walks of the reference's Sign, decimal, Text, value. -/
import Derived.Test.YtmkkbomkonociaaDocScan
import Derived.Deep.WholeRow
namespace Go.Proofs.Ytmkkbomkonociaa
open Go.RowKit

theorem str_append (a b : List UInt8) : str a ++ str b = str (a ++ b) := by
  apply ByteArray.ext
  simp [str, ByteArray.data_append]
theorem hexd_toNat {n : Nat} (h : n < 16) : (hexd n).toNat = if n < 10 then 48 + n else 87 + n := by
  unfold hexd
  split
  · rw [UInt8.toNat_ofNat']; omega
  · rw [UInt8.toNat_ofNat']; omega

theorem sign_any (n : Nat) (w : World) (hn : n < 16) : Calls Try.prog 31 #[.int .u32 (n : Int)] w fun e w' => e = .returned (.int .u8 ((hexd n).toNat : Int)) ∧ w' = w := by
  have HX := hide (hexd_toNat hn)
  by_cases h9 : n < 10
  · rw [if_pos h9] at HX
    have HN := hide h9
    have hc : IntKind.u8.wrap (n : Int) = (n : Int) := by unfold IntKind.wrap; simp [IntKind.signed, IntKind.bits]; omega
    have hc2 : IntKind.u8.wrap (48 + (n : Int)) = 48 + (n : Int) := by unfold IntKind.wrap; simp [IntKind.signed, IntKind.bits]; omega
    go_enter Try.func31, Try.ntmps31
    go_wp2_with fail
    go_ret
    exact ⟨by rw [HX.out]; first | rfl | (congr 2; omega), rfl⟩
  · rw [if_neg h9] at HX
    have hc : IntKind.u32.wrap ((n : Int) - 10) = (n : Int) - 10 := by unfold IntKind.wrap; simp [IntKind.signed, IntKind.bits]; omega
    have hc1 : IntKind.u8.wrap ((n : Int) - 10) = (n : Int) - 10 := by unfold IntKind.wrap; simp [IntKind.signed, IntKind.bits]; omega
    have hc2 : IntKind.u8.wrap (97 + ((n : Int) - 10)) = 97 + ((n : Int) - 10) := by unfold IntKind.wrap; simp [IntKind.signed, IntKind.bits]; omega
    go_enter Try.func31, Try.ntmps31
    go_wp2_with fail
    go_ret
    exact ⟨by rw [HX.out]; show Ending.returned (.int .u8 (97 + ((n : Int) - 10))) = _; congr 2; omega, rfl⟩

theorem dig_size (n : Nat) (hn : n < 4294967296) : (str (Num.dig n)).size ≤ 20 := by
  have := (Num.dig_len 9 n).2 (by omega)
  rw [str_size]; omega
theorem dec_big (m : Nat) (hm : ¬ m < 10) : str (Num.dig (m / 10)) ++ str (Num.dig (m % 10)) = str (Num.dig m) := by
  rw [str_append, Num.dig_big hm, Num.dig_small (show m % 10 < 10 by omega)]

theorem decimal_ind (k : Nat) : ∀ (n : Nat) (w : World), n < k → n < 4294967296 →
    Calls Try.prog 32 #[.int .u32 (n : Int)] w fun e w' => e = .returned (.string (str (Num.dig n))) ∧ Below w.heap.size w w' := by
  induction k with
  | zero => intro n w h; omega
  | succ k ih =>
    intro n w h hn
    by_cases h9 : n < 10
    · have HS := hide (congrArg str (Num.dig_small h9))
      have hv : ((UInt8.ofNat (48 + n)).toNat : Int) = 48 + (n : Int) := by rw [Num.ofNat_dig h9]; omega
      have hrb : RB (w.alloc (.cells #[.int .u8 (48 + (n : Int))] 5)) (some ⟨w.heap.size, 0, none⟩) 1 [UInt8.ofNat (48 + n)] := RB.lit w 5 _ _ 1 rfl (by simp only [bytes, List.map_cons, List.map_nil, hv])
      have hcv := run_str (P := Try.prog) _ 40 9 5 _ 1 1 _ hrb (by kernel_rfl) (by kernel_rfl) (by kernel_rfl)
      have hc : IntKind.u8.wrap (n : Int) = (n : Int) := by unfold IntKind.wrap; simp [IntKind.signed, IntKind.bits]; omega
      have hc2 : IntKind.u8.wrap (48 + (n : Int)) = 48 + (n : Int) := by unfold IntKind.wrap; simp [IntKind.signed, IntKind.bits]; omega
      clear hv hrb
      generalize str [UInt8.ofNat (48 + n)] = S at hcv HS
      go_enter Try.func32, Try.ntmps32
      go_wp2
      go_ret
      exact ⟨by rw [HS.out]; rfl, below_alloc _ _⟩
    · have hl1 := dig_size (n / 10) (by omega)
      have hl2 := dig_size (n % 10) (by omega)
      have HS := hide (dec_big n h9)
      have e1 : (n : Int) / 10 = ((n / 10 : Nat) : Int) := by omega
      have e2 : (n : Int) % 10 = ((n % 10 : Nat) : Int) := by omega
      have E := hide (And.intro e1 e2)
      clear e1 e2
      go_enter Try.func32, Try.ntmps32
      go_wp2_with fail
      refine Calls.mono (by first | exact ih _ _ (by omega) (by omega) | (rw [E.out.1]; exact ih _ _ (by omega) (by omega))) ?_
      rintro e w1 ⟨rfl, hb⟩
      go_wp2_with fail
      refine Calls.mono (by first | exact ih _ _ (by omega) (by omega) | (rw [E.out.2]; exact ih _ _ (by omega) (by omega))) ?_
      rintro e w2 ⟨rfl, hb2⟩
      go_wp2_with fail
      go_ret
      exact ⟨by rw [← HS.out]; rfl, below_then hb hb2⟩
theorem decimal_any (n : Nat) (w : World) (hn : n < 4294967296) :
    Calls Try.prog 32 #[.int .u32 (n : Int)] w fun e w' => e = .returned (.string (str (Num.dig n))) ∧ Below w.heap.size w w' :=
  decimal_ind (n + 1) n w (Nat.lt_succ_self _) hn

/-- the last j digits of a mark -/
theorem hexs_last (m j : Nat) (hj : j < 8) : hexs m (8 - j) = hexs m (8 - (j + 1)) ++ [hexd (m / 16 ^ j % 16)] := by
  rw [show 8 - j = (8 - (j + 1)) + 1 by omega, hexs, show 7 - (8 - (j + 1)) = j by omega]
theorem hexs_le {m j : Nat} (h : j ≤ 8) : ((hexs m 8).drop (8 - j)).length = j := by rw [List.length_drop, hexs_len]; omega
theorem hexs_get (m : Nat) : ∀ (k j : Nat), j < k → k ≤ 8 → (hexs m k)[j]? = some (hexd (m / 16 ^ (7 - j) % 16))
  | 0, _, h, _ => by omega
  | k + 1, j, h, hk => by
    rw [hexs, List.getElem?_append, hexs_len]
    split
    · exact hexs_get m k j (by assumption) (by omega)
    · obtain rfl : j = k := by omega
      simp
theorem hexs_more (m j : Nat) (hj : j < 8) : (hexs m 8).drop (8 - (j + 1)) = hexd (m / 16 ^ j % 16) :: (hexs m 8).drop (8 - j) := by
  have h := hexs_get m 8 (8 - (j + 1)) (by omega) (by omega)
  have hlt : 8 - (j + 1) < (hexs m 8).length := by rw [hexs_len]; omega
  rw [List.drop_eq_getElem_cons hlt]
  congr 1
  · rw [List.getElem?_eq_getElem hlt, Option.some.injEq] at h
    rw [h]; congr 3; congr 1; omega
  · congr 1; omega
theorem text_any (g m : Nat) (w : World) (hg : g < 4294967296) (hm : m < 4294967296) (hb : isRev g m = true) :
    Calls Try.prog 15 #[.agg #[.int .u32 (g : Int), .int .u32 (m : Int)]] w fun e w' => e = .returned (.string (str (revText g m))) ∧ Below w.heap.size w w' := by
  by_cases h0 : g = 0
  · subst h0
    have h1 : m = 0 := by unfold isRev at hb; simpa using hb
    subst h1
    have HT := hide (show str (revText 0 0) = ByteArray.mk #[] from rfl)
    clear hb
    go_enter Try.func15, Try.ntmps15
    go_wp2_with fail
    refine Calls.mono (none_any 0 0 _ (by omega) (by omega)) ?_
    rintro e w1 ⟨rfl, hb1⟩
    go_wp2_with fail
    go_ret
    exact ⟨by rw [HT.out]; rfl, below_then (below_alloc w _) hb1⟩
  · have HT := hide (show revText g m = Num.dig g ++ (45 :: hexs m 8) by unfold revText; rw [if_neg h0])
    have HGM := hide (And.intro hg hm)
    have HG := hide (dig_size g hg)
    have HB := hide (show (decide (g = 0) && decide (m = 0)) = false by simp [h0])
    clear hg hm hb h0
    go_enter Try.func15, Try.ntmps15
    go_wp2_with fail
    refine Calls.mono (none_any g m _ HGM.out.1 HGM.out.2) ?_
    rintro e w1 ⟨rfl, hb1⟩
    rw [HB.out]
    have hc0 := keep_cell hb1 (b := w.heap.size) (o := 0) (v := .int .u32 (g : Int)) (by rw [cell_of_row _ _ _ _ _ _ (heap_alloc_last w _)]; rfl)
    have hc1 := keep_cell hb1 (b := w.heap.size) (o := 1) (v := .int .u32 (m : Int)) (by rw [cell_of_row _ _ _ _ _ _ (heap_alloc_last w _)]; rfl)
    have HB1 := hide (below_then (below_alloc w _) hb1)
    have HS := hide (show w.heap.size < w1.heap.size by have := hb1.size; simp at this; omega)
    clear hb1
    go_wp2_with fail
    have HC0 := hide hc0
    clear hc0 hc1
    go_loopw [3, 4] (fun a b wr => ∃ j : Nat, j ≤ 8 ∧ a = .string (str ((hexs m 8).drop (8 - j))) ∧ b = .int .u32 ((m / 16 ^ j : Nat) : Int) ∧ Hid (Below w1.heap.size w1 wr)) (fun a _ _ => 8 - (match a with | .string s => s.size | _ => 0))
    case atStart => exact ⟨0, by omega, by rw [List.drop_eq_nil_of_le (by rw [hexs_len]; omega)]; rfl, by simp, hide (Below.refl _ _)⟩
    case round =>
      obtain ⟨j, hj, rfl, rfl, hb⟩ := hrel
      have hcw := hb.out.cell (p := ⟨w.heap.size, 0, none⟩) HS.out
      rw [HC0.out] at hcw
      by_cases hj8 : j < 8
      · have HM := hide (hexs_more m j hj8)
        have HL := hexs_le (m := m) hj
        have HP := hide (show m / 16 ^ j / 16 = m / 16 ^ (j + 1) by rw [Nat.div_div_eq_div_mul, ← Nat.pow_succ])
        have hx := Nat.lt_of_le_of_lt (Nat.div_le_self m (16 ^ j)) HGM.out.2
        generalize (hexs m 8).drop (8 - j) = S at *
        generalize m / 16 ^ j = x at *
        obtain ⟨d, hd⟩ : ∃ d, d = x % 16 := ⟨_, rfl⟩
        rw [← hd] at HM
        have hd16 : d < 16 := by omega
        have e1 : (x : Int) % 16 = (d : Int) := by omega
        obtain ⟨y, hy⟩ : ∃ y, y = x / 16 := ⟨_, rfl⟩
        have e2 : (x : Int) / 16 = (y : Int) := by omega
        have HY := hide (show y < 4294967296 by omega)
        rw [← hy] at HP
        have hsz : ((str S).size : Int) < 8 := by rw [str_size]; omega
        have HL := hide HL
        have HD := hide hd16
        have hrb : RB (wr.alloc (.cells #[.int .u8 ((hexd d).toNat : Int)] 5)) (some ⟨wr.heap.size, 0, none⟩) 1 [hexd d] := RB.lit wr 5 _ _ 1 rfl rfl
        have hcv := run_str (P := Try.prog) _ 40 9 5 _ 1 1 _ hrb (by kernel_rfl) (by kernel_rfl) (by kernel_rfl)
        have hs2 : (str S).size ≤ 8 := by rw [str_size, HL.out]; omega
        have hs3 : (str [hexd d]).size = 1 := str_size _
        have HA := hide (str_append [hexd d] S)
        clear hd hy hx hrb hd16
        go_wp2_with fail
        refine Calls.mono (sign_any d wr HD.out) ?_
        rintro e w2 ⟨rfl, rfl⟩
        generalize hexd d = c at *
        generalize str [c] = C at *
        go_wp2_with fail
        go_roundw
        case rel => exact ⟨j + 1, by omega, by rw [HA.out, HM.out]; rfl, by rw [← HP.out]; have := HY.out; congr 1; omega, hide (hb.out.alloc hb.out.size _)⟩
        case measure => show 8 - (C ++ str S).size < 8 - (str S).size; rw [ByteArray.size_append]; omega
      · obtain rfl : j = 8 := by omega
        have HL := hexs_le (m := m) (j := 8) (by omega)
        have HF : Hid (revText g m = Num.dig g ++ (45 :: (hexs m 8).drop (8 - 8))) := hide (by rw [HT.out]; rfl)
        generalize (hexs m 8).drop (8 - 8) = S at *
        have hsz : ¬ ((str S).size : Int) < 8 := by rw [str_size, HL]; omega
        have hs2 : (str S).size ≤ 8 := by rw [str_size, HL]; omega
        clear HL
        go_wp2_with fail
        refine Calls.mono (decimal_any g _ HGM.out.1) ?_
        rintro e w2 ⟨rfl, hb2⟩
        have HG2 := HG.out
        have HR := hide (show str (revText g m) = str (Num.dig g) ++ ByteArray.mk #[45] ++ str S by rw [HF.out]; exact (by rw [show ByteArray.mk #[45] = str [45] from rfl, str_append, str_append, List.append_assoc]; rfl))
        generalize str (Num.dig g) = G at *
        go_wp2_with fail
        go_ret
        exact ⟨by rw [HR.out]; rfl, below_then (HB1.out.trans (hb.out.mono (by have := HS.out; omega))) hb2⟩
def valOf (c : UInt8) (b : Nat) : Int := if digitN (c.toNat : Int) < b then (digitN (c.toNat : Int) : Int) else -1
theorem value_any (c : UInt8) (B : Nat) (w : World) (hB : B ≤ 16) : Calls Try.prog 34 #[.int .u8 (c.toNat : Int), .int .u32 (B : Int)] w fun e w' => e = .returned (.int .i64 (valOf c B)) ∧ w' = w := by
  obtain ⟨x, hx⟩ : ∃ x : Int, x = (c.toNat : Int) := ⟨_, rfl⟩
  have HV := hide (show valOf c B = if digitN x < B then (digitN x : Int) else -1 by rw [hx]; rfl)
  have HX := hide hx
  rw [← hx]
  clear hx
  go_enter Try.func34, Try.ntmps34
  go_wp2
  go_loop [5] (fun i => ∃ j : Nat, j ≤ B ∧ i = .int .u32 j ∧ Hid (j ≤ digitN x)) (fun i => B - (intOf i).toNat)
  case atStart => exact ⟨0, by omega, rfl, hide (Nat.zero_le _)⟩
  case round =>
    obtain ⟨j, hj, rfl, hd⟩ := hrel
    by_cases hlt : j < B
    · have hlt' : (j : Int) < (B : Int) := by omega
      have HJ := hide (show j < 16 by omega)
      by_cases hc : ((hexd j).toNat : Int) = x
      · have HR := hide (show digitN x = j by rw [← hc]; exact hexd_digit HJ.out)
        have ht : (((hexd j).toNat : Int) == x) = true := by rw [hc]; simp
        have hw : IntKind.i64.wrap (j : Int) = (j : Int) := by rw [IntKind.wrap_i64]; have := HJ.out; omega
        have HVV := hide (show valOf c B = (j : Int) by rw [HV.out, HR.out, if_pos hlt])
        clear hc HV HR
        go_wp2_with fail
        refine Calls.mono (sign_any j _ HJ.out) ?_
        rintro e w2 ⟨rfl, rfl⟩
        go_wp2_with fail
        go_ret
        exact ⟨by rw [HVV.out]; rfl, rfl⟩
      · have HR := hide (show j + 1 ≤ digitN x by
          by_cases he : digitN x = j
          · exact absurd (by rw [← he]; exact digit_hexd (by rw [he]; exact HJ.out)) hc
          · have := hd.out; omega)
        have ht : (((hexd j).toNat : Int) == x) = false := by rw [beq_eq_false_iff_ne]; exact hc
        clear hc
        go_wp2_with fail
        refine Calls.mono (sign_any j _ HJ.out) ?_
        rintro e w2 ⟨rfl, rfl⟩
        go_wp2_with fail
        go_round
        case rel => exact ⟨j + 1, by omega, by go_num, HR⟩
        case measure => have := HJ.out; simp [intOf]; omega
    · obtain rfl : j = B := by omega
      have HVV := hide (show valOf c j = -1 by rw [HV.out, if_neg (by have := hd.out; omega)])
      clear HV
      go_wp2_with fail
      go_ret
      exact ⟨by rw [HVV.out]; rfl, rfl⟩
end Go.Proofs.Ytmkkbomkonociaa
