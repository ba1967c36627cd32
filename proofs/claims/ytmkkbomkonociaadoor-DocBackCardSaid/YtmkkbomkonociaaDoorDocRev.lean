/- The texts of revisions in plain Lean, and the walks of doc's is, digit, RevText and of the reference's Is, None. -/
import Derived.Test.YtmkkbomkonociaaDoorSlices
import Derived.Test.YtmkkbomkonociaaDoorNumMath
import Derived.Test.YtmkkbomkonociaaDoorConv
import Derived.Test.YtmkkbomkonociaaDoorCrcTakes
namespace Go.Proofs.YtmkkbomkonociaaDoor
open Go.RowKit

def revV (g m : Nat) : Value := .agg #[.int .u32 (g : Int), .int .u32 (m : Int)]
def isRev (g m : Nat) : Bool := decide (g ≠ 0) || decide (m = 0)

theorem is_any (g m : Nat) (w : World) (hg : g < 4294967296) (hm : m < 4294967296) :
    Calls Tryd.prog 12 #[.agg #[.int .u32 (g : Int), .int .u32 (m : Int)]] w fun e w' => e = .returned (.bool (isRev g m)) ∧ Below w.heap.size w w' := by
  by_cases h0 : g = 0
  · subst h0
    by_cases h1 : m = 0
    · subst h1
      go_enter Tryd.func12, Tryd.ntmps12
      go_wp2
      go_ret
      exact ⟨rfl, below_alloc _ _⟩
    · have hz : ((m : Int) == 0) = false := by rw [beq_eq_false_iff_ne]; omega
      have HI := hide (show isRev 0 m = false by simp [isRev, h1])
      clear h1
      go_enter Tryd.func12, Tryd.ntmps12
      go_wp2
      go_ret
      exact ⟨by rw [HI.out]; first | rfl | (simp; omega), below_alloc _ _⟩
  · have HI := hide (show isRev g m = true by simp [isRev, h0])
    have hp : 0 < g := by omega
    clear h0
    go_enter Tryd.func12, Tryd.ntmps12
    go_wp2
    go_ret
    exact ⟨by rw [HI.out]; rfl, below_alloc _ _⟩
/-! ### the text -/
def hexd (n : Nat) : UInt8 := if n < 10 then UInt8.ofNat (48 + n) else UInt8.ofNat (87 + n)
/-- the first j digits of a mark -/
def hexs (m : Nat) : Nat → List UInt8
  | 0 => []
  | j + 1 => hexs m j ++ [hexd (m / 16 ^ (7 - j) % 16)]
theorem hexs_len (m j : Nat) : (hexs m j).length = j := by
  induction j with
  | zero => rfl
  | succ j ih => rw [hexs, List.length_append, ih]; rfl
def revText (g m : Nat) : List UInt8 := if g = 0 then [] else Num.dig g ++ (45 :: hexs m 8)
def revErr (g m : Nat) : Int := if isRev g m then 0 else 291
theorem hex_at (j : Nat) (h : j < 16) (h' : j < (ByteArray.mk #[48, 49, 50, 51, 52, 53, 54, 55, 56, 57, 97, 98, 99, 100, 101, 102]).size) : (ByteArray.mk #[48, 49, 50, 51, 52, 53, 54, 55, 56, 57, 97, 98, 99, 100, 101, 102])[j]'h' = hexd j := by
  have : ∀ k : Fin 16, (ByteArray.mk #[48, 49, 50, 51, 52, 53, 54, 55, 56, 57, 97, 98, 99, 100, 101, 102])[k.val]'(by have := k.isLt; exact this) = hexd k.val := by decide
  exact this ⟨j, h⟩

theorem low16 (x : Nat) (hx : x < 4294967296) : Go.bits .and .u32 (x : Int) 15 = ((x % 16 : Nat) : Int) := by
  rw [show (15 : Int) = ((15 : Nat) : Int) from rfl, u32_and_nat x 15 hx (by omega), show (15 : Nat) = 2 ^ 4 - 1 from rfl, Nat.and_two_pow_sub_one_eq_mod]
theorem pow16 (m j : Nat) (hj : j < 8) : (m : Int) / 2 ^ (28 - 4 * j) = ((m / 16 ^ (7 - j) : Nat) : Int) := by
  rw [show 28 - 4 * j = 4 * (7 - j) by omega, Int.natCast_ediv, Int.natCast_pow, Int.pow_mul]; rfl

set_option maxRecDepth 100000 in
theorem revtext_any (g m : Nat) (w : World) (hg : g < 4294967296) (hm : m < 4294967296) :
    Calls Tryd.prog 5 #[.agg #[.int .u32 (g : Int), .int .u32 (m : Int)]] w fun e w' => e = .returned (.tuple #[.string (str (revText g m)), .int .i64 (revErr g m)]) ∧ Below w.heap.size w w' := by
  obtain ⟨i0, hi, hz0, hz1, hz2⟩ := info_parts u8_info
  by_cases h0 : g = 0
  · subst h0
    have HT := hide (show str (revText 0 m) = ByteArray.mk #[] from rfl)
    cases hb : isRev 0 m with
    | false =>
      have HE := hide (show revErr 0 m = 291 by simp [revErr, hb])
      have HB := hide hb
      clear hb
      go_enter Tryd.func5, Tryd.ntmps5
      go_wp2_with fail
      refine Calls.mono (is_any 0 m _ (by omega) hm) ?_
      rintro e w1 ⟨rfl, hb1⟩
      rw [HB.out]
      go_wp2_with fail
      go_ret2
      exact ⟨by rw [HT.out, HE.out]; rfl, below_then (below_alloc w _) hb1⟩
    | true =>
      have HE := hide (show revErr 0 m = 0 by simp [revErr, hb])
      have HB := hide hb
      clear hb
      go_enter Tryd.func5, Tryd.ntmps5
      go_wp2_with fail
      refine Calls.mono (is_any 0 m _ (by omega) hm) ?_
      rintro e w1 ⟨rfl, hb1⟩
      rw [HB.out]
      have hc0 := keep_cell hb1 (b := w.heap.size) (o := 0) (by rw [cell_of_row _ _ _ _ _ _ (heap_alloc_new w _)]; rfl)
      go_wp2_with fail
      go_ret2
      exact ⟨by rw [HT.out, HE.out]; rfl, below_then (below_alloc w _) hb1⟩
  · have HT := hide (show revText g m = Num.dig g ++ (45 :: hexs m 8) by unfold revText; rw [if_neg h0])
    have HE := hide (show revErr g m = 0 by simp [revErr, isRev, h0])
    have HB := hide (show isRev g m = true by simp [isRev, h0])
    have hgp : 0 < g := by omega
    have hgz : ((g : Int) == 0) = false := by rw [beq_eq_false_iff_ne]; omega
    clear h0
    go_enter Tryd.func5, Tryd.ntmps5
    go_wp2_with fail
    refine Calls.mono (is_any g m _ hg hm) ?_
    rintro e w1 ⟨rfl, hb1⟩
    rw [HB.out]
    have hc0 := keep_cell hb1 (b := w.heap.size) (o := 0) (v := .int .u32 (g : Int)) (by rw [cell_of_row _ _ _ _ _ _ (heap_alloc_new w _)]; rfl)
    have hc1 := keep_cell hb1 (b := w.heap.size) (o := 1) (v := .int .u32 (m : Int)) (by rw [cell_of_row _ _ _ _ _ _ (heap_alloc_new w _)]; rfl)
    have HB1 := hide (below_then (below_alloc w _) hb1)
    have HGM := hide (And.intro hg hm)
    clear hg hm
    have hsz : w.heap.size + 1 ≤ w1.heap.size := by have := hb1.size; simpa using this
    clear hb1
    go_wp2_with fail
    go_loopw [4, 5] (fun a b wr => ∃ (k : Nat) (Y : List UInt8) (A : Option Addr) (c : Nat), a = .slice A Y.length c ∧ b = .int .u32 k ∧ k ≤ g ∧ Y.length ≤ 10 ∧ Hid (Num.digz g = Num.digz k ++ Y) ∧ Hid (wr.ownsRow (w.heap.size + 1) 5 1 (.slice A Y.length c) Y.length (bytes Y)) ∧ Hid (Below (w.heap.size + 1) w1 wr)) (fun _ b _ => (intOf b).toNat)
    case atStart => exact ⟨g, [], none, 0, rfl, rfl, Nat.le_refl _, by simp, hide (by rw [List.append_nil]), hide (World.ownsRow_nil _ _ _ _), hide (Below.refl _ _)⟩
    case round =>
      obtain ⟨k, Y, A, c, rfl, rfl, hk, hY, hd, ho, hb⟩ := hrel
      have hgl := (Num.dig_len 9 g).2 (by have := HGM.out; omega)
      have hdz : Num.digz g = Num.dig g := by unfold Num.digz; rw [if_neg (by omega)]
      by_cases hk0 : 0 < k
      · have hlt : k % 10 < 10 := by omega
        have hl2 : Y.length + 1 ≤ 10 := by
          have h1 := congrArg List.length hd.out
          have h2 : Num.digz k = Num.dig k := by unfold Num.digz; rw [if_neg (by omega)]
          have h3 := List.length_pos_iff.2 (Num.dig_ne k)
          rw [hdz, h2, List.length_append] at h1
          omega
        have HST := hide (Num.digz_step k (by omega))
        have hsz2 := hb.out.size
        have hlt2 : k % 10 < (ByteArray.mk #[48, 49, 50, 51, 52, 53, 54, 55, 56, 57, 97, 98, 99, 100, 101, 102]).size := by show _ < 16; omega
        have HX := hide (show (ByteArray.mk #[48, 49, 50, 51, 52, 53, 54, 55, 56, 57, 97, 98, 99, 100, 101, 102])[k % 10]'hlt2 = UInt8.ofNat (48 + k % 10) by rw [hex_at _ (by omega)]; unfold hexd; rw [if_pos hlt])
        have HR := hide (Reads.of_own ho.out)
        clear hgl hdz
        go_wp2_with (at_builtin; refine wpList_append_reads rfl (.tmp 23) (.tmp 24) _ rfl (w.heap.size + 1) 5 i0 (.int .u8 0) 1 1 Tryd.underlying37 hi hz0 hz1 hz2 rfl (by omega) (.slice (some ⟨wr.heap.size, 0, none⟩) 1 1) 1 [.int .u8 (((ByteArray.mk #[48, 49, 50, 51, 52, 53, 54, 55, 56, 57, 97, 98, 99, 100, 101, 102])[k % 10]'hlt2).toNat : Int)] rfl (World.ownsRow_lit _ _ 1 (by omega) (by simp [maxLen]) rfl) wr.heap.size A Y.length c (bytes Y) rfl (Reads.alloc HR.out (Nat.le_refl _) _) bytes_one (by unfold maxLen; omega) (by omega) (by simp; omega) ?_; intro v2 w2 hown2 hg2 hat2)
        obtain ⟨A2, c2, rfl, hc2, hm2, hr2⟩ := own_slice hown2
        rw [Nat.add_comm 1] at hown2 ⊢
        go_roundw
        case rel => exact ⟨k / 10, UInt8.ofNat (48 + k % 10) :: Y, A2, c2, rfl, by (have := HGM.out; congr 1; omega), by omega, by simp only [List.length_cons]; omega, hide (by rw [hd.out, HST.out, List.append_assoc]; rfl), hide (by rw [← HX.out]; exact hown2), hide (((hb.out.alloc (by omega) _)).grown hg2 (by simp; omega) fun j hj => by simp [Value.ownBlock] at hj; omega)⟩
        case measure => have := HGM.out; simp [intOf]; omega
      · obtain rfl : k = 0 := by omega
        have HY : Hid (Num.dig g = Y) := hide (by rw [← hdz, hd.out]; rfl)
        clear hgl hdz hd hk0
        have hsz2 := hb.out.size
        have HC := hide (show wr.cell? ⟨w.heap.size, 1, none⟩ = some (.int .u32 (m : Int)) by rw [← hc1]; exact hb.out.cell (p := ⟨w.heap.size, 1, none⟩) (by simp))
        go_wp2_with (at_builtin; refine wpList_append_reads rfl (.tmp 26) (.tmp 27) _ rfl (w.heap.size + 1) 5 i0 (.int .u8 0) 1 1 Tryd.underlying37 hi hz0 hz1 hz2 rfl (by omega) (.slice A Y.length c) Y.length (bytes Y) rfl (ho.out.alloc _) (wr.heap.size + 1) (some ⟨wr.heap.size, 0, none⟩) 1 1 [.int .u8 45] rfl (Reads.one _ _ _) (by intro u hu; simp at hu; subst hu; rfl) (by unfold maxLen; omega) (by omega) (by simp; omega) ?_; intro v2 w2 hown2 hg2 hat2)
        have hsz3 : wr.heap.size + 1 ≤ w2.heap.size := by have := hg2.size; simpa using this
        have HB2 := hide ((hb.out.alloc (by omega) _).grown hg2 (by simp; omega) fun j hj => (ho.out.lt j hj).1)
        have HO2 := hide hown2
        have HC2 := hide (show w2.cell? ⟨w.heap.size, 1, none⟩ = some (.int .u32 (m : Int)) by rw [← hc1]; exact HB2.out.cell (p := ⟨w.heap.size, 1, none⟩) (by simp))
        obtain ⟨A2, c2, rfl, hc2, hm2, hr2⟩ := own_slice hown2
        have HC1 := hide hc1
        clear hown2 hg2 hat2 hr2 ho hb hc0 hc1 HC
        go_loopw [6, 7] (fun a b wr2 => ∃ (j : Nat) (A : Option Addr) (c : Nat), j ≤ 8 ∧ b = .int .i64 (28 - 4 * (j : Int)) ∧ a = .slice A (Y.length + 1 + j) c ∧ Hid (wr2.ownsRow (w.heap.size + 1) 5 1 (.slice A (Y.length + 1 + j) c) (Y.length + 1 + j) (bytes (Y ++ 45 :: hexs m j))) ∧ Hid (Below (w.heap.size + 1) w1 wr2)) (fun _ b _ => (intOf b + 4).toNat)
        case atStart => exact ⟨0, A2, c2, by omega, rfl, rfl, hide (by have := HO2.out; rwa [show bytes Y ++ [Value.int .u8 45] = bytes (Y ++ 45 :: hexs m 0) by rw [bytes_append]; rfl] at this), HB2⟩
        case round =>
          obtain ⟨j, A, c, hj, rfl, rfl, ho, hb⟩ := hrel
          have HC := hide (show wr.cell? ⟨w.heap.size, 1, none⟩ = some (.int .u32 (m : Int)) by rw [← HC1.out]; exact hb.out.cell (p := ⟨w.heap.size, 1, none⟩) (by simp))
          by_cases hj8 : j < 8
          · have hcm := HC.out
            obtain ⟨d, hd⟩ : ∃ d, d = m / 16 ^ (7 - j) % 16 := ⟨_, rfl⟩
            have hd16 : d < 16 := by omega
            have hbit : Go.bits .and .u32 ((m : Int) / 2 ^ (28 - 4 * j)) 15 = (d : Int) := by
              rw [pow16 m j hj8, low16 _ (Nat.lt_of_le_of_lt (Nat.div_le_self _ _) HGM.out.2), hd]
            have HS := hide (show hexs m (j + 1) = hexs m j ++ [hexd d] by rw [hd]; rfl)
            have hlt2 : d < (ByteArray.mk #[48, 49, 50, 51, 52, 53, 54, 55, 56, 57, 97, 98, 99, 100, 101, 102]).size := hd16
            have HX := hide (hex_at d hd16 hlt2)
            have hsz4 := hb.out.size
            clear hd
            go_wp2_with (at_builtin; refine wpList_append_reads rfl (.tmp 33) (.tmp 40) _ rfl (w.heap.size + 1) 5 i0 (.int .u8 0) 1 1 Tryd.underlying37 hi hz0 hz1 hz2 rfl (by omega) (.slice A (Y.length + 1 + j) c) (Y.length + 1 + j) (bytes (Y ++ 45 :: hexs m j)) rfl (ho.out.alloc _) (wr.heap.size + 1) (some ⟨wr.heap.size, 0, none⟩) 1 1 [.int .u8 (((ByteArray.mk #[48, 49, 50, 51, 52, 53, 54, 55, 56, 57, 97, 98, 99, 100, 101, 102])[d]'hlt2).toNat : Int)] rfl (Reads.one _ _ _) (by intro u hu; simp at hu; subst hu; rfl) (by unfold maxLen; omega) (by omega) (by simp; omega) ?_; intro v3 w3 hown3 hg3 hat3)
            obtain ⟨A3, c3, rfl, hc3, hm3, hr3⟩ := own_slice hown3
            go_roundw
            case rel => exact ⟨j + 1, A3, c3, by omega, by go_num, rfl, hide (by rw [HS.out, ← HX.out, show Y ++ 45 :: (hexs m j ++ [(ByteArray.mk #[48, 49, 50, 51, 52, 53, 54, 55, 56, 57, 97, 98, 99, 100, 101, 102])[d]'hlt2]) = (Y ++ 45 :: hexs m j) ++ [(ByteArray.mk #[48, 49, 50, 51, 52, 53, 54, 55, 56, 57, 97, 98, 99, 100, 101, 102])[d]'hlt2] by simp, bytes_append]; exact hown3), hide ((hb.out.alloc (by omega) _).grown hg3 (by simp; omega) fun i hi => (ho.out.lt i hi).1)⟩
            case measure => simp [intOf]; omega
          · obtain rfl : j = 8 := by omega
            have HRB := hide (show RB wr A (Y.length + 1 + 8) (Y ++ 45 :: hexs m 8) from Reads.of_own ho.out)
            have hconv := run_str (P := Tryd.prog) wr 37 9 5 A (Y.length + 1 + 8) c _ HRB.out (by kernel_rfl) (by kernel_rfl) (by kernel_rfl)
            have HF := hide (show str (Y ++ 45 :: hexs m 8) = str (revText g m) by rw [HT.out, HY.out])
            generalize str (Y ++ 45 :: hexs m 8) = S at *
            go_wp2_with fail
            go_ret2
            exact ⟨by rw [← HF.out, HE.out]; rfl, HB1.out.trans (hb.out.mono (by omega))⟩
end Go.Proofs.YtmkkbomkonociaaDoor
