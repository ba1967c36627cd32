/- The walk of the reference's Parse. -/
import Derived.Test.YtmkkbomkonociaaDocTextMath
namespace Go.Proofs.Ytmkkbomkonociaa
open Go.RowKit

def refV : Option (Nat × Nat) → Value
  | some (g, m) => .tuple #[.agg #[.int .u32 (g : Int), .int .u32 (m : Int)], .bool true]
  | none => .tuple #[.agg #[.int .u32 0, .int .u32 0], .bool false]
def RefAs (l : List UInt8) (w : World) (e : Ending) (w' : World) : Prop :=
  Below w.heap.size w w' ∧ e = .returned (refV (refParse l))
theorem ref_none {l : List UInt8} (h0 : l ≠ []) (h : l.length < 10 ∨ 19 < l.length ∨ l.getD (l.length - 9) 0 ≠ 45 ∨ l.getD 0 0 = 48) : refParse l = none := by
  unfold refParse; rw [if_neg h0, if_pos h]
theorem ref_go {l : List UInt8} (h0 : l ≠ []) (h : ¬ (l.length < 10 ∨ 19 < l.length ∨ l.getD (l.length - 9) 0 ≠ 45 ∨ l.getD 0 0 = 48)) : refParse l = pgo (l.length - 9) l 0 0 0 := by
  unfold refParse; rw [if_neg h0, if_neg h]
theorem str_get (s : ByteArray) (k : Nat) (h : k < s.size) : s.data.toList.getD k 0 = s[k] := by
  rw [List.getD_eq_getElem?_getD, List.getElem?_eq_getElem (by simpa using h)]; rfl
theorem pow10 {g i : Nat} (h : g < 10 ^ i) (hi : i ≤ 10) : g < 10000000000 := Nat.lt_of_lt_of_le h (Nat.pow_le_pow_right (by omega) hi)
theorem pow16' {g i : Nat} (h : g < 16 ^ i) (hi : i ≤ 8) : g < 4294967296 := Nat.lt_of_lt_of_le h (Nat.pow_le_pow_right (by omega) hi)
theorem pow10_step {g i d : Nat} (h : g < 10 ^ i) (hd : d < 10) : 10 * g + d < 10 ^ (i + 1) := by rw [Nat.pow_succ]; omega
theorem pow16_step {g i d : Nat} (h : g < 16 ^ i) (hd : d < 16) : 16 * g + d < 16 ^ (i + 1) := by rw [Nat.pow_succ]; omega
theorem wr10 {g d : Nat} (hg : g < 10000000000) (hd : d < 10) : wrap64 (10 * (g : Int)) = 10 * (g : Int) ∧ wrap64 (10 * (g : Int) + (d : Int)) = 10 * (g : Int) + (d : Int) := by unfold wrap64; omega
theorem wr16 {g d : Nat} (hg : g < 4294967296) (hd : d < 16) : wrap64 (16 * (g : Int)) = 16 * (g : Int) ∧ wrap64 (16 * (g : Int) + (d : Int)) = 16 * (g : Int) + (d : Int) := by unfold wrap64; omega
theorem val_yes {c : UInt8} {b : Nat} (h : D c < b) : valOf c b = (D c : Int) := if_pos h
theorem val_no {c : UInt8} {b : Nat} (h : ¬ D c < b) : valOf c b = -1 := if_neg h

set_option maxHeartbeats 4000000 in
theorem refparse_any (s : ByteArray) (w : World) (hs : s.size ≤ 1000) : Calls Try.prog 17 #[.string s] w (RefAs s.data.toList w) := by
  have hlen : s.data.toList.length = s.size := by simp
  by_cases h0 : s.size = 0
  · have hz : s = ByteArray.mk #[] := by
      apply ByteArray.ext
      apply Array.ext'
      exact List.eq_nil_of_length_eq_zero (by rw [hlen]; exact h0)
    subst hz
    have HF := hide (show refParse [] = some (0, 0) from rfl)
    clear hlen h0
    show Calls Try.prog 17 #[.string (ByteArray.mk #[])] w (RefAs [] w)
    go_enter Try.func17, Try.ntmps17
    go_wp2_with fail
    exact bodyPost_ret (v := .tuple #[.agg #[.int .u32 0, .int .u32 0], .bool true]) (by simp [results, Try.results17, go_sem]) rfl ⟨by first | exact below_alloc _ _ | exact ((below_alloc w _).setCell (p := ⟨w.heap.size, 0, none⟩) (Nat.le_refl _) _).setCell (p := ⟨w.heap.size, 1, none⟩) (Nat.le_refl _) _, by rw [HF.out]; rfl⟩
  · have hne : s.data.toList ≠ [] := fun h => h0 (by rw [← hlen, h]; rfl)
    have ht : s.toList.isEmpty = false := by
      rw [show s.toList = s.data.toList from str_toList s.data.toList]
      simpa using hne
    by_cases h10 : s.size < 10
    · have HF := hide (ref_none hne (by rw [hlen]; exact Or.inl h10))
      have e1 : wrap64 ((s.size : Int) - 9) = (s.size : Int) - 9 := by unfold wrap64; omega
      have e2 : (s.size : Int) - 9 < 1 := by omega
      clear hne hlen h0
      go_enter Try.func17, Try.ntmps17
      go_wp2_with fail
      skip
      exact bodyPost_ret (v := .tuple #[.agg #[.int .u32 0, .int .u32 0], .bool false]) (by simp [results, Try.results17, go_sem]) rfl ⟨by first | exact below_alloc _ _ | exact ((below_alloc w _).setCell (p := ⟨w.heap.size, 0, none⟩) (Nat.le_refl _) _).setCell (p := ⟨w.heap.size, 1, none⟩) (Nat.le_refl _) _, by rw [HF.out]; rfl⟩
    · obtain ⟨a, ha⟩ : ∃ a, s.size = a + 9 := ⟨s.size - 9, by omega⟩
      have e1 : wrap64 ((s.size : Int) - 9) = (s.size : Int) - 9 := by unfold wrap64; omega
      have e2 : ¬ (s.size : Int) - 9 < 1 := by omega
      by_cases h19 : 19 < s.size
      · have HF := hide (ref_none hne (by rw [hlen]; exact Or.inr (Or.inl h19)))
        have e3 : (10 : Int) < (s.size : Int) - 9 := by omega
        clear hne hlen h0 h10
        go_enter Try.func17, Try.ntmps17
        go_wp2_with fail
        skip
        exact bodyPost_ret (v := .tuple #[.agg #[.int .u32 0, .int .u32 0], .bool false]) (by simp [results, Try.results17, go_sem]) rfl ⟨by first | exact below_alloc _ _ | exact ((below_alloc w _).setCell (p := ⟨w.heap.size, 0, none⟩) (Nat.le_refl _) _).setCell (p := ⟨w.heap.size, 1, none⟩) (Nat.le_refl _) _, by rw [HF.out]; rfl⟩
      · have e3 : ¬ (10 : Int) < (s.size : Int) - 9 := by omega
        have haP : a < s.size := by omega
        have h0P : 0 < s.size := by omega
        have ea : (0 : Int) ≤ (s.size : Int) - 9 := by omega
        have eb : (s.size : Int) - 9 < (s.size : Int) := by omega
        have haQ : s.size - 9 < s.size := by omega
        have hidx : s[a]'haP = s[s.size - 9]'haQ := by congr 1; omega
        have ec : (0 : Int) < (s.size : Int) := by omega
        have hla : s.data.toList.length - 9 = a := by omega
        have hg1 := str_get s a (by omega)
        have hg0 := str_get s 0 (by omega)
        by_cases h45 : s[a]'haP = 45
        · have t1 : (((s[s.size - 9]'haQ).toNat : Int) != 45) = false := by rw [← hidx, h45]; rfl
          by_cases h48 : s[0]'h0P = 48
          · have HF := hide (ref_none hne (by rw [hg0]; exact Or.inr (Or.inr (Or.inr h48))))
            have t2 : (((s[0]'h0P).toNat : Int) == 48) = true := by rw [h48]; rfl
            clear hne hlen h0 h10 h19 hidx hg1 hg0 h45 h48 hla ha
            go_enter Try.func17, Try.ntmps17
            go_wp2_with fail
            skip
            exact bodyPost_ret (v := .tuple #[.agg #[.int .u32 0, .int .u32 0], .bool false]) (by simp [results, Try.results17, go_sem]) rfl ⟨by first | exact below_alloc _ _ | exact ((below_alloc w _).setCell (p := ⟨w.heap.size, 0, none⟩) (Nat.le_refl _) _).setCell (p := ⟨w.heap.size, 1, none⟩) (Nat.le_refl _) _, by rw [HF.out]; rfl⟩
          · have t2 : (((s[0]'h0P).toNat : Int) == 48) = false := by
              rw [beq_eq_false_iff_ne]
              intro h
              exact h48 (UInt8.toNat_inj.1 (by rw [show (48 : UInt8).toNat = 48 from rfl]; omega))
            have HP := hide (show refParse s.data.toList = pgo a s.data.toList 0 0 0 by
              rw [ref_go hne (by rw [hla, hg1, hg0, h45, hlen]; simp only [ne_eq, not_true_eq_false, false_or, not_or]; exact ⟨h10, h19, h48⟩), hla])
            have HA := hide (show a ≤ 10 by omega)
            have HS := hide ha
            clear hne hlen h0 h10 h19 hidx hg1 hg0 h45 h48 hla ha
            go_enter Try.func17, Try.ntmps17
            go_wp2_with fail
            clear t1 t2 ht
            go_loop [5, 6, 7] (fun x y z => ∃ i g m : Nat, x = .int .i64 (g : Int) ∧ y = .int .i64 (m : Int) ∧ z = .int .i64 (i : Int) ∧ i ≤ s.size ∧ Hid (pgo a (s.data.toList.drop i) i g m = pgo a s.data.toList 0 0 0) ∧ Hid (g < 10 ^ min i a ∧ m < 16 ^ (i - (a + 1)))) (fun _ _ z => s.size - (intOf z).toNat)
            case atStart => exact ⟨0, 0, 0, rfl, rfl, rfl, Nat.zero_le _, hide rfl, hide ⟨Nat.pow_pos (by omega), Nat.pow_pos (by omega)⟩⟩
            case round =>
              obtain ⟨i, g, m, rfl, rfl, rfl, hi, hp, hb⟩ := hrel
              by_cases hlt : i < s.size
              · have hdrop : s.data.toList.drop i = s[i] :: s.data.toList.drop (i + 1) := List.drop_eq_getElem_cons (by simpa using hlt)
                have hp2 := hp.out
                rw [hdrop, pgo] at hp2
                have HP2 := hide hp2
                have hi0 : (0 : Int) ≤ (i : Int) := by omega
                have hi1 : (i : Int) < (s.size : Int) := by omega
                clear hdrop hp2
                by_cases h1 : i < a
                · have h1' : (i : Int) < (s.size : Int) - 9 := by have := HS.out; omega
                  have h1'' : ¬ (s.size : Int) - 9 < (i : Int) := by have := HS.out; omega
                  have HV := hide (value_any s[i] 10)
                  by_cases hd : D s[i] < 10
                  · have HS2 := hide (show pgo a (s.data.toList.drop (i + 1)) (i + 1) (10 * g + D s[i]) m = pgo a s.data.toList 0 0 0 by rw [← HP2.out, if_pos h1, if_pos hd])
                    have hvy := val_yes hd
                    have hb1 := pow10 hb.out.1 (by have := HA.out; omega)
                    have hb2 : 10 * g + D s[i] < 10 ^ min (i + 1) a := by
                      have := hb.out.1
                      rw [show min i a = i by omega] at this
                      rw [show min (i + 1) a = i + 1 by omega]
                      exact pow10_step this hd
                    have hb3 : m < 16 ^ (i + 1 - (a + 1)) := by have := hb.out.2; rw [show i - (a + 1) = 0 by omega] at this; rw [show i + 1 - (a + 1) = 0 by omega]; exact this
                    have HB2 := hide (And.intro hb2 hb3)
                    clear hb2 hb3
                    generalize D s[i] = d at *
                    obtain ⟨hw1, hw2⟩ := wr10 hb1 hd
                    have hd0 : ¬ (d : Int) < 0 := by omega
                    have HD := hide (And.intro hb1 hd)
                    clear hb1 hd
                    go_wp2_with (go_at_call 34; refine Calls.mono (HV.out _ (by omega)) ?_; rintro e w' ⟨rfl, rfl⟩; rw [hvy])
                    go_round
                    case rel => exact ⟨i + 1, 10 * g + d, m, by first | rfl | congr 1, rfl, by go_num, by omega, HS2, HB2⟩
                    case measure => simp [intOf]; omega
                  · have HF := hide (show refParse s.data.toList = none by rw [HP.out, ← HP2.out, if_pos h1, if_neg hd])
                    have hvn := val_no hd
                    clear hd
                    go_wp2_with (go_at_call 34; refine Calls.mono (HV.out _ (by omega)) ?_; rintro e w' ⟨rfl, rfl⟩; rw [hvn])
                    skip
                    exact bodyPost_ret (v := .tuple #[.agg #[.int .u32 0, .int .u32 0], .bool false]) (by simp [results, Try.results17, go_sem]) rfl ⟨by first | exact below_alloc _ _ | exact ((below_alloc w _).setCell (p := ⟨w.heap.size, 0, none⟩) (Nat.le_refl _) _).setCell (p := ⟨w.heap.size, 1, none⟩) (Nat.le_refl _) _, by rw [HF.out]; rfl⟩
                · by_cases h2 : a < i
                  · have h1' : ¬ (i : Int) < (s.size : Int) - 9 := by have := HS.out; omega
                    have h1'' : (s.size : Int) - 9 < (i : Int) := by have := HS.out; omega
                    have HV := hide (value_any s[i] 16)
                    by_cases hd : D s[i] < 16
                    · have HS2 := hide (show pgo a (s.data.toList.drop (i + 1)) (i + 1) g (16 * m + D s[i]) = pgo a s.data.toList 0 0 0 by rw [← HP2.out, if_neg h1, if_pos h2, if_pos hd])
                      have hvy := val_yes hd
                      have hb1 := pow16' hb.out.2 (by have := HS.out; omega)
                      have hb2 : 16 * m + D s[i] < 16 ^ (i + 1 - (a + 1)) := by
                        rw [show i + 1 - (a + 1) = (i - (a + 1)) + 1 by omega]
                        exact pow16_step hb.out.2 hd
                      have hb3 : g < 10 ^ min (i + 1) a := by have := hb.out.1; rw [show min i a = a by omega] at this; rw [show min (i + 1) a = a by omega]; exact this
                      have HB2 := hide (And.intro hb3 hb2)
                      clear hb2 hb3
                      generalize D s[i] = d at *
                      obtain ⟨hw1, hw2⟩ := wr16 hb1 hd
                      have hd0 : ¬ (d : Int) < 0 := by omega
                      have HD := hide (And.intro hb1 hd)
                      clear hb1 hd
                      go_wp2_with (go_at_call 34; refine Calls.mono (HV.out _ (by omega)) ?_; rintro e w' ⟨rfl, rfl⟩; rw [hvy])
                      go_round
                      case rel => exact ⟨i + 1, g, 16 * m + d, rfl, by first | rfl | congr 1, by go_num, by omega, HS2, HB2⟩
                      case measure => simp [intOf]; omega
                    · have HF := hide (show refParse s.data.toList = none by rw [HP.out, ← HP2.out, if_neg h1, if_pos h2, if_neg hd])
                      have hvn := val_no hd
                      clear hd
                      go_wp2_with (go_at_call 34; refine Calls.mono (HV.out _ (by omega)) ?_; rintro e w' ⟨rfl, rfl⟩; rw [hvn])
                      skip
                      exact bodyPost_ret (v := .tuple #[.agg #[.int .u32 0, .int .u32 0], .bool false]) (by simp [results, Try.results17, go_sem]) rfl ⟨by first | exact below_alloc _ _ | exact ((below_alloc w _).setCell (p := ⟨w.heap.size, 0, none⟩) (Nat.le_refl _) _).setCell (p := ⟨w.heap.size, 1, none⟩) (Nat.le_refl _) _, by rw [HF.out]; rfl⟩
                  · obtain rfl : i = a := by omega
                    have HS2 := hide (show pgo i (s.data.toList.drop (i + 1)) (i + 1) g m = pgo i s.data.toList 0 0 0 by rw [← HP2.out, if_neg h1, if_neg h2])
                    have HB2 := hide (show g < 10 ^ min (i + 1) i ∧ m < 16 ^ (i + 1 - (i + 1)) by
                      have := hb.out
                      rw [show min i i = i by omega, show i - (i + 1) = 0 by omega] at this
                      rw [show min (i + 1) i = i by omega, show i + 1 - (i + 1) = 0 by omega]
                      exact this)
                    have h1' : ¬ (i : Int) < (s.size : Int) - 9 := by have := HS.out; omega
                    have h1'' : ¬ (s.size : Int) - 9 < (i : Int) := by have := HS.out; omega
                    clear h1 h2
                    go_wp2_with fail
                    go_round
                    case rel => exact ⟨i + 1, g, m, rfl, rfl, by go_num, by omega, HS2, HB2⟩
                    case measure => simp [intOf]; omega
              · obtain rfl : i = s.size := by omega
                have HP2 := hide (show (if 4294967295 < g then none else some (g, m)) = refParse s.data.toList by
                  have := hp.out
                  rw [List.drop_eq_nil_of_le (by simp), pgo] at this
                  rw [HP.out, ← this])
                have hb1 := pow16' hb.out.2 (by have := HS.out; omega)
                by_cases hov : 4294967295 < g
                · have HF := hide (show refParse s.data.toList = none by rw [← HP2.out, if_pos hov])
                  have hov' : (4294967295 : Int) < (g : Int) := by omega
                  clear hov hb1
                  go_wp2_with fail
                  skip
                  exact bodyPost_ret (v := .tuple #[.agg #[.int .u32 0, .int .u32 0], .bool false]) (by simp [results, Try.results17, go_sem]) rfl ⟨by first | exact below_alloc _ _ | exact ((below_alloc w _).setCell (p := ⟨w.heap.size, 0, none⟩) (Nat.le_refl _) _).setCell (p := ⟨w.heap.size, 1, none⟩) (Nat.le_refl _) _, by rw [HF.out]; rfl⟩
                · have HF := hide (show refParse s.data.toList = some (g, m) by rw [← HP2.out, if_neg hov])
                  have hov' : ¬ (4294967295 : Int) < (g : Int) := by omega
                  have hc1 : IntKind.u32.wrap (g : Int) = (g : Int) := by unfold IntKind.wrap; simp [IntKind.signed, IntKind.bits]; omega
                  have hc2 : IntKind.u32.wrap (m : Int) = (m : Int) := by unfold IntKind.wrap; simp [IntKind.signed, IntKind.bits]; omega
                  clear hov hb1
                  go_wp2_with fail
                  exact bodyPost_ret (v := .tuple #[.agg #[.int .u32 (g : Int), .int .u32 (m : Int)], .bool true]) (by simp [results, Try.results17, go_sem]) rfl ⟨by first | exact below_alloc _ _ | exact ((below_alloc w _).setCell (p := ⟨w.heap.size, 0, none⟩) (Nat.le_refl _) _).setCell (p := ⟨w.heap.size, 1, none⟩) (Nat.le_refl _) _, by rw [HF.out]; rfl⟩
        · have t1 : (((s[s.size - 9]'haQ).toNat : Int) != 45) = true := by
            rw [bne_iff_ne, ← hidx]
            intro h
            exact h45 (UInt8.toNat_inj.1 (by rw [show (45 : UInt8).toNat = 45 from rfl]; omega))
          have HF := hide (ref_none hne (by rw [hla, hg1]; exact Or.inr (Or.inr (Or.inl h45))))
          clear hne hlen h0 h10 h19 hidx hg1 hg0 h45 hla ha
          go_enter Try.func17, Try.ntmps17
          go_wp2_with fail
          skip
          exact bodyPost_ret (v := .tuple #[.agg #[.int .u32 0, .int .u32 0], .bool false]) (by simp [results, Try.results17, go_sem]) rfl ⟨by first | exact below_alloc _ _ | exact ((below_alloc w _).setCell (p := ⟨w.heap.size, 0, none⟩) (Nat.le_refl _) _).setCell (p := ⟨w.heap.size, 1, none⟩) (Nat.le_refl _) _, by rw [HF.out]; rfl⟩
end Go.Proofs.Ytmkkbomkonociaa
