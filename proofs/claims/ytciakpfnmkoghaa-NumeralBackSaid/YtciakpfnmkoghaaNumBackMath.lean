/- Reading back a printed number, whatever stands around it. No program in sight. -/
import Derived.Test.YtciakpfnmkoghaaNumAloneMath
namespace Go.Proofs.Ytciakpfnmkoghaa.Num

theorem whole_print (n : Int) (T : List UInt8) (hT : noDig T ∨ n = 0) : whole (print n ++ T) (sign (print n ++ T) ⟨0, false, 0, false⟩) = .ok ⟨(print n).length, decide (n < 0), n.natAbs, false⟩ := by
  by_cases h : n < 0
  · have hs : sign (45 :: (dig n.natAbs ++ T)) ⟨0, false, 0, false⟩ = shift 1 ⟨0, true, 0, false⟩ := rfl
    have := whole_shift [45] (dig n.natAbs ++ T) ⟨0, true, 0, false⟩
    rw [whole_dig _ _ _ (hT.imp_right fun e => by omega)] at this
    rw [print_negative h, List.cons_append, hs, decide_eq_true h]
    refine this.trans ?_
    simp only [moved, shift, List.length_cons, List.length_nil, Nat.zero_add, Nat.add_comm 1]
  · rw [print_nonneg (by omega), sign_no (dig_no_minus _ _), decide_eq_false h]
    exact whole_dig _ _ _ (hT.imp_right fun e => by omega)
theorem takeWhile_more (ds T : List UInt8) (h : ∀ c ∈ ds, isDig c = true) : (ds ++ T).takeWhile isDig = ds ++ T.takeWhile isDig := by
  induction ds with
  | nil => rfl
  | cons c ds ih => rw [List.cons_append, List.takeWhile_cons, h c (by simp), if_pos rfl, ih fun d hd => h d (by simp [hd])]; rfl
theorem whole_dig_more (n : Nat) (hn : n ≠ 0) (c : UInt8) (T : List UInt8) (hc : isDig c = true) (m : Bool) : ∃ st, whole (dig n ++ c :: T) ⟨0, m, 0, false⟩ = .ok st ∧ (dig n).length < st.at_ := by
  obtain ⟨x, l, hx, hgt⟩ := dig_head n (by omega)
  have h0 : isAt (dig n ++ c :: T) 0 [48] = false := by
    rw [hx, List.cons_append, isAt_head]
    have : x ≠ 48 := fun e => by subst e; exact absurd hgt (by decide)
    simpa using this
  unfold whole
  rw [show (St.mk 0 m 0 false).at_ = 0 from rfl, h0, if_neg (by simp)]
  unfold need
  rw [isAt_dig_head, if_pos rfl, fin_grow]
  refine ⟨_, rfl, ?_⟩
  simp only [List.drop_zero, takeWhile_more _ _ (dig_all n), List.length_append, Nat.zero_add, List.takeWhile_cons, hc, ite_true, List.length_cons]
  omega
theorem whole_print_more (n : Int) (hn : n ≠ 0) (c : UInt8) (T : List UInt8) (hc : isDig c = true) : ∃ st, whole (print n ++ c :: T) (sign (print n ++ c :: T) ⟨0, false, 0, false⟩) = .ok st ∧ (print n).length < st.at_ := by
  by_cases h : n < 0
  · have hs : sign (45 :: (dig n.natAbs ++ c :: T)) ⟨0, false, 0, false⟩ = shift 1 ⟨0, true, 0, false⟩ := rfl
    obtain ⟨st, h1, h2⟩ := whole_dig_more n.natAbs (by omega) c T hc true
    have := whole_shift [45] (dig n.natAbs ++ c :: T) ⟨0, true, 0, false⟩
    rw [h1] at this
    rw [print_negative h, List.cons_append, hs]
    exact ⟨_, this, by simp only [shift, List.length_cons, List.length_nil]; omega⟩
  · rw [print_nonneg (by omega), sign_no (dig_no_minus _ _)]
    exact whole_dig_more n.natAbs (by omega) c T hc false

/-- does what follows go on with a numeral? -/
def SET : List UInt8 := [48, 49, 50, 51, 52, 53, 54, 55, 56, 57, 46, 101, 69]
theorem set_eq (c : UInt8) : SET.contains c = (isDig c || (c == 46 || (c == 101 || c == 69))) := by
  have h : SET = DIGITS ++ [46, 101, 69] := rfl
  rw [h, List.contains_append, digits_has]
  simp only [List.contains_cons, List.contains_nil, Bool.or_false]
def Stops (n : Int) (B : List UInt8) : Prop := ∀ c, B[0]? = some c → SET.contains c = false ∨ n = 0 ∧ isDig c = true
theorem stops_rest {n : Int} {B : List UInt8} (h : Stops n B) : (noDig B ∨ n = 0) ∧ isAt B 0 [46] = false ∧ isAt B 0 [101, 69] = false := by
  cases B with
  | nil => exact ⟨Or.inl fun c hc => by simp at hc, rfl, rfl⟩
  | cons c B =>
    rcases h c rfl with h | ⟨h, hd⟩
    · rw [set_eq] at h
      simp only [Bool.or_eq_false_iff] at h
      refine ⟨Or.inl fun d hd => ?_, ?_, ?_⟩
      · simp at hd; subst hd; exact h.1
      · rw [isAt_head]; simpa using h.2.1
      · rw [isAt_head]; simpa using h.2.2
    · refine ⟨Or.inr h, ?_, ?_⟩
      · rw [isAt_head]
        have : c ≠ 46 := fun e => by subst e; exact absurd hd (by decide)
        simpa using this
      · rw [isAt_head]
        have h1 : c ≠ 101 := fun e => by subst e; exact absurd hd (by decide)
        have h2 : c ≠ 69 := fun e => by subst e; exact absurd hd (by decide)
        simp [h1, h2]
theorem back_good (P : List UInt8) (n : Int) (B : List UInt8) (h0 : -9223372036854775808 ≤ n) (h1 : n ≤ 9223372036854775807) (h : Stops n B) :
    read (P ++ (print n ++ B)) (P.length : Int) = (n, ((P.length + (print n).length : Nat) : Int), 0) := by
  obtain ⟨g1, g2, g3⟩ := stops_rest h
  have hr : rest B 2 ⟨0, decide (n < 0), n.natAbs, false⟩ = .ok ⟨0, decide (n < 0), n.natAbs, false⟩ := by
    show (fraction B ⟨0, decide (n < 0), n.natAbs, false⟩).bind (exponent B) = _
    have hf : fraction B ⟨0, decide (n < 0), n.natAbs, false⟩ = .ok ⟨0, decide (n < 0), n.natAbs, false⟩ := by
      unfold fraction
      rw [show (St.mk 0 (decide (n < 0)) n.natAbs false).at_ = 0 from rfl, g2]; rfl
    rw [hf]
    show exponent B ⟨0, decide (n < 0), n.natAbs, false⟩ = _
    unfold exponent
    rw [show (St.mk 0 (decide (n < 0)) n.natAbs false).at_ = 0 from rfl, g3]; rfl
  have hall : reads (P ++ (print n ++ B)) P.length = .ok ⟨P.length + (print n).length, decide (n < 0), n.natAbs, false⟩ := by
    rw [reads_shift, reads_print n B g1, hr]; rfl
  unfold read
  rw [if_neg (by rw [List.length_append]; omega), Int.toNat_natCast, hall]
  simp only [Bool.false_eq_true, false_or]
  rw [if_neg (by unfold most; by_cases hn : n < 0 <;> simp only [hn, decide_true, decide_false, Bool.false_eq_true, ite_true, ite_false] <;> omega)]
  by_cases hn : n < 0
  · simp only [hn, decide_true, ite_true, show -(n.natAbs : Int) = n by omega]
  · simp only [hn, decide_false, Bool.false_eq_true, ite_false, show (n.natAbs : Int) = n by omega]
theorem back_bad (P : List UInt8) (n : Int) (c : UInt8) (B : List UInt8) (hc : SET.contains c = true) (hz : ¬ (n = 0 ∧ isDig c = true)) {N E : Int} (h : read (P ++ (print n ++ c :: B)) (P.length : Int) = (N, E, 0)) :
    ((P.length + (print n).length : Nat) : Int) < E := by
  unfold read at h
  rw [if_neg (by rw [List.length_append]; omega), Int.toNat_natCast, reads_shift] at h
  cases hr : reads (print n ++ c :: B) 0 with
  | error k => rw [hr] at h; cases h
  | ok st =>
    rw [hr] at h
    simp only [moved, shift] at h
    split at h
    · cases h
    · rename_i hp
      have hpart : st.part = false := by
        cases hq : st.part with
        | true => exact absurd (Or.inl hq) hp
        | false => rfl
      injection h with _ h
      injection h with hE _
      obtain ⟨hw, hf, he⟩ := reads_plain hr hpart
      cases hd : isDig c with
      | true =>
        obtain ⟨st', h1, h2⟩ := whole_print_more n (fun e => hz ⟨e, hd⟩) c B hd
        rw [h1] at hw
        injection hw with hw
        subst hw
        omega
      | false =>
        have hT : noDig (c :: B) := fun d hdd => by simp at hdd; subst hdd; exact hd
        rw [whole_print n (c :: B) (Or.inl hT)] at hw
        injection hw with hw
        subst hw
        exfalso
        have q1 := isAt_shift (print n) (c :: B) 0 [46]
        have q2 := isAt_shift (print n) (c :: B) 0 [101, 69]
        rw [Nat.add_zero] at q1 q2
        simp only at hf he
        rw [q1, isAt_head] at hf
        rw [q2, isAt_head] at he
        rw [set_eq, hd] at hc
        have f1 : (c == 46) = false := by simpa using hf
        have f2 : (c == 101 || c == 69) = false := by simpa using he
        rw [f1, f2] at hc
        cases hc
theorem back_alone (n : Int) (h0 : -9223372036854775808 ≤ n) (h1 : n ≤ 9223372036854775807) : read (print n) 0 = (n, ((print n).length : Int), 0) := by
  have := back_good [] n [] h0 h1 (fun c hc => by simp at hc)
  rw [List.append_nil, List.nil_append] at this
  simpa using this
end Go.Proofs.Ytciakpfnmkoghaa.Num
