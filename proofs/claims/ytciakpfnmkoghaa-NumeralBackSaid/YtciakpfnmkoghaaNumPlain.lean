/- Plain laws of reading: what stands ahead does not matter; what reading a printed number yields. No program in sight. -/
import Derived.Test.YtciakpfnmkoghaaNumState
namespace Go.Proofs.Ytciakpfnmkoghaa.Num

def shift (k : Nat) (st : St) : St := { st with at_ := k + st.at_ }
/-- the answer of a step, moved along -/
def moved (k : Nat) : Except Nat St → Except Nat St
  | .ok st => .ok (shift k st)
  | .error j => .error (k + j)

theorem isAt_shift (P T : List UInt8) (i : Nat) (S : List UInt8) : isAt (P ++ T) (P.length + i) S = isAt T i S := by
  unfold isAt
  rw [List.getElem?_append_right (by omega), Nat.add_sub_cancel_left]
theorem drop_shift (P T : List UInt8) (i : Nat) : (P ++ T).drop (P.length + i) = T.drop i := by
  rw [List.drop_append, List.drop_eq_nil_of_le (by omega), Nat.add_sub_cancel_left]; rfl
theorem tick_shift (k : Nat) (st : St) : tick (shift k st) = shift k (tick st) := by
  cases st; simp only [tick, shift, Nat.add_assoc]
theorem fin_skip (l : List UInt8) (st : St) : fin skip l st = { st with at_ := st.at_ + ((l.drop st.at_).takeWhile isDig).length } := by
  unfold fin
  generalize (l.drop st.at_).takeWhile isDig = ds
  induction ds generalizing st with
  | nil => rfl
  | cons c ds ih =>
    rw [List.foldl_cons, ih]
    simp only [skip, tick, List.length_cons]
    congr 1; omega
theorem fin_grow (l : List UInt8) (st : St) : fin grow l st = { st with at_ := st.at_ + ((l.drop st.at_).takeWhile isDig).length, V := val st.V ((l.drop st.at_).takeWhile isDig) } := by
  unfold fin
  generalize (l.drop st.at_).takeWhile isDig = ds
  induction ds generalizing st with
  | nil => rfl
  | cons c ds ih =>
    rw [List.foldl_cons, ih]
    simp only [grow, tick, List.length_cons, val_cons]
    congr 1; omega
theorem need_shift {f : St → Nat → St} (hf : f = skip ∨ f = grow) (P T : List UInt8) (st : St) : need f (P ++ T) (shift P.length st) = moved P.length (need f T st) := by
  have hd := drop_shift P T st.at_
  unfold need
  rw [show isAt (P ++ T) (shift P.length st).at_ DIGITS = isAt T st.at_ DIGITS from isAt_shift P T st.at_ DIGITS]
  by_cases h : isAt T st.at_ DIGITS = true
  · rw [if_pos h, if_pos h]
    rcases hf with rfl | rfl
    · rw [fin_skip, fin_skip]
      simp only [moved, shift, hd, Nat.add_assoc]
    · rw [fin_grow, fin_grow]
      simp only [moved, shift, hd, Nat.add_assoc]
  · rw [if_neg h, if_neg h]; rfl
theorem take_shift (P T S : List UInt8) (st : St) : take (P ++ T) S (shift P.length st) = shift P.length (take T S st) := by
  unfold take
  rw [show isAt (P ++ T) (shift P.length st).at_ S = isAt T st.at_ S from isAt_shift P T st.at_ S]
  split
  · exact tick_shift _ _
  · rfl
theorem sign_shift (P T : List UInt8) (st : St) : sign (P ++ T) (shift P.length st) = shift P.length (sign T st) := by
  unfold sign
  rw [take_shift, show isAt (P ++ T) (shift P.length st).at_ [45] = isAt T st.at_ [45] from isAt_shift P T st.at_ _]
  rfl
theorem whole_shift (P T : List UInt8) (st : St) : whole (P ++ T) (shift P.length st) = moved P.length (whole T st) := by
  unfold whole
  rw [show isAt (P ++ T) (shift P.length st).at_ [48] = isAt T st.at_ [48] from isAt_shift P T st.at_ _, need_shift (Or.inr rfl)]
  split
  · rw [tick_shift]; rfl
  · rfl
theorem fraction_shift (P T : List UInt8) (st : St) : fraction (P ++ T) (shift P.length st) = moved P.length (fraction T st) := by
  unfold fraction
  rw [show isAt (P ++ T) (shift P.length st).at_ [46] = isAt T st.at_ [46] from isAt_shift P T st.at_ _]
  split
  · rw [tick_shift]
    exact need_shift (Or.inl rfl) P T (partly (tick st))
  · rfl
theorem exponent_shift (P T : List UInt8) (st : St) : exponent (P ++ T) (shift P.length st) = moved P.length (exponent T st) := by
  unfold exponent
  rw [show isAt (P ++ T) (shift P.length st).at_ [101, 69] = isAt T st.at_ [101, 69] from isAt_shift P T st.at_ _]
  split
  · rw [tick_shift]
    rw [show take (P ++ T) [43, 45] (partly (shift P.length (tick st))) = shift P.length (take T [43, 45] (partly (tick st))) from take_shift P T _ (partly (tick st))]
    exact need_shift (Or.inl rfl) P T _
  · rfl
theorem bind_moved {k : Nat} {r : Except Nat St} {f g : St → Except Nat St} (h : ∀ st, f (shift k st) = moved k (g st)) : (moved k r).bind f = moved k (r.bind g) := by
  cases r with
  | error j => rfl
  | ok st => exact h st
theorem rest2_shift (P T : List UInt8) (st : St) : rest (P ++ T) 2 (shift P.length st) = moved P.length (rest T 2 st) := by
  show (fraction (P ++ T) (shift P.length st)).bind (exponent (P ++ T)) = moved P.length ((fraction T st).bind (exponent T))
  rw [fraction_shift]
  exact bind_moved fun st => exponent_shift P T st
theorem rest_shift (P T : List UInt8) (st : St) : rest (P ++ T) 0 (shift P.length st) = moved P.length (rest T 0 st) := by
  show (whole (P ++ T) (sign (P ++ T) (shift P.length st))).bind (fun s => (fraction (P ++ T) s).bind (exponent (P ++ T))) = moved P.length ((whole T (sign T st)).bind fun s => (fraction T s).bind (exponent T))
  rw [sign_shift, whole_shift]
  exact bind_moved fun st => rest2_shift P T st

/-- whatever stands ahead -/
theorem reads_shift (P T : List UInt8) : reads (P ++ T) P.length = moved P.length (reads T 0) := rest_shift P T ⟨0, false, 0, false⟩

/-! ### a printed number is read -/
def noDig (T : List UInt8) : Prop := ∀ c, T[0]? = some c → isDig c = false
theorem takeWhile_dig (ds T : List UInt8) (h : ∀ c ∈ ds, isDig c = true) (hT : noDig T) : (ds ++ T).takeWhile isDig = ds := by
  induction ds with
  | nil =>
    cases T with
    | nil => rfl
    | cons c T => rw [List.nil_append, List.takeWhile_cons, hT c rfl]; rfl
  | cons c ds ih => rw [List.cons_append, List.takeWhile_cons, h c (by simp), if_pos rfl, ih fun d hd => h d (by simp [hd])]
theorem isAt_head (c : UInt8) (l S : List UInt8) : isAt (c :: l) 0 S = S.contains c := rfl
theorem isAt_dig_head {n : Nat} (T : List UInt8) : isAt (dig n ++ T) 0 DIGITS = true := by
  cases hd : dig n with
  | nil => exact absurd hd (dig_ne n)
  | cons c l => rw [List.cons_append, isAt_head, digits_has]; exact dig_all n c (by rw [hd]; simp)
theorem whole_dig (n : Nat) (T : List UInt8) (m : Bool) (hT : noDig T ∨ n = 0) : whole (dig n ++ T) ⟨0, m, 0, false⟩ = .ok ⟨(dig n).length, m, n, false⟩ := by
  unfold whole
  by_cases hn : n = 0
  · subst hn
    rw [dig_small (by omega)]; rfl
  · have hT := hT.resolve_right hn
    obtain ⟨c, l, hc, hgt⟩ := dig_head n (by omega)
    have h0 : isAt (dig n ++ T) 0 [48] = false := by
      rw [hc, List.cons_append, isAt_head]
      have : c ≠ 48 := fun e => by subst e; exact absurd hgt (by decide)
      simpa using this
    rw [show (St.mk 0 m 0 false).at_ = 0 from rfl, h0, if_neg (by simp)]
    unfold need
    rw [isAt_dig_head, if_pos rfl, fin_grow]
    simp only [List.drop_zero, takeWhile_dig _ _ (dig_all n) hT, val_dig, Nat.zero_add]
theorem sign_no {T : List UInt8} (h : isAt T 0 [45] = false) : sign T ⟨0, false, 0, false⟩ = ⟨0, false, 0, false⟩ := by
  unfold sign take
  rw [show (St.mk 0 false 0 false).at_ = 0 from rfl, h]; rfl
theorem print_nonneg {n : Int} (h : 0 ≤ n) : print n = dig n.natAbs := if_neg (by omega)
theorem print_negative {n : Int} (h : n < 0) : print n = 45 :: dig n.natAbs := if_pos h
theorem dig_no_minus (n : Nat) (T : List UInt8) : isAt (dig n ++ T) 0 [45] = false := by
  cases hd : dig n with
  | nil => exact absurd hd (dig_ne n)
  | cons c l =>
    rw [List.cons_append, isAt_head]
    have h := dig_all n c (by rw [hd]; simp)
    have : c ≠ 45 := fun e => by subst e; exact absurd h (by decide)
    simpa using this
/-- a printed number, and what follows it -/
theorem reads_print (n : Int) (T : List UInt8) (hT : noDig T ∨ n = 0) : reads (print n ++ T) 0 = moved (print n).length (rest T 2 ⟨0, decide (n < 0), n.natAbs, false⟩) := by
  have hrest : ∀ s, rest (print n ++ T) 2 s = (fraction (print n ++ T) s).bind (exponent (print n ++ T)) := fun _ => rfl
  have hw : whole (print n ++ T) (sign (print n ++ T) ⟨0, false, 0, false⟩) = .ok ⟨(print n).length, decide (n < 0), n.natAbs, false⟩ := by
    by_cases h : n < 0
    · have hs : sign (45 :: (dig n.natAbs ++ T)) ⟨0, false, 0, false⟩ = shift 1 ⟨0, true, 0, false⟩ := rfl
      have := whole_shift [45] (dig n.natAbs ++ T) ⟨0, true, 0, false⟩
      rw [whole_dig _ _ _ (hT.imp_right fun e => by omega)] at this
      rw [print_negative h, List.cons_append, hs, decide_eq_true h]
      refine this.trans ?_
      simp only [moved, shift, List.length_cons, List.length_nil, Nat.zero_add, Nat.add_comm 1]
    · rw [print_nonneg (by omega), sign_no (dig_no_minus _ _), decide_eq_false h]
      exact whole_dig _ _ _ (hT.imp_right fun e => by omega)
  show (whole (print n ++ T) (sign (print n ++ T) ⟨0, false, 0, false⟩)).bind (rest (print n ++ T) 2) = _
  rw [hw]
  exact rest2_shift (print n) T ⟨0, decide (n < 0), n.natAbs, false⟩
end Go.Proofs.Ytciakpfnmkoghaa.Num
