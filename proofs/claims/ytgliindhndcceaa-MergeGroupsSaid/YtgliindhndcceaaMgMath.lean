/- Keys in their order. No program in sight. -/
import Derived.WalkKit
namespace Go.Proofs.Ytgliindhndcceaa.Mg

/-- the order of keys -/
def lt : List UInt8 → List UInt8 → Bool
  | _, [] => false
  | [], _ :: _ => true
  | x :: a, y :: b => if x.toNat < y.toNat then true else if y.toNat < x.toNat then false else lt a b
theorem lt_nil (a : List UInt8) : lt a [] = false := by cases a <;> rfl
theorem lt_cons (x y : UInt8) (a b : List UInt8) : lt (x :: a) (y :: b) = if x.toNat < y.toNat then true else if y.toNat < x.toNat then false else lt a b := rfl
theorem lt_irrefl : ∀ a, lt a a = false
  | [] => rfl
  | x :: a => by rw [lt_cons, if_neg (by omega), if_neg (by omega), lt_irrefl a]
theorem lt_trans : ∀ {a b c : List UInt8}, lt a b = true → lt b c = true → lt a c = true
  | a, b, [], _, h => by rw [lt_nil] at h; cases h
  | a, [], _ :: _, h, _ => by rw [lt_nil] at h; cases h
  | [], _ :: _, _ :: _, _, _ => rfl
  | x :: a, y :: b, z :: c, h, k => by
    rw [lt_cons] at h k ⊢
    split at h
    · split at k
      · rw [if_pos (by omega)]
      · split at k
        · cases k
        · rw [if_pos (by omega)]
    · split at h
      · cases h
      · split at k
        · rw [if_pos (by omega)]
        · split at k
          · cases k
          · rw [if_neg (by omega), if_neg (by omega)]; exact lt_trans h k
theorem lt_tri : ∀ a b : List UInt8, lt a b = true ∨ a = b ∨ lt b a = true
  | [], [] => .inr (.inl rfl)
  | [], _ :: _ => .inl rfl
  | _ :: _, [] => .inr (.inr rfl)
  | x :: a, y :: b => by
    rw [lt_cons, lt_cons]
    by_cases h1 : x.toNat < y.toNat
    · exact .inl (if_pos h1)
    · by_cases h2 : y.toNat < x.toNat
      · exact .inr (.inr (if_pos h2))
      · have e : x = y := UInt8.toNat_inj.1 (by omega)
        subst e
        simp only [if_neg h1]
        rcases lt_tri a b with h | h | h
        · exact .inl h
        · exact .inr (.inl (by rw [h]))
        · exact .inr (.inr h)
theorem lt_asymm {a b : List UInt8} (h : lt a b = true) : lt b a = false := by
  cases hb : lt b a with
  | false => rfl
  | true => have := lt_trans h hb; rw [lt_irrefl] at this; cases this
theorem lt_ne {a b : List UInt8} (h : lt a b = true) : a ≠ b := by rintro rfl; rw [lt_irrefl] at h; cases h
theorem lt_same (x l m : List UInt8) : lt (x ++ l) (x ++ m) = lt l m := by
  induction x with
  | nil => rfl
  | cons c x ih => rw [List.cons_append, List.cons_append, lt_cons, if_neg (by omega), if_neg (by omega), ih]
/-- how two keys compare, as a number -/
def cmp (a b : List UInt8) : Int := if lt a b then -1 else if a = b then 0 else 1
theorem cmp_neg (a b : List UInt8) : decide (cmp a b < 0) = lt a b := by
  unfold cmp
  cases h : lt a b with
  | true => rfl
  | false => by_cases h2 : a = b <;> simp [h2]
theorem cmp_same (x l m : List UInt8) : cmp (x ++ l) (x ++ m) = cmp l m := by
  unfold cmp
  rw [lt_same]
  simp
theorem split_at {l : List UInt8} {j : Nat} (h : j < l.length) : l = l.take j ++ l[j] :: l.drop (j + 1) := by
  rw [List.getElem_cons_drop, List.take_append_drop]
theorem cmp_at {l k : List UInt8} {j : Nat} (h : l.take j = k.take j) (h1 : j < l.length) (h2 : j < k.length) : cmp l k = cmp (l[j] :: l.drop (j + 1)) (k[j] :: k.drop (j + 1)) := by
  have e1 := split_at h1
  have e2 := split_at h2
  rw [← h] at e2
  conv => lhs; rw [e1, e2]
  exact cmp_same ..
theorem cmp_lo {x y : UInt8} {a b : List UInt8} (h : x.toNat < y.toNat) : cmp (x :: a) (y :: b) = -1 := by unfold cmp; rw [lt_cons, if_pos h]; rfl
theorem cmp_hi {x y : UInt8} {a b : List UInt8} (h : y.toNat < x.toNat) : cmp (x :: a) (y :: b) = 1 := by
  have h1 : lt (x :: a) (y :: b) = false := by rw [lt_cons, if_neg (by omega), if_pos h]
  unfold cmp
  rw [h1, if_neg (by decide), if_neg]
  intro e
  injection e with e _
  subst e
  omega
theorem cmp_longer {l k : List UInt8} {j : Nat} (h : l.take j = k.take j) (h1 : j < l.length) (h2 : k.length ≤ j) : cmp l k = 1 := by
  have e1 := split_at h1
  have e2 : k = k.take j ++ [] := by rw [List.take_of_length_le h2, List.append_nil]
  rw [← h] at e2
  have e3 := cmp_same (l.take j) (l[j] :: l.drop (j + 1)) []
  rw [← e1, ← e2] at e3
  obtain ⟨x, r, e4⟩ : ∃ x r, cmp l k = cmp (x :: r) [] := ⟨_, _, e3⟩
  rw [e4]
  rfl
theorem cmp_end {l k : List UInt8} (h : l.take l.length = k.take l.length) : cmp l k = if l.length < k.length then -1 else 0 := by
  rw [List.take_length] at h
  by_cases h2 : l.length < k.length
  · have e2 := split_at h2
    rw [← h] at e2
    have e3 := cmp_same l [] (k[l.length] :: k.drop (l.length + 1))
    rw [← e2, List.append_nil] at e3
    rw [e3, if_pos h2]
    rfl
  · have e2 : l = k := by rw [h, List.take_of_length_le (by omega)]
    rw [if_neg h2, e2]
    unfold cmp
    rw [lt_irrefl]
    simp
theorem bytesLess_lt : ∀ a b : List UInt8, Op.bytesLess a b = lt a b
  | _, [] => by cases ‹List UInt8› <;> rfl
  | [], _ :: _ => rfl
  | x :: a, y :: b => by
    have ih := bytesLess_lt a b
    unfold Op.bytesLess
    rw [ih, lt_cons]
    by_cases h1 : x.toNat < y.toNat
    · rw [if_pos h1, decide_eq_true (UInt8.lt_iff_toNat_lt.2 h1)]; rfl
    · rw [if_neg h1, decide_eq_false (fun h => h1 (UInt8.lt_iff_toNat_lt.1 h))]
      by_cases h2 : y.toNat < x.toNat
      · rw [if_pos h2, show (x == y) = false by rw [beq_eq_false_iff_ne]; rintro rfl; omega]; rfl
      · rw [if_neg h2, show (x == y) = true by rw [beq_iff_eq]; exact UInt8.toNat_inj.1 (by omega)]; simp
end Go.Proofs.Ytgliindhndcceaa.Mg
