/- The reading of a revision's text by the reference, in plain Lean, and that it says what the program's reading says. -/
import Derived.Test.YtmkkbomkonociaaDoorDocParse
import Derived.Test.YtmkkbomkonociaaDoorDocText
namespace Go.Proofs.YtmkkbomkonociaaDoor
open Go.RowKit

def D (c : UInt8) : Nat := digitN (c.toNat : Int)
/-- the reference's loop over a text -/
def pgo (a : Nat) : List UInt8 → Nat → Nat → Nat → Option (Nat × Nat)
  | [], _, g, m => if 4294967295 < g then none else some (g, m)
  | c :: r, i, g, m =>
    if i < a then (if D c < 10 then pgo a r (i + 1) (10 * g + D c) m else none)
    else if a < i then (if D c < 16 then pgo a r (i + 1) g (16 * m + D c) else none)
    else pgo a r (i + 1) g m
def refParse (l : List UInt8) : Option (Nat × Nat) :=
  if l = [] then some (0, 0)
  else if l.length < 10 ∨ 19 < l.length ∨ l.getD (l.length - 9) 0 ≠ 45 ∨ l.getD 0 0 = 48 then none
  else pgo (l.length - 9) l 0 0 0

def dval (g : Nat) (l : List UInt8) : Nat := l.foldl (fun s c => 10 * s + D c) g
def hval (m : Nat) (l : List UInt8) : Nat := l.foldl (fun s c => 16 * s + D c) m
theorem D_of {c : UInt8} : (D c < 10 ∧ c.toNat = 48 + D c) ∨ (10 ≤ D c ∧ D c < 16 ∧ c.toNat = 87 + D c) ∨ D c = 16 := by
  unfold D digitN
  split
  · left; omega
  · split
    · right; left; omega
    · right; right; rfl
theorem D_ten {c : UInt8} (h : D c < 10) : c = UInt8.ofNat (48 + D c) := by
  apply UInt8.toNat_inj.1
  rw [UInt8.toNat_ofNat']
  rcases D_of (c := c) with h1 | h1 | h1 <;> omega
theorem D_hex {c : UInt8} (h : D c < 16) : hexd (D c) = c := by
  apply UInt8.toNat_inj.1
  have := digit_hexd (c := (c.toNat : Int)) h
  exact Int.ofNat_inj.1 this
theorem D_hexd {n : Nat} (h : n < 16) : D (hexd n) = n := hexd_digit h
theorem D_dig {n : Nat} (h : n < 10) : D (UInt8.ofNat (48 + n)) = n := by
  unfold D digitN
  rw [UInt8.toNat_ofNat', if_pos (by omega)]; omega

theorem pgo_a (a : Nat) (r : List UInt8) (m : Nat) : ∀ (x : List UInt8) (i g : Nat), i + x.length = a →
    pgo a (x ++ r) i g m = if x.all (fun c => decide (D c < 10)) then pgo a r a (dval g x) m else none := by
  intro x
  induction x with
  | nil => intro i g h; obtain rfl : i = a := by simpa using h
           simp [dval]
  | cons c x ih =>
    intro i g h
    rw [List.cons_append, pgo, if_pos (by simp only [List.length_cons] at h; omega)]
    by_cases hc : D c < 10
    · rw [if_pos hc, ih _ _ (by simp only [List.length_cons] at h; omega)]
      simp [dval, hc]
    · rw [if_neg hc]; simp [hc]
theorem pgo_b (a g : Nat) : ∀ (x : List UInt8) (i m : Nat), a < i →
    pgo a x i g m = if x.all (fun c => decide (D c < 16)) then (if 4294967295 < g then none else some (g, hval m x)) else none := by
  intro x
  induction x with
  | nil => intro i m _; simp [pgo, hval]
  | cons c x ih =>
    intro i m h
    rw [pgo, if_neg (by omega), if_pos h]
    by_cases hc : D c < 16
    · rw [if_pos hc, ih _ _ (by omega)]
      simp [hval, hc]
    · rw [if_neg hc]; simp [hc]
theorem pgo_both (x y : List UInt8) (c : UInt8) : pgo x.length (x ++ c :: y) 0 0 0 =
    if x.all (fun c => decide (D c < 10)) = true ∧ y.all (fun c => decide (D c < 16)) = true ∧ dval 0 x ≤ 4294967295 then some (dval 0 x, hval 0 y) else none := by
  rw [pgo_a _ _ _ x 0 0 (by omega)]
  by_cases h1 : x.all (fun c => decide (D c < 10)) = true
  · rw [if_pos h1, pgo, if_neg (by omega), if_neg (by omega), pgo_b _ _ _ _ _ (by omega)]
    by_cases h2 : y.all (fun c => decide (D c < 16)) = true
    · rw [if_pos h2]
      by_cases h3 : dval 0 x ≤ 4294967295
      · rw [if_neg (by omega), if_pos ⟨h1, h2, h3⟩]
      · rw [if_pos (by omega), if_neg (fun h => h3 h.2.2)]
    · rw [if_neg h2, if_neg (fun h => h2 h.2.1)]
  · rw [if_neg h1, if_neg (fun h => h1 h.1)]

/-! ### decimal -/
theorem dval_snoc (g : Nat) (x : List UInt8) (c : UInt8) : dval g (x ++ [c]) = 10 * dval g x + D c := by simp [dval]
theorem dval_dig (n : Nat) : dval 0 (Num.dig n) = n := by
  induction n using Nat.strongRecOn with
  | ind n ih =>
    by_cases h : n < 10
    · rw [Num.dig_small h]
      show 10 * 0 + D _ = n
      rw [D_dig h]; omega
    · rw [Num.dig_big h, dval_snoc, ih (n / 10) (by omega), D_dig (by omega)]; omega
theorem dig_ten (n : Nat) : (Num.dig n).all (fun c => decide (D c < 10)) = true := by
  rw [List.all_eq_true]
  intro c hc
  have := Num.dig_all n c hc
  unfold Num.isDig at this
  simp only [Bool.and_eq_true, decide_eq_true_eq] at this ⊢
  unfold D digitN
  rw [if_pos (by omega)]; omega
theorem dig_dval (k : Nat) : ∀ x : List UInt8, x.length = k + 1 → x.all (fun c => decide (D c < 10)) = true → x.getD 0 0 ≠ 48 → Num.dig (dval 0 x) = x ∧ 0 < dval 0 x := by
  induction k with
  | zero =>
    intro x hx ha h0
    match x, hx with
    | [c], _ =>
      have hc : D c < 10 := by simpa using ha
      have h1 : dval 0 [c] = D c := by simp [dval]
      have hne : c ≠ 48 := by simpa using h0
      rw [h1, Num.dig_small hc, ← D_ten hc]
      refine ⟨rfl, ?_⟩
      rcases Nat.eq_zero_or_pos (D c) with hz | hz
      · have := D_ten hc; rw [hz] at this; exact absurd this hne
      · exact hz
  | succ k ih =>
    intro x hx ha h0
    obtain ⟨y, c, rfl⟩ : ∃ y c, x = y ++ [c] := by
      rcases List.eq_nil_or_concat x with h | ⟨y, c, h⟩
      · rw [h] at hx; cases hx
      · exact ⟨y, c, by rw [h, List.concat_eq_append]⟩
    rw [List.length_append] at hx
    simp only [List.length_cons, List.length_nil] at hx
    rw [List.all_append, Bool.and_eq_true] at ha
    have hc : D c < 10 := by simpa using ha.2
    have h0' : y.getD 0 0 ≠ 48 := by
      rw [List.getD_eq_getElem?_getD, List.getElem?_append_left (by omega), ← List.getD_eq_getElem?_getD] at h0
      exact h0
    obtain ⟨e1, e2⟩ := ih y (by omega) ha.1 h0'
    rw [dval_snoc, Num.dig_big (by omega), show (10 * dval 0 y + D c) / 10 = dval 0 y by omega, show (10 * dval 0 y + D c) % 10 = D c by omega, e1, ← D_ten hc]
    exact ⟨rfl, by omega⟩

/-! ### the eight digits -/
theorem eight {x : List UInt8} (h : x.length = 8) : ∃ a b c d e f g i, x = [a, b, c, d, e, f, g, i] := by
  match x, h with
  | [a, b, c, d, e, f, g, i], _ => exact ⟨a, b, c, d, e, f, g, i, rfl⟩
theorem hexs_hval {x : List UInt8} (h : x.length = 8) (ha : x.all (fun c => decide (D c < 16)) = true) : hexs (hval 0 x) 8 = x ∧ hval 0 x < 4294967296 := by
  obtain ⟨a, b, c, d, e, f, g, i, rfl⟩ := eight h
  simp only [List.all_cons, List.all_nil, Bool.and_eq_true, decide_eq_true_eq, and_true] at ha
  obtain ⟨h1, h2, h3, h4, h5, h6, h7, h8⟩ := ha
  have hv : hval 0 [a, b, c, d, e, f, g, i] = 16 * (16 * (16 * (16 * (16 * (16 * (16 * (16 * 0 + D a) + D b) + D c) + D d) + D e) + D f) + D g) + D i := rfl
  rw [hv]
  refine ⟨?_, by omega⟩
  simp only [hexs, List.nil_append, List.cons_append, Nat.reduceSub, Nat.reducePow]
  have k1 := D_hex h1; have k2 := D_hex h2; have k3 := D_hex h3; have k4 := D_hex h4
  have k5 := D_hex h5; have k6 := D_hex h6; have k7 := D_hex h7; have k8 := D_hex h8
  generalize D a = A at *
  generalize D b = B at *
  generalize D c = C at *
  generalize D d = E at *
  generalize D e = F at *
  generalize D f = G at *
  generalize D g = H at *
  generalize D i = I at *
  refine congr (congrArg List.cons ?_) (congr (congrArg List.cons ?_) (congr (congrArg List.cons ?_) (congr (congrArg List.cons ?_) (congr (congrArg List.cons ?_) (congr (congrArg List.cons ?_) (congr (congrArg List.cons ?_) (congr (congrArg List.cons ?_) rfl)))))))
  · rw [← k1]; congr 1; omega
  · rw [← k2]; congr 1; omega
  · rw [← k3]; congr 1; omega
  · rw [← k4]; congr 1; omega
  · rw [← k5]; congr 1; omega
  · rw [← k6]; congr 1; omega
  · rw [← k7]; congr 1; omega
  · rw [← k8]; congr 1; omega
theorem hexs_all (m j : Nat) : (hexs m j).all (fun c => decide (D c < 16)) = true := by
  induction j with
  | zero => rfl
  | succ j ih => rw [hexs, List.all_append, ih]; simp [D_hexd (Nat.mod_lt _ (by omega : 16 > 0)), Nat.mod_lt]
theorem hval_hexs {m : Nat} (hm : m < 4294967296) : hval 0 (hexs m 8) = m := by
  simp only [hexs, List.nil_append, List.cons_append, Nat.reduceSub, Nat.reducePow, hval, List.foldl_cons, List.foldl_nil]
  simp only [D_hexd (Nat.mod_lt _ (by omega : 16 > 0))]
  omega

/-! ### the reference's reading is the inverse of the text -/
theorem ref_of_text {g m : Nat} (hg : g < 4294967296) (hm : m < 4294967296) (hb : isRev g m = true) : refParse (revText g m) = some (g, m) := by
  by_cases h0 : g = 0
  · subst h0
    have : m = 0 := by unfold isRev at hb; simpa using hb
    subst this; rfl
  · have hT : revText g m = Num.dig g ++ (45 :: hexs m 8) := by unfold revText; rw [if_neg h0]
    obtain ⟨c, y, hc, hc2⟩ := Num.dig_head g (by omega)
    have hl := (Num.dig_len 9 g).2 (by omega)
    have hp := List.length_pos_iff.2 (Num.dig_ne g)
    have hlen : (Num.dig g ++ (45 :: hexs m 8)).length = (Num.dig g).length + 9 := by rw [List.length_append, List.length_cons, hexs_len]
    rw [hT]
    unfold refParse
    rw [if_neg (by simp), hlen, if_neg, Nat.add_sub_cancel, pgo_both, if_pos ⟨dig_ten g, hexs_all m 8, by rw [dval_dig]; omega⟩, dval_dig, hval_hexs hm]
    rintro (h | h | h | h)
    · omega
    · omega
    · apply h
      rw [Nat.add_sub_cancel, List.getD_eq_getElem?_getD, List.getElem?_append_right (Nat.le_refl _)]
      simp
    · rw [List.getD_eq_getElem?_getD, List.getElem?_append_left hp, hc] at h
      have h' : c = 48 := by simpa using h
      rw [h'] at hc2
      exact absurd hc2 (by decide)
theorem text_of_ref {l : List UInt8} {g m : Nat} (h : refParse l = some (g, m)) : revText g m = l ∧ isRev g m = true ∧ g < 4294967296 ∧ m < 4294967296 := by
  unfold refParse at h
  by_cases h0 : l = []
  · rw [if_pos h0] at h
    injection h with h
    injection h with h1 h2
    subst h1; subst h2; subst h0
    exact ⟨rfl, rfl, by omega, by omega⟩
  · rw [if_neg h0] at h
    by_cases hc : l.length < 10 ∨ 19 < l.length ∨ l.getD (l.length - 9) 0 ≠ 45 ∨ l.getD 0 0 = 48
    · rw [if_pos hc] at h; cases h
    · rw [if_neg hc] at h
      have n1 : ¬ l.length < 10 := fun x => hc (Or.inl x)
      have n2 : ¬ 19 < l.length := fun x => hc (Or.inr (Or.inl x))
      have n3 : l.getD (l.length - 9) 0 = 45 := Classical.byContradiction fun x => hc (Or.inr (Or.inr (Or.inl x)))
      have n4 : l.getD 0 0 ≠ 48 := fun x => hc (Or.inr (Or.inr (Or.inr x)))
      obtain ⟨a, ha⟩ : ∃ a, a = l.length - 9 := ⟨_, rfl⟩
      rw [← ha] at h n3
      have hlt : a < l.length := by omega
      have hsplit : l = l.take a ++ l[a] :: l.drop (a + 1) := by rw [← List.drop_eq_getElem_cons hlt, List.take_append_drop]
      have hc45 : l[a] = 45 := by rw [List.getD_eq_getElem?_getD, List.getElem?_eq_getElem hlt] at n3; exact n3
      have hxl : (l.take a).length = a := by rw [List.length_take]; omega
      have hyl : (l.drop (a + 1)).length = 8 := by rw [List.length_drop]; omega
      have hx0 : (l.take a).getD 0 0 ≠ 48 := by
        rw [List.getD_eq_getElem?_getD, List.getElem?_take, if_pos (by omega), ← List.getD_eq_getElem?_getD]; exact n4
      rw [hc45] at hsplit
      generalize l.take a = x at *
      generalize l.drop (a + 1) = y at *
      have hp := pgo_both x y 45
      rw [hxl, ← hsplit, h] at hp
      by_cases hcond : x.all (fun c => decide (D c < 10)) = true ∧ y.all (fun c => decide (D c < 16)) = true ∧ dval 0 x ≤ 4294967295
      · rw [if_pos hcond] at hp
        injection hp with hp
        injection hp with e1 e2
        subst e1; subst e2
        obtain ⟨q1, q2⟩ := dig_dval (a - 1) x (by omega) hcond.1 hx0
        obtain ⟨q3, q4⟩ := hexs_hval hyl hcond.2.1
        refine ⟨?_, by simp [isRev]; omega, by omega, q4⟩
        unfold revText
        rw [if_neg (by omega), q1, q3, ← hsplit]
      · rw [if_neg hcond] at hp; cases hp

/-! ### the program's reading of a text -/
theorem dval_ge (g : Nat) (x : List UInt8) : g ≤ dval g x := by
  induction x generalizing g with
  | nil => exact Nat.le_refl _
  | cons c x ih => have := ih (10 * g + D c); simp only [dval, List.foldl_cons] at this ⊢; omega
theorem scan_a (r : List UInt8) (m : Nat) : ∀ (x : List UInt8) (g : Nat), x.all (fun c => decide (D c < 10)) = true → dval g x ≤ 4294967295 → scan (x ++ r) g m false = scan r (dval g x) m false := by
  intro x
  induction x with
  | nil => intro g _ _; rfl
  | cons c x ih =>
    intro g ha hl
    rw [List.all_cons, Bool.and_eq_true, decide_eq_true_eq] at ha
    have e : dval g (c :: x) = dval (10 * g + D c) x := by simp [dval]
    rw [e] at hl ⊢
    have := dval_ge (10 * g + D c) x
    have hc : digitN (c.toNat : Int) < 10 := ha.1
    rw [List.cons_append, scan, if_pos hc, if_neg (by show ¬ 4294967295 < 10 * g + D c; omega)]
    exact ih _ ha.2 hl
theorem scan_b (g m : Nat) (hm : m < 4294967296) : scan (hexs m 8) g 0 true = (g, m) := by
  have h : ∀ (x : List UInt8) (k : Nat), x.all (fun c => decide (D c < 16)) = true → scan x g k true = (g, x.foldl (fun s c => s * 16 % 4294967296 + D c) k) := by
    intro x
    induction x with
    | nil => intro k _; rfl
    | cons c x ih =>
      intro k ha
      rw [List.all_cons, Bool.and_eq_true, decide_eq_true_eq] at ha
      have hc : digitN (c.toNat : Int) < 16 := ha.1
      rw [scan, if_pos hc]
      exact ih _ ha.2
  rw [h _ _ (hexs_all m 8)]
  congr 1
  simp only [hexs, List.nil_append, List.cons_append, Nat.reduceSub, Nat.reducePow, List.foldl_cons, List.foldl_nil]
  simp only [D_hexd (Nat.mod_lt _ (by omega : 16 > 0))]
  omega
theorem scan_text {g m : Nat} (hg : g < 4294967296) (hm : m < 4294967296) (hb : isRev g m = true) : scan (revText g m) 0 0 false = (g, m) := by
  by_cases h0 : g = 0
  · subst h0
    have : m = 0 := by unfold isRev at hb; simpa using hb
    subst this; rfl
  · have hT : revText g m = Num.dig g ++ (45 :: hexs m 8) := by unfold revText; rw [if_neg h0]
    rw [hT, scan_a _ _ _ _ (dig_ten g) (by rw [dval_dig]; omega), dval_dig, scan, if_neg (by decide), if_pos (by decide), scan_b _ _ hm]
theorem parsed_text {g m : Nat} (hg : g < 4294967296) (hm : m < 4294967296) (hb : isRev g m = true) : parsed (revText g m) = some (g, m) := by
  unfold parsed
  simp only [scan_text hg hm hb, Nat.mod_eq_of_lt hg]
  exact if_pos ⟨hb, trivial⟩
theorem text_parsed {l : List UInt8} {g m : Nat} (h : parsed l = some (g, m)) : revText g m = l ∧ isRev g m = true ∧ g < 4294967296 ∧ m < 4294967296 := by
  unfold parsed at h
  have h1 := scan_lt l 0 0 false (by omega)
  generalize scan l 0 0 false = p at *
  obtain ⟨a, b⟩ := p
  simp only at h h1
  split at h
  · rename_i hc
    injection h with h
    injection h with e1 e2
    subst e1; subst e2
    exact ⟨hc.2, hc.1, by omega, h1⟩
  · cases h
/-- what the program reads is what the reference reads -/
theorem parsed_ref (l : List UInt8) : parsed l = refParse l := by
  cases h : refParse l with
  | some p =>
    obtain ⟨g, m⟩ := p
    obtain ⟨h1, h2, h3, h4⟩ := text_of_ref h
    rw [← h1]
    exact parsed_text h3 h4 h2
  | none =>
    cases h' : parsed l with
    | none => rfl
    | some p =>
      obtain ⟨g, m⟩ := p
      obtain ⟨h1, h2, h3, h4⟩ := text_parsed h'
      rw [← h1, ref_of_text h3 h4 h2] at h
      cases h
end Go.Proofs.YtmkkbomkonociaaDoor
