/- The reading and the reference's answer are one. No program in sight. -/
import Derived.Test.YtciakpfnmkoghaaNumRef
import Derived.Test.YtciakpfnmkoghaaNumNumber
namespace Go.Proofs.Ytciakpfnmkoghaa
open Num

def toRef : Except Nat St → Nat × Bool × Bool
  | .error k => (k, false, false)
  | .ok st => (st.at_, !st.part, true)
theorem runEnd_ne {l : List UInt8} {a : Nat} (h : isAt l a DIGITS = true) : runEnd l a ≠ a := by
  have hl := isAt_lt h
  rw [isAt_get hl, digits_has] at h
  unfold runEnd
  rw [List.drop_eq_getElem_cons hl, List.takeWhile_cons, h]
  simp only [ite_true, List.length_cons]; omega
theorem need_ref {f : St → Nat → St} (hf : f = skip ∨ f = grow) (l : List UInt8) (st : St) :
    (runEnd l st.at_ = st.at_ ∧ need f l st = .error st.at_) ∨ (runEnd l st.at_ ≠ st.at_ ∧ ∃ st', need f l st = .ok st' ∧ st'.at_ = runEnd l st.at_ ∧ st'.part = st.part) := by
  cases h : isAt l st.at_ DIGITS with
  | false => exact Or.inl ⟨runEnd_end h, by unfold need; rw [h]; rfl⟩
  | true =>
    refine Or.inr ⟨runEnd_ne h, fin f l st, by unfold need; rw [h]; rfl, ?_⟩
    rcases hf with rfl | rfl
    · rw [fin_skip]; exact ⟨rfl, rfl⟩
    · rw [fin_grow]; exact ⟨rfl, rfl⟩
theorem exp_ref (l : List UInt8) (st : St) : refExp l st.at_ (!st.part) = toRef (exponent l st) := by
  unfold refExp exponent
  split
  · rename_i h
    have ha : (take l [43, 45] (partly (tick st))).at_ = if isAt l (st.at_ + 1) [43, 45] then st.at_ + 1 + 1 else st.at_ + 1 := by
      unfold take
      split
      · rename_i h1; rw [if_pos (show isAt l (st.at_ + 1) [43, 45] = true from h1)]; rfl
      · rename_i h1; rw [if_neg (show ¬ isAt l (st.at_ + 1) [43, 45] = true from h1)]; rfl
    have hp : (take l [43, 45] (partly (tick st))).part = true := by unfold take; split <;> rfl
    rw [← ha]
    rcases need_ref (Or.inl rfl) l (take l [43, 45] (partly (tick st))) with ⟨h1, h2⟩ | ⟨h1, st', h2, h3, h4⟩
    · rw [h2]; simp only [h1, ite_true, toRef]
    · rw [h2]; simp only [h1, ite_false, toRef, h3, h4, hp, Bool.not_true]
  · rfl
theorem frac_ref (l : List UInt8) (st : St) (hp : st.part = false) : refFrac l st.at_ = toRef ((fraction l st).bind (exponent l)) := by
  unfold refFrac fraction
  split
  · rename_i h
    rcases need_ref (Or.inl rfl) l (partly (tick st)) with ⟨h1, h2⟩ | ⟨h1, st', h2, h3, h4⟩
    · have h1' : runEnd l (st.at_ + 1) = st.at_ + 1 := h1
      rw [h2]; simp only [h1', ite_true]; rfl
    · have h1' : runEnd l (st.at_ + 1) ≠ st.at_ + 1 := h1
      have h3' : st'.at_ = runEnd l (st.at_ + 1) := h3
      have h4' : st'.part = true := h4
      rw [h2]; simp only [h1', ite_false]
      show _ = toRef (exponent l st')
      rw [← exp_ref, h3', h4']; rfl
  · show _ = toRef (exponent l st)
    rw [← exp_ref, hp]; rfl
theorem whole_ref (l : List UInt8) (st : St) (hp : st.part = false) :
    (runEnd l st.at_ = st.at_ ∧ whole l st = .error st.at_) ∨ (runEnd l st.at_ ≠ st.at_ ∧ ∃ st', whole l st = .ok st' ∧ st'.at_ = (if isAt l st.at_ [48] then st.at_ + 1 else runEnd l st.at_) ∧ st'.part = false) := by
  unfold whole
  split
  · rename_i h
    have hd : isAt l st.at_ DIGITS = true := by
      have hl := isAt_lt h
      rw [isAt_get hl] at h ⊢
      have : l[st.at_] = 48 := by simpa using h
      rw [this]; rfl
    exact Or.inr ⟨runEnd_ne hd, _, rfl, by rfl, hp⟩
  · rename_i h
    rcases need_ref (Or.inr rfl) l st with ⟨h1, h2⟩ | ⟨h1, st', h2, h3, h4⟩
    · exact Or.inl ⟨h1, h2⟩
    · exact Or.inr ⟨h1, st', h2, by rw [h3], by rw [h4, hp]⟩
theorem end_ref (l : List UInt8) (i : Nat) : refEnd l i = toRef (reads l i) := by
  have ha : (sign l ⟨i, false, 0, false⟩).at_ = if isAt l i [45] then i + 1 else i := by
    unfold sign take
    rw [show (St.mk i false 0 false).at_ = i from rfl]
    cases isAt l i [45] <;> rfl
  have hp : (sign l ⟨i, false, 0, false⟩).part = false := by
    unfold sign take
    rw [show (St.mk i false 0 false).at_ = i from rfl]
    cases isAt l i [45] <;> rfl
  unfold refEnd
  rw [← ha]
  show _ = toRef ((whole l (sign l ⟨i, false, 0, false⟩)).bind fun s => (fraction l s).bind (exponent l))
  rcases whole_ref l (sign l ⟨i, false, 0, false⟩) hp with ⟨h1, h2⟩ | ⟨h1, st', h2, h3, h4⟩
  · rw [h2]; simp only [h1, ite_true]; rfl
  · rw [h2]; simp only [h1, ite_false]
    rw [← h3]
    exact frac_ref l st' h4

/-- the digits of an integer numeral that was read: the reference's Number of them -/
theorem number_ref {l : List UInt8} {i : Nat} {st : St} (h : reads l i = .ok st) (hp : st.part = false) :
    i < st.at_ ∧ st.at_ ≤ l.length ∧ refNumber ((l.drop i).take (st.at_ - i)) = (if st.V ≤ most st.minus then ((if st.minus then -(st.V : Int) else st.V), true) else (0, false)) ∧
      (∀ j (hj : j < ((l.drop i).take (st.at_ - i)).length), ¬ (j = 0 ∧ isAt ((l.drop i).take (st.at_ - i)) 0 [45] = true) → 48 ≤ ((l.drop i).take (st.at_ - i))[j].toNat ∧ ((l.drop i).take (st.at_ - i))[j].toNat ≤ 57) := by
  obtain ⟨hw, _, _⟩ := reads_plain h hp
  have hdig : ∀ (ds : List UInt8), (∀ c ∈ ds, isDig c = true) → ∀ j (hj : j < ds.length), 48 ≤ ds[j].toNat ∧ ds[j].toNat ≤ 57 := fun ds hds j hj => by
    simpa [isDig] using hds ds[j] (List.getElem_mem hj)
  cases hm : isAt l i [45] with
  | false =>
    have hs : sign l ⟨i, false, 0, false⟩ = ⟨i, false, 0, false⟩ := by
      unfold sign take
      rw [show (St.mk i false 0 false).at_ = i from rfl, hm]; rfl
    rw [hs] at hw
    obtain ⟨g1, g2, g3, _, g5, _⟩ := whole_own hw rfl rfl
    simp only at g1 g3 g5
    have h0 : isAt (dig st.V) 0 [45] = false := by have := dig_no_minus st.V []; rwa [List.append_nil] at this
    refine ⟨g1, g2, ?_, ?_⟩
    · rw [g5, g3]
      unfold refNumber
      simp only [h0]
      rw [show upTo (dig st.V) false (dig st.V).length = st.V by unfold upTo; rw [List.take_length]; exact val_dig st.V]
    · rw [g5]
      exact fun j hj _ => hdig _ (dig_all st.V) j hj
  | true =>
    have hl := isAt_lt hm
    have hs : sign l ⟨i, false, 0, false⟩ = ⟨i + 1, true, 0, false⟩ := by
      unfold sign take
      rw [show (St.mk i false 0 false).at_ = i from rfl, hm]; rfl
    rw [hs] at hw
    obtain ⟨g1, g2, g3, _, g5, _⟩ := whole_own hw rfl rfl
    simp only at g1 g3 g5
    have hown : (l.drop i).take (st.at_ - i) = 45 :: dig st.V := by
      rw [isAt_get hl] at hm
      rw [List.drop_eq_getElem_cons hl, show st.at_ - i = (st.at_ - (i + 1)) + 1 by omega, List.take_succ_cons, g5, show l[i] = 45 by simpa using hm]
    have h0 : isAt (45 :: dig st.V) 0 [45] = true := rfl
    refine ⟨by omega, g2, ?_, ?_⟩
    · rw [hown, g3]
      unfold refNumber
      simp only [h0]
      rw [show upTo (45 :: dig st.V) true (45 :: dig st.V).length = st.V by unfold upTo; rw [List.take_length]; exact val_dig st.V]
    · rw [hown]
      intro j hj hn
      cases j with
      | zero => exact absurd ⟨rfl, h0⟩ hn
      | succ j => exact hdig _ (dig_all st.V) j (by simpa using hj)
end Go.Proofs.Ytciakpfnmkoghaa
