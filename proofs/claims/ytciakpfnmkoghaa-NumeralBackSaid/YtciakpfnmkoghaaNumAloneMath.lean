/- What a numeral that was read looks like. No program in sight. -/
import Derived.Test.YtciakpfnmkoghaaNumPlain
namespace Go.Proofs.Ytciakpfnmkoghaa.Num

/-! ### where a reading ends -/
def Good (l : List UInt8) (a : Nat) (st : St) : Prop := a ≤ st.at_ ∧ st.at_ ≤ l.length
def GoodR (l : List UInt8) (a : Nat) : Except Nat St → Prop
  | .ok st => Good l a st
  | .error k => a ≤ k ∧ k ≤ l.length
section
variable {l : List UInt8} {a : Nat} {st : St}
theorem good_tick {S : List UInt8} (h : Good l a st) (hi : isAt l st.at_ S = true) : Good l a (tick st) := ⟨Nat.le_succ_of_le h.1, isAt_lt hi⟩
theorem good_take {S : List UInt8} (h : Good l a st) : Good l a (take l S st) := by
  unfold take
  split
  · exact good_tick h (by assumption)
  · exact h
theorem run_le (h : st.at_ ≤ l.length) : st.at_ + ((l.drop st.at_).takeWhile isDig).length ≤ l.length := by
  have h1 : ((l.drop st.at_).takeWhile isDig).length ≤ (l.drop st.at_).length := (List.takeWhile_sublist _).length_le
  rw [List.length_drop] at h1
  omega
theorem good_need {f : St → Nat → St} (hf : f = skip ∨ f = grow) (h : Good l a st) : GoodR l a (need f l st) := by
  unfold need
  split
  · have hr := run_le h.2
    rcases hf with rfl | rfl
    · rw [fin_skip]; exact ⟨Nat.le_add_right_of_le h.1, hr⟩
    · rw [fin_grow]; exact ⟨Nat.le_add_right_of_le h.1, hr⟩
  · exact h
theorem good_sign (h : Good l a st) : Good l a (sign l st) := good_take (S := [45]) h
theorem good_whole (h : Good l a st) : GoodR l a (whole l st) := by
  unfold whole
  split
  · exact good_tick h (by assumption)
  · exact good_need (Or.inr rfl) h
theorem good_fraction (h : Good l a st) : GoodR l a (fraction l st) := by
  unfold fraction
  split
  · exact good_need (Or.inl rfl) (good_tick h (by assumption) : Good l a (partly (tick st)))
  · exact h
theorem good_exponent (h : Good l a st) : GoodR l a (exponent l st) := by
  unfold exponent
  split
  · exact good_need (Or.inl rfl) (good_take (good_tick h (by assumption) : Good l a (partly (tick st))))
  · exact h
theorem good_bind {r : Except Nat St} {f : St → Except Nat St} (h : GoodR l a r) (hf : ∀ st, Good l a st → GoodR l a (f st)) : GoodR l a (r.bind f) := by
  cases r with
  | error k => exact h
  | ok st => exact hf st h
theorem good_reads {i : Nat} (h : i ≤ l.length) : GoodR l i (reads l i) :=
  good_bind (good_whole (good_sign ⟨Nat.le_refl _, h⟩)) fun _ h1 => good_bind (good_fraction h1) fun _ h2 => good_exponent h2
end

/-! ### what is no part -/
theorem part_need {l : List UInt8} {st st' : St} (h : need skip l st = .ok st') : st'.part = st.part := by
  unfold need at h
  split at h
  · injection h with h
    rw [← h, fin_skip]
  · cases h
theorem exponent_plain {l : List UInt8} {st st' : St} (h : exponent l st = .ok st') (hp : st'.part = false) : st' = st ∧ isAt l st.at_ [101, 69] = false := by
  unfold exponent at h
  split at h
  · have := part_need h
    rw [hp] at this
    unfold take at this
    split at this <;> cases this
  · rename_i h1
    injection h with h
    exact ⟨h.symm, by simpa using h1⟩
theorem fraction_plain {l : List UInt8} {st st' : St} (h : fraction l st = .ok st') (hp : st'.part = false) : st' = st ∧ isAt l st.at_ [46] = false := by
  unfold fraction at h
  split at h
  · have := part_need h
    rw [hp] at this
    cases this
  · rename_i h1
    injection h with h
    exact ⟨h.symm, by simpa using h1⟩
theorem exponent_part {l : List UInt8} {st st' : St} (h : exponent l st = .ok st') (hp : st.part = true) : st'.part = true := by
  cases hq : st'.part with
  | true => rfl
  | false =>
    obtain ⟨rfl, _⟩ := exponent_plain h hq
    rw [hp] at hq
    cases hq
theorem reads_plain {l : List UInt8} {i : Nat} {st : St} (h : reads l i = .ok st) (hp : st.part = false) :
    whole l (sign l ⟨i, false, 0, false⟩) = .ok st ∧ isAt l st.at_ [46] = false ∧ isAt l st.at_ [101, 69] = false := by
  unfold reads rest at h
  rw [if_pos rfl] at h
  cases hw : whole l (sign l ⟨i, false, 0, false⟩) with
  | error k => rw [hw] at h; cases h
  | ok s1 =>
    rw [hw] at h
    replace h : (fraction l s1).bind (exponent l) = .ok st := h
    cases hf : fraction l s1 with
    | error k => rw [hf] at h; cases h
    | ok s2 =>
      rw [hf] at h
      replace h : exponent l s2 = .ok st := h
      obtain ⟨rfl, he⟩ := exponent_plain h hp
      obtain ⟨rfl, hf2⟩ := fraction_plain hf hp
      exact ⟨rfl, hf2, he⟩

/-! ### digits are the numeral of their value -/
theorem dig_snoc {v d : Nat} (hv : 0 < v) (hd : d < 10) : dig (10 * v + d) = dig v ++ [UInt8.ofNat (48 + d)] := by
  rw [dig_big (by omega), show (10 * v + d) / 10 = v by omega, show (10 * v + d) % 10 = d by omega]
theorem ofNat_sub {c : UInt8} (h : isDig c = true) : UInt8.ofNat (48 + (c.toNat - 48)) = c := by
  have h1 : 48 ≤ c.toNat ∧ c.toNat ≤ 57 := by simpa [isDig] using h
  apply UInt8.toNat_inj.1
  rw [UInt8.toNat_ofNat']
  have := c.toNat_lt
  omega
theorem dig_val_from (v : Nat) (hv : 0 < v) : ∀ ds : List UInt8, (∀ c ∈ ds, isDig c = true) → dig (val v ds) = dig v ++ ds := by
  intro ds
  induction ds generalizing v with
  | nil => intro _; rw [val_nil, List.append_nil]
  | cons c ds ih =>
    intro h
    have hc := h c (by simp)
    have hb : 48 ≤ c.toNat ∧ c.toNat ≤ 57 := by simpa [isDig] using hc
    rw [val_cons, ih _ (by omega) (fun d hd => h d (by simp [hd])), dig_snoc hv (by omega), ofNat_sub hc, List.append_assoc]; rfl
theorem dig_val {c : UInt8} {ds : List UInt8} (hc : isDig c = true) (h0 : c ≠ 48) (h : ∀ d ∈ ds, isDig d = true) : dig (val 0 (c :: ds)) = c :: ds ∧ 0 < val 0 (c :: ds) := by
  have hb : 48 ≤ c.toNat ∧ c.toNat ≤ 57 := by simpa [isDig] using hc
  have h48 : c.toNat ≠ 48 := fun e => h0 (UInt8.toNat_inj.1 e)
  have hd : dig (c.toNat - 48) = [c] := by rw [dig_small (by omega), ofNat_sub hc]
  have hv : dig (val 0 (c :: ds)) = c :: ds := by
    rw [val_cons, show 10 * 0 + (c.toNat - 48) = c.toNat - 48 by omega, dig_val_from _ (by omega) ds h, hd]; rfl
  refine ⟨hv, ?_⟩
  rcases Nat.eq_zero_or_pos (val 0 (c :: ds)) with h | h
  · rw [h, dig_small (by omega)] at hv
    injection hv with h1 h2
    exact absurd h1.symm h0
  · exact h
theorem takeWhile_all (l : List UInt8) : ∀ c ∈ l.takeWhile isDig, isDig c = true := by
  induction l with
  | nil => simp
  | cons x l ih =>
    intro c hc
    rw [List.takeWhile_cons] at hc
    split at hc
    · rename_i hx
      rcases List.mem_cons.1 hc with rfl | hc
      · exact hx
      · exact ih c hc
    · cases hc
theorem takeWhile_take (l : List UInt8) : l.take (l.takeWhile isDig).length = l.takeWhile isDig := by
  induction l with
  | nil => rfl
  | cons x l ih =>
    rw [List.takeWhile_cons]
    split
    · rw [List.length_cons, List.take_succ_cons, ih]
    · rfl
theorem takeWhile_next (l : List UInt8) (c : UInt8) (h : l[(l.takeWhile isDig).length]? = some c) : isDig c = false := by
  induction l with
  | nil => cases h
  | cons x l ih =>
    rw [List.takeWhile_cons] at h
    split at h
    · rw [List.length_cons, List.getElem?_cons_succ] at h
      exact ih h
    · rename_i hx
      simp at h
      subst h
      simpa using hx

/-- what whole leaves, from a place on -/
theorem whole_own {l : List UInt8} {st st' : St} (h : whole l st = .ok st') (hV : st.V = 0) (hp : st.part = false) :
    st.at_ < st'.at_ ∧ st'.at_ ≤ l.length ∧ st'.minus = st.minus ∧ st'.part = false ∧ (l.drop st.at_).take (st'.at_ - st.at_) = dig st'.V ∧ (isAt l st'.at_ DIGITS = true → st'.V = 0) := by
  unfold whole at h
  split at h
  · rename_i h0
    have hl := isAt_lt h0
    injection h with h
    subst h
    refine ⟨by simp [tick], by simp only [tick]; omega, rfl, hp, ?_, fun _ => hV⟩
    rw [isAt_get hl] at h0
    simp only [tick, hV]
    have h1 : l[st.at_] = 48 := by simpa using h0
    rw [List.drop_eq_getElem_cons hl, show st.at_ + 1 - st.at_ = 0 + 1 by omega, dig_small (by omega), List.take_succ_cons, List.take_zero, h1]; rfl
  · rename_i h0
    unfold need at h
    split at h
    · rename_i hd
      have hl := isAt_lt hd
      injection h with h
      rw [fin_grow] at h
      subst h
      have hr := run_le (st := st) (Nat.le_of_lt hl)
      rw [isAt_get hl] at h0
      rw [isAt_get hl, digits_has] at hd
      have hc : l.drop st.at_ = l[st.at_] :: l.drop (st.at_ + 1) := List.drop_eq_getElem_cons hl
      have htw : (l.drop st.at_).takeWhile isDig = l[st.at_] :: (l.drop (st.at_ + 1)).takeWhile isDig := by rw [hc, List.takeWhile_cons, hd, if_pos rfl]
      obtain ⟨e1, e2⟩ := dig_val hd (by simpa using h0) (takeWhile_all (l.drop (st.at_ + 1)))
      refine ⟨?_, hr, rfl, hp, ?_, fun hx => ?_⟩
      · simp only [htw, List.length_cons]; omega
      · simp only [hV]
        rw [Nat.add_sub_cancel_left, takeWhile_take, htw, e1]
      · exfalso
        have hxl := isAt_lt hx
        rw [isAt_get hxl, digits_has] at hx
        have := takeWhile_next (l.drop st.at_) (l[st.at_ + ((l.drop st.at_).takeWhile isDig).length]'hxl) (by rw [List.getElem?_drop]; exact List.getElem?_eq_getElem hxl)
        simp only at hx
        rw [this] at hx
        cases hx
    · cases h

/-- THE LAW: what an integer numeral that was read looks like -/
theorem read_own {l : List UInt8} {i : Nat} {N E : Int} (h : read l i = (N, E, 0)) :
    ∃ e : Nat, E = e ∧ i < e ∧ e ≤ l.length ∧ ((l.drop i).take (e - i) = [45, 48] ∧ N = 0 ∨ (l.drop i).take (e - i) ≠ [45, 48] ∧ (l.drop i).take (e - i) = print N) ∧ (isAt l e DIGITS = true → N = 0) := by
  unfold read at h
  split at h
  · cases h
  · rename_i hi
    rw [Int.toNat_natCast] at h
    cases hr : reads l i with
    | error k => rw [hr] at h; cases h
    | ok st =>
      rw [hr] at h
      simp only at h
      split at h
      · cases h
      · rename_i hp
        have hpart : st.part = false := by
          cases hq : st.part with
          | true => exact absurd (Or.inl hq) hp
          | false => rfl
        injection h with hN h
        injection h with hE _
        obtain ⟨hw, _, _⟩ := reads_plain hr hpart
        cases hm : isAt l i [45] with
        | false =>
          have hs : sign l ⟨i, false, 0, false⟩ = ⟨i, false, 0, false⟩ := by
            unfold sign take
            rw [show (St.mk i false 0 false).at_ = i from rfl, hm]; rfl
          rw [hs] at hw
          obtain ⟨g1, g2, g3, _, g5, g6⟩ := whole_own hw rfl rfl
          rw [show st.minus = false from g3] at hN
          simp only [Bool.false_eq_true, ite_false] at hN
          refine ⟨st.at_, hE.symm, g1, g2, Or.inr ⟨?_, ?_⟩, fun hx => by rw [← hN, g6 hx]; rfl⟩
          · intro e
            have : dig st.V = [45, 48] := by rw [← g5]; exact e
            have h45 := dig_all st.V 45 (by rw [this]; simp)
            exact absurd h45 (by decide)
          · rw [← hN, print_nonneg (by omega), Int.natAbs_natCast]
            exact g5
        | true =>
          have hl := isAt_lt hm
          have hs : sign l ⟨i, false, 0, false⟩ = ⟨i + 1, true, 0, false⟩ := by
            unfold sign take
            rw [show (St.mk i false 0 false).at_ = i from rfl, hm]; rfl
          rw [hs] at hw
          obtain ⟨g1, g2, g3, _, g5, g6⟩ := whole_own hw rfl rfl
          simp only at g1 g5
          rw [show st.minus = true from g3] at hN
          simp only [ite_true] at hN
          have hown : (l.drop i).take (st.at_ - i) = 45 :: dig st.V := by
            rw [isAt_get hl] at hm
            rw [List.drop_eq_getElem_cons hl, show st.at_ - i = (st.at_ - (i + 1)) + 1 by omega, List.take_succ_cons, g5, show l[i] = 45 by simpa using hm]
          refine ⟨st.at_, hE.symm, by omega, g2, ?_, fun hx => by rw [← hN, g6 hx]; rfl⟩
          rw [hown]
          by_cases hz : st.V = 0
          · rw [hz] at hN ⊢
            exact Or.inl ⟨by rw [dig_small (by omega)]; rfl, by rw [← hN]; rfl⟩
          · right
            obtain ⟨c, ds, hc, hgt⟩ := dig_head st.V (by omega)
            refine ⟨fun e => ?_, ?_⟩
            · rw [hc] at e
              injection e with _ e
              injection e with e _
              subst e
              exact absurd hgt (by decide)
            · rw [← hN, print_negative (by omega), Int.natAbs_neg, Int.natAbs_natCast]
theorem read_range {l : List UInt8} {i N E : Int} (h : read l i = (N, E, 0)) : -9223372036854775808 ≤ N ∧ N ≤ 9223372036854775807 := by
  unfold read at h
  split at h
  · cases h
  · cases hr : reads l i.toNat with
    | error k => rw [hr] at h; cases h
    | ok st =>
      rw [hr] at h
      simp only at h
      split at h
      · cases h
      · rename_i hp
        injection h with hN h
        cases hm : st.minus <;> rw [hm] at hp hN <;> simp only [most, Bool.false_eq_true, ite_true, ite_false] at hp hN <;> omega
theorem read_place {l : List UInt8} {i N E : Int} (h : read l i = (N, E, 0)) : ∃ k : Nat, i = k ∧ k ≤ l.length := by
  unfold read at h
  split at h
  · cases h
  · exact ⟨i.toNat, by omega, by omega⟩
/-- and what one that is none looks like -/
theorem read_not {l : List UInt8} {i N E e : Int} (h : read l i = (N, E, e)) (he : e ≠ 0) : N = 0 ∧ (e = 2 ∧ E = 0 ∨ (e = 7 ∨ e = 130) ∧ i ≤ E ∧ E ≤ l.length) := by
  unfold read at h
  split at h
  · cases h; exact ⟨rfl, Or.inl ⟨rfl, rfl⟩⟩
  · rename_i hi
    obtain ⟨k, rfl⟩ : ∃ k : Nat, i = k := ⟨i.toNat, by omega⟩
    rw [Int.toNat_natCast] at h
    have hg := good_reads (l := l) (i := k) (by omega)
    cases hr : reads l k with
    | error j =>
      rw [hr] at h hg
      cases h
      exact ⟨rfl, Or.inr ⟨Or.inl rfl, by have := hg.1; omega, by have := hg.2; omega⟩⟩
    | ok st =>
      rw [hr] at h
      simp only at h
      split at h
      · cases h; exact ⟨rfl, Or.inr ⟨Or.inr rfl, by omega, by omega⟩⟩
      · cases h; exact absurd rfl he
end Go.Proofs.Ytciakpfnmkoghaa.Num
