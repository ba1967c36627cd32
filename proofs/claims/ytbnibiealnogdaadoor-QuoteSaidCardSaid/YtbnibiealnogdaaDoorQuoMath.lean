/- The signs of quoted texts. No program in sight. -/
import Derived.Test.YtbnibiealnogdaaDoorUtfMath
namespace Go.Proofs.YtbnibiealnogdaaDoor.Quo
open Utf

/-- the number of a digit to the base 16 -/
def dig (c : UInt8) : Option Nat :=
  if 48 ≤ c.toNat ∧ c.toNat ≤ 57 then some (c.toNat - 48)
  else if 97 ≤ c.toNat ∧ c.toNat ≤ 102 then some (c.toNat - 97 + 10)
  else if 65 ≤ c.toNat ∧ c.toNat ≤ 70 then some (c.toNat - 65 + 10) else none
theorem dig_lt {c : UInt8} {d : Nat} (h : dig c = some d) : d < 16 := by
  unfold dig at h
  split at h
  · have := Option.some.inj h; omega
  · split at h
    · have := Option.some.inj h; omega
    · split at h
      · have := Option.some.inj h; omega
      · cases h
def hexs : Nat → List UInt8 → Option Nat
  | n, [] => some n
  | n, c :: l => match dig c with
    | none => none
    | some d => hexs (n * 16 + d) l
theorem hexs_lt : ∀ {l : List UInt8} {n m k : Nat}, hexs n l = some m → n < k → m < k * 16 ^ l.length
  | [], n, m, k, h, hk => by
    have := Option.some.inj h
    simp; omega
  | c :: l, n, m, k, h, hk => by
    unfold hexs at h
    cases hd : dig c with
    | none => rw [hd] at h; cases h
    | some d =>
      rw [hd] at h
      have h1 := dig_lt hd
      have h2 := hexs_lt (k := k * 16) h (by omega)
      rw [List.length_cons, Nat.pow_succ, Nat.mul_comm (16 ^ l.length) 16, ← Nat.mul_assoc]
      exact h2
/-- the number that four digits behind a backslash and a u say -/
def unit : List UInt8 → Option Nat
  | a :: b :: c0 :: c1 :: c2 :: c3 :: _ => if a = 92 ∧ b = 117 then hexs 0 [c0, c1, c2, c3] else none
  | _ => none
theorem unit_shape {l : List UInt8} {n : Nat} (h : unit l = some n) : ∃ c0 c1 c2 c3 t, l = 92 :: 117 :: c0 :: c1 :: c2 :: c3 :: t ∧ hexs 0 [c0, c1, c2, c3] = some n ∧ n < 65536 := by
  unfold unit at h
  split at h
  · rename_i a b c0 c1 c2 c3 t
    split at h
    · rename_i hab
      obtain ⟨rfl, rfl⟩ := hab
      exact ⟨c0, c1, c2, c3, t, rfl, h, by have := hexs_lt (k := 1) h (by omega); simpa using this⟩
    · cases h
  · cases h
theorem unit_of {c0 c1 c2 c3 : UInt8} {n : Nat} (h : hexs 0 [c0, c1, c2, c3] = some n) (t : List UInt8) : unit (92 :: 117 :: c0 :: c1 :: c2 :: c3 :: t) = some n := by
  show (if (92 : UInt8) = 92 ∧ (117 : UInt8) = 117 then hexs 0 [c0, c1, c2, c3] else none) = some n
  rw [if_pos ⟨rfl, rfl⟩, h]
theorem unit_not {a b : UInt8} (h : b ≠ 117) (t : List UInt8) : unit (a :: b :: t) = none := by
  unfold unit
  split
  · rename_i heq
    rw [if_neg]
    rintro ⟨_, rfl⟩
    simp at heq
    exact h heq.2.1
  · rfl
theorem unit_one (a : UInt8) : unit [a] = none := rfl
/-- what a letter behind a backslash says -/
def letter (c : UInt8) : Option Nat :=
  if c = 34 then some 34 else if c = 92 then some 92 else if c = 47 then some 47 else if c = 98 then some 8 else if c = 102 then some 12 else if c = 110 then some 10 else if c = 114 then some 13 else if c = 116 then some 9 else none
theorem letter_cases {c : UInt8} {s : Nat} (h : letter c = some s) : (c = 34 ∧ s = 34) ∨ (c = 92 ∧ s = 92) ∨ (c = 47 ∧ s = 47) ∨ (c = 98 ∧ s = 8) ∨ (c = 102 ∧ s = 12) ∨ (c = 110 ∧ s = 10) ∨ (c = 114 ∧ s = 13) ∨ (c = 116 ∧ s = 9) := by
  unfold letter at h
  split at h
  · have := Option.some.inj h; simp_all
  · split at h
    · have := Option.some.inj h; simp_all
    · split at h
      · have := Option.some.inj h; simp_all
      · split at h
        · have := Option.some.inj h; simp_all
        · split at h
          · have := Option.some.inj h; simp_all
          · split at h
            · have := Option.some.inj h; simp_all
            · split at h
              · have := Option.some.inj h; simp_all
              · split at h
                · have := Option.some.inj h; simp_all
                · cases h
/-- two halves -/
def pair (h : Nat) (l : List UInt8) : Nat × Nat :=
  match unit l with
  | some w => if 56320 ≤ w ∧ w ≤ 57343 then (65536 + (h - 55296) * 1024 + (w - 56320), 12) else (0, 0)
  | none => (0, 0)
/-- the sign that begins with a backslash -/
def esc (l : List UInt8) : Nat × Nat :=
  match unit l with
  | some h => if isCp (h : Int) = true then (h, 6) else if h < 56320 then pair h (l.drop 6) else (0, 0)
  | none => match l with
    | _ :: d :: _ => (match letter d with
      | some s => (s, 2)
      | none => (0, 0))
    | _ => (0, 0)
/-- the sign that begins a row: what it says, how many bytes it has -/
def sign (l : List UInt8) : Nat × Nat :=
  match l with
  | [] => (0, 0)
  | c :: _ => if c = 92 then esc l else if c.toNat < 32 ∨ c = 34 then (0, 0) else dec l
theorem sign_nil : sign [] = (0, 0) := rfl
theorem sign_back (t : List UInt8) : sign (92 :: t) = esc (92 :: t) := by
  show (if (92 : UInt8) = 92 then esc (92 :: t) else if (92 : UInt8).toNat < 32 ∨ (92 : UInt8) = 34 then (0, 0) else dec (92 :: t)) = _
  rw [if_pos rfl]
theorem sign_low {c : UInt8} (t : List UInt8) (h : c ≠ 92) (h2 : c.toNat < 32 ∨ c = 34) : sign (c :: t) = (0, 0) := by
  show (if c = 92 then esc (c :: t) else if c.toNat < 32 ∨ c = 34 then (0, 0) else dec (c :: t)) = _
  rw [if_neg h, if_pos h2]
theorem sign_dec {c : UInt8} (t : List UInt8) (h : c ≠ 92) (h2 : ¬ (c.toNat < 32 ∨ c = 34)) : sign (c :: t) = dec (c :: t) := by
  show (if c = 92 then esc (c :: t) else if c.toNat < 32 ∨ c = 34 then (0, 0) else dec (c :: t)) = _
  rw [if_neg h, if_neg h2]
theorem sign_end (t : List UInt8) : sign (34 :: t) = (0, 0) := sign_low t (by decide) (.inr rfl)
theorem esc_unit {l : List UInt8} {h : Nat} (hu : unit l = some h) (hc : isCp (h : Int) = true) : esc l = (h, 6) := by unfold esc; rw [hu]; simp only; rw [if_pos hc]
theorem esc_two {l : List UInt8} {h w : Nat} (hu : unit l = some h) (hc : ¬ isCp (h : Int) = true) (hl : h < 56320) (hw : unit (l.drop 6) = some w) (hr : 56320 ≤ w ∧ w ≤ 57343) : esc l = (65536 + (h - 55296) * 1024 + (w - 56320), 12) := by
  unfold esc; rw [hu]; simp only; rw [if_neg hc, if_pos hl]; unfold pair; rw [hw]; simp only; rw [if_pos hr]
theorem esc_letter {c d : UInt8} {s : Nat} (t : List UInt8) (h : letter d = some s) : esc (c :: d :: t) = (s, 2) := by
  have hd : d ≠ 117 := by rintro rfl; rw [show letter 117 = none by decide] at h; cases h
  unfold esc; rw [unit_not hd]; simp only; rw [h]
/-- how a sign with a backslash comes about -/
theorem esc_cases {l : List UInt8} {p n : Nat} (h : esc l = (p, n)) (hn : n ≠ 0) :
    (n = 6 ∧ unit l = some p ∧ isCp (p : Int) = true) ∨
    (n = 12 ∧ ∃ a w, unit l = some a ∧ ¬ isCp (a : Int) = true ∧ a < 56320 ∧ unit (l.drop 6) = some w ∧ 56320 ≤ w ∧ w ≤ 57343 ∧ p = 65536 + (a - 55296) * 1024 + (w - 56320)) ∨
    (n = 2 ∧ unit l = none ∧ ∃ c d t, l = c :: d :: t ∧ letter d = some p) := by
  unfold esc at h
  split at h
  · rename_i a hu
    split at h
    · rename_i hc
      obtain ⟨rfl, rfl⟩ := Prod.mk.inj h
      exact .inl ⟨rfl, hu, hc⟩
    · rename_i hc
      split at h
      · rename_i hl
        unfold pair at h
        split at h
        · rename_i w hw
          split at h
          · rename_i hr
            obtain ⟨rfl, rfl⟩ := Prod.mk.inj h
            exact .inr (.inl ⟨rfl, a, w, hu, hc, hl, hw, hr.1, hr.2, rfl⟩)
          · exact absurd (Prod.mk.inj h).2.symm hn
        · exact absurd (Prod.mk.inj h).2.symm hn
      · exact absurd (Prod.mk.inj h).2.symm hn
  · rename_i hu
    split at h
    · rename_i c d t
      split at h
      · rename_i s hs
        obtain ⟨rfl, rfl⟩ := Prod.mk.inj h
        exact .inr (.inr ⟨rfl, hu, c, d, t, rfl, hs⟩)
      · exact absurd (Prod.mk.inj h).2.symm hn
    · exact absurd (Prod.mk.inj h).2.symm hn
theorem half {a : Nat} (h : ¬ isCp (a : Int) = true) (h2 : a < 56320) : 55296 ≤ a := by
  rw [isCp_iff] at h
  omega
theorem letter_cp {c : UInt8} {s : Nat} (h : letter c = some s) : isCp (s : Int) = true := by
  rcases letter_cases h with ⟨_, rfl⟩ | ⟨_, rfl⟩ | ⟨_, rfl⟩ | ⟨_, rfl⟩ | ⟨_, rfl⟩ | ⟨_, rfl⟩ | ⟨_, rfl⟩ | ⟨_, rfl⟩ <;> exact isCp_iff.2 (by omega)
/-- a sign is a code point, and does not look at what comes behind it -/
theorem sign_stable {l : List UInt8} {p n : Nat} (h : sign l = (p, n)) (hn : n ≠ 0) : isCp (p : Int) = true ∧ n ≤ l.length ∧ ∀ r, sign (l.take n ++ r) = (p, n) := by
  cases l with
  | nil => exact absurd (Prod.mk.inj h).2.symm hn
  | cons c t =>
    by_cases hc : c = 92
    · subst hc
      rw [sign_back] at h
      rcases esc_cases h hn with ⟨rfl, hu, hp⟩ | ⟨rfl, a, w, hu, ha, hl, hw, h1, h2, hpp⟩ | ⟨rfl, hu, c', d, t', hl, hs⟩
      · obtain ⟨c0, c1, c2, c3, t', ht, hx, _⟩ := unit_shape hu
        rw [ht]
        refine ⟨hp, by simp, fun r => ?_⟩
        show sign (92 :: 117 :: c0 :: c1 :: c2 :: c3 :: r) = _
        rw [sign_back, esc_unit (unit_of hx r) hp]
      · obtain ⟨c0, c1, c2, c3, t', ht, hx, _⟩ := unit_shape hu
        rw [ht] at hw ⊢
        obtain ⟨d0, d1, d2, d3, t2, ht2, hy, _⟩ := unit_shape hw
        have ht3 : t' = 92 :: 117 :: d0 :: d1 :: d2 :: d3 :: t2 := ht2
        subst ht3
        have := half ha hl
        refine ⟨isCp_iff.2 (by omega), by simp, fun r => ?_⟩
        rw [hpp]
        show sign (92 :: 117 :: c0 :: c1 :: c2 :: c3 :: 92 :: 117 :: d0 :: d1 :: d2 :: d3 :: r) = _
        rw [sign_back, esc_two (unit_of hx _) ha hl (w := w) (unit_of hy r) ⟨h1, h2⟩]
      · obtain ⟨rfl, rfl⟩ := List.cons.inj hl
        refine ⟨letter_cp hs, by simp, fun r => ?_⟩
        show sign (92 :: d :: r) = _
        rw [sign_back, esc_letter r hs]
    · by_cases hl : c.toNat < 32 ∨ c = 34
      · rw [sign_low t hc hl] at h
        exact absurd (Prod.mk.inj h).2.symm hn
      · rw [sign_dec t hc hl] at h
        obtain ⟨h1, h2, h3⟩ := enc_dec h hn
        refine ⟨h1, h2, fun r => ?_⟩
        have h4 := dec_enc h1 r
        have h5 : (enc p).length = n := by rw [h3, List.length_take]; omega
        rw [h3] at h4
        rw [← h3, h5] at h4
        obtain ⟨m, rfl⟩ : ∃ m, n = m + 1 := ⟨n - 1, by omega⟩
        rw [h3] at h4
        rw [List.take_succ_cons, List.cons_append] at h4 ⊢
        rw [sign_dec _ hc hl, h4]
/-! ### the canonical items -/
def sig (p : Nat) : Option UInt8 := if p = 34 then some 34 else if p = 92 then some 92 else if p = 8 then some 98 else if p = 12 then some 102 else if p = 10 then some 110 else if p = 13 then some 114 else if p = 9 then some 116 else none
def hexd (d : Nat) : UInt8 := if d < 10 then u8 (48 + d) else u8 (87 + d)
def item (p : Nat) : List UInt8 := match sig p with
  | some c => [92, c]
  | none => if p < 32 then [92, 117, 48, 48, hexd (p / 16), hexd (p % 16)] else enc p
theorem sig_cases {p : Nat} {c : UInt8} (h : sig p = some c) : letter c = some p ∧ (p < 32 ∨ p = 34 ∨ p = 92) := by
  unfold sig at h
  split at h
  · have := Option.some.inj h; subst this; rename_i hp; subst hp; exact ⟨by decide, by decide⟩
  · split at h
    · have := Option.some.inj h; subst this; rename_i hp; subst hp; exact ⟨by decide, by decide⟩
    · split at h
      · have := Option.some.inj h; subst this; rename_i hp; subst hp; exact ⟨by decide, by decide⟩
      · split at h
        · have := Option.some.inj h; subst this; rename_i hp; subst hp; exact ⟨by decide, by decide⟩
        · split at h
          · have := Option.some.inj h; subst this; rename_i hp; subst hp; exact ⟨by decide, by decide⟩
          · split at h
            · have := Option.some.inj h; subst this; rename_i hp; subst hp; exact ⟨by decide, by decide⟩
            · split at h
              · have := Option.some.inj h; subst this; rename_i hp; subst hp; exact ⟨by decide, by decide⟩
              · cases h
theorem item_sig {p : Nat} {c : UInt8} (h : sig p = some c) : item p = [92, c] := by unfold item; rw [h]
theorem item_low {p : Nat} (h : sig p = none) (hl : p < 32) : item p = [92, 117, 48, 48, hexd (p / 16), hexd (p % 16)] := by unfold item; rw [h]; simp only; rw [if_pos hl]
theorem item_enc {p : Nat} (h : sig p = none) (hl : ¬ p < 32) : item p = enc p := by unfold item; rw [h]; simp only; rw [if_neg hl]
theorem sig_none {p : Nat} (h : ¬ p < 32) (h1 : p ≠ 34) (h2 : p ≠ 92) : sig p = none := by
  unfold sig
  rw [if_neg h1, if_neg h2, if_neg (by omega), if_neg (by omega), if_neg (by omega), if_neg (by omega), if_neg (by omega)]
theorem low_hexs : ∀ p, p < 32 → hexs 0 [48, 48, hexd (p / 16), hexd (p % 16)] = some p := by decide
theorem enc_first (p : Nat) (hp : isCp (p : Int) = true) : ∃ c t, enc p = c :: t ∧ (p < 128 → c.toNat = p) ∧ (128 ≤ p → 128 ≤ c.toNat) := by
  have hb := isCp_iff.1 hp
  unfold enc
  by_cases h1 : p < 128
  · rw [if_pos h1]; exact ⟨_, _, rfl, fun _ => u8_toNat (by omega), fun h => by omega⟩
  · rw [if_neg h1]
    by_cases h2 : p < 2048
    · rw [if_pos h2]; exact ⟨_, _, rfl, fun h => by omega, fun _ => by rw [u8_toNat (by omega)]; omega⟩
    · rw [if_neg h2]
      by_cases h3 : p < 65536
      · rw [if_pos h3]; exact ⟨_, _, rfl, fun h => by omega, fun _ => by rw [u8_toNat (by omega)]; omega⟩
      · rw [if_neg h3]; exact ⟨_, _, rfl, fun h => by omega, fun _ => by rw [u8_toNat (by omega)]; omega⟩
theorem u8_of_nat {c : UInt8} {n : Nat} (h : c.toNat = n) (m : UInt8) (hm : m.toNat ≠ n) : c ≠ m := by rintro rfl; exact hm h
/-- the canonical item is read as its code point -/
theorem item_sign {p : Nat} (hp : isCp (p : Int) = true) (r : List UInt8) : sign (item p ++ r) = (p, (item p).length) := by
  cases hs : sig p with
  | some c =>
    rw [item_sig hs]
    show sign (92 :: c :: r) = (p, 2)
    rw [sign_back, esc_letter r (sig_cases hs).1]
  | none =>
    by_cases hl : p < 32
    · rw [item_low hs hl]
      show sign (92 :: 117 :: 48 :: 48 :: hexd (p / 16) :: hexd (p % 16) :: r) = (p, 6)
      rw [sign_back, esc_unit (unit_of (low_hexs p hl) r) hp]
    · rw [item_enc hs hl]
      obtain ⟨c, t, he, h1, h2⟩ := enc_first p hp
      have h3 := dec_enc hp r
      have h34 : p ≠ 34 := by rintro rfl; revert hs; decide
      have h92 : p ≠ 92 := by rintro rfl; revert hs; decide
      have hc : c.toNat ≠ 92 ∧ ¬ c.toNat < 32 ∧ c.toNat ≠ 34 := by
        by_cases hp1 : p < 128
        · have := h1 hp1; omega
        · have := h2 (by omega); omega
      rw [he] at h3 ⊢
      rw [List.cons_append] at h3 ⊢
      rw [sign_dec _ (by rintro rfl; exact hc.1 rfl) (by rintro (h | h); exact hc.2.1 h; subst h; exact hc.2.2 rfl), h3]
theorem item_pos {p : Nat} (_hp : isCp (p : Int) = true) : 0 < (item p).length := by
  cases hs : sig p with
  | some c => rw [item_sig hs]; simp
  | none =>
    by_cases hl : p < 32
    · rw [item_low hs hl]; simp
    · rw [item_enc hs hl]; exact enc_pos p
theorem item_six {p : Nat} (hp : isCp (p : Int) = true) : (item p).length ≤ 6 := by
  cases hs : sig p with
  | some c => rw [item_sig hs]; simp
  | none =>
    by_cases hl : p < 32
    · rw [item_low hs hl]; simp
    · rw [item_enc hs hl, enc_len hp]; have := sz_le (p : Int); omega
/-- no sign is shorter than the canonical item -/
theorem item_le {l : List UInt8} {p n : Nat} (h : sign l = (p, n)) (hn : n ≠ 0) : (item p).length ≤ n := by
  have hcp := (sign_stable h hn).1
  cases l with
  | nil => exact absurd (Prod.mk.inj h).2.symm hn
  | cons c t =>
    by_cases hc : c = 92
    · subst hc
      rw [sign_back] at h
      rcases esc_cases h hn with ⟨rfl, _⟩ | ⟨rfl, _⟩ | ⟨rfl, _, c', d, t', _, hs⟩
      · exact item_six hcp
      · exact Nat.le_trans (item_six hcp) (by omega)
      · rcases letter_cases hs with ⟨_, rfl⟩ | ⟨_, rfl⟩ | ⟨_, rfl⟩ | ⟨_, rfl⟩ | ⟨_, rfl⟩ | ⟨_, rfl⟩ | ⟨_, rfl⟩ | ⟨_, rfl⟩ <;> decide
    · by_cases hl : c.toNat < 32 ∨ c = 34
      · rw [sign_low t hc hl] at h
        exact absurd (Prod.mk.inj h).2.symm hn
      · rw [sign_dec t hc hl] at h
        obtain ⟨h1, h2, h3⟩ := enc_dec h hn
        have h5 : (enc p).length = n := by rw [h3, List.length_take]; omega
        obtain ⟨c', t', he, h6, h7⟩ := enc_first p hcp
        have hcc : c' = c := by
          rw [he] at h3
          obtain ⟨m, rfl⟩ : ∃ m, n = m + 1 := ⟨n - 1, by omega⟩
          rw [List.take_succ_cons] at h3
          exact (List.cons.inj h3).1
        subst hcc
        have hge : ¬ p < 32 ∧ p ≠ 34 ∧ p ≠ 92 := by
          by_cases hp1 : p < 128
          · have h8 := h6 hp1
            refine ⟨fun h => hl (.inl (by omega)), fun h => hl (.inr (UInt8.toNat_inj.1 (by rw [h8, h]; rfl))), fun h => hc (UInt8.toNat_inj.1 (by rw [h8, h]; rfl))⟩
          · omega
        rw [item_enc (sig_none hge.1 hge.2.1 hge.2.2) hge.1, h5]
        exact Nat.le_refl _
/-! ### the signs of a row -/
def qscan (l : List UInt8) : List Nat × Nat :=
  if _h : (sign l).2 = 0 then ([], 0)
  else ((sign l).1 :: (qscan (l.drop (sign l).2)).1, (sign l).2 + (qscan (l.drop (sign l).2)).2)
termination_by l.length
decreasing_by
  all_goals
    have h1 := (sign_stable (l := l) (p := (sign l).1) (n := (sign l).2) rfl _h).2.1
    rw [List.length_drop]
    omega
theorem qscan_stop {l : List UInt8} (h : (sign l).2 = 0) : qscan l = ([], 0) := by rw [qscan, dif_pos h]
theorem qscan_go {l : List UInt8} {p n : Nat} (h : sign l = (p, n)) (hn : n ≠ 0) : qscan l = (p :: (qscan (l.drop n)).1, n + (qscan (l.drop n)).2) := by
  rw [qscan, h, dif_neg hn]
def items (ps : List Nat) : List UInt8 := ps.flatMap item
theorem items_nil : items [] = [] := rfl
theorem items_cons (p : Nat) (ps : List Nat) : items (p :: ps) = item p ++ items ps := by simp [items]
theorem items_append (a b : List Nat) : items (a ++ b) = items a ++ items b := by simp [items]
theorem qscan_items (ps : List Nat) (h : allCp ps) (r : List UInt8) : qscan (items ps ++ r) = (ps ++ (qscan r).1, (items ps).length + (qscan r).2) := by
  induction ps with
  | nil => simp [items_nil]
  | cons p ps ih =>
    have hp := h p (by simp)
    rw [items_cons, List.append_assoc, qscan_go (item_sign hp _) (by have := item_pos hp; omega), List.drop_left, ih (fun q hq => h q (by simp [hq]))]
    simp only [List.cons_append, List.length_append, Nat.add_assoc]
theorem qscan_facts (k : Nat) : ∀ l : List UInt8, l.length ≤ k → allCp (qscan l).1 ∧ (qscan l).2 ≤ l.length ∧ (items (qscan l).1).length ≤ (qscan l).2 ∧ (qscan l).1.length ≤ (qscan l).2 ∧ (sign (l.drop (qscan l).2)).2 = 0 := by
  induction k with
  | zero =>
    intro l hl
    obtain rfl : l = [] := List.eq_nil_of_length_eq_zero (by omega)
    rw [qscan_stop rfl]
    exact ⟨fun p hp => absurd hp (by simp), Nat.le_refl _, Nat.le_refl _, Nat.le_refl _, rfl⟩
  | succ k ih =>
    intro l hl
    by_cases hz : (sign l).2 = 0
    · rw [qscan_stop hz]
      exact ⟨fun p hp => absurd hp (by simp), Nat.zero_le _, Nat.le_refl _, Nat.le_refl _, by simpa using hz⟩
    · have hst := sign_stable (l := l) (p := (sign l).1) (n := (sign l).2) rfl hz
      have hil := item_le (l := l) (p := (sign l).1) (n := (sign l).2) rfl hz
      rw [qscan_go (l := l) (p := (sign l).1) (n := (sign l).2) rfl hz]
      have hi := ih (l.drop (sign l).2) (by rw [List.length_drop]; omega)
      rw [List.length_drop, List.drop_drop] at hi
      obtain ⟨h1, h2, h3, h4, h5⟩ := hi
      refine ⟨fun p hp => ?_, by simp only; omega, by rw [items_cons, List.length_append]; simp only; omega, by simp only [List.length_cons]; omega, h5⟩
      rcases List.mem_cons.1 hp with rfl | hp
      · exact hst.1
      · exact h1 p hp
theorem qscan_all (l : List UInt8) : allCp (qscan l).1 ∧ (qscan l).2 ≤ l.length ∧ (items (qscan l).1).length ≤ (qscan l).2 ∧ (qscan l).1.length ≤ (qscan l).2 ∧ (sign (l.drop (qscan l).2)).2 = 0 := qscan_facts l.length l (Nat.le_refl _)
/-- a scan that ends at a quotation mark does not look behind it -/
theorem qscan_part (k : Nat) : ∀ (m x : List UInt8), m.length ≤ k → m[(qscan m).2]? = some 34 → qscan (m ++ x) = qscan m := by
  induction k with
  | zero =>
    intro m x hm h
    obtain rfl : m = [] := List.eq_nil_of_length_eq_zero (by omega)
    simp at h
  | succ k ih =>
    intro m x hm h
    by_cases hz : (sign m).2 = 0
    · rw [qscan_stop hz] at h ⊢
      cases m with
      | nil => simp at h
      | cons c t =>
        have : c = 34 := by simpa using h
        subst this
        exact qscan_stop (by rw [List.cons_append, sign_end])
    · have hst := sign_stable (l := m) (p := (sign m).1) (n := (sign m).2) rfl hz
      have hgo := qscan_go (l := m) (p := (sign m).1) (n := (sign m).2) rfl hz
      have h1 : sign (m ++ x) = ((sign m).1, (sign m).2) := by
        have := hst.2.2 (m.drop (sign m).2 ++ x)
        rwa [← List.append_assoc, List.take_append_drop] at this
      have h2 := ih (m.drop (sign m).2) x (by rw [List.length_drop]; omega) (by rw [hgo] at h; rw [List.getElem?_drop]; exact h)
      rw [qscan_go h1 hz, hgo, List.drop_append_of_le_length hst.2.1, h2]
/-! ### what the reader is handed: the code points with the places behind them -/
def pairs (k : Nat) (l : List UInt8) : List (Nat × Nat) :=
  if _h : (sign l).2 = 0 then []
  else ((sign l).1, k + (sign l).2) :: pairs (k + (sign l).2) (l.drop (sign l).2)
termination_by l.length
decreasing_by
  have h1 := (sign_stable (l := l) (p := (sign l).1) (n := (sign l).2) rfl _h).2.1
  rw [List.length_drop]
  omega
theorem pairs_stop {k : Nat} {l : List UInt8} (h : (sign l).2 = 0) : pairs k l = [] := by rw [pairs, dif_pos h]
theorem pairs_go {k : Nat} {l : List UInt8} {p n : Nat} (h : sign l = (p, n)) (hn : n ≠ 0) : pairs k l = (p, k + n) :: pairs (k + n) (l.drop n) := by
  rw [pairs, h, dif_neg hn]
def lastOr : Nat → List (Nat × Nat) → Nat
  | k, [] => k
  | _, x :: xs => lastOr x.2 xs
theorem lastOr_snoc : ∀ (k : Nat) (xs : List (Nat × Nat)) (x : Nat × Nat), lastOr k (xs ++ [x]) = x.2
  | _, [], _ => rfl
  | _, y :: ys, x => lastOr_snoc y.2 ys x
theorem pairs_scan (m : Nat) : ∀ (k : Nat) (l : List UInt8), l.length ≤ m → (pairs k l).map Prod.fst = (qscan l).1 ∧ lastOr k (pairs k l) = k + (qscan l).2 := by
  induction m with
  | zero =>
    intro k l hl
    obtain rfl : l = [] := List.eq_nil_of_length_eq_zero (by omega)
    rw [qscan_stop rfl, pairs_stop rfl]
    exact ⟨rfl, rfl⟩
  | succ m ih =>
    intro k l hl
    by_cases hz : (sign l).2 = 0
    · rw [qscan_stop hz, pairs_stop hz]
      exact ⟨rfl, rfl⟩
    · have hst := sign_stable (l := l) (p := (sign l).1) (n := (sign l).2) rfl hz
      rw [qscan_go (l := l) (p := (sign l).1) (n := (sign l).2) rfl hz, pairs_go (l := l) (p := (sign l).1) (n := (sign l).2) rfl hz]
      obtain ⟨h1, h2⟩ := ih (k + (sign l).2) (l.drop (sign l).2) (by rw [List.length_drop]; omega)
      refine ⟨by rw [List.map_cons, h1], ?_⟩
      show lastOr (k + (sign l).2) _ = _
      rw [h2]; simp only; omega
theorem pairs_all (k : Nat) (l : List UInt8) : (pairs k l).map Prod.fst = (qscan l).1 ∧ lastOr k (pairs k l) = k + (qscan l).2 := pairs_scan l.length k l (Nat.le_refl _)
end Go.Proofs.YtbnibiealnogdaaDoor.Quo
