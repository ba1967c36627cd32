/- Code points and their bytes in plain Lean: the encoding, the decoding, texts. No program in sight. -/
import Derived.WalkKit
namespace Go.Proofs.YtbnibiealnogdaaDoor.Utf

def isCp (p : Int) : Bool := decide (0 ≤ p) && decide (p ≤ 1114111) && !(decide (55296 ≤ p) && decide (p ≤ 57343))
def sz (p : Int) : Nat := if isCp p then (if p < 128 then 1 else if p < 2048 then 2 else if p < 65536 then 3 else 4) else 0
theorem isCp_iff {p : Int} : isCp p = true ↔ 0 ≤ p ∧ p ≤ 1114111 ∧ ¬ (55296 ≤ p ∧ p ≤ 57343) := by
  unfold isCp
  simp only [Bool.and_eq_true, Bool.not_eq_true', Bool.and_eq_false_iff, decide_eq_true_eq, decide_eq_false_iff_not]
  omega
theorem sz_pos {p : Int} : 0 < sz p ↔ isCp p = true := by
  unfold sz
  split
  · rename_i h
    simp only [h, iff_true]
    split
    · omega
    · split
      · omega
      · split <;> omega
  · rename_i h; simp [h]
theorem sz_le (p : Int) : sz p ≤ 4 := by
  unfold sz
  split
  · split
    · omega
    · split
      · omega
      · split <;> omega
  · omega

def u8 (n : Nat) : UInt8 := UInt8.ofNat n
theorem u8_toNat {n : Nat} (h : n < 256) : (u8 n).toNat = n := by unfold u8; rw [UInt8.toNat_ofNat']; omega
theorem u8_eq {c : UInt8} {n : Nat} (h : c.toNat = n) : u8 n = c := by
  apply UInt8.toNat_inj.1
  have := c.toNat_lt
  rw [u8_toNat (by omega), h]
/-- a code point's bytes -/
def enc (p : Nat) : List UInt8 :=
  if p < 128 then [u8 p]
  else if p < 2048 then [u8 (192 + p / 64), u8 (128 + p % 64)]
  else if p < 65536 then [u8 (224 + p / 4096), u8 (128 + p / 64 % 64), u8 (128 + p % 64)]
  else [u8 (240 + p / 262144), u8 (128 + p / 4096 % 64), u8 (128 + p / 64 % 64), u8 (128 + p % 64)]
theorem enc_len {p : Nat} (h : isCp p = true) : (enc p).length = sz p := by
  unfold enc sz
  rw [if_pos h]
  by_cases h1 : p < 128
  · rw [if_pos h1, if_pos (show (p : Int) < 128 by omega)]; rfl
  · rw [if_neg h1, if_neg (show ¬ (p : Int) < 128 by omega)]
    by_cases h2 : p < 2048
    · rw [if_pos h2, if_pos (show (p : Int) < 2048 by omega)]; rfl
    · rw [if_neg h2, if_neg (show ¬ (p : Int) < 2048 by omega)]
      by_cases h3 : p < 65536
      · rw [if_pos h3, if_pos (show (p : Int) < 65536 by omega)]; rfl
      · rw [if_neg h3, if_neg (show ¬ (p : Int) < 65536 by omega)]; rfl
theorem enc_pos (p : Nat) : 0 < (enc p).length := by
  unfold enc
  split
  · simp
  · split
    · simp
    · split <;> simp

/-- what is gathered of the bytes behind the first one -/
def more (p : Nat) : List UInt8 → Option Nat
  | [] => some p
  | c :: l => if c.toNat / 64 = 2 then more (p * 64 + c.toNat % 64) l else none
/-- how many bytes a row has by its first one; 0: it has none -/
def sizeOf (c : Nat) : Nat := if c < 128 then 1 else if c < 192 then 0 else if c < 224 then 2 else if c < 240 then 3 else if c < 248 then 4 else 0
/-- what the first byte gives -/
def headOf (c : Nat) : Nat := if c < 128 then c else if c < 224 then c % 32 else if c < 240 then c % 16 else c % 8
/-- the code point whose bytes begin a row, and how many they are; 0: there is none -/
def dec : List UInt8 → Nat × Nat
  | [] => (0, 0)
  | c :: r =>
    if sizeOf c.toNat = 0 ∨ r.length + 1 < sizeOf c.toNat then (0, 0)
    else match more (headOf c.toNat) (r.take (sizeOf c.toNat - 1)) with
      | none => (0, 0)
      | some p => if sz p = sizeOf c.toNat then (p, sizeOf c.toNat) else (0, 0)

theorem dec_enc {p : Nat} (h : isCp p = true) (r : List UInt8) : dec (enc p ++ r) = (p, (enc p).length) := by
  have hb := isCp_iff.1 h
  have hs := enc_len h
  have hz : sz p = if (p : Int) < 128 then 1 else if (p : Int) < 2048 then 2 else if (p : Int) < 65536 then 3 else 4 := by unfold sz; rw [if_pos h]
  rw [hs]
  by_cases h1 : p < 128
  · have e1 := u8_toNat (n := p) (by omega)
    have hz : sz p = 1 := by rw [hz, if_pos (by omega)]
    unfold enc
    rw [if_pos h1]
    simp only [List.cons_append, List.nil_append, dec, e1]
    have hso : sizeOf p = 1 := by unfold sizeOf; rw [if_pos h1]
    have hho : headOf p = p := by unfold headOf; rw [if_pos h1]
    rw [hso, hho, hz, if_neg (by omega)]
    simp [more, hz]
  · by_cases h2 : p < 2048
    · have e1 := u8_toNat (n := 192 + p / 64) (by omega)
      have e2 := u8_toNat (n := 128 + p % 64) (by omega)
      have hz : sz p = 2 := by rw [hz, if_neg (by omega), if_pos (by omega)]
      unfold enc
      rw [if_neg h1, if_pos h2]
      simp only [List.cons_append, List.nil_append, dec, e1]
      have hso : sizeOf (192 + p / 64) = 2 := by unfold sizeOf; rw [if_neg (by omega), if_neg (by omega), if_pos (by omega)]
      have hho : headOf (192 + p / 64) = p / 64 := by unfold headOf; rw [if_neg (by omega), if_pos (by omega)]; omega
      have hm : more (p / 64) [u8 (128 + p % 64)] = some p := by
        simp only [more, e2]
        rw [if_pos (by omega)]
        congr 1; omega
      rw [hso, hho, hz, if_neg (by simp)]
      simp only [Nat.reduceSub, List.take_succ_cons, List.take_zero, hm, hz, ite_true]
    · by_cases h3 : p < 65536
      · have e1 := u8_toNat (n := 224 + p / 4096) (by omega)
        have e2 := u8_toNat (n := 128 + p / 64 % 64) (by omega)
        have e3 := u8_toNat (n := 128 + p % 64) (by omega)
        have hz : sz p = 3 := by rw [hz, if_neg (by omega), if_neg (by omega), if_pos (by omega)]
        unfold enc
        rw [if_neg h1, if_neg h2, if_pos h3]
        simp only [List.cons_append, List.nil_append, dec, e1]
        have hso : sizeOf (224 + p / 4096) = 3 := by unfold sizeOf; rw [if_neg (by omega), if_neg (by omega), if_neg (by omega), if_pos (by omega)]
        have hho : headOf (224 + p / 4096) = p / 4096 := by unfold headOf; rw [if_neg (by omega), if_neg (by omega), if_pos (by omega)]; omega
        have hm : more (p / 4096) [u8 (128 + p / 64 % 64), u8 (128 + p % 64)] = some p := by
          simp only [more, e2, e3]
          rw [if_pos (by omega), if_pos (by omega)]
          congr 1; omega
        rw [hso, hho, hz, if_neg (by simp)]
        simp only [Nat.reduceSub, List.take_succ_cons, List.take_zero, hm, hz, ite_true]
      · have e1 := u8_toNat (n := 240 + p / 262144) (by omega)
        have e2 := u8_toNat (n := 128 + p / 4096 % 64) (by omega)
        have e3 := u8_toNat (n := 128 + p / 64 % 64) (by omega)
        have e4 := u8_toNat (n := 128 + p % 64) (by omega)
        have hz : sz p = 4 := by rw [hz, if_neg (by omega), if_neg (by omega), if_neg (by omega)]
        unfold enc
        rw [if_neg h1, if_neg h2, if_neg h3]
        simp only [List.cons_append, List.nil_append, dec, e1]
        have hso : sizeOf (240 + p / 262144) = 4 := by unfold sizeOf; rw [if_neg (by omega), if_neg (by omega), if_neg (by omega), if_neg (by omega), if_pos (by omega)]
        have hho : headOf (240 + p / 262144) = p / 262144 := by unfold headOf; rw [if_neg (by omega), if_neg (by omega), if_neg (by omega)]; omega
        have hm : more (p / 262144) [u8 (128 + p / 4096 % 64), u8 (128 + p / 64 % 64), u8 (128 + p % 64)] = some p := by
          simp only [more, e2, e3, e4]
          rw [if_pos (by omega), if_pos (by omega), if_pos (by omega)]
          congr 1; omega
        rw [hso, hho, hz, if_neg (by simp)]
        simp only [Nat.reduceSub, List.take_succ_cons, List.take_zero, hm, hz, ite_true]
theorem more_one {p q : Nat} {a : UInt8} (h : more p [a] = some q) : a.toNat / 64 = 2 ∧ q = p * 64 + a.toNat % 64 := by
  simp only [more] at h
  split at h
  · injection h with h; exact ⟨by assumption, h.symm⟩
  · cases h
theorem more_two {p q : Nat} {a b : UInt8} (h : more p [a, b] = some q) : a.toNat / 64 = 2 ∧ b.toNat / 64 = 2 ∧ q = (p * 64 + a.toNat % 64) * 64 + b.toNat % 64 := by
  rw [more] at h
  split at h
  · obtain ⟨h1, h2⟩ := more_one h; exact ⟨by assumption, h1, h2⟩
  · cases h
theorem more_three {p q : Nat} {a b c : UInt8} (h : more p [a, b, c] = some q) : a.toNat / 64 = 2 ∧ b.toNat / 64 = 2 ∧ c.toNat / 64 = 2 ∧ q = ((p * 64 + a.toNat % 64) * 64 + b.toNat % 64) * 64 + c.toNat % 64 := by
  rw [more] at h
  split at h
  · obtain ⟨h1, h2, h3⟩ := more_two h; exact ⟨by assumption, h1, h2, h3⟩
  · cases h
theorem sz_cases {p n : Nat} (h : sz p = n) (hn : n ≠ 0) : isCp p = true ∧ ((n = 1 ∧ p < 128) ∨ (n = 2 ∧ ¬ p < 128 ∧ p < 2048) ∨ (n = 3 ∧ ¬ p < 128 ∧ ¬ p < 2048 ∧ p < 65536) ∨ (n = 4 ∧ ¬ p < 128 ∧ ¬ p < 2048 ∧ ¬ p < 65536)) := by
  have hc : isCp p = true := sz_pos.1 (by omega)
  refine ⟨hc, ?_⟩
  unfold sz at h
  rw [if_pos hc] at h
  split at h
  · left; omega
  · split at h
    · right; left; omega
    · split at h
      · right; right; left; omega
      · right; right; right; omega
theorem cons1 {r : List UInt8} (h : ¬ r.length + 1 < 2) : ∃ a t, r = a :: t := by
  cases r with
  | nil => exact absurd (by simp) h
  | cons a t => exact ⟨a, t, rfl⟩
theorem cons2 {r : List UInt8} (h : ¬ r.length + 1 < 3) : ∃ a b t, r = a :: b :: t := by
  obtain ⟨a, t, rfl⟩ := cons1 (r := r) (by omega)
  obtain ⟨b, t, rfl⟩ := cons1 (r := t) (by simp only [List.length_cons] at h; omega)
  exact ⟨a, b, t, rfl⟩
theorem cons3 {r : List UInt8} (h : ¬ r.length + 1 < 4) : ∃ a b c t, r = a :: b :: c :: t := by
  obtain ⟨a, t, rfl⟩ := cons1 (r := r) (by omega)
  obtain ⟨b, c, t, rfl⟩ := cons2 (r := t) (by simp only [List.length_cons] at h; omega)
  exact ⟨a, b, c, t, rfl⟩
theorem enc_dec {l : List UInt8} {p n : Nat} (h : dec l = (p, n)) (hn : n ≠ 0) : isCp p = true ∧ n ≤ l.length ∧ enc p = l.take n := by
  cases l with
  | nil => simp only [dec, Prod.mk.injEq] at h; omega
  | cons c r =>
    simp only [dec] at h
    split at h
    · simp only [Prod.mk.injEq] at h; omega
    · rename_i hcond
      rw [not_or] at hcond
      split at h
      · simp only [Prod.mk.injEq] at h; omega
      · rename_i q hq
        split at h
        · rename_i hsz
          simp only [Prod.mk.injEq] at h
          obtain ⟨rfl, rfl⟩ := h
          have hc := c.toNat_lt
          obtain ⟨hcp, hcs⟩ := sz_cases hsz hcond.1
          refine ⟨hcp, by rw [List.length_cons]; omega, ?_⟩
          have hlen := hcond.2
          clear hcond
          rcases hcs with ⟨h1, h2⟩ | ⟨h1, h2, h3⟩ | ⟨h1, h2, h3, h4⟩ | ⟨h1, h2, h3, h4⟩
          · rw [h1] at hq ⊢
            have hlt : c.toNat < 128 := by
              unfold sizeOf at h1
              split at h1
              · assumption
              · split at h1
                · omega
                · split at h1
                  · omega
                  · split at h1
                    · omega
                    · split at h1 <;> omega
            have hh : headOf c.toNat = c.toNat := by unfold headOf; rw [if_pos hlt]
            rw [hh] at hq
            simp only [Nat.sub_self, List.take_zero, more, Option.some.injEq] at hq
            unfold enc
            rw [if_pos h2, List.take_succ_cons, List.take_zero, u8_eq hq]
          · rw [h1] at hq hlen ⊢
            have hlt : 192 ≤ c.toNat ∧ c.toNat < 224 := by
              unfold sizeOf at h1
              split at h1
              · omega
              · split at h1
                · omega
                · split at h1
                  · omega
                  · split at h1
                    · omega
                    · split at h1 <;> omega
            have hh : headOf c.toNat = c.toNat - 192 := by unfold headOf; rw [if_neg (by omega), if_pos (by omega)]; omega
            rw [hh] at hq
            · obtain ⟨a, r, rfl⟩ := cons1 hlen
              simp only [Nat.reduceSub, List.take_succ_cons, List.take_zero] at hq ⊢
              obtain ⟨g1, g2⟩ := more_one hq
              have := a.toNat_lt
              have e1 : u8 (192 + q / 64) = c := u8_eq (by omega)
              have e2 : u8 (128 + q % 64) = a := u8_eq (by omega)
              unfold enc
              rw [if_neg h2, if_pos h3, e1, e2]
          · rw [h1] at hq hlen ⊢
            have hlt : 224 ≤ c.toNat ∧ c.toNat < 240 := by
              unfold sizeOf at h1
              split at h1
              · omega
              · split at h1
                · omega
                · split at h1
                  · omega
                  · split at h1
                    · omega
                    · split at h1 <;> omega
            have hh : headOf c.toNat = c.toNat - 224 := by unfold headOf; rw [if_neg (by omega), if_neg (by omega), if_pos (by omega)]; omega
            rw [hh] at hq
            · obtain ⟨a, b, r, rfl⟩ := cons2 hlen
              simp only [Nat.reduceSub, List.take_succ_cons, List.take_zero] at hq ⊢
              obtain ⟨g1, g2, g3⟩ := more_two hq
              have := a.toNat_lt
              have := b.toNat_lt
              have e1 : u8 (224 + q / 4096) = c := u8_eq (by omega)
              have e2 : u8 (128 + q / 64 % 64) = a := u8_eq (by omega)
              have e3 : u8 (128 + q % 64) = b := u8_eq (by omega)
              unfold enc
              rw [if_neg h2, if_neg h3, if_pos h4, e1, e2, e3]
          · rw [h1] at hq hlen ⊢
            have hlt : 240 ≤ c.toNat ∧ c.toNat < 248 := by
              unfold sizeOf at h1
              split at h1
              · omega
              · split at h1
                · omega
                · split at h1
                  · omega
                  · split at h1
                    · omega
                    · split at h1 <;> omega
            have hh : headOf c.toNat = c.toNat - 240 := by unfold headOf; rw [if_neg (by omega), if_neg (by omega), if_neg (by omega)]; omega
            rw [hh] at hq
            · obtain ⟨a, b, d, r, rfl⟩ := cons3 hlen
              simp only [Nat.reduceSub, List.take_succ_cons, List.take_zero] at hq ⊢
              obtain ⟨g1, g2, g3, g4⟩ := more_three hq
              have := a.toNat_lt
              have := b.toNat_lt
              have := d.toNat_lt
              have e1 : u8 (240 + q / 262144) = c := u8_eq (by omega)
              have e2 : u8 (128 + q / 4096 % 64) = a := u8_eq (by omega)
              have e3 : u8 (128 + q / 64 % 64) = b := u8_eq (by omega)
              have e4 : u8 (128 + q % 64) = d := u8_eq (by omega)
              unfold enc
              rw [if_neg h2, if_neg h3, if_neg h4, e1, e2, e3, e4]
        · simp only [Prod.mk.injEq] at h; omega
theorem dec_zero {l : List UInt8} {p : Nat} (h : dec l = (p, 0)) : p = 0 := by
  cases l with
  | nil => simp only [dec, Prod.mk.injEq] at h; omega
  | cons c r =>
    simp only [dec] at h
    split at h
    · simp only [Prod.mk.injEq] at h; omega
    · rename_i hc
      split at h
      · simp only [Prod.mk.injEq] at h; omega
      · split at h
        · simp only [Prod.mk.injEq] at h; omega
        · simp only [Prod.mk.injEq] at h; omega
theorem enc_head {l : List UInt8} {p n : Nat} (h : dec l = (p, n)) (hn : n ≠ 0) : n = (enc p).length ∧ l = enc p ++ l.drop n := by
  obtain ⟨h1, h2, h3⟩ := enc_dec h hn
  refine ⟨by rw [h3, List.length_take]; omega, ?_⟩
  rw [h3, List.take_append_drop]

/-! ### the reference's decoding -/
def modOf (n : Nat) : Nat := if n = 2 then 32 else if n = 3 then 16 else if n = 4 then 8 else 256
def gather (p : Nat) (l : List UInt8) : Nat := l.foldl (fun s c => s * 64 + c.toNat % 64) p
/-- the number that is made of the first n bytes -/
def guess (l : List UInt8) (n : Nat) : Nat := gather ((l.getD 0 0).toNat % modOf n) ((l.take n).drop 1)
def hit (l : List UInt8) (n : Nat) : Bool := isCp (guess l n) && decide (enc (guess l n) = l.take n)
/-- from n on: k tries are left -/
def tries (l : List UInt8) : Nat → Nat → Nat × Nat
  | 0, _ => (0, 0)
  | k + 1, n => if n ≤ l.length then (if hit l n then (guess l n, n) else tries l k (n + 1)) else (0, 0)
def refDec (l : List UInt8) : Nat × Nat := tries l 4 1
theorem gather_more {q : Nat} : ∀ {l : List UInt8} {p : Nat}, more p l = some q → gather p l = q := by
  intro l
  induction l with
  | nil => intro p h; simp only [more, Option.some.injEq] at h; exact h
  | cons c l ih =>
    intro p h
    rw [more] at h
    split at h
    · exact ih h
    · cases h
theorem guess_dec {l : List UInt8} {p n : Nat} (h : dec l = (p, n)) (hn : n ≠ 0) : guess l n = p := by
  cases l with
  | nil => simp only [dec, Prod.mk.injEq] at h; omega
  | cons c r =>
    simp only [dec] at h
    split at h
    · simp only [Prod.mk.injEq] at h; omega
    · rename_i hcond
      split at h
      · simp only [Prod.mk.injEq] at h; omega
      · rename_i q hq
        split at h
        · simp only [Prod.mk.injEq] at h
          obtain ⟨rfl, rfl⟩ := h
          unfold guess
          have hc := c.toNat_lt
          have hh : headOf c.toNat = ((c :: r).getD 0 0).toNat % modOf (sizeOf c.toNat) := by
            show headOf c.toNat = c.toNat % modOf (sizeOf c.toNat)
            rw [not_or] at hcond
            have h0 := hcond.1
            clear hcond
            by_cases h1 : c.toNat < 128
            · have hs : sizeOf c.toNat = 1 := by unfold sizeOf; rw [if_pos h1]
              rw [hs]
              show headOf c.toNat = c.toNat % 256
              unfold headOf
              rw [if_pos h1]; omega
            · by_cases h2 : c.toNat < 192
              · exact absurd (by unfold sizeOf; rw [if_neg h1, if_pos h2]) h0
              · by_cases h3 : c.toNat < 224
                · have hs : sizeOf c.toNat = 2 := by unfold sizeOf; rw [if_neg h1, if_neg h2, if_pos h3]
                  rw [hs]
                  show headOf c.toNat = c.toNat % 32
                  unfold headOf
                  rw [if_neg h1, if_pos h3]
                · by_cases h4 : c.toNat < 240
                  · have hs : sizeOf c.toNat = 3 := by unfold sizeOf; rw [if_neg h1, if_neg h2, if_neg h3, if_pos h4]
                    rw [hs]
                    show headOf c.toNat = c.toNat % 16
                    unfold headOf
                    rw [if_neg h1, if_neg h3, if_pos h4]
                  · by_cases h5 : c.toNat < 248
                    · have hs : sizeOf c.toNat = 4 := by unfold sizeOf; rw [if_neg h1, if_neg h2, if_neg h3, if_neg h4, if_pos h5]
                      rw [hs]
                      show headOf c.toNat = c.toNat % 8
                      unfold headOf
                      rw [if_neg h1, if_neg h3, if_neg h4]
                    · exact absurd (by unfold sizeOf; rw [if_neg h1, if_neg h2, if_neg h3, if_neg h4, if_neg h5]) h0
          rw [← hh]
          have ht : ((c :: r).take (sizeOf c.toNat)).drop 1 = r.take (sizeOf c.toNat - 1) := by
            rw [not_or] at hcond
            obtain ⟨k, hk⟩ : ∃ k, sizeOf c.toNat = k + 1 := ⟨sizeOf c.toNat - 1, by omega⟩
            rw [hk, List.take_succ_cons]
            rfl
          rw [ht]
          exact gather_more hq
        · simp only [Prod.mk.injEq] at h; omega
theorem hit_dec {l : List UInt8} {n : Nat} (h : hit l n = true) (hn : n ≤ l.length) : dec l = (guess l n, n) := by
  unfold hit at h
  simp only [Bool.and_eq_true, decide_eq_true_eq] at h
  obtain ⟨h1, h2⟩ := h
  have h3 : l = enc (guess l n) ++ l.drop n := by rw [h2, List.take_append_drop]
  have h4 : (enc (guess l n)).length = n := by rw [h2, List.length_take]; omega
  have h5 := dec_enc h1 (l.drop n)
  rw [← h3, h4] at h5
  exact h5
theorem dec_hit {l : List UInt8} {p n : Nat} (h : dec l = (p, n)) (hn : n ≠ 0) : hit l n = true := by
  obtain ⟨h1, _, h3⟩ := enc_dec h hn
  unfold hit
  rw [guess_dec h hn, h1, h3]; simp
theorem tries_dec (l : List UInt8) : ∀ k n, 0 < n → k + n = 5 → ((dec l).2 = 0 ∨ n ≤ (dec l).2) → tries l k n = dec l := by
  have hd4 : (dec l).2 ≤ 4 := by
    cases hd : dec l with
    | mk p m =>
      by_cases hm : m = 0
      · simp [hm]
      · obtain ⟨h1, _⟩ := enc_head hd hm
        obtain ⟨h2, _⟩ := enc_dec hd hm
        have h3 := enc_len h2
        have h4 := sz_le (p : Int)
        simp only; omega
  intro k
  induction k with
  | zero =>
    intro n _ hk h
    rcases h with h | h
    · have := dec_zero (l := l) (p := (dec l).1) (by rw [← h])
      rw [tries]
      exact Prod.ext this.symm h.symm
    · omega
  | succ k ih =>
    intro n hn hk h
    rw [tries]
    by_cases hle : n ≤ l.length
    · rw [if_pos hle]
      cases hh : hit l n with
      | true => rw [if_pos rfl, hit_dec hh hle]
      | false =>
        rw [if_neg (by simp)]
        refine ih (n + 1) (by omega) (by omega) ?_
        rcases h with h | h
        · exact Or.inl h
        · right
          rcases Nat.lt_or_ge n (dec l).2 with h5 | h5
          · exact h5
          · have h6 : (dec l).2 = n := by omega
            have h7 := dec_hit (l := l) (p := (dec l).1) (n := n) (by rw [← h6]) (by omega)
            rw [hh] at h7; cases h7
    · rw [if_neg hle]
      by_cases h0 : (dec l).2 = 0
      · have := dec_zero (l := l) (p := (dec l).1) (by rw [← h0])
        exact Prod.ext this.symm h0.symm
      · obtain ⟨_, h8, _⟩ := enc_dec (l := l) (p := (dec l).1) (n := (dec l).2) rfl h0
        rcases h with h | h <;> omega
/-- the two decodings are one -/
theorem ref_dec (l : List UInt8) : refDec l = dec l := tries_dec l 4 1 (by omega) (by omega) (by omega)

/-! ### texts -/
def encs (ps : List Nat) : List UInt8 := ps.flatMap enc
theorem encs_nil : encs [] = [] := rfl
theorem encs_cons (p : Nat) (ps : List Nat) : encs (p :: ps) = enc p ++ encs ps := by simp [encs]
theorem encs_append (a b : List Nat) : encs (a ++ b) = encs a ++ encs b := by simp [encs]
def allCp (ps : List Nat) : Prop := ∀ p ∈ ps, isCp p = true
/-- the code points of a row of bytes, as far as it is a text, and how far that is -/
def scan (l : List UInt8) : List Nat × Nat :=
  if _h : (dec l).2 = 0 then ([], 0) else
  let r := scan (l.drop (dec l).2)
  ((dec l).1 :: r.1, (dec l).2 + r.2)
termination_by l.length
decreasing_by
  have h1 := (enc_dec (l := l) (p := (dec l).1) (n := (dec l).2) rfl _h).2.1
  rw [List.length_drop]; omega
theorem scan_stop {l : List UInt8} (h : (dec l).2 = 0) : scan l = ([], 0) := by rw [scan, dif_pos h]
theorem scan_go {l : List UInt8} {p n : Nat} (h : dec l = (p, n)) (hn : n ≠ 0) : scan l = (p :: (scan (l.drop n)).1, n + (scan (l.drop n)).2) := by
  rw [scan, dif_neg (by rw [h]; exact hn)]
  simp only [h]
theorem scan_encs (ps : List Nat) (h : allCp ps) (r : List UInt8) : scan (encs ps ++ r) = (ps ++ (scan r).1, (encs ps).length + (scan r).2) := by
  induction ps with
  | nil => simp [encs]
  | cons p ps ih =>
    rw [encs_cons, List.append_assoc, scan_go (dec_enc (h p (by simp)) _) (by have := enc_pos p; omega), List.drop_left, ih fun q hq => h q (by simp [hq])]
    simp only [List.cons_append, List.length_append, Nat.add_assoc]
theorem scan_text (ps : List Nat) (h : allCp ps) : scan (encs ps) = (ps, (encs ps).length) := by
  have := scan_encs ps h []
  rw [List.append_nil, scan_stop (l := []) rfl] at this
  simpa using this
theorem scan_of (k : Nat) : ∀ l : List UInt8, l.length ≤ k → allCp (scan l).1 ∧ l = encs (scan l).1 ++ l.drop (scan l).2 ∧ (scan l).2 = (encs (scan l).1).length ∧ (scan l).2 ≤ l.length ∧ (dec (l.drop (scan l).2)).2 = 0 := by
  induction k with
  | zero =>
    intro l hl
    obtain rfl : l = [] := List.eq_nil_of_length_eq_zero (by omega)
    rw [scan_stop (l := []) rfl]
    exact ⟨fun p hp => (by cases hp), rfl, rfl, Nat.le_refl _, rfl⟩
  | succ k ih =>
    intro l hl
    by_cases h0 : (dec l).2 = 0
    · rw [scan_stop h0]
      exact ⟨fun p hp => (by cases hp), rfl, rfl, Nat.zero_le _, h0⟩
    · obtain ⟨h1, h2, h3⟩ := enc_dec (l := l) (p := (dec l).1) (n := (dec l).2) rfl h0
      obtain ⟨h4, h5⟩ := enc_head (l := l) (p := (dec l).1) (n := (dec l).2) rfl h0
      rw [scan_go (l := l) (p := (dec l).1) (n := (dec l).2) rfl h0]
      have hp := enc_pos (dec l).1
      obtain ⟨g1, g2, g3, g4, g5⟩ := ih (l.drop (dec l).2) (by rw [List.length_drop]; omega)
      rw [List.length_drop] at g4
      simp only
      refine ⟨?_, ?_, ?_, by omega, ?_⟩
      · intro p hp
        rcases List.mem_cons.1 hp with rfl | hp
        · exact h1
        · exact g1 p hp
      · rw [encs_cons, List.append_assoc, ← List.drop_drop, ← g2]; exact h5
      · rw [encs_cons, List.length_append, ← g3, ← h4]
      · rw [← List.drop_drop]; exact g5
theorem scan_all (l : List UInt8) : allCp (scan l).1 ∧ l = encs (scan l).1 ++ l.drop (scan l).2 ∧ (scan l).2 = (encs (scan l).1).length ∧ (scan l).2 ≤ l.length ∧ (dec (l.drop (scan l).2)).2 = 0 := scan_of l.length l (Nat.le_refl _)
end Go.Proofs.YtbnibiealnogdaaDoor.Utf
