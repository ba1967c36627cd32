/- What is known and its bytes: there and back, in plain Lean. -/
import Derived.Test.YtmkkbomkonociaaDocBytes
namespace Go.Proofs.Ytmkkbomkonociaa
open Go.RowKit

def noInf : Inf := ⟨0, 0, 0, false, 0⟩
/-- what the reference reads -/
def readR (l : List UInt8) : Inf × Bool := if l.length = 21 ∧ (l.getD 16 0).toNat ≤ 1 ∧ mayB (decInf l) = true then (decInf l, true) else (noInf, false)
theorem infBytes_len (i : Inf) : (infBytes i).length = 21 := by simp [infBytes, be4]
theorem be4_num (a b c d : UInt8) : be4 (a.toNat * 16777216 + b.toNat * 65536 + c.toNat * 256 + d.toNat) = [a, b, c, d] := by
  have ha := a.toNat_lt
  have hb := b.toNat_lt
  have hc := c.toNat_lt
  have hd := d.toNat_lt
  have e : ∀ (n : Nat) (x : UInt8), n % 256 = x.toNat → UInt8.ofNat n = x := fun n x h => UInt8.toNat_inj.1 (by rw [UInt8.toNat_ofNat']; exact h)
  unfold be4
  rw [e _ a (by omega), e _ b (by omega), e _ c (by omega), e _ d (by omega)]
theorem num4_cons (a b c d : UInt8) (r : List UInt8) : num4 (a :: b :: c :: d :: r) = a.toNat * 16777216 + b.toNat * 65536 + c.toNat * 256 + d.toNat := rfl
theorem num_be4 (n : Nat) (h : n < 4294967296) (r : List UInt8) : num4 (be4 n ++ r) = n := by
  unfold be4
  rw [List.cons_append, List.cons_append, List.cons_append, List.cons_append, num4_cons]
  simp only [UInt8.toNat_ofNat']
  omega
theorem bytes_inf {i : Inf} (h : i.Ok) (hm : mayB i = true) : decInf (infBytes i) = i := by
  obtain ⟨g, m, q, d, a⟩ := i
  have h1 : g < 4294967296 := h.gen
  have h2 : m < 4294967296 := h.mark
  have h3 : q < 18446744073709551616 := h.seq
  have ha : 0 ≤ a ∧ a < 524288 := by
    unfold mayB at hm
    simp only [Bool.and_eq_true] at hm
    have h2 := hm.2
    cases d
    · simp only [Bool.false_eq_true, ite_false, Bool.and_eq_true, decide_eq_true_eq] at h2; omega
    · simp only [ite_true, decide_eq_true_eq] at h2; omega
  obtain ⟨a, rfl⟩ : ∃ k : Nat, a = (k : Int) := ⟨a.toNat, by omega⟩
  have hb : infBytes ⟨g, m, q, d, (a : Int)⟩ = be4 g ++ (be4 m ++ (be4 (q / 4294967296) ++ (be4 (q % 4294967296) ++ ([if d then 1 else 0] ++ (be4 a ++ []))))) := by
    unfold infBytes; simp only [Int.toNat_natCast, List.append_assoc, List.append_nil]
  rw [hb]
  unfold decInf
  have d4 : (be4 g ++ (be4 m ++ (be4 (q / 4294967296) ++ (be4 (q % 4294967296) ++ ([if d then 1 else 0] ++ (be4 a ++ [])))))).drop 4 = (be4 m ++ (be4 (q / 4294967296) ++ (be4 (q % 4294967296) ++ ([if d then 1 else 0] ++ (be4 a ++ []))))) := rfl
  have d8 : (be4 g ++ (be4 m ++ (be4 (q / 4294967296) ++ (be4 (q % 4294967296) ++ ([if d then 1 else 0] ++ (be4 a ++ [])))))).drop 8 = be4 (q / 4294967296) ++ (be4 (q % 4294967296) ++ ([if d then 1 else 0] ++ (be4 a ++ []))) := rfl
  have d12 : (be4 g ++ (be4 m ++ (be4 (q / 4294967296) ++ (be4 (q % 4294967296) ++ ([if d then 1 else 0] ++ (be4 a ++ [])))))).drop 12 = be4 (q % 4294967296) ++ ([if d then 1 else 0] ++ (be4 a ++ [])) := rfl
  have d17 : (be4 g ++ (be4 m ++ (be4 (q / 4294967296) ++ (be4 (q % 4294967296) ++ ([if d then 1 else 0] ++ (be4 a ++ [])))))).drop 17 = be4 a ++ [] := rfl
  have g16 : (be4 g ++ (be4 m ++ (be4 (q / 4294967296) ++ (be4 (q % 4294967296) ++ ([if d then 1 else 0] ++ (be4 a ++ [])))))).getD 16 0 = if d then 1 else 0 := rfl
  rw [d4, d8, d12, d17, g16, num_be4 g h1, num_be4 m h2, num_be4 _ (by omega), num_be4 _ (by omega), num_be4 a (by omega)]
  congr 1
  · omega
  · cases d <;> rfl
theorem inf_bytes {l : List UInt8} (hl : l.length = 21) (h16 : (l.getD 16 0).toNat ≤ 1) : infBytes (decInf l) = l := by
  match l, hl with
  | [a0, a1, a2, a3, a4, a5, a6, a7, a8, a9, b0, b1, b2, b3, b4, b5, b6, b7, b8, b9, c0], _ =>
    have h16' : b6.toNat ≤ 1 := h16
    have x2 : (b2.toNat * 16777216 + b3.toNat * 65536 + b4.toNat * 256 + b5.toNat) < 4294967296 := by have := b2.toNat_lt; have := b3.toNat_lt; have := b4.toNat_lt; have := b5.toNat_lt; omega
    show be4 (a0.toNat * 16777216 + a1.toNat * 65536 + a2.toNat * 256 + a3.toNat) ++ be4 (a4.toNat * 16777216 + a5.toNat * 65536 + a6.toNat * 256 + a7.toNat) ++
      be4 (((a8.toNat * 16777216 + a9.toNat * 65536 + b0.toNat * 256 + b1.toNat) * 4294967296 + (b2.toNat * 16777216 + b3.toNat * 65536 + b4.toNat * 256 + b5.toNat)) / 4294967296) ++
      be4 (((a8.toNat * 16777216 + a9.toNat * 65536 + b0.toNat * 256 + b1.toNat) * 4294967296 + (b2.toNat * 16777216 + b3.toNat * 65536 + b4.toNat * 256 + b5.toNat)) % 4294967296) ++
      [if decide (b6.toNat = 1) then 1 else 0] ++ be4 (((b7.toNat * 16777216 + b8.toNat * 65536 + b9.toNat * 256 + c0.toNat : Nat) : Int)).toNat = _
    rw [Int.toNat_natCast, be4_num, be4_num, be4_num, show ((a8.toNat * 16777216 + a9.toNat * 65536 + b0.toNat * 256 + b1.toNat) * 4294967296 + (b2.toNat * 16777216 + b3.toNat * 65536 + b4.toNat * 256 + b5.toNat)) / 4294967296 = a8.toNat * 16777216 + a9.toNat * 65536 + b0.toNat * 256 + b1.toNat by omega,
      show ((a8.toNat * 16777216 + a9.toNat * 65536 + b0.toNat * 256 + b1.toNat) * 4294967296 + (b2.toNat * 16777216 + b3.toNat * 65536 + b4.toNat * 256 + b5.toNat)) % 4294967296 = b2.toNat * 16777216 + b3.toNat * 65536 + b4.toNat * 256 + b5.toNat by omega, be4_num, be4_num]
    have hx : (if decide (b6.toNat = 1) = true then (1 : UInt8) else 0) = b6 := by
      apply UInt8.toNat_inj.1
      by_cases h : b6.toNat = 1
      · rw [if_pos (by simpa using h), h]; rfl
      · rw [if_neg (by simpa using h)]
        show 0 = _
        omega
    rw [hx]
    rfl
theorem bit_le (i : Inf) : ((infBytes i).getD 16 0).toNat ≤ 1 := by
  have : (infBytes i).getD 16 0 = if i.del then 1 else 0 := rfl
  rw [this]
  cases i.del <;> decide
/-- what the program decodes is what the reference reads -/
theorem dec_read {l : List UInt8} (h : ¬ l.length < 21) : decoded l = if (readR l).2 = true then ((readR l).1, 0) else (noInf, 292) := by
  unfold decoded readR
  rw [if_neg h]
  by_cases hc : l.length = 21 ∧ (l.getD 16 0).toNat ≤ 1 ∧ mayB (decInf l) = true
  · rw [if_pos hc, if_pos ⟨hc.2.2, inf_bytes hc.1 hc.2.1⟩]; rfl
  · rw [if_neg hc, if_neg]
    · rfl
    · intro h2
      refine hc ⟨?_, ?_, h2.1⟩
      · rw [← h2.2, infBytes_len]
      · have := bit_le (decInf l)
        rwa [h2.2] at this
theorem dec_bytes {i : Inf} (h : i.Ok) (hm : mayB i = true) : decoded (infBytes i) = (i, 0) := by
  have e := bytes_inf h hm
  unfold decoded
  rw [if_neg (by rw [infBytes_len]; omega), e, if_pos ⟨hm, rfl⟩]
theorem dec_short {l : List UInt8} (h : l.length < 21) : decoded l = (noInf, 6) := by unfold decoded; rw [if_pos h]; rfl
theorem dec_long {l : List UInt8} (h : 21 < l.length) : decoded l = (noInf, 292) := by
  unfold decoded
  rw [if_neg (by omega), if_neg]
  · rfl
  · intro h2
    have := congrArg List.length h2.2
    rw [infBytes_len] at this; omega
theorem dec_ok {l : List UInt8} (h : (decoded l).2 = 0) : mayB (decoded l).1 = true ∧ infBytes (decoded l).1 = l ∧ (decoded l).1.Ok := by
  unfold decoded at h ⊢
  by_cases h1 : l.length < 21
  · rw [if_pos h1] at h; cases h
  · rw [if_neg h1] at h ⊢
    by_cases h2 : mayB (decInf l) = true ∧ infBytes (decInf l) = l
    · rw [if_pos h2]; exact ⟨h2.1, h2.2, decInf_ok l⟩
    · rw [if_neg h2] at h; cases h
theorem dec_no {l : List UInt8} (h : (decoded l).2 ≠ 0) : (decoded l).1 = noInf := by
  unfold decoded at h ⊢
  by_cases h1 : l.length < 21
  · rw [if_pos h1]; rfl
  · rw [if_neg h1] at h ⊢
    by_cases h2 : mayB (decInf l) = true ∧ infBytes (decInf l) = l
    · rw [if_pos h2] at h; exact absurd rfl h
    · rw [if_neg h2]; rfl
/-- the number of four bytes, the reference's way -/
theorem bn_four {l : List UInt8} (h : 4 ≤ l.length) : bn (l.take 4) = num4 l := by
  match l, h with
  | a :: b :: c :: d :: r, _ =>
    rw [num4_cons]
    show ((((0 * 256 + a.toNat) * 256 + b.toNat) * 256 + c.toNat) * 256 + d.toNat) = _
    omega
theorem bn_eight {l : List UInt8} (h : 8 ≤ l.length) : bn (l.take 8) = num4 l * 4294967296 + num4 (l.drop 4) := by
  match l, h with
  | a :: b :: c :: d :: e :: f :: g :: i :: r, _ =>
    rw [num4_cons, show (a :: b :: c :: d :: e :: f :: g :: i :: r).drop 4 = e :: f :: g :: i :: r from rfl, num4_cons]
    show ((((((((0 * 256 + a.toNat) * 256 + b.toNat) * 256 + c.toNat) * 256 + d.toNat) * 256 + e.toNat) * 256 + f.toNat) * 256 + g.toNat) * 256 + i.toNat) = _
    omega
end Go.Proofs.Ytmkkbomkonociaa
