/- What the reference's Begin tries, try by try. No program in sight. -/
import Derived.Test.YtbnibiealnogdaaDoorUtfMath
namespace Go.Proofs.YtbnibiealnogdaaDoor.Utf

theorem gather_le (l : List UInt8) : ∀ p k, p < 256 * 64 ^ k → gather p l < 256 * 64 ^ (k + l.length) := by
  induction l with
  | nil => intro p k hp; exact hp
  | cons c l ih =>
    intro p k hp
    have h2 := Nat.mod_lt c.toNat (show 0 < 64 by decide)
    have h3 := ih (p * 64 + c.toNat % 64) (k + 1) (by rw [Nat.pow_succ]; omega)
    rw [List.length_cons, show k + (l.length + 1) = k + 1 + l.length by omega]
    exact h3
theorem gather_lt {l : List UInt8} {p i : Nat} (hp : p ≤ 255) (h : i ≤ 4) : gather p ((l.take i).drop 1) < 67108864 := by
  have h1 := gather_le ((l.take i).drop 1) p 0 (by simp only [Nat.pow_zero]; omega)
  rw [Nat.zero_add] at h1
  have h2 : ((l.take i).drop 1).length ≤ 3 := by rw [List.length_drop, List.length_take]; omega
  have h3 : 64 ^ ((l.take i).drop 1).length ≤ 64 ^ 3 := Nat.pow_le_pow_right (by decide) h2
  omega
theorem gather_one (l : List UInt8) (p : Nat) : gather p ((l.take 1).drop 1) = p := by
  rw [List.drop_eq_nil_of_le (by rw [List.length_take]; omega)]; rfl
theorem gather_step {l : List UInt8} {i : Nat} (p : Nat) (h1 : 1 ≤ i) (hi : i < l.length) : gather p ((l.take (i + 1)).drop 1) = gather p ((l.take i).drop 1) * 64 + l[i].toNat % 64 := by
  rw [List.take_succ_eq_append_getElem hi, List.drop_append_of_le_length (by rw [List.length_take]; omega), gather, List.foldl_append]
  rfl
theorem mod_le255 (l : List UInt8) (n : Nat) : (l.getD 0 0).toNat % modOf n ≤ 255 := by
  have := (l.getD 0 0).toNat_lt
  exact Nat.le_trans (Nat.mod_le _ _) (by omega)
theorem hit_no {l : List UInt8} {n : Nat} (h : hit l n = false) (hn : 0 < n) (hd : (dec l).2 = 0 ∨ n ≤ (dec l).2) : (dec l).2 = 0 ∨ n + 1 ≤ (dec l).2 := by
  rcases hd with hd | hd
  · exact Or.inl hd
  · right
    rcases Nat.lt_or_ge n (dec l).2 with h5 | h5
    · exact h5
    · have h6 : (dec l).2 = n := by omega
      have h7 := dec_hit (l := l) (p := (dec l).1) (n := n) (by rw [← h6]) (by omega)
      rw [h] at h7; cases h7
theorem dec_end {l : List UInt8} {n : Nat} (hd : (dec l).2 = 0 ∨ n ≤ (dec l).2) (hn : 4 < n ∨ l.length < n) : dec l = (0, 0) := by
  have h4 : (dec l).2 ≤ 4 ∧ (dec l).2 ≤ l.length := by
    by_cases h : (dec l).2 = 0
    · rw [h]; omega
    · obtain ⟨h1, h2, h3⟩ := enc_dec (l := l) (p := (dec l).1) (n := (dec l).2) rfl h
      have h4 := enc_len h1
      have h5 := sz_le ((dec l).1 : Int)
      rw [h3, List.length_take] at h4
      omega
  have h0 : (dec l).2 = 0 := by omega
  have := dec_zero (l := l) (p := (dec l).1) (by rw [← h0])
  exact Prod.ext this h0
end Go.Proofs.YtbnibiealnogdaaDoor.Utf
