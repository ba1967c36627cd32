/- The model's own reading and writing of a code point, by what utf says. -/
import Derived.Test.YtbnibiealnogdaaDoorUtfStr
import Derived.Test.YtbnibiealnogdaaDoorQuoMath
namespace Go.Proofs.YtbnibiealnogdaaDoor
open Go.RowKit

theorem get_str (l : List UInt8) (i : Nat) : (str l).get! i = l.getD i 0 := by
  show l.toArray[i]! = _
  rw [List.getD_eq_getElem?_getD, Array.getElem!_eq_getD, Array.getD_eq_getD_getElem?]
  simp
  rfl
theorem getD_drop {l r : List UInt8} {i : Nat} (h : l.drop i = r) (k : Nat) : l.getD (i + k) 0 = r.getD k 0 := by
  rw [← h, List.getD_eq_getElem?_getD, List.getD_eq_getElem?_getD, List.getElem?_drop]
theorem encode_str {p : Nat} (hp : Utf.isCp (p : Int) = true) : Utf8.encode (p : Int) = str (Utf.enc p) := by
  have hb := Utf.isCp_iff.1 hp
  have hv : Utf8.valid (p : Int) = true := by
    unfold Utf8.valid
    rw [Bool.or_eq_true, Bool.and_eq_true, Bool.and_eq_true, decide_eq_true_eq, decide_eq_true_eq, decide_eq_true_eq, decide_eq_true_eq]
    omega
  unfold Utf8.encode Utf.enc str Utf.u8
  simp only [hv, if_true, Int.toNat_natCast]
  by_cases h1 : p < 128
  · rw [if_pos h1, if_pos h1]
  · rw [if_neg h1, if_neg h1]
    by_cases h2 : p < 2048
    · rw [if_pos h2, if_pos h2]
    · rw [if_neg h2, if_neg h2]
      by_cases h3 : p < 65536
      · rw [if_pos h3, if_pos h3]
      · rw [if_neg h3, if_neg h3]
set_option maxRecDepth 100000 in
theorem decode_str {l r : List UInt8} {i p : Nat} (hp : Utf.isCp (p : Int) = true) (h : l.drop i = Utf.enc p ++ r) : Utf8.decode (str l) i = (p, (Utf.enc p).length) := by
  have hb := Utf.isCp_iff.1 hp
  have hlen : i + (Utf.enc p).length ≤ (str l).size := by
    have h1 := congrArg List.length h
    rw [List.length_drop, List.length_append] at h1
    have := Utf.enc_pos p
    rw [str_size]; omega
  have hg : ∀ k, (str l).get! (i + k) = (Utf.enc p ++ r).getD k 0 := fun k => by rw [get_str, getD_drop h]
  have hv : Utf8.valid (p : Int) = true := by
    unfold Utf8.valid
    rw [Bool.or_eq_true, Bool.and_eq_true, Bool.and_eq_true, decide_eq_true_eq, decide_eq_true_eq, decide_eq_true_eq, decide_eq_true_eq]
    omega
  unfold Utf8.decode
  simp only [hg]
  unfold Utf.enc at hlen ⊢
  by_cases h1 : p < 128
  · simp only [h1, if_true] at hlen ⊢
    simp only [List.cons_append, List.getD_cons_zero, Utf.u8_toNat (show p < 256 by omega)]
    rw [if_pos h1]
    rfl
  · simp only [h1, if_false] at hlen ⊢
    by_cases h2 : p < 2048
    · simp only [h2, if_true, List.length_cons, List.length_nil] at hlen ⊢
      simp only [List.cons_append, List.getD_cons_zero, List.getD_cons_succ, Utf.u8_toNat (show 192 + p / 64 < 256 by omega), Utf.u8_toNat (show 128 + p % 64 < 256 by omega)]
      have hc : (192 + p / 64) % 32 * 64 + (128 + p % 64) % 64 = p := by omega
      rw [if_neg (by omega), if_pos (by simp; omega), hc, if_pos (by omega)]
    · simp only [h2, if_false] at hlen ⊢
      by_cases h3 : p < 65536
      · simp only [h3, if_true, List.length_cons, List.length_nil] at hlen ⊢
        simp only [List.cons_append, List.getD_cons_zero, List.getD_cons_succ, Utf.u8_toNat (show 224 + p / 4096 < 256 by omega), Utf.u8_toNat (show 128 + p / 64 % 64 < 256 by omega), Utf.u8_toNat (show 128 + p % 64 < 256 by omega)]
        have hc : (224 + p / 4096) % 16 * 4096 + (128 + p / 64 % 64) % 64 * 64 + (128 + p % 64) % 64 = p := by omega
        rw [if_neg (by omega), if_neg (by simp; omega), if_pos (by simp; omega), hc, if_pos (by rw [hv]; simp; omega)]
      · simp only [h3, if_false, List.length_cons, List.length_nil] at hlen ⊢
        simp only [List.cons_append, List.getD_cons_zero, List.getD_cons_succ, Utf.u8_toNat (show 240 + p / 262144 < 256 by omega), Utf.u8_toNat (show 128 + p / 4096 % 64 < 256 by omega), Utf.u8_toNat (show 128 + p / 64 % 64 < 256 by omega), Utf.u8_toNat (show 128 + p % 64 < 256 by omega)]
        have hc : (240 + p / 262144) % 8 * 262144 + (128 + p / 4096 % 64) % 64 * 4096 + (128 + p / 64 % 64) % 64 * 64 + (128 + p % 64) % 64 = p := by omega
        rw [if_neg (by omega), if_neg (by simp; omega), if_neg (by simp; omega), if_pos (by simp; omega), hc, if_pos (by rw [hv]; simp; omega)]
end Go.Proofs.YtbnibiealnogdaaDoor
