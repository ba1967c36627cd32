/- The ways to write a code point: its bytes, or escapes in either case of the digits. No program in sight. -/
import Derived.Test.YtbnibiealnogdaaDoorQuoReadMath
import Derived.Test.YtbnibiealnogdaaDoorUtfStr
namespace Go.Proofs.YtbnibiealnogdaaDoor.Quo
open Utf Go.RowKit

/-- the digit that writes a number below 16 -/
def digL (g : Bool) (d : Nat) : UInt8 := if d < 10 then u8 (48 + d) else if g = true then u8 (55 + d) else u8 (87 + d)
theorem dig_digL : ∀ g, ∀ d, d < 16 → dig (digL g d) = some d := by decide
/-- a unit in four digits -/
def fourL (n : Nat) (g : Bool) : List UInt8 := [92, 117, digL g (n / 4096 % 16), digL g (n / 256 % 16), digL g (n / 16 % 16), digL g (n % 16)]
theorem fourL_len (n : Nat) (g : Bool) : (fourL n g).length = 6 := rfl
theorem hexs_step {n d : Nat} {c : UInt8} {l : List UInt8} (h : dig c = some d) : hexs n (c :: l) = hexs (n * 16 + d) l := by
  show (match dig c with
    | none => none
    | some d => hexs (n * 16 + d) l) = _
  rw [h]
theorem hexs_four {n : Nat} (hn : n < 65536) (g : Bool) : hexs 0 [digL g (n / 4096 % 16), digL g (n / 256 % 16), digL g (n / 16 % 16), digL g (n % 16)] = some n := by
  rw [hexs_step (dig_digL g _ (Nat.mod_lt _ (by decide))), hexs_step (dig_digL g _ (Nat.mod_lt _ (by decide))), hexs_step (dig_digL g _ (Nat.mod_lt _ (by decide))), hexs_step (dig_digL g _ (Nat.mod_lt _ (by decide)))]
  show some _ = some n
  congr 1
  omega
theorem four_unit {n : Nat} (hn : n < 65536) (g : Bool) (t : List UInt8) : unit (fourL n g ++ t) = some n := unit_of (hexs_four hn g) t
/-- direct, by a unit, by two -/
def saidWay (way : Int) (p : Nat) : Nat := if way.tmod 3 = 0 ∧ 32 ≤ p ∧ p ≠ 34 ∧ p ≠ 92 then 0 else if p < 65536 then 1 else 2
def said (way : Int) (p : Nat) : List UInt8 :=
  if saidWay way p = 0 then enc p
  else if saidWay way p = 1 then fourL p (way.tmod 2 == 0)
  else fourL (55296 + (p - 65536) / 1024) (way.tmod 2 == 0) ++ fourL (56320 + (p - 65536) % 1024) (way.tmod 5 == 0)
theorem said_sign {p : Nat} (hp : isCp (p : Int) = true) (way : Int) (r : List UInt8) : sign (said way p ++ r) = (p, (said way p).length) := by
  unfold said
  by_cases h0 : saidWay way p = 0
  · rw [if_pos h0]
    have h1 : 32 ≤ p ∧ p ≠ 34 ∧ p ≠ 92 := by
      unfold saidWay at h0
      split at h0
      · rename_i h; exact h.2
      · split at h0 <;> omega
    have h2 := item_sign hp r
    rwa [item_enc (sig_none (by omega) h1.2.1 h1.2.2) (by omega)] at h2
  · rw [if_neg h0]
    by_cases h1 : saidWay way p = 1
    · rw [if_pos h1]
      have h2 : p < 65536 := by
        unfold saidWay at h1
        split at h1
        · omega
        · split at h1
          · assumption
          · omega
      rw [fourL_len]
      show sign (92 :: _) = _
      rw [sign_back]
      exact esc_unit (four_unit h2 _ r) hp
    · rw [if_neg h1]
      have h2 : 65536 ≤ p := by
        unfold saidWay at h0 h1
        split at h1
        · simp_all
        · split at h1
          · simp_all
          · omega
      have h3 := isCp_iff.1 hp
      rw [List.length_append, fourL_len, fourL_len, List.append_assoc]
      have e1 := four_unit (n := 55296 + (p - 65536) / 1024) (by omega) (way.tmod 2 == 0) (fourL (56320 + (p - 65536) % 1024) (way.tmod 5 == 0) ++ r)
      have e2 := four_unit (n := 56320 + (p - 65536) % 1024) (by omega) (way.tmod 5 == 0) r
      have e3 := esc_two (l := fourL (55296 + (p - 65536) / 1024) (way.tmod 2 == 0) ++ (fourL (56320 + (p - 65536) % 1024) (way.tmod 5 == 0) ++ r)) e1 (by rw [isCp_iff]; omega) (by omega) (w := 56320 + (p - 65536) % 1024) (by rw [← e2]; rfl) (by omega)
      show sign (92 :: _) = _
      rw [sign_back]
      refine e3.trans ?_
      have e4 : 65536 + (55296 + (p - 65536) / 1024 - 55296) * 1024 + (56320 + (p - 65536) % 1024 - 56320) = p := by omega
      rw [e4]
theorem said_len {p : Nat} (hp : isCp (p : Int) = true) (way : Int) : 0 < (said way p).length ∧ (said way p).length ≤ 12 := by
  unfold said
  split
  · rw [enc_len hp]
    have h1 := sz_le (p : Int)
    have h2 := sz_pos.2 hp
    omega
  · split
    · rw [fourL_len]; omega
    · rw [List.length_append, fourL_len, fourL_len]; omega
def saids (l : List (Nat × Int)) : List UInt8 := l.flatMap fun a => said a.2 a.1
theorem saids_nil : saids [] = [] := rfl
theorem saids_cons (a : Nat × Int) (l : List (Nat × Int)) : saids (a :: l) = said a.2 a.1 ++ saids l := by simp [saids]
theorem saids_snoc (l : List (Nat × Int)) (p : Nat) (way : Int) : saids (l ++ [(p, way)]) = saids l ++ said way p := by simp [saids]
theorem qscan_saids (l : List (Nat × Int)) (h : allCp (l.map Prod.fst)) (r : List UInt8) : qscan (saids l ++ r) = (l.map Prod.fst ++ (qscan r).1, (saids l).length + (qscan r).2) := by
  induction l with
  | nil => simp [saids_nil]
  | cons a l ih =>
    have hp : isCp (a.1 : Int) = true := h a.1 (by simp)
    rw [saids_cons, List.append_assoc, qscan_go (said_sign hp a.2 _) (by have := said_len hp a.2; omega), List.drop_left, ih (fun q hq => h q (by simp at hq ⊢; exact .inr hq))]
    simp only [List.map_cons, List.cons_append, List.length_append, Nat.add_assoc]
theorem saids_len (l : List (Nat × Int)) (h : allCp (l.map Prod.fst)) : (saids l).length ≤ 12 * l.length := by
  induction l with
  | nil => simp [saids_nil]
  | cons a l ih =>
    have hp : isCp (a.1 : Int) = true := h a.1 (by simp)
    have h1 := said_len hp a.2
    have h2 := ih (fun q hq => h q (by simp at hq ⊢; exact .inr hq))
    rw [saids_cons, List.length_append, List.length_cons]
    omega
end Quo
open Go.RowKit
/-- what is written in these ways is read as its code points -/
theorem read_saids (l : List (Nat × Int)) (h : Utf.allCp (l.map Prod.fst)) : readR (34 :: (Quo.saids l ++ [34])) 0 = (l.map Prod.fst, (((Quo.saids l).length + 2 : Nat) : Int), 0) := by
  have hs : Quo.qscan (Quo.saids l ++ [34]) = (l.map Prod.fst, (Quo.saids l).length) := by
    rw [Quo.qscan_saids l h, Quo.qscan_stop (by rw [Quo.sign_end])]
    simp
  have h34 : (34 :: (Quo.saids l ++ [34]))[0]? = some 34 := rfl
  have hd : (34 :: (Quo.saids l ++ [34])).drop 1 = Quo.saids l ++ [34] := rfl
  have hat : (34 :: (Quo.saids l ++ [34]))[1 + (Quo.saids l).length]? = some 34 := by
    rw [← List.getElem?_drop, hd, List.getElem?_append_right (Nat.le_refl _), Nat.sub_self]
    rfl
  rw [readR_zero h34, readAt_yes (k := 0) (q := 1 + (Quo.saids l).length) (by rw [hd, hs]) hat, hd, hs]
  show (_, ((1 + (Quo.saids l).length + 1 : Nat) : Int), (0 : Int)) = _
  rw [show 1 + (Quo.saids l).length + 1 = (Quo.saids l).length + 2 by omega]
end Go.Proofs.YtbnibiealnogdaaDoor
