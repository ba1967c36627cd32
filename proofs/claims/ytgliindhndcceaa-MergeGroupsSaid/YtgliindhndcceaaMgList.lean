/- Lists of edits: which may be, which rise. No program in sight. -/
import Derived.Test.YtgliindhndcceaaMgMay
namespace Go.Proofs.Ytgliindhndcceaa
open Go.RowKit

namespace Mg
/-- do the keys rise? -/
def rise : List (List UInt8) → Bool
  | a :: b :: r => lt a b && rise (b :: r)
  | _ => true
theorem rise_iff : ∀ l : List (List UInt8), rise l = true ↔ ∀ p (h : p + 1 < l.length), lt (l[p]'(by omega)) l[p + 1] = true
  | [] => ⟨fun _ p h => absurd h (by simp), fun _ => rfl⟩
  | [a] => ⟨fun _ p h => absurd h (by simp), fun _ => rfl⟩
  | a :: b :: r => by
    rw [rise, Bool.and_eq_true, rise_iff (b :: r)]
    constructor
    · rintro ⟨h1, h2⟩ p hp
      cases p with
      | zero => exact h1
      | succ p => exact h2 p (by simp at hp ⊢; omega)
    · intro h
      exact ⟨h 0 (by simp), fun p hp => h (p + 1) (by simp at hp ⊢; omega)⟩
end Mg
def keys (l : List Ed) : List (List UInt8) := l.map Ed.key
theorem keys_len (l : List Ed) : (keys l).length = l.length := List.length_map ..
/-- may a row of edits be? -/
def right (l : List Ed) : Bool := l.all Ed.may && Mg.rise (keys l)
/-- the look at place i -/
def stepOk (l : List Ed) (i : Nat) (h : i < l.length) : Bool := l[i].may && (if hp : 0 < i then Mg.lt (l[i - 1]'(by omega)).key l[i].key else true)
theorem right_iff (l : List Ed) : right l = true ↔ ∀ i (h : i < l.length), stepOk l i h = true := by
  unfold right stepOk
  rw [Bool.and_eq_true, List.all_eq_true, Mg.rise_iff]
  constructor
  · rintro ⟨h1, h2⟩ i hi
    rw [Bool.and_eq_true]
    refine ⟨h1 _ (List.getElem_mem hi), ?_⟩
    split
    · rename_i h0
      have := h2 (i - 1) (by rw [keys_len]; omega)
      simp only [keys, List.getElem_map] at this
      have e : i - 1 + 1 = i := by omega
      simpa [e] using this
    · rfl
  · intro h
    refine ⟨fun e he => ?_, fun p hp => ?_⟩
    · obtain ⟨i, hi, rfl⟩ := List.getElem_of_mem he
      have := h i hi
      rw [Bool.and_eq_true] at this
      exact this.1
    · rw [keys_len] at hp
      have := h (p + 1) hp
      rw [Bool.and_eq_true, dif_pos (by omega)] at this
      simpa [keys] using this.2
theorem right_no {l : List Ed} {i : Nat} (h : i < l.length) (hs : stepOk l i h = false) : right l = false := by
  cases hr : right l with
  | false => rfl
  | true => rw [(right_iff l).1 hr i h] at hs; cases hs
theorem right_yes {l : List Ed} (h : ∀ i (h : i < l.length), stepOk l i h = true) : right l = true := (right_iff l).2 h
theorem step_may {l : List Ed} {i : Nat} {h : i < l.length} (hm : l[i].may = false) : stepOk l i h = false := by unfold stepOk; rw [hm]; rfl
theorem step_zero {l : List Ed} {h : 0 < l.length} : stepOk l 0 h = l[0].may := by unfold stepOk; simp
theorem step_succ {l : List Ed} {p : Nat} {h : p + 1 < l.length} : stepOk l (p + 1) h = (l[p + 1].may && Mg.lt (l[p]'(by omega)).key l[p + 1].key) := by unfold stepOk; simp
end Go.Proofs.Ytgliindhndcceaa
