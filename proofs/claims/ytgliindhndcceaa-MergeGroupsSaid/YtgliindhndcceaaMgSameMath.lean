/- What rows of edits and of items hold, and whether two hold the same. No program in sight. -/
import Derived.Test.YtgliindhndcceaaMgItem
namespace Go.Proofs.Ytgliindhndcceaa

def Ed.con (e : Ed) : List UInt8 × Bool × List UInt8 × Bool × Int := (e.key, e.put, e.val, e.int, e.n)
def Ed.conI (e : Ed) : List UInt8 × List UInt8 × Bool × Int := (e.key, e.val, e.int, e.n)
def sameB (x y : Ed) : Bool := decide (x.key = y.key) && !(x.put != y.put) && decide (x.val = y.val) && !(x.int != y.int) && !(x.n != y.n)
def sameIB (x y : Ed) : Bool := decide (x.key = y.key) && decide (x.val = y.val) && !(x.int != y.int) && !(x.n != y.n)
def same (a b : List Ed) : Bool := decide (a.map Ed.con = b.map Ed.con)
def sameI (a b : List Ed) : Bool := decide (a.map Ed.conI = b.map Ed.conI)
theorem sameB_iff (x y : Ed) : sameB x y = true ↔ x.con = y.con := by
  unfold sameB Ed.con
  simp [and_assoc]
theorem sameIB_iff (x y : Ed) : sameIB x y = true ↔ x.conI = y.conI := by
  unfold sameIB Ed.conI
  simp [and_assoc]
theorem same_len {a b : List Ed} (h : a.length ≠ b.length) : same a b = false := by
  unfold same
  rw [decide_eq_false_iff_not]
  intro e
  exact h (by simpa using congrArg List.length e)
theorem sameI_len {a b : List Ed} (h : a.length ≠ b.length) : sameI a b = false := by
  unfold sameI
  rw [decide_eq_false_iff_not]
  intro e
  exact h (by simpa using congrArg List.length e)
theorem same_no {a b : List Ed} {i : Nat} (h1 : i < a.length) (h2 : i < b.length) (h : sameB a[i] b[i] = false) : same a b = false := by
  unfold same
  rw [decide_eq_false_iff_not]
  intro e
  have := congrArg (fun l => l[i]?) e
  simp [h1, h2] at this
  rw [(sameB_iff _ _).2 this] at h
  cases h
theorem sameI_no {a b : List Ed} {i : Nat} (h1 : i < a.length) (h2 : i < b.length) (h : sameIB a[i] b[i] = false) : sameI a b = false := by
  unfold sameI
  rw [decide_eq_false_iff_not]
  intro e
  have := congrArg (fun l => l[i]?) e
  simp [h1, h2] at this
  rw [(sameIB_iff _ _).2 this] at h
  cases h
theorem same_yes {a b : List Ed} (hl : a.length = b.length) (h : ∀ i (h1 : i < a.length) (h2 : i < b.length), sameB a[i] b[i] = true) : same a b = true := by
  unfold same
  rw [decide_eq_true_eq]
  refine List.ext_getElem (by simpa using hl) fun i h1 h2 => ?_
  simp only [List.length_map] at h1 h2
  simpa using (sameB_iff _ _).1 (h i h1 h2)
theorem sameI_yes {a b : List Ed} (hl : a.length = b.length) (h : ∀ i (h1 : i < a.length) (h2 : i < b.length), sameIB a[i] b[i] = true) : sameI a b = true := by
  unfold sameI
  rw [decide_eq_true_eq]
  refine List.ext_getElem (by simpa using hl) fun i h1 h2 => ?_
  simp only [List.length_map] at h1 h2
  simpa using (sameIB_iff _ _).1 (h i h1 h2)
theorem same_iff (a b : List Ed) : same a b = true ↔ a.map Ed.con = b.map Ed.con := decide_eq_true_iff
theorem sameI_iff (a b : List Ed) : sameI a b = true ↔ a.map Ed.conI = b.map Ed.conI := decide_eq_true_iff
theorem same_refl (a : List Ed) : same a a = true := (same_iff a a).2 rfl
end Go.Proofs.Ytgliindhndcceaa
