/- What reading a numeral computes, in plain Lean: the reader's state, step by step. No program in sight. -/
import Derived.Test.YtciakpfnmkoghaaNumMath
namespace Go.Proofs.Ytciakpfnmkoghaa.Num

/-- is the byte at a place one of some? -/
def isAt (l : List UInt8) (i : Nat) (S : List UInt8) : Bool := match l[i]? with | some c => S.contains c | none => false
def DIGITS : List UInt8 := [48, 49, 50, 51, 52, 53, 54, 55, 56, 57]
theorem digits_has (c : UInt8) : DIGITS.contains c = isDig c := by
  have h : ∀ n : Fin 256, DIGITS.contains (UInt8.ofNat n.val) = isDig (UInt8.ofNat n.val) := by decide +kernel
  have := h ⟨c.toNat, c.toNat_lt⟩
  simpa using this

/-- the state of a reading: V is the size, in full -/
structure St where
  at_ : Nat
  minus : Bool
  V : Nat
  part : Bool

def tick (st : St) : St := { st with at_ := st.at_ + 1 }
def take (l : List UInt8) (S : List UInt8) (st : St) : St := if isAt l st.at_ S then tick st else st
def grow (st : St) (d : Nat) : St := { st with V := 10 * st.V + d }
def skip (st : St) (_ : Nat) : St := st
/-- all digits that stand at the place, each handed on -/
def fin (f : St → Nat → St) (l : List UInt8) (st : St) : St := ((l.drop st.at_).takeWhile isDig).foldl (fun st c => f (tick st) (c.toNat - 48)) st
def need (f : St → Nat → St) (l : List UInt8) (st : St) : Except Nat St := if isAt l st.at_ DIGITS then .ok (fin f l st) else .error st.at_
def sign (l : List UInt8) (st : St) : St := { take l [45] st with minus := isAt l st.at_ [45] }
def whole (l : List UInt8) (st : St) : Except Nat St := if isAt l st.at_ [48] then .ok (tick st) else need grow l st
def partly (st : St) : St := { st with part := true }
def fraction (l : List UInt8) (st : St) : Except Nat St := if isAt l st.at_ [46] then need skip l (partly (tick st)) else .ok st
def exponent (l : List UInt8) (st : St) : Except Nat St := if isAt l st.at_ [101, 69] then need skip l (take l [43, 45] (partly (tick st))) else .ok st
/-- the steps from the k-th on -/
def rest (l : List UInt8) (k : Nat) (st : St) : Except Nat St :=
  if k = 0 then (whole l (sign l st)).bind fun s => (fraction l s).bind (exponent l)
  else if k = 1 then (whole l st).bind fun s => (fraction l s).bind (exponent l)
  else if k = 2 then (fraction l st).bind (exponent l)
  else if k = 3 then exponent l st
  else .ok st
def reads (l : List UInt8) (i : Nat) : Except Nat St := rest l 0 ⟨i, false, 0, false⟩
def most (minus : Bool) : Nat := if minus then 9223372036854775808 else 9223372036854775807
/-- the answer of Read: the number, the place, the error -/
def read (l : List UInt8) (i : Int) : Int × Int × Int :=
  if i < 0 ∨ (l.length : Int) < i then (0, 0, 2)
  else match reads l i.toNat with
    | .error k => (0, k, 7)
    | .ok st => if st.part = true ∨ most st.minus < st.V then (0, i, 130) else (if st.minus then -(st.V : Int) else st.V, st.at_, 0)

theorem isAt_lt {l : List UInt8} {i : Nat} {S : List UInt8} (h : isAt l i S = true) : i < l.length := by
  unfold isAt at h
  split at h
  · rename_i c hc
    exact (List.getElem?_eq_some_iff.1 hc).1
  · cases h
theorem isAt_get {l : List UInt8} {i : Nat} {S : List UInt8} (h : i < l.length) : isAt l i S = S.contains l[i] := by
  unfold isAt
  rw [List.getElem?_eq_getElem h]
theorem isAt_no {l : List UInt8} {i : Nat} {S : List UInt8} (h : l.length ≤ i) : isAt l i S = false := by
  unfold isAt
  rw [List.getElem?_eq_none h]
theorem fin_end {f : St → Nat → St} {l : List UInt8} {st : St} (h : isAt l st.at_ DIGITS = false) : fin f l st = st := by
  unfold fin
  by_cases hl : st.at_ < l.length
  · rw [isAt_get hl, digits_has] at h
    rw [List.drop_eq_getElem_cons hl, List.takeWhile_cons, h]; rfl
  · rw [List.drop_eq_nil_of_le (by omega)]; rfl
theorem fin_step {f : St → Nat → St} (hf : ∀ st d, (f st d).at_ = st.at_) {l : List UInt8} {st : St} (hl : st.at_ < l.length) (h : isAt l st.at_ DIGITS = true) : fin f l (f (tick st) (l[st.at_].toNat - 48)) = fin f l st := by
  rw [isAt_get hl, digits_has] at h
  unfold fin
  rw [hf, List.drop_eq_getElem_cons hl, List.takeWhile_cons, h]
  simp only [List.foldl_cons, ite_true]
  rfl
theorem dig_bound {l : List UInt8} {i : Nat} (hl : i < l.length) (h : isAt l i DIGITS = true) : 48 ≤ l[i].toNat ∧ l[i].toNat ≤ 57 := by
  rw [isAt_get hl, digits_has] at h
  simpa [isDig] using h
end Go.Proofs.Ytciakpfnmkoghaa.Num
