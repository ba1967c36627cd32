/- Items behind a row of edits. No program in sight. -/
import Derived.Test.YtgliindhndcceaaMgMerge
import Derived.Test.YtgliindhndcceaaMgItem
namespace Go.Proofs.Ytgliindhndcceaa

/-- what an edit lays out -/
def lay (x : Ed) : List Ed := if x.put = true then [x] else []
/-- items behind a row of edits -/
def doneN : List Ed → List Ed → List Ed
  | its, [] => its
  | [], x :: es => lay x ++ doneN [] es
  | i :: r, x :: es => if Mg.lt i.key x.key = true then i :: doneN r (x :: es) else if i.key = x.key then lay x ++ doneN r es else lay x ++ doneN (i :: r) es
termination_by its es => its.length + es.length
theorem doneN_nil (its : List Ed) : doneN its [] = its := by cases its <;> rw [doneN]
theorem doneN_none (x : Ed) (es : List Ed) : doneN [] (x :: es) = lay x ++ doneN [] es := by rw [doneN]
theorem doneN_less {i x : Ed} {r es : List Ed} (h : Mg.lt i.key x.key = true) : doneN (i :: r) (x :: es) = i :: doneN r (x :: es) := by rw [doneN, if_pos h]
theorem doneN_same {i x : Ed} {r es : List Ed} (h : Mg.lt i.key x.key = false) (h2 : i.key = x.key) : doneN (i :: r) (x :: es) = lay x ++ doneN r es := by rw [doneN, if_neg (by rw [h]; decide), if_pos h2]
theorem doneN_more {i x : Ed} {r es : List Ed} (h : Mg.lt i.key x.key = false) (h2 : i.key ≠ x.key) : doneN (i :: r) (x :: es) = lay x ++ doneN (i :: r) es := by rw [doneN, if_neg (by rw [h]; decide), if_neg h2]
theorem lay_mem {x y : Ed} (h : y ∈ lay x) : y = x ∧ x.put = true := by
  unfold lay at h
  split at h
  · rename_i hp; exact ⟨by simpa using h, hp⟩
  · cases h
theorem doneN_mem (its es : List Ed) : ∀ y ∈ doneN its es, y ∈ its ∨ y ∈ es := by
  induction its, es using doneN.induct with
  | case1 its => intro y hy; rw [doneN_nil] at hy; exact .inl hy
  | case2 x es ih =>
    intro y hy
    rw [doneN_none] at hy
    rcases List.mem_append.1 hy with h | h
    · exact .inr (by simp [(lay_mem h).1])
    · exact (ih y h).elim .inl (fun h => .inr (by simp [h]))
  | case3 i r x es h ih =>
    intro y hy
    rw [doneN_less h] at hy
    rcases List.mem_cons.1 hy with h | h
    · exact .inl (by simp [h])
    · exact (ih y h).elim (fun h => .inl (by simp [h])) .inr
  | case4 i r x es h h2 ih =>
    intro y hy
    rw [doneN_same (by simpa using h) h2] at hy
    rcases List.mem_append.1 hy with h | h
    · exact .inr (by simp [(lay_mem h).1])
    · exact (ih y h).elim (fun h => .inl (by simp [h])) (fun h => .inr (by simp [h]))
  | case5 i r x es h h2 ih =>
    intro y hy
    rw [doneN_more (by simpa using h) h2] at hy
    rcases List.mem_append.1 hy with h | h
    · exact .inr (by simp [(lay_mem h).1])
    · exact (ih y h).elim .inl (fun h => .inr (by simp [h]))
theorem doneN_len (its es : List Ed) : (doneN its es).length ≤ its.length + es.length := by
  have hl : ∀ x : Ed, (lay x).length ≤ 1 := fun x => by unfold lay; split <;> simp
  induction its, es using doneN.induct with
  | case1 its => rw [doneN_nil]; simp
  | case2 x es ih => rw [doneN_none, List.length_append]; have := hl x; simp at ih ⊢; omega
  | case3 i r x es h ih => rw [doneN_less h]; simp at ih ⊢; omega
  | case4 i r x es h h2 ih => rw [doneN_same (by simpa using h) h2, List.length_append]; have := hl x; simp at ih ⊢; omega
  | case5 i r x es h h2 ih => rw [doneN_more (by simpa using h) h2, List.length_append]; have := hl x; simp at ih ⊢; omega
/-- do items rise, as the walk looks -/
def riseI (l : List Ed) : Bool := Mg.rise (keys l)
theorem riseI_no {l : List Ed} {p : Nat} (h : p + 1 < l.length) (hs : Mg.lt (l[p]'(by omega)).key l[p + 1].key = false) : riseI l = false := by
  cases hr : riseI l with
  | false => rfl
  | true =>
    have := (Mg.rise_iff _).1 hr p (by rw [keys_len]; exact h)
    simp only [keys, List.getElem_map] at this
    rw [hs] at this; cases this
theorem riseI_yes {l : List Ed} (h : ∀ p (h : p + 1 < l.length), Mg.lt (l[p]'(by omega)).key l[p + 1].key = true) : riseI l = true :=
  (Mg.rise_iff _).2 fun p hp => by
    rw [keys_len] at hp
    simpa [keys] using h p hp
end Go.Proofs.Ytgliindhndcceaa
