/- What sorting and merging edits mean. No program in sight. -/
import Derived.Test.YtgliindhndcceaaMgOrder
namespace Go.Proofs.Ytgliindhndcceaa

namespace Mg
theorem rise_cons (a : List UInt8) : ∀ l : List (List UInt8), rise (a :: l) = true ↔ (∀ b ∈ l, lt a b = true) ∧ rise l = true
  | [] => ⟨fun _ => ⟨fun _ h => (by cases h), rfl⟩, fun _ => rfl⟩
  | b :: r => by
    rw [rise, Bool.and_eq_true, rise_cons b r]
    constructor
    · rintro ⟨h1, h2, h3⟩
      refine ⟨fun c hc => ?_, h2, h3⟩
      rcases List.mem_cons.1 hc with rfl | hc
      · exact h1
      · exact lt_trans h1 (h2 c hc)
    · rintro ⟨h1, h2⟩
      exact ⟨h1 b (by simp), h2⟩
end Mg
/-- do the keys of edits rise? -/
def up (l : List Ed) : Prop := Mg.rise (keys l) = true
theorem up_nil : up [] := rfl
theorem up_cons {e : Ed} {l : List Ed} : up (e :: l) ↔ (∀ f ∈ l, Mg.lt e.key f.key = true) ∧ up l := by
  unfold up keys
  rw [List.map_cons, Mg.rise_cons]
  simp
/-- the edit of a key -/
def fd (l : List Ed) (k : List UInt8) : Option Ed := l.find? fun e => decide (e.key = k)
theorem fd_cons (e : Ed) (l : List Ed) (k : List UInt8) : fd (e :: l) k = if e.key = k then some e else fd l k := by
  unfold fd
  rw [List.find?_cons]
  by_cases h : e.key = k <;> simp [h]
theorem fd_some {l : List Ed} {k : List UInt8} {e : Ed} (h : fd l k = some e) : e ∈ l ∧ e.key = k := by
  refine ⟨List.mem_of_find?_eq_some h, ?_⟩
  have := List.find?_some h
  simpa using this
theorem fd_none {l : List Ed} {k : List UInt8} (h : fd l k = none) : ∀ e ∈ l, e.key ≠ k := by
  intro e he
  have := List.find?_eq_none.1 h e he
  simpa using this
theorem fd_mem {l : List Ed} (hu : up l) {e : Ed} (he : e ∈ l) : fd l e.key = some e := by
  induction l with
  | nil => cases he
  | cons f l ih =>
    rw [up_cons] at hu
    rw [fd_cons]
    rcases List.mem_cons.1 he with rfl | he
    · rw [if_pos rfl]
    · rw [if_neg (Mg.lt_ne (hu.1 e he)), ih hu.2 he]
/-- a rising row is told by its edits' keys -/
theorem up_ext : ∀ {a b : List Ed}, up a → up b → (∀ k, fd a k = fd b k) → a = b
  | [], [], _, _, _ => rfl
  | [], f :: b, _, _, h => by have := h f.key; rw [fd_cons, if_pos rfl] at this; cases this
  | e :: a, [], _, _, h => by have := h e.key; rw [fd_cons, if_pos rfl] at this; cases this
  | e :: a, f :: b, ha, hb, h => by
    have ha' := up_cons.1 ha
    have hb' := up_cons.1 hb
    have h1 := h e.key
    have h2 := h f.key
    rw [fd_cons, if_pos rfl, fd_cons] at h1
    rw [fd_cons, fd_cons, if_pos rfl] at h2
    have hef : e = f := by
      by_cases hk : f.key = e.key
      · rw [if_pos hk] at h1; exact Option.some.inj h1
      · rw [if_neg hk] at h1
        rw [if_neg (Ne.symm hk)] at h2
        have m1 := (fd_some h1.symm).1
        have m2 := (fd_some h2).1
        have l1 := hb'.1 e m1
        have l2 := ha'.1 f m2
        rw [Mg.lt_asymm l1] at l2; cases l2
    subst hef
    congr 1
    refine up_ext ha'.2 hb'.2 fun k => ?_
    by_cases hk : e.key = k
    · have n1 : fd a k = none := by
        cases hx : fd a k with
        | none => rfl
        | some x =>
          obtain ⟨m, hkx⟩ := fd_some hx
          exact absurd (hk.trans hkx.symm) (Mg.lt_ne (ha'.1 x m))
      have n2 : fd b k = none := by
        cases hx : fd b k with
        | none => rfl
        | some x =>
          obtain ⟨m, hkx⟩ := fd_some hx
          exact absurd (hk.trans hkx.symm) (Mg.lt_ne (hb'.1 x m))
      rw [n1, n2]
    · have := h k
      rwa [fd_cons, fd_cons, if_neg hk, if_neg hk] at this
/-! ### one more edit -/
def ins (x : Ed) : List Ed → List Ed
  | [] => [x]
  | e :: r => if Mg.lt e.key x.key = true then e :: ins x r else if e.key = x.key then x :: r else x :: e :: r
theorem ins_mem {x y : Ed} : ∀ {l : List Ed}, y ∈ ins x l → y = x ∨ y ∈ l
  | [], h => by simp [ins] at h; exact .inl h
  | e :: r, h => by
    unfold ins at h
    split at h
    · rcases List.mem_cons.1 h with rfl | h
      · exact .inr (by simp)
      · exact (ins_mem h).elim .inl (fun h => .inr (by simp [h]))
    · split at h
      · rcases List.mem_cons.1 h with rfl | h
        · exact .inl rfl
        · exact .inr (by simp [h])
      · rcases List.mem_cons.1 h with rfl | h
        · exact .inl rfl
        · exact .inr h
theorem ins_up {x : Ed} : ∀ {l : List Ed}, up l → up (ins x l)
  | [], _ => rfl
  | e :: r, h => by
    have h' := up_cons.1 h
    unfold ins
    split
    · rename_i hl
      refine up_cons.2 ⟨fun f hf => ?_, ins_up h'.2⟩
      rcases ins_mem hf with rfl | hf
      · exact hl
      · exact h'.1 f hf
    · rename_i hl
      split
      · rename_i he
        exact up_cons.2 ⟨fun f hf => by rw [← he]; exact h'.1 f hf, h'.2⟩
      · rename_i he
        have hx : Mg.lt x.key e.key = true := by
          rcases Mg.lt_tri e.key x.key with h1 | h1 | h1
          · exact absurd h1 hl
          · exact absurd h1 he
          · exact h1
        refine up_cons.2 ⟨fun f hf => ?_, h⟩
        rcases List.mem_cons.1 hf with rfl | hf
        · exact hx
        · exact Mg.lt_trans hx (h'.1 f hf)
theorem ins_fd {x : Ed} (k : List UInt8) : ∀ {l : List Ed}, up l → fd (ins x l) k = if x.key = k then some x else fd l k
  | [], _ => by show fd [x] k = _; rw [fd_cons]
  | e :: r, h => by
    have h' := up_cons.1 h
    unfold ins
    split
    · rename_i hl
      rw [fd_cons, ins_fd k h'.2, fd_cons]
      by_cases hk : e.key = k
      · rw [if_pos hk, if_pos hk, if_neg (fun hx => Mg.lt_ne hl (hk.trans hx.symm))]
      · rw [if_neg hk, if_neg hk]
    · split
      · rename_i he
        rw [fd_cons, fd_cons]
        by_cases hk : x.key = k
        · rw [if_pos hk, if_pos hk]
        · rw [if_neg hk, if_neg hk, if_neg (by rw [he]; exact hk)]
      · rw [fd_cons]
theorem ins_len {x : Ed} : ∀ l : List Ed, (ins x l).length ≤ l.length + 1
  | [] => Nat.le_refl _
  | e :: r => by
    unfold ins
    split
    · rw [List.length_cons, List.length_cons]; have := ins_len (x := x) r; omega
    · split
      · simp
      · simp
theorem snoc_ind {α : Type} {P : List α → Prop} (h0 : P []) (hs : ∀ l x, P l → P (l ++ [x])) : ∀ l, P l := by
  intro l
  have : ∀ r : List α, P r.reverse := by
    intro r
    induction r with
    | nil => exact h0
    | cons x r ih => rw [List.reverse_cons]; exact hs _ _ ih
  have h := this l.reverse
  rwa [List.reverse_reverse] at h
/-- the row of some edits -/
def srt (l : List Ed) : List Ed := l.foldl (fun a x => ins x a) []
theorem srt_snoc (l : List Ed) (x : Ed) : srt (l ++ [x]) = ins x (srt l) := by simp [srt]
theorem srt_len (l : List Ed) : (srt l).length ≤ l.length := by
  induction l using snoc_ind with
  | h0 => exact Nat.le_refl _
  | hs l x ih =>
    rw [srt_snoc, List.length_append]
    have := ins_len (x := x) (srt l)
    simp
    omega
theorem srt_up (l : List Ed) : up (srt l) := by
  induction l using snoc_ind with
  | h0 => rfl
  | hs l x ih => rw [srt_snoc]; exact ins_up ih
/-- the last edit of a key -/
def lst (l : List Ed) (k : List UInt8) : Option Ed := fd l.reverse k
theorem lst_snoc (l : List Ed) (x : Ed) (k : List UInt8) : lst (l ++ [x]) k = if x.key = k then some x else lst l k := by
  unfold lst
  rw [List.reverse_append, List.reverse_cons, List.reverse_nil, List.nil_append, List.singleton_append, fd_cons]
theorem srt_fd (l : List Ed) (k : List UInt8) : fd (srt l) k = lst l k := by
  induction l using snoc_ind with
  | h0 => rfl
  | hs l x ih => rw [srt_snoc, ins_fd k (srt_up l), lst_snoc, ih]
theorem srt_of {T l : List Ed} (hu : up T) (h : ∀ k, fd T k = lst l k) : T = srt l := up_ext hu (srt_up l) fun k => by rw [h k, srt_fd]
theorem fd_append (a b : List Ed) (k : List UInt8) : fd (a ++ b) k = (fd a k).or (fd b k) := by
  unfold fd
  rw [List.find?_append]
theorem lst_append (a b : List Ed) (k : List UInt8) : lst (a ++ b) k = (lst b k).or (lst a k) := by
  unfold lst
  rw [List.reverse_append, fd_append]
theorem up_mem_key {l : List Ed} (hu : up l) {e f : Ed} (he : e ∈ l) (hf : f ∈ l) (hk : e.key = f.key) : e = f := by
  have h1 := fd_mem hu he
  have h2 := fd_mem hu hf
  rw [hk, h2] at h1
  exact (Option.some.inj h1).symm
theorem lst_up {l : List Ed} (hu : up l) (k : List UInt8) : lst l k = fd l k := by
  cases h : fd l k with
  | none =>
    unfold lst fd
    rw [List.find?_eq_none]
    intro e he
    simpa using fd_none h e (by simpa using he)
  | some e =>
    obtain ⟨m, hk⟩ := fd_some h
    cases h2 : lst l k with
    | none => exact absurd hk (fd_none h2 e (by simpa using m))
    | some f =>
      obtain ⟨m2, hk2⟩ := fd_some h2
      rw [up_mem_key hu m (by simpa using m2) (hk.trans hk2.symm)]
theorem srt_up_self {l : List Ed} (hu : up l) : srt l = l := (srt_of hu fun k => (lst_up hu k).symm).symm
end Go.Proofs.Ytgliindhndcceaa
