/- What the document's own sorting and applying mean, told key by key; contents apart from where they lie. No program in sight. -/
import Derived.Test.YtgliindhndcceaaMgDoneMath
import Derived.Test.YtgliindhndcceaaMgSameMath
namespace Go.Proofs.Ytgliindhndcceaa

/-- one edit into a row, from where p says whether it is still to be laid -/
def stepG (x : Ed) : Bool → List Ed → List Ed
  | p, [] => if p = true then [x] else []
  | p, i :: r => (if p = true ∧ Mg.lt i.key x.key = false then [x] else []) ++ ((if i.key = x.key then [] else [i]) ++ stepG x (p && Mg.lt i.key x.key) r)
theorem stepG_nil (x : Ed) (p : Bool) : stepG x p [] = if p = true then [x] else [] := rfl
theorem stepG_cons (x : Ed) (p : Bool) (i : Ed) (r : List Ed) : stepG x p (i :: r) = (if p = true ∧ Mg.lt i.key x.key = false then [x] else []) ++ ((if i.key = x.key then [] else [i]) ++ stepG x (p && Mg.lt i.key x.key) r) := rfl
theorem stepG_len (x : Ed) : ∀ (p : Bool) (l : List Ed), (stepG x p l).length ≤ l.length + (if p = true then 1 else 0)
  | p, [] => by rw [stepG_nil]; cases p <;> simp
  | p, i :: r => by
    have h := stepG_len x (p && Mg.lt i.key x.key) r
    have hk : (if i.key = x.key then [] else [i]).length ≤ 1 := by split <;> simp
    rw [stepG_cons, List.length_append, List.length_append, List.length_cons]
    cases p with
    | false =>
      rw [Bool.false_and, if_neg (by decide)] at h
      rw [if_neg (by simp), if_neg (c := (false = true)) (by decide), Bool.false_and]
      simp only [List.length_nil]
      omega
    | true =>
      rw [Bool.true_and] at h ⊢
      cases hl : Mg.lt i.key x.key with
      | true =>
        rw [hl, if_pos rfl] at h
        rw [if_neg (by simp), if_pos rfl]
        simp only [List.length_nil]
        omega
      | false =>
        rw [hl, if_neg (by decide)] at h
        rw [if_pos ⟨rfl, rfl⟩, if_pos rfl]
        simp only [List.length_cons, List.length_nil]
        omega
theorem stepG_mem (x : Ed) : ∀ (p : Bool) (l : List Ed), ∀ y ∈ stepG x p l, y = x ∨ y ∈ l
  | p, [], y, h => by
    rw [stepG_nil] at h
    split at h
    · exact .inl (by simpa using h)
    · cases h
  | p, i :: r, y, h => by
    rw [stepG_cons] at h
    rcases List.mem_append.1 h with h | h
    · split at h
      · exact .inl (by simpa using h)
      · cases h
    · rcases List.mem_append.1 h with h | h
      · split at h
        · cases h
        · exact .inr (by simp at h; simp [h])
      · exact (stepG_mem x _ r y h).elim .inl (fun h => .inr (by simp [h]))
theorem stepG_off (x : Ed) : ∀ l : List Ed, stepG x false l = l.filter fun e => decide (e.key ≠ x.key)
  | [] => rfl
  | i :: r => by
    rw [stepG_cons, Bool.false_and, stepG_off x r, List.filter_cons]
    by_cases h : i.key = x.key <;> simp [h]
theorem filter_all {x : Ed} {l : List Ed} (h : ∀ e ∈ l, Mg.lt x.key e.key = true) : (l.filter fun e => decide (e.key ≠ x.key)) = l := by
  rw [List.filter_eq_self]
  intro e he
  exact decide_eq_true (Mg.lt_ne (h e he)).symm
theorem stepG_ins (x : Ed) : ∀ {l : List Ed}, up l → stepG x true l = ins x l
  | [], _ => rfl
  | i :: r, h => by
    have h' := up_cons.1 h
    rw [stepG_cons, ins]
    cases hl : Mg.lt i.key x.key with
    | true =>
      rw [if_neg (by simp), if_neg (Mg.lt_ne hl), if_pos rfl, Bool.true_and, stepG_ins x h'.2]
      rfl
    | false =>
      rw [if_pos ⟨rfl, rfl⟩, Bool.and_false, stepG_off, if_neg (c := (false = true)) (by decide)]
      by_cases hk : i.key = x.key
      · rw [if_pos hk, if_pos hk, filter_all fun e he => by rw [← hk]; exact h'.1 e he]
        rfl
      · rw [if_neg hk, if_neg hk]
        have hx : Mg.lt x.key i.key = true := by
          rcases Mg.lt_tri i.key x.key with h1 | h1 | h1
          · rw [hl] at h1; cases h1
          · exact absurd h1 hk
          · exact h1
        rw [filter_all fun e he => Mg.lt_trans hx (h'.1 e he)]
        rfl
theorem up_filter (p : Ed → Bool) : ∀ {l : List Ed}, up l → up (l.filter p)
  | [], _ => rfl
  | i :: r, h => by
    have h' := up_cons.1 h
    rw [List.filter_cons]
    split
    · exact up_cons.2 ⟨fun f hf => h'.1 f (List.mem_filter.1 hf).1, up_filter p h'.2⟩
    · exact up_filter p h'.2
theorem stepG_up (x : Ed) (p : Bool) {l : List Ed} (h : up l) : up (stepG x p l) := by
  cases p with
  | true => rw [stepG_ins x h]; exact ins_up h
  | false => rw [stepG_off]; exact up_filter _ h
theorem fd_filter (x : Ed) (k : List UInt8) : ∀ l : List Ed, fd (l.filter fun e => decide (e.key ≠ x.key)) k = if x.key = k then none else fd l k
  | [] => by simp [fd]
  | i :: r => by
    rw [List.filter_cons, fd_cons]
    by_cases h : i.key = x.key
    · rw [if_neg (by simp [h]), fd_filter x k r]
      by_cases hk : x.key = k
      · rw [if_pos hk, if_pos hk]
      · rw [if_neg hk, if_neg hk, if_neg (by rw [h]; exact hk)]
    · rw [if_pos (by simp [h]), fd_cons, fd_filter x k r]
      by_cases hk : x.key = k
      · rw [if_pos hk, if_pos hk, if_neg (fun e => h (e.trans hk.symm))]
      · rw [if_neg hk, if_neg hk]
theorem stepG_fd (x : Ed) (p : Bool) (k : List UInt8) {l : List Ed} (h : up l) : fd (stepG x p l) k = if x.key = k then (if p = true then some x else none) else fd l k := by
  cases p with
  | true => rw [stepG_ins x h, ins_fd k h]; simp
  | false => rw [stepG_off, fd_filter]; simp
theorem fd_gone {l : List Ed} {k : List UInt8} (h : ∀ e ∈ l, Mg.lt k e.key = true) : fd l k = none := by
  cases hx : fd l k with
  | none => rfl
  | some x =>
    obtain ⟨m, hk⟩ := fd_some hx
    exact absurd hk.symm (Mg.lt_ne (h x m))
/-- what an edit says of its key -/
def says (x : Ed) : Option Ed := if x.put = true then some x else none
/-- what a row of edits makes of a key's item -/
def aft (o : Option Ed) (i : Option Ed) : Option Ed := match o with
  | some x => says x
  | none => i
theorem lay_fd (x : Ed) (D : List Ed) (k : List UInt8) (h : ∀ e ∈ D, Mg.lt x.key e.key = true) : fd (lay x ++ D) k = if x.key = k then says x else fd D k := by
  unfold lay says
  by_cases hk : x.key = k
  · rw [if_pos hk]
    split
    · rw [List.singleton_append, fd_cons, if_pos hk]
    · rw [List.nil_append, ← hk, fd_gone h]
  · rw [if_neg hk]
    split
    · rw [List.singleton_append, fd_cons, if_neg hk]
    · rw [List.nil_append]
theorem lay_up {x : Ed} {D : List Ed} (hu : up D) (h : ∀ e ∈ D, Mg.lt x.key e.key = true) : up (lay x ++ D) := by
  unfold lay
  split
  · exact up_cons.2 ⟨h, hu⟩
  · exact hu
theorem doneN_lo {a : List UInt8} {its es : List Ed} (h1 : ∀ e ∈ its, Mg.lt a e.key = true) (h2 : ∀ e ∈ es, Mg.lt a e.key = true) : ∀ e ∈ doneN its es, Mg.lt a e.key = true := fun e he => (doneN_mem its es e he).elim (h1 e) (h2 e)
theorem doneN_all (its es : List Ed) : up its → up es → up (doneN its es) ∧ ∀ k, fd (doneN its es) k = aft (fd es k) (fd its k) := by
  induction its, es using doneN.induct with
  | case1 its => intro h1 _; rw [doneN_nil]; exact ⟨h1, fun k => rfl⟩
  | case2 x es ih =>
    intro h1 h2
    have h2' := up_cons.1 h2
    obtain ⟨hu, hf⟩ := ih h1 h2'.2
    have hlo := doneN_lo (its := []) (fun _ h => by cases h) h2'.1
    rw [doneN_none]
    refine ⟨lay_up hu hlo, fun k => ?_⟩
    rw [lay_fd _ _ _ hlo, hf, fd_cons]
    split <;> rfl
  | case3 i r x es h ih =>
    intro h1 h2
    have h1' := up_cons.1 h1
    have h2' := up_cons.1 h2
    obtain ⟨hu, hf⟩ := ih h1'.2 h2
    have hie : ∀ e ∈ x :: es, Mg.lt i.key e.key = true := fun e he => by
      rcases List.mem_cons.1 he with rfl | he
      · exact h
      · exact Mg.lt_trans h (h2'.1 e he)
    rw [doneN_less h]
    refine ⟨up_cons.2 ⟨doneN_lo h1'.1 hie, hu⟩, fun k => ?_⟩
    rw [fd_cons, hf, fd_cons i]
    by_cases hk : i.key = k
    · rw [if_pos hk, if_pos hk, ← hk, fd_gone hie]; rfl
    · rw [if_neg hk, if_neg hk]
  | case4 i r x es h h2 ih =>
    intro h1 h3
    have h1' := up_cons.1 h1
    have h3' := up_cons.1 h3
    obtain ⟨hu, hf⟩ := ih h1'.2 h3'.2
    have hlo := doneN_lo (a := x.key) (fun e he => by rw [← h2]; exact h1'.1 e he) h3'.1
    rw [doneN_same (by simpa using h) h2]
    refine ⟨lay_up hu hlo, fun k => ?_⟩
    rw [lay_fd _ _ _ hlo, hf, fd_cons, fd_cons]
    by_cases hk : x.key = k
    · rw [if_pos hk, if_pos hk]; rfl
    · rw [if_neg hk, if_neg hk, if_neg (by rw [h2]; exact hk)]
  | case5 i r x es h h2 ih =>
    intro h1 h3
    have h1' := up_cons.1 h1
    have h3' := up_cons.1 h3
    obtain ⟨hu, hf⟩ := ih h1 h3'.2
    have hx : Mg.lt x.key i.key = true := by
      rcases Mg.lt_tri i.key x.key with q | q | q
      · exact absurd q h
      · exact absurd q h2
      · exact q
    have hlo := doneN_lo (a := x.key) (its := i :: r) (fun e he => by
      rcases List.mem_cons.1 he with rfl | he
      · exact hx
      · exact Mg.lt_trans hx (h1'.1 e he)) h3'.1
    rw [doneN_more (by simpa using h) h2]
    refine ⟨lay_up hu hlo, fun k => ?_⟩
    rw [lay_fd _ _ _ hlo, hf, fd_cons x]
    by_cases hk : x.key = k
    · rw [if_pos hk, if_pos hk]; rfl
    · rw [if_neg hk, if_neg hk]
theorem doneN_up {its es : List Ed} (h1 : up its) (h2 : up es) : up (doneN its es) := (doneN_all its es h1 h2).1
theorem doneN_fd {its es : List Ed} (h1 : up its) (h2 : up es) (k : List UInt8) : fd (doneN its es) k = aft (fd es k) (fd its k) := (doneN_all its es h1 h2).2 k
/-- the document's own way: edit by edit -/
def doneR (its es : List Ed) : List Ed := es.foldl (fun o x => stepG x x.put o) its
theorem doneR_snoc (its es : List Ed) (x : Ed) : doneR its (es ++ [x]) = stepG x x.put (doneR its es) := by simp [doneR]
theorem doneR_cons (its es : List Ed) (x : Ed) : doneR its (x :: es) = doneR (stepG x x.put its) es := rfl
theorem doneR_len (its es : List Ed) : (doneR its es).length ≤ its.length + es.length := by
  induction es using snoc_ind with
  | h0 => exact Nat.le_refl _
  | hs l x ih =>
    rw [doneR_snoc, List.length_append]
    have := stepG_len x x.put (doneR its l)
    simp only [List.length_cons, List.length_nil]
    split at this <;> omega
theorem doneR_mem (its es : List Ed) : ∀ y ∈ doneR its es, y ∈ its ∨ y ∈ es := by
  induction es using snoc_ind with
  | h0 => exact fun y h => .inl h
  | hs l x ih =>
    intro y h
    rw [doneR_snoc] at h
    rcases stepG_mem _ _ _ _ h with h | h
    · exact .inr (by simp [h])
    · exact (ih y h).elim .inl (fun h => .inr (by simp [h]))
theorem doneR_all (es : List Ed) : ∀ its : List Ed, up its → up es → up (doneR its es) ∧ ∀ k, fd (doneR its es) k = aft (fd es k) (fd its k) := by
  induction es with
  | nil => exact fun its h _ => ⟨h, fun k => rfl⟩
  | cons x es ih =>
    intro its h1 h2
    have h2' := up_cons.1 h2
    obtain ⟨hu, hf⟩ := ih (stepG x x.put its) (stepG_up x x.put h1) h2'.2
    rw [doneR_cons]
    refine ⟨hu, fun k => ?_⟩
    rw [hf, stepG_fd x x.put k h1, fd_cons]
    by_cases hk : x.key = k
    · rw [if_pos hk, if_pos hk, ← hk, fd_gone h2'.1]; rfl
    · rw [if_neg hk, if_neg hk]
theorem doneR_eq {its es : List Ed} (h1 : up its) (h2 : up es) : doneR its es = doneN its es :=
  up_ext (doneR_all es its h1 h2).1 (doneN_up h1 h2) fun k => by rw [(doneR_all es its h1 h2).2, doneN_fd h1 h2]
theorem right_up {l : List Ed} (h : right l = true) : up l := by
  unfold right at h
  rw [Bool.and_eq_true] at h
  exact h.2
theorem riseI_up {l : List Ed} (h : riseI l = true) : up l := h
theorem up_riseI {l : List Ed} (h : up l) : riseI l = true := h
theorem right_all {l : List Ed} (h : right l = true) : l.all Ed.may = true := by
  unfold right at h
  rw [Bool.and_eq_true] at h
  exact h.1
theorem right_of {l : List Ed} (h : l.all Ed.may = true) (hu : up l) : right l = true := by
  unfold right
  rw [h, Bool.true_and]
  exact hu
theorem srt_mem' {l : List Ed} {x : Ed} (h : x ∈ srt l) : x ∈ l := by
  have h1 := fd_mem (srt_up l) h
  rw [srt_fd] at h1
  have := (fd_some h1).1
  simpa using this
theorem srt_may {l : List Ed} (h : l.all Ed.may = true) : (srt l).all Ed.may = true := by
  rw [List.all_eq_true] at h ⊢
  exact fun x hx => h x (srt_mem' hx)
theorem srt_right {l : List Ed} (h : l.all Ed.may = true) : right (srt l) = true := right_of (srt_may h) (srt_up l)
/-! ### one row behind another -/
theorem or_none {α : Type} (a : Option α) : a.or none = a := by cases a <;> rfl
/-- applying lists one after the other -/
def doneL (its : List Ed) (L : List (List Ed)) : List Ed := L.foldl doneN its
theorem doneL_snoc (its : List Ed) (L : List (List Ed)) (l : List Ed) : doneL its (L ++ [l]) = doneN (doneL its L) l := by simp [doneL]
theorem doneL_all (L : List (List Ed)) : ∀ its : List Ed, up its → (∀ l ∈ L, up l) → up (doneL its L) ∧ ∀ k, fd (doneL its L) k = aft (lst L.flatten k) (fd its k) := by
  induction L using snoc_ind with
  | h0 => exact fun its h _ => ⟨h, fun k => rfl⟩
  | hs L l ih =>
    intro its h1 h2
    obtain ⟨hu, hf⟩ := ih its h1 (fun l hl => h2 l (by simp [hl]))
    have hl := h2 l (by simp)
    rw [doneL_snoc]
    refine ⟨doneN_up hu hl, fun k => ?_⟩
    rw [doneN_fd hu hl, hf, List.flatten_append, lst_append]
    simp only [List.flatten_cons, List.flatten_nil, List.append_nil]
    rw [lst_up hl]
    cases fd l k <;> rfl
theorem doneL_eq {its : List Ed} {L : List (List Ed)} (h1 : up its) (h2 : ∀ l ∈ L, up l) : doneL its L = doneN its (srt L.flatten) :=
  up_ext (doneL_all L its h1 h2).1 (doneN_up h1 (srt_up _)) fun k => by rw [(doneL_all L its h1 h2).2, doneN_fd h1 (srt_up _), srt_fd]
theorem doneN_twice {its es : List Ed} (h1 : up its) (h2 : up es) : doneN (doneN its es) es = doneN its es :=
  up_ext (doneN_up (doneN_up h1 h2) h2) (doneN_up h1 h2) fun k => by
    rw [doneN_fd (doneN_up h1 h2) h2, doneN_fd h1 h2]
    cases fd es k <;> rfl
/-- a group merged ahead changes nothing -/
theorem srt_group (a b c : List Ed) : srt (a ++ srt b ++ c) = srt (a ++ b ++ c) := srt_of (srt_up _) fun k => by
  rw [srt_fd, lst_append, lst_append, lst_append, lst_append, lst_up (srt_up b), srt_fd]
theorem srt_double {l : List Ed} (hu : up l) : srt (l ++ l) = l := (srt_of hu fun k => by rw [lst_append, lst_up hu]; cases fd l k <;> rfl).symm
/-! ### contents apart from where they lie -/
def Ed.nrm (e : Ed) : Ed := ⟨none, e.key.length, 0, e.key, e.put, none, e.val.length, 0, e.val, e.int, e.n⟩
theorem nrm_con {e f : Ed} : e.nrm = f.nrm ↔ e.con = f.con := by
  constructor
  · intro h
    unfold Ed.nrm at h
    injection h with h1 h2 h3 h4 h5 h6 h7 h8 h9 h10 h11
    unfold Ed.con
    rw [h4, h5, h9, h10, h11]
  · intro h
    unfold Ed.con at h
    simp only [Prod.mk.injEq] at h
    obtain ⟨h1, h2, h3, h4, h5⟩ := h
    unfold Ed.nrm
    rw [h1, h2, h3, h4, h5]
theorem nrm_conI {e f : Ed} (h : e.nrm = f.nrm) : e.conI = f.conI := by
  have h := nrm_con.1 h
  unfold Ed.con at h
  simp only [Prod.mk.injEq] at h
  unfold Ed.conI
  rw [h.1, h.2.2.1, h.2.2.2.1, h.2.2.2.2]
theorem nrms_same {a b : List Ed} : a.map Ed.nrm = b.map Ed.nrm → same a b = true := fun h => by
  refine same_yes (by simpa using congrArg List.length h) fun i h1 h2 => ?_
  rw [sameB_iff, ← nrm_con]
  have := congrArg (fun l => l[i]?) h
  simpa [h1, h2] using this
theorem nrms_sameI {a b : List Ed} : a.map Ed.nrm = b.map Ed.nrm → sameI a b = true := fun h => by
  refine sameI_yes (by simpa using congrArg List.length h) fun i h1 h2 => ?_
  rw [sameIB_iff]
  refine nrm_conI ?_
  have := congrArg (fun l => l[i]?) h
  simpa [h1, h2] using this
theorem ins_nrm (x : Ed) : ∀ l : List Ed, (ins x l).map Ed.nrm = ins x.nrm (l.map Ed.nrm)
  | [] => rfl
  | e :: r => by
    rw [ins, List.map_cons, ins]
    show _ = if Mg.lt e.key x.key = true then _ else if e.key = x.key then _ else _
    split
    · rw [List.map_cons, ins_nrm x r]
    · split <;> rfl
theorem srt_nrm (l : List Ed) : (srt l).map Ed.nrm = srt (l.map Ed.nrm) := by
  induction l using snoc_ind with
  | h0 => rfl
  | hs l x ih => rw [srt_snoc, ins_nrm, ih, List.map_append, List.map_singleton, srt_snoc]
theorem lay_nrm (x : Ed) : (lay x).map Ed.nrm = lay x.nrm := by
  unfold lay
  show _ = if x.put = true then _ else _
  split <;> rfl
theorem doneN_nrm (its es : List Ed) : (doneN its es).map Ed.nrm = doneN (its.map Ed.nrm) (es.map Ed.nrm) := by
  induction its, es using doneN.induct with
  | case1 its => rw [doneN_nil, List.map_nil, doneN_nil]
  | case2 x es ih => rw [doneN_none, List.map_append, lay_nrm, ih, List.map_nil, List.map_cons, doneN_none]
  | case3 i r x es h ih => rw [doneN_less h, List.map_cons, ih, List.map_cons, List.map_cons, doneN_less (i := i.nrm) (x := x.nrm) h]
  | case4 i r x es h h2 ih => rw [doneN_same (by simpa using h) h2, List.map_append, lay_nrm, ih, List.map_cons, List.map_cons, doneN_same (i := i.nrm) (x := x.nrm) (show Mg.lt i.key x.key = false by simpa using h) h2]
  | case5 i r x es h h2 ih => rw [doneN_more (by simpa using h) h2, List.map_append, lay_nrm, ih, List.map_cons, List.map_cons, doneN_more (i := i.nrm) (x := x.nrm) (show Mg.lt i.key x.key = false by simpa using h) h2]
theorem may_nrm {w : World} {B : Nat} {e : Ed} (h : e.Ok w B) : e.nrm.may = e.may := by
  show mayB e.key.length e.val.length e.put e.int e.n = mayB e.kn e.vn e.put e.int e.n
  rw [h.klen, h.vlen]
theorem all_nrm {w : World} {B : Nat} : ∀ {l : List Ed}, (∀ e ∈ l, e.Ok w B) → (l.map Ed.nrm).all Ed.may = l.all Ed.may
  | [], _ => rfl
  | e :: l, h => by rw [List.map_cons, List.all_cons, List.all_cons, may_nrm (h e (by simp)), all_nrm (fun f hf => h f (by simp [hf]))]
theorem keys_nrm (l : List Ed) : keys (l.map Ed.nrm) = keys l := by
  unfold keys
  rw [List.map_map]
  rfl
theorem up_nrm {l : List Ed} : up (l.map Ed.nrm) ↔ up l := by unfold up; rw [keys_nrm]
theorem right_nrm {w : World} {B : Nat} {l : List Ed} (h : ∀ e ∈ l, e.Ok w B) : right (l.map Ed.nrm) = right l := by
  unfold right
  rw [all_nrm h, keys_nrm]
theorem right_same {w w' : World} {B B' : Nat} {a b : List Ed} (ha : ∀ e ∈ a, e.Ok w B) (hb : ∀ e ∈ b, e.Ok w' B') (h : a.map Ed.nrm = b.map Ed.nrm) : right a = right b := by
  rw [← right_nrm ha, ← right_nrm hb, h]
end Go.Proofs.Ytgliindhndcceaa
