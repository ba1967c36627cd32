/- A region that draws its order, by facts: what each operation of its first part yields is said once, of whatever world the earlier ones left; the operations behind them (its tail) come in the order of the text. No program in sight. -/
import Derived.Test.YtgliindhndcceaaKit
import Derived.StillTail
import Derived.BigQuiet
import Derived.Laws.Rows
namespace Go.Proofs.Ytgliindhndcceaa
open Go.RowKit
namespace Dag

section
variable {P : Program}

/-- What an operation yields. -/
def gives (P : Program) (o : Oper) (a : Act) (w : World) (Ψ : Value → World → Prop) : Prop :=
  match (execOp a.eval o).run P w with
  | .ok (.value u) w' => Ψ u w'
  | .ok .skip w' => Ψ undef w'
  | .ok (.enter f args) w' => Calls P f args w' fun e w'' => ∃ v, e = .returned v ∧ Ψ v w''
  | _ => False

/-- The frame with what the operations yielded. -/
def fill : List Oper → (Nat → Value) → Nat → Act → Act
  | [], _, _, a => a
  | o :: r, vs, i, a => fill r vs (i + 1) (a.put o.dst (vs i))

/-- What is known of what an operation waits for. -/
def deps (Φ : Nat → Value → World → Prop) (vs : Nat → Value) (w : World) : List Edge → Prop
  | [] => True
  | e :: r => (Region.binds .any e = true → Φ e.on (vs e.on) w) ∧ deps Φ vs w r
theorem deps_of {Φ : Nat → Value → World → Prop} {vs : Nat → Value} {w : World} : ∀ {es : List Edge}, (∀ e ∈ es, Region.binds .any e = true → Φ e.on (vs e.on) w) → deps Φ vs w es
  | [], _ => trivial
  | e :: _, h => ⟨h e (by simp), deps_of fun e' he' => h e' (by simp [he'])⟩

/-- What is asked of each operation. -/
def allOps (P : Program) (ops : Array Oper) (Φ : Nat → Value → World → Prop) (A : Act) (vs : Nat → Value) (w : World) : Nat → List Oper → Prop
  | _, [] => True
  | i, o :: r => (deps Φ vs w o.after.toList →
      if Region.wanted o (yielded ops A.tmps) then gives P o A w (fun v w' => Below w.heap.size w w' ∧ Φ i v w') else Φ i undef w) ∧ allOps P ops Φ A vs w (i + 1) r

def depsB (ops : Array Oper) (n i : Nat) : Bool :=
  match ops[i]? with
  | none => false
  | some o => o.after.all (fun e => !Region.binds .any e || decide (e.on < i)) &&
    (o.looksAt ops).all (fun t => (List.range n).all fun j => (ops[j]?).bind (·.dst) != some t || o.after.any fun e => Region.binds .any e && e.on == j) &&
    (match o.dst with
      | some d => (List.range n).all fun j => j == i || (ops[j]?).bind (·.dst) != some d
      | none => true)

def dagB (ops : Array Oper) (n : Nat) : Bool :=
  Region.noSelect ops && decide (n ≤ ops.size) && (List.range n).all (depsB ops n) && (n == ops.size || (Region.sinkB .any ops n && Region.chainB .any ops n)) &&
  Region.seqB .any ops (ops.size - n) n (Array.replicate n true ++ Array.replicate (ops.size - n) false)

theorem fill_defers (p : List Oper) (vs : Nat → Value) : ∀ (i : Nat) (a : Act), (fill p vs i a).defers = a.defers := by
  induction p with
  | nil => intro i a; rfl
  | cons o r ih =>
    intro i a
    rw [fill, ih]
    cases o.dst <;> rfl
theorem put_size (a : Act) (d : Option Tmp) (v : Value) : (a.put d v).tmps.size = a.tmps.size := by
  cases d <;> simp [Act.put]
theorem fill_size (p : List Oper) (vs : Nat → Value) : ∀ (i : Nat) (a : Act), (fill p vs i a).tmps.size = a.tmps.size := by
  induction p with
  | nil => intro i a; rfl
  | cons o r ih => intro i a; rw [fill, ih, put_size]
theorem put_miss {a : Act} {d : Option Tmp} {v : Value} {t : Nat} (h : d ≠ some t) : (a.put d v).tmps[t]? = a.tmps[t]? := by
  cases d with
  | none => rfl
  | some d => exact Array.getElem?_setIfInBounds_ne (fun e => h (by rw [e]))
theorem fill_miss (vs : Nat → Value) (t : Nat) : ∀ (p : List Oper) (i : Nat) (a : Act), (∀ o ∈ p, o.dst ≠ some t) → (fill p vs i a).tmps[t]? = a.tmps[t]?
  | [], _, _, _ => rfl
  | o :: r, i, a, h => by
    rw [fill, fill_miss vs t r (i + 1) _ (fun o' ho' => h o' (by simp [ho'])), put_miss (h o (by simp))]
theorem fill_hit (vs : Nat → Value) (t : Nat) : ∀ (p : List Oper) (i : Nat) (a : Act) (j : Nat) (o : Oper), p[j]? = some o → o.dst = some t → (∀ k o', p[k]? = some o' → k ≠ j → o'.dst ≠ some t) → t < a.tmps.size →
    (fill p vs i a).tmps[t]? = some (vs (i + j))
  | [], _, _, j, _, h, _, _, _ => by simp at h
  | x :: r, i, a, 0, o, h, hd, hu, ht => by
    obtain rfl : x = o := by simpa using h
    rw [fill, fill_miss vs t r (i + 1) _ (fun o' ho' => by
      obtain ⟨k, hk, rfl⟩ := List.getElem_of_mem ho'
      exact hu (k + 1) r[k] (by simp) (by omega)), hd]
    simp [Act.put, ht]
  | x :: r, i, a, j + 1, o, h, hd, hu, ht => by
    rw [fill, fill_hit vs t r (i + 1) _ j o (by simpa using h) hd (fun k o' hk hne => hu (k + 1) o' (by simpa using hk) (by omega)) (by rw [put_size]; exact ht)]
    congr 2
    omega

theorem allOps_at {ops : Array Oper} {Φ : Nat → Value → World → Prop} {A : Act} {vs : Nat → Value} {w : World} : ∀ (p : List Oper) (i j : Nat) (o : Oper), allOps P ops Φ A vs w i p → p[j]? = some o →
    deps Φ vs w o.after.toList →
      if Region.wanted o (yielded ops A.tmps) then gives P o A w (fun v w' => Below w.heap.size w w' ∧ Φ (i + j) v w') else Φ (i + j) undef w
  | [], _, _, _, _, h => by simp at h
  | x :: r, i, 0, o, h, ho => by
    obtain rfl : x = o := by simpa using ho
    exact h.1
  | x :: r, i, j + 1, o, h, ho => by
    have := allOps_at r (i + 1) j o h.2 (by simpa using ho)
    rwa [show i + (j + 1) = i + 1 + j by omega]

/-- What holds of the state in the middle of the region's first part. -/
structure Inv (ops : Array Oper) (n : Nat) (Φ : Nat → Value → World → Prop) (a0 : Act) (w0 : World) (L : Array Bool) (a : Act) (w : World) (vs : Nat → Value) : Prop where
  head : HeadInv .any ops n L
  below : Below w0.heap.size w0 w
  size : a.tmps.size = a0.tmps.size
  defers : a.defers = a0.defers
  miss : ∀ t, (∀ j o, j < n → ops[j]? = some o → o.dst = some t → L.getD j false = false) → a.tmps[t]? = a0.tmps[t]?
  hit : ∀ j o t, j < n → ops[j]? = some o → o.dst = some t → L.getD j false = true → t < a0.tmps.size → a.tmps[t]? = some (vs j)
  facts : ∀ j, j < n → L.getD j false = true → Φ j (vs j) w

section
variable {l : List Oper} {n : Nat} {Φ : Nat → Value → World → Prop} {a0 : Act} {w0 : World} {L : Array Bool} {a : Act} {w : World} {vs : Nat → Value}

theorem take_get {i : Nat} {o : Oper} (hi : i < n) (ho : l.toArray[i]? = some o) : (l.take n)[i]? = some o := by
  rw [List.getElem?_take, if_pos hi]
  simpa using ho
theorem take_get' {i : Nat} {o : Oper} (ho : (l.take n)[i]? = some o) : i < n ∧ l.toArray[i]? = some o := by
  rw [List.getElem?_take] at ho
  split at ho
  · exact ⟨by assumption, by simpa using ho⟩
  · cases ho

theorem once (hB : (List.range n).all (depsB l.toArray n) = true) {j k t : Nat} {o o' : Oper} (hj : j < n) (ho : l.toArray[j]? = some o) (hd : o.dst = some t) (hk : k < n) (ho' : l.toArray[k]? = some o') (hne : k ≠ j) : o'.dst ≠ some t := by
  have h := List.all_eq_true.1 hB j (List.mem_range.2 hj)
  unfold depsB at h
  simp only [ho, hd, Bool.and_eq_true] at h
  have h2 := List.all_eq_true.1 h.2 k (List.mem_range.2 hk)
  intro e
  simp [ho', e, hne] at h2

/-- A slot that an operation looks at holds what it would hold in the frame with all values in. -/
theorem slot_eq (hB : (List.range n).all (depsB l.toArray n) = true) (inv : Inv l.toArray n Φ a0 w0 L a w vs) {i : Nat} {o : Oper} (hi : i < n) (ho : l.toArray[i]? = some o)
    (hall : ∀ e ∈ o.after, Region.binds .any e = true → L.getD e.on false = true) {t : Nat} (ht : t ∈ o.looksAt l.toArray) : a.tmps[t]? = (fill (l.take n) vs 0 a0).tmps[t]? := by
  have h := List.all_eq_true.1 hB i (List.mem_range.2 hi)
  unfold depsB at h
  simp only [ho, Bool.and_eq_true] at h
  have hlook := List.all_eq_true.1 h.1.2 t ht
  by_cases hex : ∃ j o', j < n ∧ l.toArray[j]? = some o' ∧ o'.dst = some t
  · obtain ⟨j, o', hj, ho', hd⟩ := hex
    have h2 := List.all_eq_true.1 hlook j (List.mem_range.2 hj)
    have hLj : L.getD j false = true := by
      simp only [ho', Option.bind_some, hd, bne_self_eq_false, Bool.false_or] at h2
      obtain ⟨e, he, hb⟩ := Array.any_eq_true'.1 h2
      simp only [Bool.and_eq_true, beq_iff_eq] at hb
      have := hall e he hb.1
      rwa [hb.2] at this
    by_cases hlt : t < a0.tmps.size
    · rw [inv.hit j o' t hj ho' hd hLj hlt, fill_hit vs t (l.take n) 0 a0 j o' (take_get hj ho') hd (fun k o'' hk hne => once hB hj ho' hd (take_get' hk).1 (take_get' hk).2 hne) hlt, Nat.zero_add]
    · rw [Array.getElem?_eq_none (by rw [inv.size]; omega), Array.getElem?_eq_none (by rw [fill_size]; omega)]
  · rw [inv.miss t (fun j o' hj ho' hd => absurd ⟨j, o', hj, ho', hd⟩ hex), fill_miss vs t (l.take n) 0 a0 (fun o' ho' e => by
      obtain ⟨k, hk, rfl⟩ := List.getElem_of_mem ho'
      have hk' : (l.take n)[k]? = some (l.take n)[k] := List.getElem?_eq_getElem hk
      exact hex ⟨k, _, (take_get' hk').1, (take_get' hk').2, e⟩)]

theorem exec_eq (hB : (List.range n).all (depsB l.toArray n) = true) (hs : Region.noSelect l.toArray = true) (inv : Inv l.toArray n Φ a0 w0 L a w vs) {i : Nat} {o : Oper} (hi : i < n) (ho : l.toArray[i]? = some o)
    (hall : ∀ e ∈ o.after, Region.binds .any e = true → L.getD e.on false = true) :
    execOp a.eval o = execOp (fill (l.take n) vs 0 a0).eval o ∧ Region.wanted o (yielded l.toArray a.tmps) = Region.wanted o (yielded l.toArray (fill (l.take n) vs 0 a0).tmps) := by
  have hslot : ∀ t, t ∈ o.looksAt l.toArray → a.tmps[t]? = (fill (l.take n) vs 0 a0).tmps[t]? := fun t ht => slot_eq hB inv hi ho hall ht
  constructor
  · refine execOp_congr o (fun cs b => Region.noSelect_spec hs i o cs b ho) fun x hx => ?_
    cases x with
    | tmp t =>
      have ht : t ∈ o.looksAt l.toArray := List.mem_append_left _ (List.mem_filterMap.2 ⟨.tmp t, by simpa using hx, rfl⟩)
      simp [Act.eval, hslot t ht]
    | _ => rfl
  · unfold Region.wanted
    cases hg : o.guard with
    | none => rfl
    | some gw =>
      obtain ⟨g, want⟩ := gw
      have hy : yielded l.toArray a.tmps g = yielded l.toArray (fill (l.take n) vs 0 a0).tmps g := by
        unfold yielded
        cases ht : (l.toArray[g]?).bind (·.dst) with
        | none => rfl
        | some t =>
          have : t ∈ o.looksAt l.toArray := by
            unfold Oper.looksAt
            refine List.mem_append_right _ ?_
            simp [hg] at ht ⊢
            simpa using ht
          simp [hslot t this]
      simp only [hy]

theorem getD_set_self {L : Array Bool} {i : Nat} (h : i < L.size) : (L.setIfInBounds i true).getD i false = true := by simp [h]

/-- One operation has yielded. -/
theorem Inv.step (hB : (List.range n).all (depsB l.toArray n) = true) (hst : ∀ i v w w', Below w.heap.size w w' → Φ i v w → Φ i v w')
    (inv : Inv l.toArray n Φ a0 w0 L a w vs) {i : Nat} {o : Oper} (hi : i < n) (ho : l.toArray[i]? = some o) (hr : i ∈ Region.ready .any l.toArray L) {v : Value} {w' : World} (hb : Below w.heap.size w w') (hΦ : Φ i v w') :
    Inv l.toArray n Φ a0 w0 (L.setIfInBounds i true) (a.put o.dst v) w' (fun j => if j = i then v else vs j) := by
  have hun := (mem_ready.1 hr).1
  have hiL : i < L.size := by
    rcases Nat.lt_or_ge i L.size with h | h
    · exact h
    · rw [Array.getD_eq_getD_getElem?, Array.getElem?_eq_none h] at hun; cases hun
  refine ⟨inv.head.set hr hi, inv.below.trans (hb.mono inv.below.size), by rw [put_size, inv.size], ?_, fun t ht => ?_, fun j o' t hj ho' hd hL hlt => ?_, fun j hj hL => ?_⟩
  · rw [← inv.defers]; cases o.dst <;> rfl
  · have hne : o.dst ≠ some t := fun e => by
      have := ht i o hi ho e
      rw [getD_set_self hiL] at this
      cases this
    rw [put_miss hne]
    refine inv.miss t fun j o' hj ho' hd => ?_
    have h2 := ht j o' hj ho' hd
    by_cases hij : i = j
    · subst hij
      obtain rfl : o = o' := Option.some.inj (ho.symm.trans ho')
      exact absurd hd hne
    · rwa [getD_set_ne false hij] at h2
  · by_cases hij : j = i
    · subst hij
      obtain rfl : o = o' := Option.some.inj (ho.symm.trans ho')
      have : t < a.tmps.size := by rw [inv.size]; exact hlt
      simp [Act.put, hd, this]
    · rw [getD_set_ne false (Ne.symm hij)] at hL
      rw [put_miss (once hB hj ho' hd hi ho (Ne.symm hij)), if_neg hij]
      exact inv.hit j o' t hj ho' hd hL hlt
  · by_cases hij : j = i
    · subst hij
      simpa using hΦ
    · rw [getD_set_ne false (Ne.symm hij)] at hL
      simp only [if_neg hij]
      exact hst _ _ _ _ hb (inv.facts j hj hL)

def cnt (L : Array Bool) : Nat → Nat
  | 0 => 0
  | k + 1 => cnt L k + if L.getD k false = true then 0 else 1
theorem cnt_same {L : Array Bool} {i : Nat} : ∀ k, k ≤ i → cnt (L.setIfInBounds i true) k = cnt L k
  | 0, _ => rfl
  | k + 1, h => by rw [cnt, cnt, cnt_same k (by omega), getD_set_ne false (by omega)]
theorem cnt_set {L : Array Bool} {i : Nat} (hi : L.getD i false = false) (hs : i < L.size) : ∀ k, i < k → cnt (L.setIfInBounds i true) k + 1 = cnt L k
  | 0, h => by omega
  | k + 1, h => by
    rw [cnt, cnt]
    by_cases hk : i = k
    · subst hk
      rw [cnt_same i (Nat.le_refl _), getD_set_self hs, hi]
      simp
    · rw [getD_set_ne false hk, ← cnt_set hi hs k (by omega)]
      omega
theorem cnt_zero {L : Array Bool} : ∀ k, cnt L k = 0 → ∀ j, j < k → L.getD j false = true
  | 0, _, j, hj => by omega
  | k + 1, h, j, hj => by
    rw [cnt] at h
    by_cases hk : j = k
    · subst hk
      cases hL : L.getD j false with
      | true => rfl
      | false => simp [hL] at h
    · exact cnt_zero k (by omega) j (by omega)
theorem cnt_pos {L : Array Bool} : ∀ k, cnt L k ≠ 0 → ∃ j, j < k ∧ L.getD j false = false
  | 0, h => absurd rfl h
  | k + 1, h => by
    cases hL : L.getD k false with
    | false => exact ⟨k, by omega, hL⟩
    | true =>
      obtain ⟨j, hj, hj'⟩ := cnt_pos (L := L) k (by rw [cnt, hL] at h; simpa using h)
      exact ⟨j, by omega, hj'⟩

theorem some_ready (hB : (List.range n).all (depsB l.toArray n) = true) (hn : n ≤ l.length) (hsz : L.size = l.toArray.size) : ∀ i, i < n → L.getD i false = false → ∃ j, j ∈ Region.ready .any l.toArray L := by
  intro i
  induction i using Nat.strongRecOn with
  | _ i ih =>
    intro hi hun
    have hlt : i < l.toArray.size := by simp; omega
    have ho : l.toArray[i]? = some l.toArray[i] := Array.getElem?_eq_getElem hlt
    by_cases hall : ∀ e ∈ (l.toArray[i]).after, Region.binds .any e = true → L.getD e.on false = true
    · exact ⟨i, mem_ready.2 ⟨getD_in (by omega) hun, _, ho, hall⟩⟩
    · have h := List.all_eq_true.1 hB i (List.mem_range.2 hi)
      unfold depsB at h
      simp only [ho, Bool.and_eq_true] at h
      have : ∃ e ∈ (l.toArray[i]).after, Region.binds .any e = true ∧ L.getD e.on false = false := by
        refine Classical.byContradiction fun hno => hall fun e he hb => ?_
        cases hL : L.getD e.on false with
        | true => rfl
        | false => exact absurd ⟨e, he, hb, hL⟩ hno
      obtain ⟨e, he, hb, hL⟩ := this
      have h1 := Array.all_eq_true_iff_forall_mem.1 h.1.1 e he
      simp [hb] at h1
      exact ih e.on h1 (by omega) hL

theorem wp_of_gives {o : Oper} {A : Act} {Ψ : Value → World → Prop} {K : Act → World → Prop} {Q : Exit → Act → World → Prop} (he : execOp a.eval o = execOp A.eval o) (h : gives P o A w Ψ) (hK : ∀ v w', Ψ v w' → K (a.put o.dst v) w') : o.wp P a w K Q := by
  unfold gives at h
  unfold Oper.wp
  rw [he]
  generalize (execOp A.eval o).run P w = r at *
  cases r with
  | halt x w' => exact h.elim
  | ok nx w' =>
    cases nx <;> simp only [Oper.upon]
    case value u => exact hK _ _ h
    case skip => exact hK _ _ h
    case enter f args =>
      refine Calls.mono h fun e w'' hh => ?_
      obtain ⟨v, rfl, hv⟩ := hh
      exact hK _ _ hv
    all_goals exact h.elim

theorem all_in {Q : Exit → Act → World → Prop} (hn : n ≤ l.length) (hseq : Region.seqB .any l.toArray (l.toArray.size - n) n (Array.replicate n true ++ Array.replicate (l.toArray.size - n) false) = true)
    (hB : (List.range n).all (depsB l.toArray n) = true)
    (htail : Below w0.heap.size w0 w → (∀ i, i < n → Φ i (vs i) w) → wpList P l.toArray Q (l.drop n) (fill (l.take n) vs 0 a0) w)
    (inv : Inv l.toArray n Φ a0 w0 L a w vs) (hall : ∀ j, j < n → L.getD j false = true) : wpAny P .any l.toArray Q (l.drop n).length L a w := by
  have hL : L = Array.replicate n true ++ Array.replicate (l.toArray.size - n) false := by
    apply Array.ext
    · rw [inv.head.size]; simp; omega
    · intro i h1 h2
      by_cases hi : i < n
      · have h3 := hall i hi
        rw [Array.getElem_append_left (by simpa using hi)]
        simpa [h1] using h3
      · have h3 := inv.head.tail i (by omega) (by rw [← inv.head.size]; exact h1)
        rw [Array.getElem_append_right (by simp; omega)]
        simpa [h1] using h3
  have ha : a = fill (l.take n) vs 0 a0 := by
    have hd : a.defers = (fill (l.take n) vs 0 a0).defers := by rw [fill_defers, inv.defers]
    have ht : a.tmps = (fill (l.take n) vs 0 a0).tmps := by
      apply Array.ext_getElem?
      intro t
      by_cases hex : ∃ j o', j < n ∧ l.toArray[j]? = some o' ∧ o'.dst = some t
      · obtain ⟨j, o', hj, ho', hd'⟩ := hex
        by_cases hlt : t < a0.tmps.size
        · rw [inv.hit j o' t hj ho' hd' (hall j hj) hlt, fill_hit vs t (l.take n) 0 a0 j o' (take_get hj ho') hd' (fun k o'' hk hne => once hB hj ho' hd' (take_get' hk).1 (take_get' hk).2 hne) hlt, Nat.zero_add]
        · rw [Array.getElem?_eq_none (by rw [inv.size]; omega), Array.getElem?_eq_none (by rw [fill_size]; omega)]
      · rw [inv.miss t (fun j o' hj ho' hd => absurd ⟨j, o', hj, ho', hd⟩ hex), fill_miss vs t (l.take n) 0 a0 (fun o' ho' e => by
          obtain ⟨k, hk, rfl⟩ := List.getElem_of_mem ho'
          have hk' : (l.take n)[k]? = some (l.take n)[k] := List.getElem?_eq_getElem hk
          exact hex ⟨k, _, (take_get' hk').1, (take_get' hk').2, e⟩)]
    cases a
    generalize fill (l.take n) vs 0 a0 = A at *
    cases A
    simp only at hd ht
    rw [hd, ht]
  rw [ha]
  refine wpAny_of_seq (l.drop n) n L _ w (fun j => by simp) ?_ (htail inv.below fun i hi => inv.facts i hi (hall i hi))
  rw [hL]
  simpa using hseq

theorem wpAny_facts {Q : Exit → Act → World → Prop} (hn : n ≤ l.length) (hs : Region.noSelect l.toArray = true) (hB : (List.range n).all (depsB l.toArray n) = true)
    (hsink : n = l.toArray.size ∨ (Region.sinkB .any l.toArray n = true ∧ Region.chainB .any l.toArray n = true))
    (hseq : Region.seqB .any l.toArray (l.toArray.size - n) n (Array.replicate n true ++ Array.replicate (l.toArray.size - n) false) = true)
    (hst : ∀ i v w w', Below w.heap.size w w' → Φ i v w → Φ i v w')
    (hop : ∀ vs w, Below w0.heap.size w0 w → allOps P l.toArray Φ (fill (l.take n) vs 0 a0) vs w 0 (l.take n))
    (htail : ∀ vs w, Below w0.heap.size w0 w → (∀ i, i < n → Φ i (vs i) w) → wpList P l.toArray Q (l.drop n) (fill (l.take n) vs 0 a0) w) :
    ∀ (f : Nat) (L : Array Bool) (a : Act) (w : World) (vs : Nat → Value), Inv l.toArray n Φ a0 w0 L a w vs → cnt L n = f → wpAny P .any l.toArray Q (f + (l.drop n).length) L a w := by
  intro f
  induction f with
  | zero =>
    intro L a w vs inv hc
    rw [Nat.zero_add]
    exact all_in hn hseq hB (htail vs w) inv (cnt_zero n hc)
  | succ f ih =>
    intro L a w vs inv hc
    obtain ⟨u, hu, hun⟩ := cnt_pos (L := L) n (by omega)
    have hLs : L.size = l.toArray.size := inv.head.size
    rw [show f + 1 + (l.drop n).length = (f + (l.drop n).length) + 1 by omega]
    refine ⟨fun h0 => ?_, fun i hi => ?_⟩
    · obtain ⟨j, hj⟩ := some_ready hB hn hLs u hu hun
      rw [h0] at hj
      cases hj
    · obtain ⟨hi0, o, ho, hall⟩ := mem_ready.1 hi
      have hin : i < n := by
        rcases Nat.lt_or_ge i n with h | h
        · exact h
        · have hsz : i < l.toArray.size := (Array.getElem?_eq_some_iff.1 ho).1
          rcases hsink with h' | ⟨h1, h2⟩
          · omega
          · exact absurd hi (tail_waits h1 h2 (by omega) inv.head _ u rfl hu (getD_in (by rw [hLs]; omega) hun) i h)
      obtain ⟨he, hw⟩ := exec_eq hB hs inv hin ho hall
      have hfacts : ∀ e ∈ o.after.toList, Region.binds .any e = true → Φ e.on (vs e.on) w := fun e he hb => by
        have hd := List.all_eq_true.1 hB i (List.mem_range.2 hin)
        unfold depsB at hd
        simp only [ho, Bool.and_eq_true] at hd
        have h1 := Array.all_eq_true_iff_forall_mem.1 hd.1.1 e (by simpa using he)
        simp [hb] at h1
        exact inv.facts e.on (by omega) (hall e (by simpa using he) hb)
      have hall' := allOps_at (l.take n) 0 i o (hop vs w inv.below) (take_get hin ho) (deps_of hfacts)
      rw [Nat.zero_add] at hall'
      have hiL : i < L.size := by rw [hLs]; exact (Array.getElem?_eq_some_iff.1 ho).1
      have next : ∀ v w', Below w.heap.size w w' → Φ i v w' → wpAny P .any l.toArray Q (f + (l.drop n).length) (L.setIfInBounds i true) (a.put o.dst v) w' := fun v w' hb hΦ =>
        ih _ _ _ _ (inv.step hB hst hin ho hi hb hΦ) (by have := cnt_set (getD_both hi0) hiL n hin; omega)
      unfold wpOp
      simp only [ho]
      rw [hw]
      split
      · rename_i hw1
        rw [if_pos hw1] at hall'
        exact .inl (wp_of_gives he hall' fun v w' ⟨hb, hΦ⟩ => next v w' hb hΦ)
      · rename_i hw1
        rw [if_neg hw1] at hall'
        exact next undef w (Below.refl _ _) hall'
end

def known (Φ : Nat → Value → World → Prop) (vs : Nat → Value) (w : World) : Nat → Nat → Prop
  | _, 0 => True
  | i, n + 1 => Φ i (vs i) w ∧ known Φ vs w (i + 1) n
theorem known_of {Φ : Nat → Value → World → Prop} {vs : Nat → Value} {w : World} : ∀ (n i : Nat), (∀ j, j < i + n → Φ j (vs j) w) → known Φ vs w i n
  | 0, _, _ => trivial
  | n + 1, i, h => ⟨h i (by omega), known_of n (i + 1) fun j hj => h j (by omega)⟩

/-- THE RULE. -/
theorem wp_region_facts {id : Nat} {Q : Exit → Act → World → Prop} {a0 : Act} {w0 : World} {l : List Oper} (n : Nat) (Φ : Nat → Value → World → Prop) (hm : P.follows .mixedOrders = true) (hB : dagB l.toArray n = true)
    (hst : ∀ i v w w', Below w.heap.size w w' → Φ i v w → Φ i v w')
    (hop : ∀ vs w, Below w0.heap.size w0 w → allOps P l.toArray Φ (fill (l.take n) vs 0 a0) vs w 0 (l.take n))
    (htail : ∀ vs w, Below w0.heap.size w0 w → known Φ vs w 0 n → wpList P l.toArray Q (l.drop n) (fill (l.take n) vs 0 a0) w) :
    (Code.region id l.toArray true).wp P Q a0 w0 := by
  simp only [dagB, Bool.and_eq_true, decide_eq_true_eq, Bool.or_eq_true, beq_iff_eq] at hB
  obtain ⟨⟨⟨⟨hs, hn⟩, hd⟩, hsink⟩, hseq⟩ := hB
  have hn' : n ≤ l.length := by simpa using hn
  refine wp_region_any hm ?_
  have hlen : l.toArray.size = n + (l.drop n).length := by simp; omega
  have hcnt : ∀ k, k ≤ l.toArray.size → cnt (Array.replicate l.toArray.size false) k = k := by
    intro k
    induction k with
    | zero => intro _; rfl
    | succ k ih => intro h; rw [cnt, ih (by omega), getD_replicate_false]; rfl
  have inv0 : Inv l.toArray n Φ a0 w0 (Array.replicate l.toArray.size false) a0 { w0 with drawn := w0.drawn + 1 } (fun _ => undef) :=
    ⟨⟨by simp, fun j oj _ hl => (by rw [getD_replicate_false] at hl; cases hl), fun t _ ht => getD_in (by simpa using ht) (getD_replicate_false _ _)⟩,
      (Below.refl _ w0).drew, rfl, rfl, fun _ _ => rfl, fun j o t _ _ _ h _ => (by rw [getD_replicate_false] at h; cases h), fun j _ h => (by rw [getD_replicate_false] at h; cases h)⟩
  have := wpAny_facts hn' hs hd hsink hseq hst hop (fun vs w hb hf => htail vs w hb (known_of n 0 (by rwa [Nat.zero_add]))) n _ _ _ _ inv0 (hcnt n (by omega))
  rwa [← hlen] at this
end

theorem gives_load_row {P : Program} {o : Oper} {a : Act} {w : World} {Ψ : Value → World → Prop} (ty : TypeId) (x : Operand) (ho : o.op = .load ty x)
    (g : Nat) (hx : a.eval x = .pointer (some ⟨g, 0, none⟩)) (t : TypeId) (cs : Array Value) (fr : Nat × Nat) (d : TypeDesc) (hg : w.heap[g]? = some (.cells cs t fr))
    (hu : P.underlying ty = some d) (hd : (match d with | .struct _ | .array _ _ => true | _ => false) = true) (hi : (P.info? ty).map (·.size) = some cs.size) (h : Ψ (.agg cs) w) : gives P o a w Ψ := by
  unfold gives execOp
  simp only [ho, hx, Instr.loadAt, Instr.sureAddr, Sem.run_bind, Sem.run_pure, Result.andThen_ok, run_loadVar_row w g t ty cs fr d hg hu hd hi]
  exact h

/-! ### facts as a list -/
def Stable (φ : Value → World → Prop) : Prop := ∀ v w w', Below w.heap.size w w' → φ v w → φ v w'
def Is (u : Value) : Value → World → Prop := fun v _ => v = u
def Any : Value → World → Prop := fun _ _ => True
/-- a slice that reads as bytes -/
def Sl (l : List UInt8) : Value → World → Prop := fun v w => ∃ A n c, v = .slice A n c ∧ n ≤ c ∧ RB w A n l
theorem Stable.is (u : Value) : Stable (Is u) := fun _ _ _ _ h => h
theorem Stable.any : Stable Any := fun _ _ _ _ _ => trivial
theorem Stable.sl (l : List UInt8) : Stable (Sl l) := fun _ _ _ hb ⟨A, n, c, hv, hc, hr⟩ => ⟨A, n, c, hv, hc, hr.on hb⟩
def list (fs : List (Value → World → Prop)) (i : Nat) : Value → World → Prop := fs.getD i Any
theorem stable_list {fs : List (Value → World → Prop)} (h : ∀ φ ∈ fs, Stable φ) : ∀ i v w w', Below w.heap.size w w' → list fs i v w → list fs i v w' := by
  intro i v w w' hb hv
  unfold list at *
  rw [List.getD_eq_getElem?_getD] at *
  by_cases hi : i < fs.length
  · simp only [List.getElem?_eq_getElem hi, Option.getD_some] at *
    exact h _ (List.getElem_mem hi) v w w' hb hv
  · rw [List.getElem?_eq_none (by omega)]
    exact trivial
end Dag
end Go.Proofs.Ytgliindhndcceaa
