/- A range over a function that keeps its place in a box of its own: the contract of such a function, and the loop over it. -/
import Derived.Test.YtbnibiealnogdaaDoorUtfBytes
namespace Go.Proofs.YtbnibiealnogdaaDoor
open Go.RowKit Go.Shelf Go.Sort

/-- the contract: the function turns, of what was there, the box Ba alone; a round that goes on keeps Kp -/
def SeqBoxed {α : Type} (n : Nat) (P : Program) (g : Nat) (lb : Array Value) (encs : α → Array Value) (Ba : Nat) (Kp : World → World → Prop) (S Sp : List α → Prop) (N : Nat) (w : World) : Prop :=
  ∀ (l : Nat) (J Jx : List α → World → Prop) (W : World), Below w.heap.size w W →
    (∀ s A B, J s A → Below A.heap.size A B → J s B) → (∀ s A v, J s A → J s (A.setCell ⟨Ba, 0, none⟩ v)) →
    (∀ pre x W1, J pre W1 → pre.length < N → YieldAt Fence.wide (n - 1) P l (encs x) W1 fun e W' =>
      (e = .returned (.bool true) ∧ J (pre ++ [x]) W' ∧ Kp W1 W') ∨ (e = .returned (.bool false) ∧ Jx (pre ++ [x]) W')) →
    J [] W →
    CallsIn Fence.wide n P g (#[.func (.yield l) #[] #[]] ++ lb) W fun e W' => (∃ v, e = .returned v) ∧ ((∃ xs, S xs ∧ J xs W') ∨ (∃ pre, Sp pre ∧ Jx pre W'))

theorem below_obj {W V : World} {k : Nat} {o : Obj} (h : W.heap[k]? = some o) (hb : Below W.heap.size W V) : V.heap[k]? = some o :=
  (hb.block k (Array.getElem?_eq_some_iff.1 h).1).trans h
variable {n : Nat} {P : Program}
/-- THE LOOP -/
theorem range_boxed {α : Type} {g : Operand} {ps : Array Tmp} {assign body : Code} {Q : Exit → Act → World → Prop} {a : Act} {w : World} {gf Ba N : Nat} {lb : Array Value} {encs : α → Array Value}
    {Kp : World → World → Prop} {S Sp : List α → Prop} (h1 : 1 ≤ n) (hg : a.eval g = .func (.func gf) #[] lb) (eg : ∀ args w, (callFunc gf args).run P w = .ok (.enter gf args) w)
    (hBa : Ba < w.heap.size) (hseq : SeqBoxed (n - 1) P gf lb encs Ba Kp S Sp N w) (hps : ∀ x, (encs x).size = ps.size)
    (hKt : ∀ {A B C : World}, Kp A B → Kp B C → Kp A C) (hKb : ∀ (W : World) (l : Nat) (o o' : Obj), w.heap.size ≤ l → W.heap[l]? = some o → o.isCells = false → Kp W (W.putObj l o'))
    (I Ix : List α → World → Prop) (out : Nat)
    (hIb : ∀ s A B, I s A → Below A.heap.size A B → I s B) (hIp : ∀ s A l o o', I s A → w.heap.size ≤ l → A.heap[l]? = some o → o.isCells = false → I s (A.putObj l o'))
    (hIs : ∀ s A v, I s A → I s (A.setCell ⟨Ba, 0, none⟩ v)) (hXp : ∀ s A l o o', Ix s A → w.heap.size ≤ l → A.heap[l]? = some o → o.isCells = false → Ix s (A.putObj l o'))
    (h0 : I [] w) (act : α → Act)
    (hassign : ∀ (l : Nat) (x : α) (W : World) (K : Act → World → Prop), K (act x) W →
      assign.wpIn (Fence.wide.inRound l) (n - 1 - 1) P (Exit.then K (fun _ _ _ => False)) { tmps := (ps.zip (encs x)).foldl (fun t (p, v) => t.setIfInBounds p v) a.tmps, defers := [] } W)
    (hbody : ∀ (l : Nat) (pre : List α) (x : α) (W : World), I pre W → pre.length < N → body.wpIn (Fence.wide.inRound l) (n - 1 - 1) P
      (ownPostG w.heap.size Kp I (fun c s W' => c = .exit out ∧ Ix s W') (pre ++ [x]) W) (act x) W)
    (hdone : ∀ (D : Nat) (xs : List α) (W : World), w.heap.size ≤ D → S xs → I xs W → W.heap[D]? = some (.deferred (some [])) → Q .normal { a with defers := { target := .collected D, args := #[] } :: a.defers } W)
    (hstop : ∀ (D : Nat) (pre : List α) (W : World), w.heap.size ≤ D → Sp pre → Ix pre W → W.heap[D]? = some (.deferred (some [])) → (Code.exit out).wpIn Fence.wide n P Q { a with defers := { target := .collected D, args := #[] } :: a.defers } W) :
    (Code.rangeFunc g ps assign body).wpIn Fence.wide n P Q a w := by
  refine wpIn_rangeFunc fun fn hfn => ?_
  obtain ⟨H, hH⟩ : ∃ H, H = w.heap.size := ⟨_, rfl⟩
  obtain ⟨R, hR⟩ : ∃ R : LoopState → Option Code → Obj, R = fun st pe => .loop { state := st, pending := pe, fn, tmps := a.tmps, params := ps, assign, body, defers := H } := ⟨_, rfl⟩
  -- the two blocks of the books
  obtain ⟨Bk, hBk⟩ : ∃ Bk : LoopState → Option Code → World → Prop, Bk = fun st pe W => W.heap[H + 1]? = some (R st pe) ∧ W.heap[H]? = some (.deferred (some [])) := ⟨_, rfl⟩
  have bkB : ∀ st pe A B, Bk st pe A → Below A.heap.size A B → Bk st pe B := fun st pe A B h hb => by rw [hBk] at h ⊢; exact ⟨below_obj h.1 hb, below_obj h.2 hb⟩
  have bkS : ∀ st pe A v, Bk st pe A → Bk st pe (A.setCell ⟨Ba, 0, none⟩ v) := fun st pe A v h => by
    rw [hBk] at h ⊢
    exact ⟨(Below.heap_setCell A _ v _ (by simp; omega)).trans h.1, (Below.heap_setCell A _ v _ (by simp; omega)).trans h.2⟩
  have bkP : ∀ st pe st' pe' A, Bk st pe A → Bk st' pe' (A.putObj (H + 1) (R st' pe')) := fun st pe st' pe' A h => by
    rw [hBk] at h ⊢
    exact ⟨World.putObj_heap_same (Array.getElem?_eq_some_iff.1 h.1).1, (World.putObj_heap_other (by omega)).trans h.2⟩
  have rec1 : ∀ st pe A, Bk st pe A → A.heap[H + 1]? = some (R st pe) := fun st pe A h => by rw [hBk] at h; exact h.1
  obtain ⟨W1, hW1⟩ : ∃ W1, W1 = (w.alloc (.deferred (some []))).alloc (R .ready none) := ⟨_, rfl⟩
  have hb1 : Below w.heap.size w W1 := by rw [hW1]; exact below_then (below_alloc w _) (below_alloc _ _)
  have hB1 : Bk .ready none W1 := by
    rw [hBk, hW1]
    refine ⟨?_, below_obj (by rw [hH]; exact heap_alloc_new w _) (below_alloc _ _)⟩
    have := heap_alloc_new (w.alloc (.deferred (some []))) (R .ready none)
    rwa [World.size_alloc, ← hH] at this
  refine ⟨H + 1, [{ target := .collected H, args := #[] }], W1, { target := .fn (.func gf) lb, args := #[.func (.yield (H + 1)) #[] #[]] }, W1, gf, #[.func (.yield (H + 1)) #[] #[]] ++ lb, W1, ?_, ?_, ?_, ?_, fun _ => h1, ?_⟩
  · have := run_enterLoop_outer (P := P) (w := w) fn a.tmps ps assign body
    rw [hW1, hR, hH]
    exact this
  · simp only [resolve, hg]
    simp [go_sem]
  · intro f' _; trivial
  · simp [invoke, go_sem, eg]
  · have fin : ∀ (jump : Option Code) (W W3 : World), Bk .ready none W → KeepsFrom H (W.putObj (H + 1) (R .busy none)) W3 →
        (Instr.endRound (H + 1) jump).run P W3 = .ok (.bool jump.isNone) (W3.putObj (H + 1) (R (if jump.isNone then .ready else .done) jump)) ∧ Bk .busy none W3 := fun jump W W3 hb hk => by
      have h2 := bkP _ _ .busy none _ hb
      have h3 : Bk .busy none W3 := by
        rw [hBk] at h2 ⊢
        exact ⟨hk.same _ _ (by omega) h2.1 (by rw [hR]; rfl), hk.same _ _ (Nat.le_refl _) h2.2 rfl⟩
      have h4 := rec1 _ _ _ h3
      rw [hR] at h4 ⊢
      exact ⟨run_endRound jump h4, h3⟩
    refine (hseq (H + 1) (fun pre W => I pre W ∧ Bk .ready none W) (fun pre W => Ix pre W ∧ Bk .done (some (.exit out)) W) W1 hb1 (fun s A B h hb => ⟨hIb s A B h.1 hb, bkB _ _ A B h.2 hb⟩)
      (fun s A v h => ⟨hIs s A v h.1, bkS _ _ A v h.2⟩) ?_ ⟨hIb _ _ _ h0 hb1, hB1⟩).mono ?_
    · rintro pre x W ⟨hi, hb⟩ hlen
      have hl := rec1 _ _ _ hb
      have hl' := hl
      rw [hR] at hl'
      refine ⟨fn, _, assign, body, run_yield (args := encs x) hl' (hps x), roundIn_of_wpIn hfn (hassign _ x W _ ⟨W.putObj (H + 1) (R .busy none), by rw [hR]; exact run_beginRound hl' rfl, ?_⟩)⟩
      refine wpIn_mono (hbody _ pre x _ (hIp _ _ _ _ _ hi (by omega) hl (by rw [hR]; rfl)) hlen) ?_
      have hK1 : Kp W (W.putObj (H + 1) (R .busy none)) := hKb _ _ _ _ (by omega) hl (by rw [hR]; rfl)
      rintro e a3 W3 hp
      cases e with
      | normal =>
        obtain ⟨hk3, hkp3, hi3⟩ := hp
        rw [← hH] at hk3
        obtain ⟨hr, hb3⟩ := fin none W W3 hb hk3
        have h3 := rec1 _ _ _ hb3
        exact ⟨_, _, hr, .inl ⟨rfl, ⟨hIp _ _ _ _ _ hi3 (by omega) h3 (by rw [hR]; rfl), bkP _ _ _ _ _ hb3⟩, hKt (hKt hK1 hkp3) (hKb _ _ _ _ (by omega) h3 (by rw [hR]; rfl))⟩⟩
      | exit id =>
        obtain ⟨hk3, hid, hi3⟩ := hp
        rw [← hH] at hk3
        obtain ⟨hr, hb3⟩ := fin (some (.exit id)) W W3 hb hk3
        have h3 := rec1 _ _ _ hb3
        have hio : id = out := by injection hid
        subst hio
        exact ⟨_, _, hr, .inr ⟨rfl, hXp _ _ _ _ _ hi3 (by omega) h3 (by rw [hR]; rfl), bkP _ _ _ _ _ hb3⟩⟩
      | ret => exact absurd hp.2.1 (by simp)
      | goto t => exact absurd hp.2.1 (by simp)
      | panic ch => exact hp.elim
      | outgrown => exact hp.elim
    · rintro e W2 ⟨⟨v, rfl⟩, (⟨xs, hS, hi, hb⟩ | ⟨pre, hSp, hi, hb⟩)⟩
      · have h3 := rec1 _ _ _ hb
        have hd : (W2.putObj (H + 1) (R .exhausted none)).heap[H]? = some (.deferred (some [])) := by have := bkP _ _ .exhausted none _ hb; rw [hBk] at this; exact this.2
        have h3' := h3
        rw [hR] at h3'
        refine ⟨none, W2.putObj (H + 1) (R .exhausted none), by rw [hR]; exact run_endLoop h3' (by simp), ?_⟩
        exact hdone H xs _ (by omega) hS (hIp _ _ _ _ _ hi (by omega) h3 (by rw [hR]; rfl)) hd
      · have h3 := rec1 _ _ _ hb
        have hd : (W2.putObj (H + 1) (R .exhausted (some (.exit out)))).heap[H]? = some (.deferred (some [])) := by have := bkP _ _ .exhausted (some (.exit out)) _ hb; rw [hBk] at this; exact this.2
        have h3' := h3
        rw [hR] at h3'
        refine ⟨some (.exit out), W2.putObj (H + 1) (R .exhausted (some (.exit out))), by rw [hR]; exact run_endLoop h3' (by simp), ?_⟩
        exact hstop H pre _ (by omega) hSp (hXp _ _ _ _ _ hi (by omega) h3 (by rw [hR]; rfl)) hd
end Go.Proofs.YtbnibiealnogdaaDoor
