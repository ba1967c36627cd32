/- The rule of Dag for a region that makes several blocks: the marked operations' pointers are apart. No program in sight. -/
import Derived.Test.YtgliindhndcceaaDag
namespace Go.Proofs.Ytgliindhndcceaa
open Go.RowKit
namespace Dag
section
variable {P : Program}
/-- What is asked of each operation; a marked one makes a block. -/
def allOps2 (P : Program) (ops : Array Oper) (Φ : Nat → Value → World → Prop) (S : Nat → Bool) (A : Act) (vs : Nat → Value) (w : World) : Nat → List Oper → Prop
  | _, [] => True
  | i, o :: r => (deps Φ vs w o.after.toList →
      if Region.wanted o (yielded ops A.tmps) then gives P o A w (fun v w' => Below w.heap.size w w' ∧ Φ i v w' ∧ (S i = true → ∃ k, v = .pointer (some ⟨k, 0, none⟩) ∧ w.heap.size ≤ k)) else Φ i undef w ∧ S i = false) ∧ allOps2 P ops Φ S A vs w (i + 1) r
theorem allOps2_at {ops : Array Oper} {Φ : Nat → Value → World → Prop} {S : Nat → Bool} {A : Act} {vs : Nat → Value} {w : World} : ∀ (p : List Oper) (i j : Nat) (o : Oper), allOps2 P ops Φ S A vs w i p → p[j]? = some o →
    deps Φ vs w o.after.toList →
      if Region.wanted o (yielded ops A.tmps) then gives P o A w (fun v w' => Below w.heap.size w w' ∧ Φ (i + j) v w' ∧ (S (i + j) = true → ∃ k, v = .pointer (some ⟨k, 0, none⟩) ∧ w.heap.size ≤ k)) else Φ (i + j) undef w ∧ S (i + j) = false
  | [], _, _, _, _, h => by simp at h
  | x :: r, i, 0, o, h, ho => by
    obtain rfl : x = o := by simpa using ho
    exact h.1
  | x :: r, i, j + 1, o, h, ho => by
    have := allOps2_at r (i + 1) j o h.2 (by simpa using ho)
    rwa [show i + (j + 1) = i + 1 + j by omega]
section
variable {l : List Oper} {n : Nat} {Φ : Nat → Value → World → Prop} {S : Nat → Bool} {a0 : Act} {w0 : World} {L : Array Bool} {a : Act} {w : World} {vs : Nat → Value}
/-- the marked values are apart -/
def Apart (S : Nat → Bool) (n : Nat) (L : Array Bool) (vs : Nat → Value) : Prop := ∀ i j, i < n → j < n → S i = true → S j = true → i ≠ j → L.getD i false = true → L.getD j false = true → vs i ≠ vs j
theorem wpAny_facts2 {Q : Exit → Act → World → Prop} (hn : n ≤ l.length) (hs : Region.noSelect l.toArray = true) (hB : (List.range n).all (depsB l.toArray n) = true)
    (hsink : n = l.toArray.size ∨ (Region.sinkB .any l.toArray n = true ∧ Region.chainB .any l.toArray n = true))
    (hseq : Region.seqB .any l.toArray (l.toArray.size - n) n (Array.replicate n true ++ Array.replicate (l.toArray.size - n) false) = true)
    (hSk : ∀ i v w, S i = true → Φ i v w → ∃ k, v = .pointer (some ⟨k, 0, none⟩) ∧ k < w.heap.size)
    (hst : ∀ i v w w', Below w.heap.size w w' → Φ i v w → Φ i v w')
    (hop : ∀ vs w, Below w0.heap.size w0 w → allOps2 P l.toArray Φ S (fill (l.take n) vs 0 a0) vs w 0 (l.take n))
    (htail : ∀ vs w, Below w0.heap.size w0 w → (∀ i, i < n → Φ i (vs i) w) → (∀ i j, i < n → j < n → S i = true → S j = true → i ≠ j → vs i ≠ vs j) → wpList P l.toArray Q (l.drop n) (fill (l.take n) vs 0 a0) w) :
    ∀ (f : Nat) (L : Array Bool) (a : Act) (w : World) (vs : Nat → Value), Inv l.toArray n Φ a0 w0 L a w vs → Apart S n L vs → cnt L n = f → wpAny P .any l.toArray Q (f + (l.drop n).length) L a w := by
  intro f
  induction f with
  | zero =>
    intro L a w vs inv hap hc
    rw [Nat.zero_add]
    exact all_in hn hseq hB (fun hb hf => htail vs w hb hf fun i j hi hj hsi hsj hne => hap i j hi hj hsi hsj hne (cnt_zero n hc i hi) (cnt_zero n hc j hj)) inv (cnt_zero n hc)
  | succ f ih =>
    intro L a w vs inv hap hc
    obtain ⟨u, hu, hun⟩ := cnt_pos (L := L) n (by omega)
    have hLs : L.size = l.toArray.size := inv.head.size
    rw [show f + 1 + (l.drop n).length = (f + (l.drop n).length) + 1 by omega]
    refine ⟨fun h0 => ?_, fun i hi => ?_⟩
    · obtain ⟨j, hj⟩ := some_ready hB hn hLs u hu hun
      rw [h0] at hj
      cases hj
    · obtain ⟨hi0, o, ho, hall⟩ := mem_ready.1 hi
      have hin : i < n := by
        rcases Nat.lt_or_ge i n with h | h
        · exact h
        · have hsz : i < l.toArray.size := (Array.getElem?_eq_some_iff.1 ho).1
          rcases hsink with h' | ⟨h1, h2⟩
          · omega
          · exact absurd hi (tail_waits h1 h2 (by omega) inv.head _ u rfl hu (getD_in (by rw [hLs]; omega) hun) i h)
      obtain ⟨he, hw⟩ := exec_eq hB hs inv hin ho hall
      have hfacts : ∀ e ∈ o.after.toList, Region.binds .any e = true → Φ e.on (vs e.on) w := fun e he hb => by
        have hd := List.all_eq_true.1 hB i (List.mem_range.2 hin)
        unfold depsB at hd
        simp only [ho, Bool.and_eq_true] at hd
        have h1 := Array.all_eq_true_iff_forall_mem.1 hd.1.1 e (by simpa using he)
        simp [hb] at h1
        exact inv.facts e.on (by omega) (hall e (by simpa using he) hb)
      have hall' := allOps2_at (l.take n) 0 i o (hop vs w inv.below) (take_get hin ho) (deps_of hfacts)
      rw [Nat.zero_add] at hall'
      have hiL : i < L.size := by rw [hLs]; exact (Array.getElem?_eq_some_iff.1 ho).1
      have next : ∀ v w', Below w.heap.size w w' → Φ i v w' → (S i = true → ∃ k, v = .pointer (some ⟨k, 0, none⟩) ∧ w.heap.size ≤ k) → wpAny P .any l.toArray Q (f + (l.drop n).length) (L.setIfInBounds i true) (a.put o.dst v) w' := fun v w' hb hΦ hfr =>
        ih _ _ _ _ (inv.step hB hst hin ho hi hb hΦ) (fun p q hp hq hsp hsq hne hLp hLq => by
          have old : ∀ q, q < n → S q = true → q ≠ i → (L.setIfInBounds i true).getD q false = true → ∃ k, vs q = .pointer (some ⟨k, 0, none⟩) ∧ k < w.heap.size := fun q hq hsq hqi hLq => by
            rw [getD_set_ne false (Ne.symm hqi)] at hLq
            exact hSk q _ _ hsq (inv.facts q hq hLq)
          by_cases hpi : p = i
          · subst hpi
            obtain ⟨k, hv, hk⟩ := hfr hsp
            obtain ⟨k', hv', hk'⟩ := old q hq hsq (Ne.symm hne) hLq
            simp only [if_true, if_neg (Ne.symm hne)]
            rw [hv, hv']
            intro e
            simp at e
            omega
          · by_cases hqi : q = i
            · subst hqi
              obtain ⟨k, hv, hk⟩ := hfr hsq
              obtain ⟨k', hv', hk'⟩ := old p hp hsp hpi hLp
              simp only [if_true, if_neg hpi]
              rw [hv, hv']
              intro e
              simp at e
              omega
            · simp only [if_neg hpi, if_neg hqi]
              rw [getD_set_ne false (Ne.symm hpi)] at hLp
              rw [getD_set_ne false (Ne.symm hqi)] at hLq
              exact hap p q hp hq hsp hsq hne hLp hLq) (by have := cnt_set (getD_both hi0) hiL n hin; omega)
      unfold wpOp
      simp only [ho]
      rw [hw]
      split
      · rename_i hw1
        rw [if_pos hw1] at hall'
        exact .inl (wp_of_gives he hall' fun v w' ⟨hb, hΦ, hfr⟩ => next v w' hb hΦ hfr)
      · rename_i hw1
        rw [if_neg hw1] at hall'
        exact next undef w (Below.refl _ _) hall'.1 fun h => by rw [hall'.2] at h; cases h
end
/-- THE RULE. -/
theorem wp_region_facts2 {id : Nat} {Q : Exit → Act → World → Prop} {a0 : Act} {w0 : World} {l : List Oper} (n : Nat) (Φ : Nat → Value → World → Prop) (S : Nat → Bool) (hm : P.follows .mixedOrders = true) (hB : dagB l.toArray n = true)
    (hSk : ∀ i v w, S i = true → Φ i v w → ∃ k, v = .pointer (some ⟨k, 0, none⟩) ∧ k < w.heap.size)
    (hst : ∀ i v w w', Below w.heap.size w w' → Φ i v w → Φ i v w')
    (hop : ∀ vs w, Below w0.heap.size w0 w → allOps2 P l.toArray Φ S (fill (l.take n) vs 0 a0) vs w 0 (l.take n))
    (htail : ∀ vs w, Below w0.heap.size w0 w → known Φ vs w 0 n → (∀ i j, i < n → j < n → S i = true → S j = true → i ≠ j → vs i ≠ vs j) → wpList P l.toArray Q (l.drop n) (fill (l.take n) vs 0 a0) w) :
    (Code.region id l.toArray true).wp P Q a0 w0 := by
  simp only [dagB, Bool.and_eq_true, decide_eq_true_eq, Bool.or_eq_true, beq_iff_eq] at hB
  obtain ⟨⟨⟨⟨hs, hn⟩, hd⟩, hsink⟩, hseq⟩ := hB
  have hn' : n ≤ l.length := by simpa using hn
  refine wp_region_any hm ?_
  have hlen : l.toArray.size = n + (l.drop n).length := by simp; omega
  have hcnt : ∀ k, k ≤ l.toArray.size → cnt (Array.replicate l.toArray.size false) k = k := by
    intro k
    induction k with
    | zero => intro _; rfl
    | succ k ih => intro h; rw [cnt, ih (by omega), getD_replicate_false]; rfl
  have inv0 : Inv l.toArray n Φ a0 w0 (Array.replicate l.toArray.size false) a0 { w0 with drawn := w0.drawn + 1 } (fun _ => undef) :=
    ⟨⟨by simp, fun j oj _ hl => (by rw [getD_replicate_false] at hl; cases hl), fun t _ ht => getD_in (by simpa using ht) (getD_replicate_false _ _)⟩,
      (Below.refl _ w0).drew, rfl, rfl, fun _ _ => rfl, fun j o t _ _ _ h _ => (by rw [getD_replicate_false] at h; cases h), fun j _ h => (by rw [getD_replicate_false] at h; cases h)⟩
  have := wpAny_facts2 hn' hs hd hsink hseq hSk hst hop (fun vs w hb hf ha => htail vs w hb (known_of n 0 (by rwa [Nat.zero_add])) ha) n _ _ _ _ inv0 (fun i j _ _ _ _ _ h _ => by rw [getD_replicate_false] at h; cases h) (hcnt n (by omega))
  rwa [← hlen] at this
end


theorem pair_apart {vs : Nat → Value} {S : Nat → Bool} {n i j : Nat} (h : ∀ i j, i < n → j < n → S i = true → S j = true → i ≠ j → vs i ≠ vs j) (hi : i < n) (hj : j < n) (hsi : S i = true) (hsj : S j = true) (hne : i ≠ j)
    {k k' : Nat} (hk : vs i = .pointer (some ⟨k, 0, none⟩)) (hk' : vs j = .pointer (some ⟨k', 0, none⟩)) : k ≠ k' := by
  rintro rfl
  exact h i j hi hj hsi hsj hne (hk.trans hk'.symm)
/-- a block made behind `base`, known whole -/
def Made (base : Nat) (cs : Array Value) (t : TypeId) : Value → World → Prop := fun v w => ∃ k, v = .pointer (some ⟨k, 0, none⟩) ∧ base ≤ k ∧ k < w.heap.size ∧ w.heap[k]? = some (.cells cs t (0, 0))
theorem Stable.made (base : Nat) (cs : Array Value) (t : TypeId) : Stable (Made base cs t) := fun _ _ _ hb ⟨k, hv, hk, hlt, h⟩ => ⟨k, hv, hk, Nat.lt_of_lt_of_le hlt hb.size, by rw [hb.block k hlt]; exact h⟩
def okMarks : List Bool → List (Value → World → Prop) → Prop
  | [], _ => True
  | b :: r, fs => (b = true → ∃ base cs t, fs.getD 0 Any = Made base cs t) ∧ okMarks r fs.tail
theorem okMarks_at : ∀ {S : List Bool} {fs : List (Value → World → Prop)}, okMarks S fs → ∀ i, S.getD i false = true → ∃ base cs t, fs.getD i Any = Made base cs t
  | [], _, _, i, h => by simp at h
  | b :: r, fs, h, 0, hi => h.1 (by simpa using hi)
  | b :: r, fs, h, i + 1, hi => by
    obtain ⟨x, y, z, e⟩ := okMarks_at h.2 i (by simpa using hi)
    refine ⟨x, y, z, ?_⟩
    rw [← e]
    cases fs <;> simp
theorem hsk_of {S : List Bool} {fs : List (Value → World → Prop)} (h : okMarks S fs) : ∀ i v w, S.getD i false = true → list fs i v w → ∃ k, v = .pointer (some ⟨k, 0, none⟩) ∧ k < w.heap.size := by
  intro i v w hi hv
  obtain ⟨x, y, z, e⟩ := okMarks_at h i hi
  unfold list at hv
  rw [e] at hv
  obtain ⟨k, h1, _, h2, _⟩ := hv
  exact ⟨k, h1, h2⟩
/-- a slice over a block made behind `base`, known whole; m elements -/
def MadeS (base m : Nat) (cs : Array Value) (t : TypeId) : Value → World → Prop := fun v w => ∃ k, v = .slice (some ⟨k, 0, none⟩) m m ∧ base ≤ k ∧ k < w.heap.size ∧ w.heap[k]? = some (.cells cs t (0, 0))
theorem Stable.madeS (base m : Nat) (cs : Array Value) (t : TypeId) : Stable (MadeS base m cs t) := fun _ _ _ hb ⟨k, hv, hk, hlt, h⟩ => ⟨k, hv, hk, Nat.lt_of_lt_of_le hlt hb.size, by rw [hb.block k hlt]; exact h⟩
end Dag
end Go.Proofs.Ytgliindhndcceaa
