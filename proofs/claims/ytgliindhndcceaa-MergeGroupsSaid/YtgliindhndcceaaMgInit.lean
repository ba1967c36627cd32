/- Rows of edits; the heap that they begin with. -/
import Derived.Test.YtgliindhndcceaaMgInv
namespace Go.Proofs.Ytgliindhndcceaa
open Go.RowKit

/-- a row of edits, as it lies in memory -/
structure Rw where
  A : Option Addr
  n : Nat
  c : Nat
  row : List Ed
def Rw.val (r : Rw) : Value := .slice r.A r.n r.c
def flat (L : List Rw) : List Ed := L.flatMap Rw.row
theorem flat_snoc (L : List Rw) (l : Rw) : flat (L ++ [l]) = flat L ++ l.row := by simp [flat]
/-- THE SLICE VALUE '.slice A n c' READS AS THE ROWS L. -/
structure Rows2 (w : World) (B : Nat) (A : Option Addr) (n c : Nat) (L : List Rw) : Prop where
  cells : Reads w B 1 A n (L.map Rw.val)
  ok : ∀ r ∈ L, Row w B r.A r.n r.c r.row
  cap : n ≤ c
  max : c ≤ maxLen
section
variable {w w' : World} {B B' : Nat} {A : Option Addr} {n c : Nat} {L : List Rw}
theorem Rows2.len (h : Rows2 w B A n c L) : L.length = n := by have := h.cells.len; rwa [List.length_map] at this
theorem Rows2.more (h : Rows2 w B A n c L) (hB : B ≤ B') : Rows2 w B' A n c L := ⟨h.cells.more hB, fun e he => (h.ok e he).more hB, h.cap, h.max⟩
theorem Rows2.below (h : Rows2 w B A n c L) (hb : Below B w w') : Rows2 w' B A n c L := ⟨h.cells.below hb, fun e he => (h.ok e he).below hb, h.cap, h.max⟩
theorem Rows2.on (h : Rows2 w w.heap.size A n c L) (hb : Below w.heap.size w w') : Rows2 w' w'.heap.size A n c L := (h.below hb).more hb.size
theorem Rows2.cell (h : Rows2 w B A n c L) {k : Nat} (hk : k < L.length) : ∃ b o, A = some ⟨b, o, none⟩ ∧ b < B ∧ w.cell? ⟨b, o + k, none⟩ = some (.slice L[k].A L[k].n L[k].c) :=
  h.cells.cell (by rw [← h.len]; exact hk) (by rw [List.getElem?_map, List.getElem?_eq_getElem hk]; rfl)
end
/-- the rests that rows begin with -/
def rsOf : List Rw → Nat → List Rst
  | [], _ => []
  | l :: r, i => (if l.row = [] then [] else [⟨l.A, l.n, l.c, l.row, i⟩]) ++ rsOf r (i + 1)
theorem rsOf_snoc (l : Rw) : ∀ (L : List Rw) (i : Nat), rsOf (L ++ [l]) i = rsOf L i ++ (if l.row = [] then [] else [⟨l.A, l.n, l.c, l.row, i + L.length⟩])
  | [], i => by simp [rsOf]
  | m :: L, i => by
    rw [List.cons_append, rsOf, rsOf_snoc l L (i + 1), rsOf, List.append_assoc, List.length_cons, show i + 1 + L.length = i + (L.length + 1) by omega]
theorem rsOf_pl {r : Rst} : ∀ {L : List Rw} {i : Nat}, r ∈ rsOf L i → i ≤ r.pl ∧ r.pl < i + L.length ∧ r.row ≠ [] ∧ ∃ l ∈ L, r.A = l.A ∧ r.n = l.n ∧ r.c = l.c ∧ r.row = l.row
  | [], i, h => by cases h
  | l :: L, i, h => by
    rw [rsOf] at h
    rcases List.mem_append.1 h with h | h
    · split at h
      · cases h
      · rename_i hne
        obtain rfl : r = _ := by simpa using h
        exact ⟨Nat.le_refl _, by simp, hne, l, by simp, rfl, rfl, rfl, rfl⟩
    · obtain ⟨h1, h2, h3, l', hl', h4⟩ := rsOf_pl h
      exact ⟨by omega, by rw [List.length_cons]; omega, h3, l', by simp [hl'], h4⟩
theorem rsOf_nodup : ∀ (L : List Rw) (i : Nat), ((rsOf L i).map Rst.pl).Nodup
  | [], _ => List.nodup_nil
  | l :: L, i => by
    rw [rsOf, List.map_append, List.nodup_append]
    refine ⟨by split <;> simp, rsOf_nodup L (i + 1), fun a ha b hb => ?_⟩
    have ha' : a = i := by
      split at ha
      · cases ha
      · simpa using ha
    obtain ⟨r, hr, rfl⟩ := List.mem_map.1 hb
    have := (rsOf_pl hr).1
    omega
theorem rsOf_best (k : List UInt8) (L : List Rw) (hu : ∀ l ∈ L, up l.row) : (∀ e, Best (rsOf L 0) k e → lst (flat L) k = some e) ∧ (∀ e, lst (flat L) k = some e → ∃ r ∈ rsOf L 0, ∃ f ∈ r.row, f.key = k) := by
  induction L using snoc_ind with
  | h0 =>
    refine ⟨fun e ⟨r, hr, _⟩ => (by cases hr), fun e he => ?_⟩
    cases he
  | hs L l ih =>
    have ih' := ih fun m hm => hu m (by simp [hm])
    have hul := hu l (by simp)
    have hmem : ∀ r, r ∈ rsOf (L ++ [l]) 0 ↔ r ∈ rsOf L 0 ∨ (l.row ≠ [] ∧ r = ⟨l.A, l.n, l.c, l.row, L.length⟩) := by
      intro r
      rw [rsOf_snoc, List.mem_append, Nat.zero_add]
      by_cases h : l.row = []
      · simp [h]
      · simp [h]
    rw [flat_snoc, lst_append, lst_up hul]
    cases hf : fd l.row k with
    | some f =>
      obtain ⟨hfm, hfk⟩ := fd_some hf
      have hne : l.row ≠ [] := by intro h; rw [h] at hfm; cases hfm
      refine ⟨fun e ⟨r, hr, he, hke, hmax⟩ => ?_, fun e _ => ⟨_, (hmem _).2 (.inr ⟨hne, rfl⟩), f, hfm, hfk⟩⟩
      rcases (hmem r).1 hr with hr | ⟨_, rfl⟩
      · have h1 := (rsOf_pl hr).2.1
        have h2 := hmax _ ((hmem _).2 (.inr ⟨hne, rfl⟩)) f hfm hfk
        have h3 : L.length ≤ r.pl := h2
        omega
      · have he' : e ∈ l.row := he
        rw [up_mem_key hul he' hfm (hke.trans hfk.symm)]
        rfl
    | none =>
      rw [Option.none_or]
      have hno := fd_none hf
      refine ⟨fun e ⟨r, hr, he, hke, hmax⟩ => ?_, fun e he => ?_⟩
      · rcases (hmem r).1 hr with hr | ⟨_, rfl⟩
        · exact ih'.1 e ⟨r, hr, he, hke, fun s hs f hf hkf => hmax s ((hmem s).2 (.inl hs)) f hf hkf⟩
        · exact absurd hke (hno e he)
      · obtain ⟨r, hr, h⟩ := ih'.2 e he
        exact ⟨r, (hmem r).2 (.inl hr), h⟩
theorem MI.start {L : List Rw} (hu : ∀ l ∈ L, up l.row) {H : List Rst} (hh : heapTo H H.length) (hp : H.Perm (rsOf L 0)) : MI (srt (flat L)) 0 H := by
  have hm : ∀ r, r ∈ H ↔ r ∈ rsOf L 0 := fun r => hp.mem_iff
  refine ⟨hh, fun r hr => ?_, ?_, Nat.zero_le _, fun k _ => ?_, fun h => absurd h (by omega)⟩
  · obtain ⟨_, _, h3, l, hl, _, _, _, h4⟩ := rsOf_pl ((hm r).1 hr)
    exact ⟨h3, by rw [h4]; exact hu l hl⟩
  · rw [(hp.map Rst.pl).nodup_iff]; exact rsOf_nodup L 0
  · have hb := rsOf_best k L hu
    rw [srt_fd]
    refine ⟨fun e ⟨r, hr, he, hke, hmax⟩ => hb.1 e ⟨r, (hm r).1 hr, he, hke, fun s hs f hf hkf => hmax s ((hm s).2 hs) f hf hkf⟩, fun e he => ?_⟩
    obtain ⟨r, hr, h⟩ := hb.2 e he
    exact ⟨r, (hm r).2 hr, h⟩
theorem rsOf_len : ∀ (L : List Rw) (i : Nat), (rsOf L i).length ≤ L.length
  | [], _ => Nat.le_refl _
  | l :: L, i => by
    rw [rsOf, List.length_append, List.length_cons]
    have := rsOf_len L (i + 1)
    split <;> simp <;> omega
end Go.Proofs.Ytgliindhndcceaa
