/- The walk of the heap's exchange. -/
import Derived.Test.YtgliindhndcceaaMgHeap
namespace Go.Proofs.Ytgliindhndcceaa
open Go.RowKit

/-- two places exchanged -/
def swp {α : Type} (H : List α) (i j : Nat) : List α := if h : i < H.length ∧ j < H.length then (H.set i H[j]).set j H[i] else H
theorem swp_eq {α : Type} {H : List α} {i j : Nat} (hi : i < H.length) (hj : j < H.length) : swp H i j = (H.set i H[j]).set j H[i] := dif_pos ⟨hi, hj⟩
theorem swp_len {α : Type} (H : List α) (i j : Nat) : (swp H i j).length = H.length := by
  unfold swp
  split <;> simp
theorem grown_setCell (W : World) (b o : Nat) (v : Value) : W.grownBy (W.setCell ⟨b, o, none⟩ v) (some b) :=
  ⟨rfl, rfl, rfl, by simp [World.setCell], fun k _ hne => by
    have : b ≠ k := fun e => hne (by rw [e])
    simp [World.setCell, Array.getElem?_modify, this]⟩
theorem grown_below {B : Nat} {w w' : World} {g : Nat} (h : w.grownBy w' (some g)) (hB : B ≤ g) (hw : B ≤ w.heap.size) : Below B w w' := (Below.refl B w).grown h hw fun k hk => by cases hk; exact hB
theorem grown_of_below {w w' : World} {row : Option Nat} (h : Below w.heap.size w w') : w.grownBy w' row := ⟨h.os, h.tape, h.output, h.size, fun k hk _ => h.block k hk⟩
/-- one rest laid over another one -/
theorem Hp.set {w : World} {F g cap full : Nat} {H : List Rst} (h : Hp w F g cap full H) {k : Nat} (hk : k < H.length) (r : Rst) :
    Hp ((w.setCell ⟨g, k * 2, none⟩ (.slice r.A r.n r.c)).setCell ⟨g, k * 2 + 1, none⟩ (.int .i64 (r.pl : Int))) F g cap full (H.set k r) := by
  obtain ⟨cur, hg, ht, hs⟩ := h.hg
  have h1 := set_cells hg (k * 2) (.slice r.A r.n r.c)
  have h2 := set_cells h1 (k * 2 + 1) (.int .i64 (r.pl : Int))
  have o1 := (grown_setCell w g (k * 2) (.slice r.A r.n r.c)).block F (lt_cells h.hf) (fun e => h.ne (by injection e))
  have o2 := (grown_setCell (w.setCell ⟨g, k * 2, none⟩ (.slice r.A r.n r.c)) g (k * 2 + 1) (.int .i64 (r.pl : Int))).block F (Nat.lt_of_lt_of_le (lt_cells h.hf) (grown_setCell w g (k * 2) (.slice r.A r.n r.c)).size) (fun e => h.ne (by injection e))
  refine ⟨by rw [List.length_set]; exact (o2.trans o1).trans h.hf, ⟨_, h2, ?_, by simp [hs]⟩, h.ne, by rw [List.length_set]; exact h.len, h.fit, h.max⟩
  rw [List.length_set, Array.toList_setIfInBounds, Array.toList_setIfInBounds, ← cellsR_set H k r hk, ← ht, List.take_set, List.take_set]
set_option maxHeartbeats 8000000 in
theorem hswap_lt (F g cap full : Nat) (H : List Rst) (i j : Nat) (w : World) (h : Hp w F g cap full H) (hij : i < j) (hj : j < H.length) :
    Calls Try.prog 67 #[.pointer (some ⟨F, 0, none⟩), .int .i64 (i : Int), .int .i64 (j : Int)] w fun e w' => (∃ v, e = .returned v) ∧ Hp w' F g cap full (swp H i j) ∧ w.grownBy w' (some g) := by
  have HH := hide h
  have hi : i < H.length := by omega
  have HI := hide (h.cell hi)
  have HJ := hide (h.cell hj)
  have hFc := h.fcell
  obtain ⟨i0, i1⟩ := HI.out
  obtain ⟨j0, j1⟩ := HJ.out
  obtain ⟨cur, hg, ht, hs⟩ := h.hg
  have f1 : w.frozen? ⟨g, i * 2, none⟩ = false := frozen_of_row _ _ _ _ _ hg
  have f2 : w.frozen? ⟨g, i * 2 + 1, none⟩ = false := frozen_of_row _ _ _ _ _ hg
  have f3 : w.frozen? ⟨g, j * 2, none⟩ = false := frozen_of_row _ _ _ _ _ hg
  have f4 : w.frozen? ⟨g, j * 2 + 1, none⟩ = false := frozen_of_row _ _ _ _ _ hg
  have hne := h.ne
  have hiZ : (i : Int) < (H.length : Int) := by omega
  have hjZ : (j : Int) < (H.length : Int) := by omega
  have hi0 : (0 : Int) ≤ (i : Int) := by omega
  have hj0 : (0 : Int) ≤ (j : Int) := by omega
  have HG := hide (And.intro hg (And.intro ht hs))
  have HIL := hide (And.intro hi hj)
  obtain ⟨L, hL⟩ : ∃ L, L = H.length := ⟨_, rfl⟩
  rw [← hL] at hFc hiZ hjZ
  obtain ⟨r, hr⟩ : ∃ r, r = H[i] := ⟨_, rfl⟩
  obtain ⟨s, hs'⟩ : ∃ s, s = H[j] := ⟨_, rfl⟩
  rw [← hr] at i0 i1
  rw [← hs'] at j0 j1
  have HRS := hide (And.intro hr hs')
  clear hg ht hs HI HJ h hr hs' hL
  go_enter Try.func67, Try.ntmps67
  go_region
  generalize hW : World.drew _ = W
  go_end0
  obtain ⟨hi, hj⟩ := HIL.out
  have h1 := HH.out.set hi s
  have h2 := h1.set (k := j) (by rw [List.length_set]; exact hj) r
  rw [HRS.out.1, HRS.out.2] at h2 hW
  rw [swp_eq hi hj, ← hW]
  exact ⟨⟨_, rfl⟩, h2.on ((Below.refl _ _).drew), ((((grown_setCell _ _ _ _).trans (grown_setCell _ _ _ _)).trans (grown_setCell _ _ _ _)).trans (grown_setCell _ _ _ _)).trans (grown_of_below ((Below.refl _ _).drew))⟩
set_option maxHeartbeats 8000000 in
theorem hswap_same (F g cap full : Nat) (H : List Rst) (i : Nat) (w : World) (h : Hp w F g cap full H) (hi : i < H.length) :
    Calls Try.prog 67 #[.pointer (some ⟨F, 0, none⟩), .int .i64 (i : Int), .int .i64 (i : Int)] w fun e w' => (∃ v, e = .returned v) ∧ Hp w' F g cap full (swp H i i) ∧ w.grownBy w' (some g) := by
  have HH := hide h
  have hFc := h.fcell
  obtain ⟨i0, i1⟩ := h.cell hi
  obtain ⟨cur, hg, ht, hs⟩ := h.hg
  have f1 : w.frozen? ⟨g, i * 2, none⟩ = false := frozen_of_row _ _ _ _ _ hg
  have f2 : w.frozen? ⟨g, i * 2 + 1, none⟩ = false := frozen_of_row _ _ _ _ _ hg
  have hne := h.ne
  have hiZ : (i : Int) < (H.length : Int) := by omega
  have hi0 : (0 : Int) ≤ (i : Int) := by omega
  have HIL := hide hi
  obtain ⟨L, hL⟩ : ∃ L, L = H.length := ⟨_, rfl⟩
  rw [← hL] at hFc hiZ
  obtain ⟨r, hr⟩ : ∃ r, r = H[i]'hi := ⟨_, rfl⟩
  rw [← hr] at i0 i1
  have HRS := hide hr
  clear hg ht hs h hr hL
  go_enter Try.func67, Try.ntmps67
  go_region
  generalize hW : World.drew _ = W
  go_end0
  have hi := HIL.out
  have h1 := HH.out.set hi r
  have h2 := h1.set (k := i) (by rw [List.length_set]; exact hi) r
  rw [HRS.out] at h1 h2 hW
  rw [swp_eq hi hi, ← hW]
  first
    | exact ⟨⟨_, rfl⟩, h2.on ((Below.refl _ _).drew), ((((grown_setCell _ _ _ _).trans (grown_setCell _ _ _ _)).trans (grown_setCell _ _ _ _)).trans (grown_setCell _ _ _ _)).trans (grown_of_below ((Below.refl _ _).drew))⟩
    | exact ⟨⟨_, rfl⟩, by rw [List.set_set]; exact h1.on ((Below.refl _ _).drew), ((grown_setCell _ _ _ _).trans (grown_setCell _ _ _ _)).trans (grown_of_below ((Below.refl _ _).drew))⟩
theorem hswap_any (F g cap full : Nat) (H : List Rst) (i j : Nat) (w : World) (h : Hp w F g cap full H) (hij : i ≤ j) (hj : j < H.length) :
    Calls Try.prog 67 #[.pointer (some ⟨F, 0, none⟩), .int .i64 (i : Int), .int .i64 (j : Int)] w fun e w' => (∃ v, e = .returned v) ∧ Hp w' F g cap full (swp H i j) ∧ w.grownBy w' (some g) := by
  by_cases he : i = j
  · subst he; exact hswap_same F g cap full H i w h hj
  · exact hswap_lt F g cap full H i j w h (by omega) hj
end Go.Proofs.Ytgliindhndcceaa
