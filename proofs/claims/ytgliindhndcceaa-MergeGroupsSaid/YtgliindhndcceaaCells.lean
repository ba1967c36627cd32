/- Blocks of cells under new blocks, calls and stores, for all walks. No program in sight. -/
import Derived.Test.YtgliindhndcceaaKit
namespace Go.Proofs.Ytgliindhndcceaa
open Go.RowKit

section
variable {w w' : World} {b : Nat} {t : TypeId} {fr : Nat × Nat} {cs : Array Value} {x0 x1 x2 x3 x4 : Value}
theorem new_cells (w : World) (o : Obj) : (w.alloc o).heap[w.heap.size]? = some o := heap_alloc_new w o
theorem old_cells (h : w.heap[b]? = some (.cells cs t fr)) (o : Obj) : (w.alloc o).heap[b]? = some (.cells cs t fr) :=
  ((below_alloc w o).block b (Array.getElem?_eq_some_iff.1 h).1).trans h
theorem on_cells (h : w.heap[b]? = some (.cells cs t fr)) (hb : Below w.heap.size w w') : w'.heap[b]? = some (.cells cs t fr) :=
  (hb.block b (Array.getElem?_eq_some_iff.1 h).1).trans h
theorem lt_cells (h : w.heap[b]? = some (.cells cs t fr)) : b < w.heap.size := (Array.getElem?_eq_some_iff.1 h).1
theorem set_cells (h : w.heap[b]? = some (.cells cs t fr)) (k : Nat) (v : Value) : (w.setCell ⟨b, k, none⟩ v).heap[b]? = some (.cells (cs.setIfInBounds k v) t fr) := by
  simp [World.setCell, Array.getElem?_modify, h]
theorem one_cell (h : w.heap[b]? = some (.cells #[x0] t fr)) : w.cell? ⟨b, 0, none⟩ = some x0 := cell_of_row _ _ 0 _ _ _ h
theorem one_old (h : w.heap[b]? = some (.cells #[x0] t fr)) (o : Obj) : (w.alloc o).cell? ⟨b, 0, none⟩ = some x0 := one_cell (old_cells h o)
theorem two_cells (h : w.heap[b]? = some (.cells #[x0, x1] t fr)) : w.cell? ⟨b, 0, none⟩ = some x0 ∧ w.cell? ⟨b, 1, none⟩ = some x1 := ⟨cell_of_row _ _ 0 _ _ _ h, cell_of_row _ _ 1 _ _ _ h⟩
theorem two_olds (h : w.heap[b]? = some (.cells #[x0, x1] t fr)) : (∀ o, (w.alloc o).cell? ⟨b, 0, none⟩ = some x0) ∧ (∀ o, (w.alloc o).cell? ⟨b, 1, none⟩ = some x1) :=
  ⟨fun o => (two_cells (old_cells h o)).1, fun o => (two_cells (old_cells h o)).2⟩
end
end Go.Proofs.Ytgliindhndcceaa
