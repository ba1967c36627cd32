/- Items in memory: four cells each; a slice that reads as a list of items (an item is an edit that puts: its mark is not laid). No program in sight. -/
import Derived.Test.YtgliindhndcceaaMgEd
namespace Go.Proofs.Ytgliindhndcceaa
open Go.RowKit

def Ed.cellsT (e : Ed) : List Value := [.slice e.kA e.kn e.kc, .slice e.vA e.vn e.vc, .bool e.int, .int .i64 e.n]
def Ed.aggT (e : Ed) : Value := .agg #[.slice e.kA e.kn e.kc, .slice e.vA e.vn e.vc, .bool e.int, .int .i64 e.n]
def cellsI (l : List Ed) : List Value := l.flatMap Ed.cellsT
theorem cellsI_nil : cellsI [] = [] := rfl
theorem cellsI_cons (e : Ed) (l : List Ed) : cellsI (e :: l) = e.cellsT ++ cellsI l := by simp [cellsI]
theorem cellsI_append (a b : List Ed) : cellsI (a ++ b) = cellsI a ++ cellsI b := by simp [cellsI]
theorem cellsI_len : ∀ l : List Ed, (cellsI l).length = l.length * 4
  | [] => rfl
  | e :: l => by rw [cellsI_cons, List.length_append, cellsI_len l, List.length_cons]; show 4 + _ = _; omega
theorem cellsI_one {l : List Ed} : ∀ u ∈ cellsI l, u.oneCell' = true := by
  intro u hu
  obtain ⟨e, _, he⟩ := List.mem_flatMap.1 hu
  simp only [Ed.cellsT, List.mem_cons, List.mem_nil_iff, or_false] at he
  rcases he with rfl | rfl | rfl | rfl <;> rfl
theorem cellsI_take : ∀ (k : Nat) (l : List Ed), (cellsI l).take (k * 4) = cellsI (l.take k)
  | 0, l => by simp [cellsI]
  | k + 1, [] => by simp [cellsI]
  | k + 1, e :: l => by
    rw [List.take_succ_cons, cellsI_cons, cellsI_cons, ← cellsI_take k l, List.take_append, List.take_of_length_le (by show 4 ≤ _; omega)]
    congr 2
    show (k + 1) * 4 - 4 = _
    omega
theorem cellsI_drop : ∀ (k : Nat) (l : List Ed), (cellsI l).drop (k * 4) = cellsI (l.drop k)
  | 0, l => by simp
  | k + 1, [] => by simp [cellsI]
  | k + 1, e :: l => by
    rw [List.drop_succ_cons, cellsI_cons, ← cellsI_drop k l, List.drop_append, List.drop_of_length_le (by show 4 ≤ _; omega), List.nil_append]
    congr 1
    show (k + 1) * 4 - 4 = _
    omega
theorem cellsI_at {l : List Ed} {k : Nat} (h : k < l.length) (j : Nat) (hj : j < 4) : (cellsI l)[k * 4 + j]? = l[k].cellsT[j]? := by
  have h1 : (cellsI l).drop (k * 4) = l[k].cellsT ++ cellsI (l.drop (k + 1)) := by
    rw [cellsI_drop, List.drop_eq_getElem_cons h, cellsI_cons]
  rw [← List.getElem?_drop, h1, List.getElem?_append_left (by show j < 4; exact hj)]
/-- THE SLICE VALUE '.slice A n c' READS AS THE ITEMS l. -/
structure ItR (w : World) (B : Nat) (A : Option Addr) (n c : Nat) (l : List Ed) : Prop where
  cells : Reads w B 4 A n (cellsI l)
  ok : ∀ e ∈ l, e.Ok w B
  cap : n ≤ c
  max : c ≤ maxLen
section
variable {w w' : World} {B B' : Nat} {A : Option Addr} {n c : Nat} {l : List Ed}
theorem ItR.len (h : ItR w B A n c l) : l.length = n := by have := h.cells.1; rw [cellsI_len] at this; omega
theorem ItR.more (h : ItR w B A n c l) (hB : B ≤ B') : ItR w B' A n c l := ⟨h.cells.more hB, fun e he => (h.ok e he).more hB, h.cap, h.max⟩
theorem ItR.below (h : ItR w B A n c l) (hb : Below B w w') : ItR w' B A n c l := ⟨h.cells.below hb, fun e he => (h.ok e he).below hb, h.cap, h.max⟩
theorem ItR.on (h : ItR w w.heap.size A n c l) (hb : Below w.heap.size w w') : ItR w' w'.heap.size A n c l := (h.below hb).more hb.size
theorem ItR.nil (w : World) (B : Nat) : ItR w B none 0 0 [] := ⟨Reads.empty .., fun _ h => (by cases h), Nat.le_refl _, Nat.zero_le _⟩
theorem ItR.cell (h : ItR w B A n c l) {k : Nat} (hk : k < l.length) : ∃ b o, A = some ⟨b, o, none⟩ ∧ b < B ∧
    w.cell? ⟨b, o + k * 4, none⟩ = some (.slice l[k].kA l[k].kn l[k].kc) ∧
    w.cell? ⟨b, o + k * 4 + 1, none⟩ = some (.slice l[k].vA l[k].vn l[k].vc) ∧ w.cell? ⟨b, o + k * 4 + 2, none⟩ = some (.bool l[k].int) ∧ w.cell? ⟨b, o + k * 4 + 3, none⟩ = some (.int .i64 l[k].n) := by
  have hn := h.len
  obtain ⟨b, o, e, hb, hc⟩ := h.cells.2 (by omega)
  refine ⟨b, o, e, hb, ?_, ?_, ?_, ?_⟩
  · exact hc (k * 4 + 0) _ (by rw [cellsI_at hk 0 (by omega)]; rfl)
  · exact hc (k * 4 + 1) _ (by rw [cellsI_at hk 1 (by omega)]; rfl)
  · exact hc (k * 4 + 2) _ (by rw [cellsI_at hk 2 (by omega)]; rfl)
  · exact hc (k * 4 + 3) _ (by rw [cellsI_at hk 3 (by omega)]; rfl)
theorem ItR.take (h : ItR w B A n c l) (m : Nat) (hm : m ≤ n) : ItR w B A m c (l.take m) :=
  ⟨by have := h.cells.take m hm; rwa [cellsI_take] at this, fun e he => h.ok e (List.mem_of_mem_take he), Nat.le_trans hm h.cap, h.max⟩
theorem ItR.drop (h : ItR w B A n c l) (k : Nat) (hk : k ≤ n) : ItR w B (if c = k then A else A.map (·.add (k * 4))) (n - k) (c - k) (l.drop k) :=
  ⟨by have := h.cells.drop hk h.cap; rwa [cellsI_drop] at this, fun e he => h.ok e (List.mem_of_mem_drop he), by have := h.cap; omega, by have := h.max; omega⟩
theorem ItR.of_own {base : Nat} {t : TypeId} (h : w.ownsRow base t 4 (.slice A n c) n (cellsI l)) (ho : ∀ e ∈ l, e.Ok w w.heap.size) : ItR w w.heap.size A n c l := by
  obtain ⟨A', c', hv, h1, h2, h3⟩ := own_slice h
  injection hv with e1 e2 e3
  subst e1 e3
  exact ⟨h3, ho, h1, h2⟩
end
end Go.Proofs.Ytgliindhndcceaa
