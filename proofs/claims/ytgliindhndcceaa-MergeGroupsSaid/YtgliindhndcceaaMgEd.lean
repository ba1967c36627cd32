/- Edits in memory: five cells each; a slice that reads as a list of edits. No program in sight. -/
import Derived.Test.YtgliindhndcceaaCells
import Derived.Test.YtgliindhndcceaaMgMath
namespace Go.Proofs.Ytgliindhndcceaa
open Go.RowKit

/-- an edit as it lies in memory, with what its key and its value read as -/
structure Ed where
  kA : Option Addr
  kn : Nat
  kc : Nat
  key : List UInt8
  put : Bool
  vA : Option Addr
  vn : Nat
  vc : Nat
  val : List UInt8
  int : Bool
  n : Int
def Ed.cells (e : Ed) : List Value := [.slice e.kA e.kn e.kc, .bool e.put, .slice e.vA e.vn e.vc, .bool e.int, .int .i64 e.n]
def Ed.agg (e : Ed) : Value := .agg #[.slice e.kA e.kn e.kc, .bool e.put, .slice e.vA e.vn e.vc, .bool e.int, .int .i64 e.n]
structure Ed.Ok (w : World) (B : Nat) (e : Ed) : Prop where
  k : Reads w B 1 e.kA e.kn (bytes e.key)
  v : Reads w B 1 e.vA e.vn (bytes e.val)
  kc : e.kn ≤ e.kc
  km : e.kc ≤ maxLen
  vc : e.vn ≤ e.vc
  vm : e.vc ≤ maxLen
section
variable {w w' : World} {B B' : Nat} {e : Ed}
theorem Ed.Ok.more (h : e.Ok w B) (hB : B ≤ B') : e.Ok w B' := ⟨h.k.more hB, h.v.more hB, h.kc, h.km, h.vc, h.vm⟩
theorem Ed.Ok.below (h : e.Ok w B) (hb : Below B w w') : e.Ok w' B := ⟨h.k.below hb, h.v.below hb, h.kc, h.km, h.vc, h.vm⟩
theorem Ed.Ok.on (h : e.Ok w w.heap.size) (hb : Below w.heap.size w w') : e.Ok w' w'.heap.size := (h.below hb).more hb.size
theorem Ed.Ok.rb (h : e.Ok w B) (hB : B ≤ w.heap.size) : RB w e.kA e.kn e.key := h.k.more hB
theorem Ed.Ok.rv (h : e.Ok w B) (hB : B ≤ w.heap.size) : RB w e.vA e.vn e.val := h.v.more hB
theorem Ed.Ok.klen (h : e.Ok w B) : e.key.length = e.kn := by have := h.k.len; rwa [bytes_len] at this
theorem Ed.Ok.vlen (h : e.Ok w B) : e.val.length = e.vn := by have := h.v.len; rwa [bytes_len] at this
end
def cellsE (l : List Ed) : List Value := l.flatMap Ed.cells
theorem cellsE_nil : cellsE [] = [] := rfl
theorem cellsE_cons (e : Ed) (l : List Ed) : cellsE (e :: l) = e.cells ++ cellsE l := by simp [cellsE]
theorem cellsE_append (a b : List Ed) : cellsE (a ++ b) = cellsE a ++ cellsE b := by simp [cellsE]
theorem cellsE_len : ∀ l : List Ed, (cellsE l).length = l.length * 5
  | [] => rfl
  | e :: l => by rw [cellsE_cons, List.length_append, cellsE_len l, List.length_cons]; show 5 + _ = _; omega
theorem cellsE_one {l : List Ed} : ∀ u ∈ cellsE l, u.oneCell' = true := by
  intro u hu
  obtain ⟨e, _, he⟩ := List.mem_flatMap.1 hu
  simp only [Ed.cells, List.mem_cons, List.mem_nil_iff, or_false] at he
  rcases he with rfl | rfl | rfl | rfl | rfl <;> rfl
theorem cellsE_take : ∀ (k : Nat) (l : List Ed), (cellsE l).take (k * 5) = cellsE (l.take k)
  | 0, l => by simp [cellsE]
  | k + 1, [] => by simp [cellsE]
  | k + 1, e :: l => by
    rw [List.take_succ_cons, cellsE_cons, cellsE_cons, ← cellsE_take k l, List.take_append, List.take_of_length_le (by show 5 ≤ _; omega)]
    congr 2
    show (k + 1) * 5 - 5 = _
    omega
theorem cellsE_drop : ∀ (k : Nat) (l : List Ed), (cellsE l).drop (k * 5) = cellsE (l.drop k)
  | 0, l => by simp
  | k + 1, [] => by simp [cellsE]
  | k + 1, e :: l => by
    rw [List.drop_succ_cons, cellsE_cons, ← cellsE_drop k l, List.drop_append, List.drop_of_length_le (by show 5 ≤ _; omega), List.nil_append]
    congr 1
    show (k + 1) * 5 - 5 = _
    omega
theorem cellsE_at {l : List Ed} {k : Nat} (h : k < l.length) (j : Nat) (hj : j < 5) : (cellsE l)[k * 5 + j]? = l[k].cells[j]? := by
  have h1 : (cellsE l).drop (k * 5) = l[k].cells ++ cellsE (l.drop (k + 1)) := by
    rw [cellsE_drop, List.drop_eq_getElem_cons h, cellsE_cons]
  rw [← List.getElem?_drop, h1, List.getElem?_append_left (by show j < 5; exact hj)]
/-- THE SLICE VALUE '.slice A n c' READS AS THE EDITS l. -/
structure Row (w : World) (B : Nat) (A : Option Addr) (n c : Nat) (l : List Ed) : Prop where
  cells : Reads w B 5 A n (cellsE l)
  ok : ∀ e ∈ l, e.Ok w B
  cap : n ≤ c
  max : c ≤ maxLen
section
variable {w w' : World} {B B' : Nat} {A : Option Addr} {n c : Nat} {l : List Ed}
theorem Row.len (h : Row w B A n c l) : l.length = n := by have := h.cells.1; rw [cellsE_len] at this; omega
theorem Row.more (h : Row w B A n c l) (hB : B ≤ B') : Row w B' A n c l := ⟨h.cells.more hB, fun e he => (h.ok e he).more hB, h.cap, h.max⟩
theorem Row.below (h : Row w B A n c l) (hb : Below B w w') : Row w' B A n c l := ⟨h.cells.below hb, fun e he => (h.ok e he).below hb, h.cap, h.max⟩
theorem Row.on (h : Row w w.heap.size A n c l) (hb : Below w.heap.size w w') : Row w' w'.heap.size A n c l := (h.below hb).more hb.size
theorem Row.nil (w : World) (B : Nat) : Row w B none 0 0 [] := ⟨Reads.empty .., fun _ h => (by cases h), Nat.le_refl _, Nat.zero_le _⟩
theorem Row.cell (h : Row w B A n c l) {k : Nat} (hk : k < l.length) : ∃ b o, A = some ⟨b, o, none⟩ ∧ b < B ∧
    w.cell? ⟨b, o + k * 5, none⟩ = some (.slice l[k].kA l[k].kn l[k].kc) ∧ w.cell? ⟨b, o + k * 5 + 1, none⟩ = some (.bool l[k].put) ∧
    w.cell? ⟨b, o + k * 5 + 2, none⟩ = some (.slice l[k].vA l[k].vn l[k].vc) ∧ w.cell? ⟨b, o + k * 5 + 3, none⟩ = some (.bool l[k].int) ∧ w.cell? ⟨b, o + k * 5 + 4, none⟩ = some (.int .i64 l[k].n) := by
  have hn := h.len
  obtain ⟨b, o, e, hb, hc⟩ := h.cells.2 (by omega)
  refine ⟨b, o, e, hb, ?_, ?_, ?_, ?_, ?_⟩
  · exact hc (k * 5 + 0) _ (by rw [cellsE_at hk 0 (by omega)]; rfl)
  · exact hc (k * 5 + 1) _ (by rw [cellsE_at hk 1 (by omega)]; rfl)
  · exact hc (k * 5 + 2) _ (by rw [cellsE_at hk 2 (by omega)]; rfl)
  · exact hc (k * 5 + 3) _ (by rw [cellsE_at hk 3 (by omega)]; rfl)
  · exact hc (k * 5 + 4) _ (by rw [cellsE_at hk 4 (by omega)]; rfl)
theorem Row.take (h : Row w B A n c l) (m : Nat) (hm : m ≤ n) : Row w B A m c (l.take m) :=
  ⟨by have := h.cells.take m hm; rwa [cellsE_take] at this, fun e he => h.ok e (List.mem_of_mem_take he), Nat.le_trans hm h.cap, h.max⟩
theorem Row.drop (h : Row w B A n c l) (k : Nat) (hk : k ≤ n) : Row w B (if c = k then A else A.map (·.add (k * 5))) (n - k) (c - k) (l.drop k) :=
  ⟨by have := h.cells.drop hk h.cap; rwa [cellsE_drop] at this, fun e he => h.ok e (List.mem_of_mem_drop he), by have := h.cap; omega, by have := h.max; omega⟩
theorem Row.of_own {base : Nat} {t : TypeId} (h : w.ownsRow base t 5 (.slice A n c) n (cellsE l)) (ho : ∀ e ∈ l, e.Ok w w.heap.size) : Row w w.heap.size A n c l := by
  obtain ⟨A', c', hv, h1, h2, h3⟩ := own_slice h
  injection hv with e1 e2 e3
  subst e1 e3
  exact ⟨h3, ho, h1, h2⟩
end
end Go.Proofs.Ytgliindhndcceaa
