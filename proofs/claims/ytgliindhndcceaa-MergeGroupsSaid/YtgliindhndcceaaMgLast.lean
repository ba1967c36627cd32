/- What the last laws of merging need: lengths of keys, contents of rows of rows. No program in sight. -/
import Derived.Test.YtgliindhndcceaaMgAny
import Derived.Test.YtgliindhndcceaaMgDone
namespace Go.Proofs.Ytgliindhndcceaa
open Go.RowKit

theorem few_kn {w : World} {B k : Nat} {es l : List Ed} (h : es.map Ed.nrm = (l.take k).map Ed.cut) (ho : ∀ e ∈ es, e.Ok w B) : ∀ e ∈ es, e.kn ≤ 1048576 := fun e he => by
  have h1 : e.nrm ∈ (l.take k).map Ed.cut := by rw [← h]; exact List.mem_map_of_mem he
  obtain ⟨x, _, hx⟩ := List.mem_map.1 h1
  have h3 : (x.key.take 121).length = e.key.length := congrArg Ed.kn hx
  rw [← (ho e he).klen, ← h3, List.length_take]
  omega
theorem filter_nrm (l : List Ed) : (l.filter Ed.put).map Ed.nrm = (l.map Ed.nrm).filter Ed.put := by
  rw [List.filter_map]
  rfl
theorem doneL_nrm (L : List (List Ed)) : ∀ its : List Ed, (doneL its L).map Ed.nrm = doneL (its.map Ed.nrm) (L.map (List.map Ed.nrm)) := by
  induction L using snoc_ind with
  | h0 => exact fun its => rfl
  | hs L l ih =>
    intro its
    rw [doneL_snoc, doneN_nrm, ih, List.map_append, List.map_singleton, doneL_snoc]
theorem rows_nrm {L L2 : List Rw} (h : L.map Rw.nrm = L2.map Rw.nrm) : (L.map Rw.row).map (List.map Ed.nrm) = (L2.map Rw.row).map (List.map Ed.nrm) := by
  rw [List.map_map, List.map_map]
  exact h
theorem flat_flatten (L : List Rw) : flat L = (L.map Rw.row).flatten := by unfold flat; rw [List.flatMap_def]
theorem doneL_merged {L L2 : List Rw} {its : List Ed} (h : L.map Rw.nrm = L2.map Rw.nrm) (hu : up its) (hL : ∀ r ∈ L, up r.row) : sameI (doneL its (L2.map Rw.row)) (doneN its (srt (flat L))) = true := by
  refine nrms_sameI ?_
  rw [doneL_nrm, ← rows_nrm h, ← doneL_nrm, doneL_eq hu (fun l hl => by
    obtain ⟨r, hr, rfl⟩ := List.mem_map.1 hl
    exact hL r hr), flat_flatten]
theorem right_at2 {w w' : World} {B B' : Nat} {A A' : Option Addr} {n c n' c' : Nat} {L L2 : List Rw} (h : L.map Rw.nrm = L2.map Rw.nrm) (h1 : Rows2 w B A n c L) (h2 : Rows2 w' B' A' n' c' L2) (hr : rightAll L = true) : ∀ r ∈ L2, right r.row = true := fun r hm => by
  obtain ⟨j, hj, rfl⟩ := List.getElem_of_mem hm
  have hj' : j < L.length := by rw [nrm_len h]; exact hj
  rw [← right_same (h1.ok _ (List.getElem_mem hj')).ok (h2.ok _ (List.getElem_mem hj)).ok (nrm_at h hj' hj)]
  exact rightAll_at hr _ (List.getElem_mem hj')
/-- what Done answers, in one form -/
theorem DoneAs.go {its es : List Ed} {w w' : World} {e : Ending} (h : DoneAs its es w e w') (h1 : right es = true) (h2 : up its) (ho : ∀ x ∈ its, x.Ok w w.heap.size) (hp : ∀ x ∈ es, x.Ok w w.heap.size) :
    ∃ A n c T, e = .returned (.tuple #[.slice A n c, .int .i64 0]) ∧ T = doneN its es ∧ n ≤ its.length + es.length ∧ ItR w' w'.heap.size A n c T ∧ Below w.heap.size w w' := by
  obtain ⟨A, c, rfl, h3, h4⟩ := h.row h1 (up_riseI h2) ho hp
  exact ⟨A, _, c, _, rfl, rfl, doneN_len its es, h3, h4⟩
theorem Rows2.take {w : World} {B : Nat} {A : Option Addr} {n c : Nat} {L : List Rw} (h : Rows2 w B A n c L) (m : Nat) (hm : m ≤ n) : Rows2 w B A m c (L.take m) :=
  ⟨by have := h.cells.take m hm; rwa [Nat.mul_one, ← List.map_take] at this, fun e he => h.ok e (List.mem_of_mem_take he), Nat.le_trans hm h.cap, h.max⟩
theorem Rows2.drop {w : World} {B : Nat} {A : Option Addr} {n c : Nat} {L : List Rw} (h : Rows2 w B A n c L) (k : Nat) (hk : k ≤ n) : Rows2 w B (if c = k then A else A.map (·.add k)) (n - k) (c - k) (L.drop k) :=
  ⟨by have := h.cells.drop hk h.cap; rwa [Nat.mul_one, ← List.map_drop] at this, fun e he => h.ok e (List.mem_of_mem_drop he), by have := h.cap; omega, by have := h.max; omega⟩
theorem take_nrm {L L2 : List Rw} (h : L.map Rw.nrm = L2.map Rw.nrm) (k : Nat) : (L.take k).map Rw.nrm = (L2.take k).map Rw.nrm := by
  rw [List.map_take, List.map_take, h]
theorem doneN_kn {its es : List Ed} (h1 : ∀ e ∈ its, e.kn ≤ 1048576) (h2 : ∀ e ∈ es, e.kn ≤ 1048576) : ∀ e ∈ doneN its es, e.kn ≤ 1048576 := fun e he => (doneN_mem its es e he).elim (h1 e) (h2 e)
theorem right_keys {l : List Ed} (h : right l = true) : ∀ e ∈ l, e.kn ≤ 1048576 := right_kn (right_all h)
theorem rightAll_may {L : List Rw} (h : rightAll L = true) : (flat L).all Ed.may = true := by
  rw [List.all_eq_true]
  intro e he
  obtain ⟨r, hr, he⟩ := List.mem_flatMap.1 he
  exact List.all_eq_true.1 (right_all (rightAll_at h r hr)) e he
/-- what Merge and Sort answer where the row is not too long -/
theorem MAs.two {ok : Bool} {T : List Ed} {w w' : World} {e : Ending} (h : MAs ok T w e w') (ho : ∀ x ∈ T, x.Ok w w.heap.size) (hl : T.length ≤ 512) :
    ∃ (G : Option Addr) (g gc : Nat) (E : Int) (GL : List Ed), e = .returned (.tuple #[.slice G g gc, .int .i64 E]) ∧ Row w' w'.heap.size G g gc GL ∧ Below w.heap.size w w' ∧
      ((E = 250 ∧ ok = false ∧ g = 0) ∨ (E = 0 ∧ ok = true ∧ GL = T)) := by
  obtain ⟨G, g, gc, E, GL, h1, h2, h3, h4, h5, -⟩ := h.any ho
  refine ⟨G, g, gc, E, GL, h1, h2, h3, ?_⟩
  cases ok with
  | false => exact .inl ⟨(h4 rfl).1, rfl, (h4 rfl).2⟩
  | true => exact .inr ⟨(h5 rfl hl).1, rfl, (h5 rfl hl).2⟩
theorem flat_srt_len {L : List Rw} {k m : Nat} (h : ∀ r ∈ L, r.row.length ≤ k) (hl : L.length ≤ m) : (srt (flat L)).length ≤ m * k :=
  Nat.le_trans (srt_len _) (Nat.le_trans (flat_len h) (Nat.mul_le_mul_right k hl))
end Go.Proofs.Ytgliindhndcceaa
