/- What Merge and Sort answer, in one form; the lengths of rows. No program in sight. -/
import Derived.Test.YtgliindhndcceaaMgSome
import Derived.Test.YtgliindhndcceaaMgPut
namespace Go.Proofs.Ytgliindhndcceaa
open Go.RowKit

theorem MAs.any {ok : Bool} {T : List Ed} {w w' : World} {e : Ending} (h : MAs ok T w e w') (ho : ∀ x ∈ T, x.Ok w w.heap.size) :
    ∃ (G : Option Addr) (g gc : Nat) (E : Int) (GL : List Ed), e = .returned (.tuple #[.slice G g gc, .int .i64 E]) ∧ Row w' w'.heap.size G g gc GL ∧ Below w.heap.size w w' ∧
      (ok = false → E = 250 ∧ g = 0) ∧ (ok = true → T.length ≤ 512 → E = 0 ∧ GL = T) ∧ (ok = true → 512 < T.length → E = 3 ∧ g = 0) := by
  cases ok with
  | false =>
    obtain ⟨rfl, hb⟩ := h.no
    exact ⟨none, 0, 0, 250, [], rfl, Row.nil _ _, hb, fun _ => ⟨rfl, rfl⟩, fun h => (by cases h), fun h => (by cases h)⟩
  | true =>
    by_cases hl : T.length ≤ 512
    · obtain ⟨A, c, rfl, hr, hb⟩ := h.row hl ho
      exact ⟨A, _, c, 0, T, rfl, hr, hb, fun h => (by cases h), fun _ _ => ⟨rfl, rfl⟩, fun _ h => absurd h (by omega)⟩
    · obtain ⟨rfl, hb⟩ := h.long hl
      exact ⟨none, 0, 0, 3, [], rfl, Row.nil _ _, hb, fun h => (by cases h), fun _ h => absurd h hl, fun _ _ => ⟨rfl, rfl⟩⟩
theorem flat_len {L : List Rw} {k : Nat} (h : ∀ r ∈ L, r.row.length ≤ k) : (flat L).length ≤ L.length * k := by
  induction L with
  | nil => simp [flat]
  | cons r L ih =>
    have h1 := h r (by simp)
    have h2 := ih fun q hq => h q (by simp [hq])
    unfold flat at h2 ⊢
    rw [List.flatMap_cons, List.length_append, List.length_cons, Nat.succ_mul]
    omega
theorem Rows2.flat_ok {w : World} {B : Nat} {A : Option Addr} {n c : Nat} {L : List Rw} (h : Rows2 w B A n c L) : ∀ x ∈ flat L, x.Ok w B := fun x hx => by
  obtain ⟨r, hr, hx⟩ := List.mem_flatMap.1 hx
  exact (h.ok r hr).ok x hx
theorem rightAll_no {L : List Rw} {j : Nat} (hj : j < L.length) (h : right L[j].row = false) : rightAll L = false := by
  cases hr : rightAll L with
  | false => rfl
  | true =>
    unfold rightAll at hr
    rw [List.all_eq_true.1 hr _ (List.getElem_mem hj)] at h
    cases h
theorem rightAll_yes {L : List Rw} (h : ∀ p (hp : p < L.length), right L[p].row = true) : rightAll L = true := by
  unfold rightAll
  rw [List.all_eq_true]
  intro r hr
  obtain ⟨i, hi, rfl⟩ := List.getElem_of_mem hr
  exact h i hi
theorem rightAll_at {L : List Rw} (h : rightAll L = true) : ∀ r ∈ L, right r.row = true := List.all_eq_true.1 h
theorem nrm_at {L L2 : List Rw} (h : L.map Rw.nrm = L2.map Rw.nrm) {j : Nat} (h1 : j < L.length) (h2 : j < L2.length) : L[j].row.map Ed.nrm = L2[j].row.map Ed.nrm := by
  have := congrArg (fun l => l[j]?) h
  simpa [h1, h2, Rw.nrm] using this
theorem nrm_len {L L2 : List Rw} (h : L.map Rw.nrm = L2.map Rw.nrm) : L.length = L2.length := by simpa using congrArg List.length h
theorem flat_take_succ {L : List Rw} {j : Nat} (h : j < L.length) : flat (L.take (j + 1)) = flat (L.take j) ++ L[j].row := by
  rw [List.take_succ_eq_append_getElem h, flat_snoc]
theorem Rows2.at_ {w : World} {B : Nat} {b o n c : Nat} {L : List Rw} (h : Rows2 w B (some ⟨b, o, none⟩) n c L) {k : Nat} (hk : k < L.length) : b < B ∧ w.cell? ⟨b, o + k, none⟩ = some (.slice L[k].A L[k].n L[k].c) := by
  obtain ⟨b', o', hA, hb, hc⟩ := h.cell hk
  injection hA with hA
  injection hA with h1 h2
  subst h1 h2
  exact ⟨hb, hc⟩
end Go.Proofs.Ytgliindhndcceaa
