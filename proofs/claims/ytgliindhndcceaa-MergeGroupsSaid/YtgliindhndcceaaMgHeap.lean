/- The walks of the rows' heap: Len, Less, Swap, Push, Pop. -/
import Derived.Test.YtgliindhndcceaaMgCheck
import Derived.Test.YtgliindhndcceaaDag2
import Derived.BigRegion
namespace Go.Proofs.Ytgliindhndcceaa
open Go.RowKit
attribute [local go_sem] Dag.gives

/-- what is left of a row, as it lies in memory; its edits; which row it is -/
structure Rst where
  A : Option Addr
  n : Nat
  c : Nat
  row : List Ed
  pl : Nat
def Rst.cells (r : Rst) : List Value := [.slice r.A r.n r.c, .int .i64 (r.pl : Int)]
def Rst.agg (r : Rst) : Value := .agg #[.slice r.A r.n r.c, .int .i64 (r.pl : Int)]
def cellsR (l : List Rst) : List Value := l.flatMap Rst.cells
theorem cellsR_nil : cellsR [] = [] := rfl
theorem cellsR_cons (e : Rst) (l : List Rst) : cellsR (e :: l) = e.cells ++ cellsR l := by simp [cellsR]
theorem cellsR_append (a b : List Rst) : cellsR (a ++ b) = cellsR a ++ cellsR b := by simp [cellsR]
theorem cellsR_len : ∀ l : List Rst, (cellsR l).length = l.length * 2
  | [] => rfl
  | e :: l => by rw [cellsR_cons, List.length_append, cellsR_len l, List.length_cons]; show 2 + _ = _; omega
theorem cellsR_drop : ∀ (k : Nat) (l : List Rst), (cellsR l).drop (k * 2) = cellsR (l.drop k)
  | 0, l => by simp
  | k + 1, [] => by simp [cellsR]
  | k + 1, e :: l => by
    rw [List.drop_succ_cons, cellsR_cons, ← cellsR_drop k l, List.drop_append, List.drop_of_length_le (by show 2 ≤ _; omega), List.nil_append]
    congr 1
    show (k + 1) * 2 - 2 = _
    omega
theorem cellsR_take : ∀ (k : Nat) (l : List Rst), (cellsR l).take (k * 2) = cellsR (l.take k)
  | 0, l => by simp [cellsR]
  | k + 1, [] => by simp [cellsR]
  | k + 1, e :: l => by
    rw [List.take_succ_cons, cellsR_cons, cellsR_cons, ← cellsR_take k l, List.take_append, List.take_of_length_le (by show 2 ≤ _; omega)]
    congr 2
    show (k + 1) * 2 - 2 = _
    omega
theorem cellsR_at {l : List Rst} {k : Nat} (h : k < l.length) (j : Nat) (hj : j < 2) : (cellsR l)[k * 2 + j]? = l[k].cells[j]? := by
  have h1 : (cellsR l).drop (k * 2) = l[k].cells ++ cellsR (l.drop (k + 1)) := by
    rw [cellsR_drop, List.drop_eq_getElem_cons h, cellsR_cons]
  rw [← List.getElem?_drop, h1, List.getElem?_append_left (by show j < 2; exact hj)]
theorem cellsR_set : ∀ (l : List Rst) (k : Nat) (r : Rst), k < l.length → ((cellsR l).set (k * 2) (.slice r.A r.n r.c)).set (k * 2 + 1) (.int .i64 (r.pl : Int)) = cellsR (l.set k r)
  | [], k, r, h => absurd h (by simp)
  | e :: l, 0, r, _ => by rw [cellsR_cons]; simp [Rst.cells, cellsR]
  | e :: l, k + 1, r, h => by
    rw [List.set_cons_succ, cellsR_cons, cellsR_cons, ← cellsR_set l k r (by simp at h; omega)]
    rw [show (k + 1) * 2 = k * 2 + 2 by omega]
    simp [Rst.cells]
/-- THE HEAP IN MEMORY: block F holds the slice, block g the rests. -/
structure Hp (w : World) (F g cap full : Nat) (H : List Rst) : Prop where
  hf : w.heap[F]? = some (.cells #[.slice (some ⟨g, 0, none⟩) H.length cap] 68 (0, 0))
  hg : ∃ cur : Array Value, w.heap[g]? = some (.cells cur 71 (0, 0)) ∧ cur.toList.take (H.length * 2) = cellsR H ∧ cur.size = full * 2
  ne : F ≠ g
  len : H.length ≤ cap
  fit : cap ≤ full
  max : full ≤ maxLen
section
variable {w w' : World} {F g cap full : Nat} {H : List Rst}
theorem Hp.cell (h : Hp w F g cap full H) {k : Nat} (hk : k < H.length) : w.cell? ⟨g, k * 2, none⟩ = some (.slice H[k].A H[k].n H[k].c) ∧ w.cell? ⟨g, k * 2 + 1, none⟩ = some (.int .i64 (H[k].pl : Int)) := by
  obtain ⟨cur, hg, ht, _⟩ := h.hg
  have hc : ∀ j u, (cellsR H)[j]? = some u → w.cell? ⟨g, j, none⟩ = some u := fun j u hu => by
    rw [cell_of_row _ _ j _ _ _ hg]
    rw [← ht, List.getElem?_take] at hu
    split at hu
    · simpa using hu
    · cases hu
  exact ⟨hc (k * 2) _ (by have := cellsR_at hk 0 (by omega); rw [Nat.add_zero] at this; rw [this]; rfl), hc (k * 2 + 1) _ (by rw [cellsR_at hk 1 (by omega)]; rfl)⟩
theorem Hp.fcell (h : Hp w F g cap full H) : w.cell? ⟨F, 0, none⟩ = some (.slice (some ⟨g, 0, none⟩) H.length cap) := one_cell h.hf
theorem Hp.on (h : Hp w F g cap full H) (hb : Below w.heap.size w w') : Hp w' F g cap full H := by
  obtain ⟨cur, hg, ht, hs⟩ := h.hg
  exact ⟨on_cells h.hf hb, ⟨cur, on_cells hg hb, ht, hs⟩, h.ne, h.len, h.fit, h.max⟩
end
theorem len_any (F g cap full : Nat) (H : List Rst) (w : World) (h : Hp w F g cap full H) :
    Calls Try.prog 42 #[.pointer (some ⟨F, 0, none⟩)] w fun e w' => e = .returned (.int .i64 (H.length : Int)) ∧ w' = w := by
  have hc := h.fcell
  go_enter Try.func42, Try.ntmps42
  go_wp2_with fail
  go_ret
  exact ⟨rfl, rfl⟩
/-- is one rest to be taken ahead of another one? -/
def Rst.key (r : Rst) : List UInt8 := match r.row with
  | [] => []
  | e :: _ => e.key
def lessR (r s : Rst) : Bool := if Mg.lt r.key s.key then true else if r.key = s.key then decide (s.pl < r.pl) else false
/-- what a rest reads as -/
def Rst.Ok (w : World) (B : Nat) (r : Rst) : Prop := Row w B r.A r.n r.c r.row ∧ r.row ≠ []
theorem Rst.Ok.below {w w' : World} {B : Nat} {r : Rst} (h : r.Ok w B) (hb : Below B w w') : r.Ok w' B := ⟨h.1.below hb, h.2⟩
theorem Rst.Ok.more {w : World} {B B' : Nat} {r : Rst} (h : r.Ok w B) (hB : B ≤ B') : r.Ok w B' := ⟨h.1.more hB, h.2⟩
theorem Rst.Ok.first {w : World} {B : Nat} {r : Rst} (h : r.Ok w B) (hB : B ≤ w.heap.size) : ∃ (e : Ed) (b o : Nat), r.key = e.key ∧ r.A = some ⟨b, o, none⟩ ∧ 0 < r.n ∧ RB w e.kA e.kn e.key ∧ e.kn ≤ maxLen ∧ w.cell? ⟨b, o, none⟩ = some (.slice e.kA e.kn e.kc) := by
  obtain ⟨h1, h2⟩ := h
  obtain ⟨A, n, c, row, pl⟩ := r
  cases row with
  | nil => exact absurd rfl h2
  | cons e t =>
    have hn := h1.len
    obtain ⟨b, o, hA, _, c0, _⟩ := h1.cell (k := 0) (by simp)
    have hok := h1.ok e (by simp)
    exact ⟨e, b, o, rfl, hA, by simp at hn ⊢; omega, hok.rb hB, Nat.le_trans hok.kc hok.km, by simpa using c0⟩
theorem lessR_zero {r s : Rst} (h : Mg.cmp r.key s.key = 0) : lessR r s = decide (s.pl < r.pl) := by
  unfold lessR
  unfold Mg.cmp at h
  split at h
  · cases h
  · rename_i h1
    split at h
    · rename_i h2
      rw [if_neg h1, if_pos h2]
    · cases h
theorem lessR_not {r s : Rst} (h : Mg.cmp r.key s.key ≠ 0) : lessR r s = decide (Mg.cmp r.key s.key < 0) := by
  rw [Mg.cmp_neg]
  unfold lessR
  unfold Mg.cmp at h
  split at h
  · rename_i h1; rw [if_pos h1, h1]
  · rename_i h1
    split at h
    · exact absurd rfl h
    · rename_i h2
      rw [if_neg h1, if_neg h2]
      simpa using h1
theorem behind {w : World} {b o : Nat} {v : Value} (h : w.cell? ⟨b, o, none⟩ = some v) : (∀ o1, (w.alloc o1).cell? ⟨b, o, none⟩ = some v) ∧ (∀ o1 o2, ((w.alloc o1).alloc o2).cell? ⟨b, o, none⟩ = some v) :=
  ⟨fun o1 => keep_cell (below_alloc w o1) h, fun o1 o2 => keep_cell (below_then (below_alloc w o1) (below_alloc _ o2)) h⟩
set_option maxHeartbeats 8000000 in
theorem hless_any (F g cap full B : Nat) (H : List Rst) (i j : Nat) (w : World) (h : Hp w F g cap full H) (hi : i < H.length) (hj : j < H.length) (hoi : H[i].Ok w B) (hoj : H[j].Ok w B) (hB : B ≤ w.heap.size) :
    Calls Try.prog 64 #[.pointer (some ⟨F, 0, none⟩), .int .i64 (i : Int), .int .i64 (j : Int)] w fun e w' => e = .returned (.bool (lessR H[i] H[j])) ∧ Below w.heap.size w w' := by
  have HH := hide h
  have HI := hide (h.cell hi)
  have HJ := hide (h.cell hj)
  have HOI := hide hoi
  have HOJ := hide hoj
  obtain ⟨r, hr⟩ : ∃ r, r = H[i] := ⟨_, rfl⟩
  obtain ⟨s, hs⟩ : ∃ s, s = H[j] := ⟨_, rfl⟩
  rw [← hr] at HI HOI ⊢
  rw [← hs] at HJ HOJ ⊢
  have hiZ : (i : Int) < (H.length : Int) := by omega
  have hjZ : (j : Int) < (H.length : Int) := by omega
  have hi0 : (0 : Int) ≤ (i : Int) := by omega
  have hj0 : (0 : Int) ≤ (j : Int) := by omega
  have hFc := HH.out.fcell
  have i0 := HI.out.1
  have i1 := HI.out.2
  have j0 := HJ.out.1
  have j1 := HJ.out.2
  obtain ⟨a1, a2⟩ := behind hFc
  obtain ⟨a3, a4⟩ := behind i0
  obtain ⟨a5, a6⟩ := behind i1
  obtain ⟨a7, a8⟩ := behind j0
  obtain ⟨a9, a0⟩ := behind j1
  clear h hoi hoj hi hj hr hs
  go_enter Try.func64, Try.ntmps64
  go_wp2_with fail
  go_region
  · generalize hW : World.drew _ = W
    have hka : Hid (W.heap[w.heap.size]? = some (.cells #[.slice r.A r.n r.c, .int .i64 (r.pl : Int)] 71 (0, 0))) := hide (by rw [← hW]; exact old_cells (new_cells w _) _)
    have hkb : Hid (W.heap[w.heap.size + 1]? = some (.cells #[.slice s.A s.n s.c, .int .i64 (s.pl : Int)] 71 (0, 0))) := hide (by rw [← hW]; exact heap_at (w.alloc _) _ _ (by simp))
    have hb : Hid (Below w.heap.size w W) := hide (by rw [← hW]; exact (below_then (below_alloc w _) (below_alloc _ _)).drew)
    obtain ⟨kb, hkbe⟩ : ∃ kb, kb = w.heap.size + 1 := ⟨_, rfl⟩
    rw [← hkbe] at hkb ⊢
    obtain ⟨ka, hkae⟩ : ∃ ka, ka = w.heap.size := ⟨_, rfl⟩
    rw [← hkae] at hka ⊢
    clear hW hkae hkbe
    clear a1 a2 a3 a4 a5 a6 a7 a8 a9 a0 hFc i0 i1 j0 j1
    obtain ⟨e1, b1, o1, hk1, hA1, hn1, hr1, hm1, hc1⟩ := (HOI.out).first hB
    obtain ⟨e2, b2, o2, hk2, hA2, hn2, hr2, hm2, hc2⟩ := (HOJ.out).first hB
    have HR1 := hide hr1
    have HR2 := hide hr2
    have HC1 := hide hc1
    have HC2 := hide hc2
    have HK := hide (And.intro hk1 hk2)
    have hn1Z : (0 : Int) < (r.n : Int) := by omega
    have hn2Z : (0 : Int) < (s.n : Int) := by omega
    clear hr1 hr2 hc1 hc2 hk1 hk2 HI HJ HH
    go_wp2_with fail
    refine Dag.wp_region_facts 11 (Dag.list [Dag.Is (.pointer (some ⟨ka, 0, none⟩)), Dag.Is (.slice r.A r.n r.c), Dag.Is (.pointer (some ⟨b1, o1, none⟩)), Dag.Is (.pointer (some ⟨b1, o1, none⟩)), Dag.Is (.slice e1.kA e1.kn e1.kc), Dag.Is (.pointer (some ⟨kb, 0, none⟩)), Dag.Is (.slice s.A s.n s.c), Dag.Is (.pointer (some ⟨b2, o2, none⟩)), Dag.Is (.pointer (some ⟨b2, o2, none⟩)), Dag.Is (.slice e2.kA e2.kn e2.kc), Dag.Is (.int .i64 (Mg.cmp e1.key e2.key))]) (by kernel_rfl) (by kernel_rfl) (Dag.stable_list (by simp [Dag.Stable.is])) ?_ ?_
    · intro vs W hbW
      simp only [Dag.allOps, List.take_succ_cons, List.take_zero, Dag.fill, Act.put, List.setIfInBounds_toArray, List.set_cons_succ, List.set_cons_zero, Dag.deps, Region.binds, Dag.list, Dag.Is, List.getD_cons_zero, List.getD_cons_succ, and_true, forall_const, Nat.reduceAdd, Region.wanted, reduceIte]
      refine ⟨?_, ?_, ?_, ?_, ?_, ?_, ?_, ?_, ?_, ?_, ?_⟩
      · (try intro hd); go_simp; (first | done | exact ⟨Below.refl _ _, rfl⟩ | exact Below.refl _ _ | (intro h; cases h))
      · (try intro hd); have z := (two_cells (on_cells hka.out hbW)).1; go_simp; (first | done | exact ⟨Below.refl _ _, rfl⟩ | exact Below.refl _ _)
      · (try intro hd); rw [hA1] at *; go_simp; (first | done | exact ⟨Below.refl _ _, rfl⟩ | exact Below.refl _ _)
      · (try intro hd); go_simp; (first | done | exact ⟨Below.refl _ _, rfl⟩ | exact Below.refl _ _ | (intro h; cases h))
      · (try intro hd); have z := keep_cell (below_then hb.out hbW) HC1.out; go_simp; (first | done | exact ⟨Below.refl _ _, rfl⟩ | exact Below.refl _ _)
      · (try intro hd); go_simp; (first | done | exact ⟨Below.refl _ _, rfl⟩ | exact Below.refl _ _ | (intro h; cases h))
      · (try intro hd); have z := (two_cells (on_cells hkb.out hbW)).1; go_simp; (first | done | exact ⟨Below.refl _ _, rfl⟩ | exact Below.refl _ _)
      · (try intro hd); rw [hA2] at *; go_simp; (first | done | exact ⟨Below.refl _ _, rfl⟩ | exact Below.refl _ _)
      · (try intro hd); go_simp; (first | done | exact ⟨Below.refl _ _, rfl⟩ | exact Below.refl _ _ | (intro h; cases h))
      · (try intro hd); have z := keep_cell (below_then hb.out hbW) HC2.out; go_simp; (first | done | exact ⟨Below.refl _ _, rfl⟩ | exact Below.refl _ _)
      · (try intro hd); go_simp; refine (cmp_any e1.kA e2.kA e1.kn e2.kn e1.kc e2.kc e1.key e2.key _ (HR1.out.on (below_then hb.out hbW)) (HR2.out.on (below_then hb.out hbW)) hm1).mono ?_; rintro x w' ⟨rfl, rfl⟩; exact ⟨rfl, Below.refl _ _⟩
    · intro vs W hbW hk
      simp only [Dag.known, Dag.list, Dag.Is, List.getD_cons_zero, List.getD_cons_succ, and_true] at hk
      obtain ⟨k0, k1, k2, k3, k4, k5, k6, k7, k8, k9, k10⟩ := hk
      simp only [List.take_succ_cons, List.take_zero, List.drop_succ_cons, List.drop_zero, Dag.fill, Act.put, List.setIfInBounds_toArray, List.set_cons_succ, List.set_cons_zero, Nat.reduceAdd, k0, k1, k2, k3, k4, k5, k6, k7, k8, k9, k10]
      clear k0 k1 k2 k3 k4 k5 k6 k7 k8 k9 k10
      have za := (two_cells (on_cells hka.out hbW)).2
      have zb := (two_cells (on_cells hkb.out hbW)).2
      by_cases hz : Mg.cmp e1.key e2.key = 0
      · have HF := hide (lessR_zero (r := r) (s := s) (by rw [HK.out.1, HK.out.2]; exact hz))
        rw [hz]
        clear hz
        go_wp2_with fail
        go_ret
        exact ⟨by rw [HF.out]; first | done | rfl, below_then hb.out hbW⟩
      · have HF := hide (lessR_not (r := r) (s := s) (by rw [HK.out.1, HK.out.2]; exact hz))
        rw [HK.out.1, HK.out.2] at HF
        generalize Mg.cmp e1.key e2.key = z at *
        have hzz : (z != 0) = true := by rw [bne_iff_ne]; exact hz
        clear hz
        go_wp2_with fail
        go_ret
        exact ⟨by rw [HF.out]; first | done | rfl, below_then hb.out hbW⟩
  · generalize hW : World.drew _ = W
    have hka : Hid (W.heap[w.heap.size + 1]? = some (.cells #[.slice r.A r.n r.c, .int .i64 (r.pl : Int)] 71 (0, 0))) := hide (by rw [← hW]; exact heap_at (w.alloc _) _ _ (by simp))
    have hkb : Hid (W.heap[w.heap.size]? = some (.cells #[.slice s.A s.n s.c, .int .i64 (s.pl : Int)] 71 (0, 0))) := hide (by rw [← hW]; exact old_cells (new_cells w _) _)
    have hb : Hid (Below w.heap.size w W) := hide (by rw [← hW]; exact (below_then (below_alloc w _) (below_alloc _ _)).drew)
    obtain ⟨ka, hkae⟩ : ∃ ka, ka = w.heap.size + 1 := ⟨_, rfl⟩
    obtain ⟨kb, hkbe⟩ : ∃ kb, kb = w.heap.size := ⟨_, rfl⟩
    rw [← hkae] at hka ⊢
    rw [← hkbe] at hkb ⊢
    clear hW hkae hkbe
    clear a1 a2 a3 a4 a5 a6 a7 a8 a9 a0 hFc i0 i1 j0 j1
    obtain ⟨e1, b1, o1, hk1, hA1, hn1, hr1, hm1, hc1⟩ := (HOI.out).first hB
    obtain ⟨e2, b2, o2, hk2, hA2, hn2, hr2, hm2, hc2⟩ := (HOJ.out).first hB
    have HR1 := hide hr1
    have HR2 := hide hr2
    have HC1 := hide hc1
    have HC2 := hide hc2
    have HK := hide (And.intro hk1 hk2)
    have hn1Z : (0 : Int) < (r.n : Int) := by omega
    have hn2Z : (0 : Int) < (s.n : Int) := by omega
    clear hr1 hr2 hc1 hc2 hk1 hk2 HI HJ HH
    go_wp2_with fail
    refine Dag.wp_region_facts 11 (Dag.list [Dag.Is (.pointer (some ⟨ka, 0, none⟩)), Dag.Is (.slice r.A r.n r.c), Dag.Is (.pointer (some ⟨b1, o1, none⟩)), Dag.Is (.pointer (some ⟨b1, o1, none⟩)), Dag.Is (.slice e1.kA e1.kn e1.kc), Dag.Is (.pointer (some ⟨kb, 0, none⟩)), Dag.Is (.slice s.A s.n s.c), Dag.Is (.pointer (some ⟨b2, o2, none⟩)), Dag.Is (.pointer (some ⟨b2, o2, none⟩)), Dag.Is (.slice e2.kA e2.kn e2.kc), Dag.Is (.int .i64 (Mg.cmp e1.key e2.key))]) (by kernel_rfl) (by kernel_rfl) (Dag.stable_list (by simp [Dag.Stable.is])) ?_ ?_
    · intro vs W hbW
      simp only [Dag.allOps, List.take_succ_cons, List.take_zero, Dag.fill, Act.put, List.setIfInBounds_toArray, List.set_cons_succ, List.set_cons_zero, Dag.deps, Region.binds, Dag.list, Dag.Is, List.getD_cons_zero, List.getD_cons_succ, and_true, forall_const, Nat.reduceAdd, Region.wanted, reduceIte]
      refine ⟨?_, ?_, ?_, ?_, ?_, ?_, ?_, ?_, ?_, ?_, ?_⟩
      · (try intro hd); go_simp; (first | done | exact ⟨Below.refl _ _, rfl⟩ | exact Below.refl _ _ | (intro h; cases h))
      · (try intro hd); have z := (two_cells (on_cells hka.out hbW)).1; go_simp; (first | done | exact ⟨Below.refl _ _, rfl⟩ | exact Below.refl _ _)
      · (try intro hd); rw [hA1] at *; go_simp; (first | done | exact ⟨Below.refl _ _, rfl⟩ | exact Below.refl _ _)
      · (try intro hd); go_simp; (first | done | exact ⟨Below.refl _ _, rfl⟩ | exact Below.refl _ _ | (intro h; cases h))
      · (try intro hd); have z := keep_cell (below_then hb.out hbW) HC1.out; go_simp; (first | done | exact ⟨Below.refl _ _, rfl⟩ | exact Below.refl _ _)
      · (try intro hd); go_simp; (first | done | exact ⟨Below.refl _ _, rfl⟩ | exact Below.refl _ _ | (intro h; cases h))
      · (try intro hd); have z := (two_cells (on_cells hkb.out hbW)).1; go_simp; (first | done | exact ⟨Below.refl _ _, rfl⟩ | exact Below.refl _ _)
      · (try intro hd); rw [hA2] at *; go_simp; (first | done | exact ⟨Below.refl _ _, rfl⟩ | exact Below.refl _ _)
      · (try intro hd); go_simp; (first | done | exact ⟨Below.refl _ _, rfl⟩ | exact Below.refl _ _ | (intro h; cases h))
      · (try intro hd); have z := keep_cell (below_then hb.out hbW) HC2.out; go_simp; (first | done | exact ⟨Below.refl _ _, rfl⟩ | exact Below.refl _ _)
      · (try intro hd); go_simp; refine (cmp_any e1.kA e2.kA e1.kn e2.kn e1.kc e2.kc e1.key e2.key _ (HR1.out.on (below_then hb.out hbW)) (HR2.out.on (below_then hb.out hbW)) hm1).mono ?_; rintro x w' ⟨rfl, rfl⟩; exact ⟨rfl, Below.refl _ _⟩
    · intro vs W hbW hk
      simp only [Dag.known, Dag.list, Dag.Is, List.getD_cons_zero, List.getD_cons_succ, and_true] at hk
      obtain ⟨k0, k1, k2, k3, k4, k5, k6, k7, k8, k9, k10⟩ := hk
      simp only [List.take_succ_cons, List.take_zero, List.drop_succ_cons, List.drop_zero, Dag.fill, Act.put, List.setIfInBounds_toArray, List.set_cons_succ, List.set_cons_zero, Nat.reduceAdd, k0, k1, k2, k3, k4, k5, k6, k7, k8, k9, k10]
      clear k0 k1 k2 k3 k4 k5 k6 k7 k8 k9 k10
      have za := (two_cells (on_cells hka.out hbW)).2
      have zb := (two_cells (on_cells hkb.out hbW)).2
      by_cases hz : Mg.cmp e1.key e2.key = 0
      · have HF := hide (lessR_zero (r := r) (s := s) (by rw [HK.out.1, HK.out.2]; exact hz))
        rw [hz]
        clear hz
        go_wp2_with fail
        go_ret
        exact ⟨by rw [HF.out]; first | done | rfl, below_then hb.out hbW⟩
      · have HF := hide (lessR_not (r := r) (s := s) (by rw [HK.out.1, HK.out.2]; exact hz))
        rw [HK.out.1, HK.out.2] at HF
        generalize Mg.cmp e1.key e2.key = z at *
        have hzz : (z != 0) = true := by rw [bne_iff_ne]; exact hz
        clear hz
        go_wp2_with fail
        go_ret
        exact ⟨by rw [HF.out]; first | done | rfl, below_then hb.out hbW⟩
end Go.Proofs.Ytgliindhndcceaa
