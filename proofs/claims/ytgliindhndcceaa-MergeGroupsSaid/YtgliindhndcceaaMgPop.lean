/- The walks that set the heap right at its root, and that take the root off: Fix, Pop. -/
import Derived.Test.YtgliindhndcceaaMgDown
namespace Go.Proofs.Ytgliindhndcceaa
open Go.RowKit

theorem hDown_len (H : List Rst) (i n : Nat) : (hDown H i n).1.length = H.length := by
  induction hk : n - i using Nat.strongRecOn generalizing H i with
  | ind k ih =>
    by_cases h : 2 * i + 1 < n
    · cases hl : lessAt H (kid H i n) i with
      | false => rw [hDown_stay h hl]
      | true =>
        have := kid_cases H i n
        rw [hDown_go h hl, ih (n - kid H i n) (by omega) _ _ rfl, swp_len]
    · rw [hDown_leaf h]
theorem hDown_mem {H : List Rst} {i n : Nat} {x : Rst} (h : x ∈ (hDown H i n).1) : x ∈ H := by
  induction hk : n - i using Nat.strongRecOn generalizing H i with
  | ind k ih =>
    by_cases hj : 2 * i + 1 < n
    · cases hl : lessAt H (kid H i n) i with
      | false => rwa [hDown_stay hj hl] at h
      | true =>
        have := kid_cases H i n
        rw [hDown_go hj hl] at h
        exact swp_mem (ih (n - kid H i n) (by omega) h rfl)
    · rwa [hDown_leaf hj] at h
set_option maxHeartbeats 8000000 in
theorem fix_any (F g cap full B : Nat) (H : List Rst) (w : World) (h : Hp w F g cap full H) (hok : ∀ r ∈ H, r.Ok w B) (hBF : B ≤ F) (hBg : B ≤ g) (hn : H.length ≤ 100000) (h0 : 0 < H.length) :
    Calls Try.prog 43 #[.iface 63 (.pointer (some ⟨F, 0, none⟩)), .int .i64 0] w fun e w' => (∃ v, e = .returned v) ∧ Hp w' F g cap full (hDown H 0 H.length).1 ∧ w.grownBy w' (some g) := by
  have HH := hide h
  have HOK := hide hok
  have HSZ := hide (show B ≤ w.heap.size from Nat.le_trans hBF (Nat.le_of_lt (lt_cells h.hf)))
  have hm2 := mLen F
  clear h hok
  go_enter Try.func43, Try.ntmps43
  go_wp2_with fail
  refine Calls.mono (len_any F g cap full H _ HH.out) ?_
  rintro x w3 ⟨rfl, rfl⟩
  go_wp2_with fail
  refine Calls.mono (down_any F g cap full B H 0 H.length _ HH.out (Nat.le_refl _) (fun r hr => HOK.out r (List.mem_of_mem_take hr)) hBF hBg hn (by omega)) ?_
  rintro x w4 ⟨rfl, hp4, hg4⟩
  have HP4 := hide hp4
  have HG4 := hide hg4
  have HOK4 := hide (fun r (hr : r ∈ (hDown H 0 H.length).1) => (HOK.out r (hDown_mem hr)).below (grown_below hg4 hBg HSZ.out))
  have HL := hide (hDown_len H 0 H.length)
  clear hp4 hg4
  cases hd : decide (0 < (hDown H 0 H.length).2) with
  | true =>
    clear hd
    go_wp2_with fail
    go_end0
    exact ⟨⟨_, rfl⟩, HP4.out, HG4.out⟩
  | false =>
    clear hd
    go_wp2_with fail
    refine Calls.mono (up_any F g cap full B (hDown H 0 H.length).1 0 _ HP4.out (by rw [HL.out]; exact h0) HOK4.out hBF hBg (by rw [HL.out]; exact hn)) ?_
    rintro x w5 ⟨⟨v5, rfl⟩, hp5, hg5⟩
    rw [hUp_zero] at hp5
    have HP5 := hide hp5
    have HG5 := hide hg5
    clear hp5 hg5
    go_wp2_with fail
    go_end0
    exact ⟨⟨_, rfl⟩, HP5.out, HG4.out.trans HG5.out⟩
set_option maxHeartbeats 8000000 in
theorem hpop_raw (F g cap full m : Nat) (H : List Rst) (w : World) (h : Hp w F g cap full H) (hm : H.length = m + 1) (hn : H.length ≤ 100000) :
    Calls Try.prog 65 #[.pointer (some ⟨F, 0, none⟩)] w fun e w' => (∃ v, e = .returned v) ∧ Hp w' F g m full (H.take m) ∧ w.grownBy w' (some F) := by
  have HH := hide h
  have hml : m < H.length := by omega
  have hFc := h.fcell
  obtain ⟨i0, i1⟩ := h.cell hml
  have hFf : w.frozen? ⟨F, 0, none⟩ = false := frozen_of_row _ _ _ _ _ h.hf
  obtain ⟨a1, a2⟩ := behind hFc
  have hcap := h.len
  rw [hm] at hFc a1 a2 hcap
  obtain ⟨r, hr⟩ : ∃ r, r = H[m] := ⟨_, rfl⟩
  rw [← hr] at i0 i1
  have e1 : ((m + 1 : Nat) : Int) - 1 = (m : Int) := by omega
  have hm1 : (m : Int) < ((m + 1 : Nat) : Int) := by omega
  have hm0 : (0 : Int) ≤ (m : Int) := by omega
  have hmc : (m : Int) ≤ (cap : Int) := by omega
  have hFlt := lt_cells h.hf
  have hN := ((grown_setCell (w.alloc (.cells #[.slice r.A r.n r.c, .int .i64 (r.pl : Int)] 71)) F 0 (.slice (some ⟨g, 0, none⟩) m m)).block w.heap.size (by simp) (fun e => by injection e; omega)).trans (new_cells w _)
  obtain ⟨n0, n1⟩ := two_cells hN
  have HFA := hide (set_cells h.hf 0 (.slice (some ⟨g, 0, none⟩) m m))
  clear h hr hN
  go_enter Try.func65, Try.ntmps65
  go_wp2_with fail
  go_ret
  obtain ⟨cur, hg, ht, hs⟩ := HH.out.hg
  have hgr := grown_setCell w F 0 (.slice (some ⟨g, 0, none⟩) m m)
  have hml2 : (H.take m).length = m := by rw [List.length_take]; omega
  refine ⟨⟨_, rfl⟩, ⟨by rw [hml2]; exact old_cells HFA.out _, ⟨cur, old_cells ((hgr.block g (lt_cells hg) (fun e => HH.out.ne (by injection e with e; exact e.symm))).trans hg) _, ?_, hs⟩, HH.out.ne, by omega, by have := HH.out.fit; omega, HH.out.max⟩, hgr.trans (grown_of_below (below_alloc _ _))⟩
  rw [hml2, ← cellsR_take, ← ht, List.take_take]
  congr 1
  omega
/-- what Pop leaves -/
def hPopped (H : List Rst) (m : Nat) : List Rst := (hDown (swp H 0 m) 0 m).1.take m
/-- blocks other than two stand -/
structure Fr (F g : Nat) (w w' : World) : Prop where
  os : w'.os = w.os
  tape : w'.tape = w.tape
  output : w'.output = w.output
  size : w.heap.size ≤ w'.heap.size
  block : ∀ k, k < w.heap.size → k ≠ F → k ≠ g → w'.heap[k]? = w.heap[k]?
theorem Fr.of_g {F g : Nat} {w w' : World} (h : w.grownBy w' (some g)) : Fr F g w w' := ⟨h.os, h.tape, h.output, h.size, fun k hk _ hg => h.block k hk (fun e => hg (by injection e))⟩
theorem Fr.of_F {F g : Nat} {w w' : World} (h : w.grownBy w' (some F)) : Fr F g w w' := ⟨h.os, h.tape, h.output, h.size, fun k hk hF _ => h.block k hk (fun e => hF (by injection e))⟩
theorem Fr.trans {F g : Nat} {a b c : World} (h : Fr F g a b) (k : Fr F g b c) : Fr F g a c :=
  ⟨k.os.trans h.os, k.tape.trans h.tape, k.output.trans h.output, Nat.le_trans h.size k.size, fun i hi h1 h2 => (k.block i (Nat.lt_of_lt_of_le hi h.size) h1 h2).trans (h.block i hi h1 h2)⟩
theorem Fr.below {F g B : Nat} {w w' : World} (h : Fr F g w w') (hF : B ≤ F) (hg : B ≤ g) (hB : B ≤ w.heap.size) : Below B w w' :=
  ⟨h.os, h.tape, h.output, h.size, fun k hk => h.block k (Nat.lt_of_lt_of_le hk hB) (by omega) (by omega)⟩
theorem swp_tail {α : Type} {H : List α} {m : Nat} {x : α} (hm : H.length = m + 1) (h : x ∈ (swp H 0 m).take m) : x ∈ H.tail := by
  obtain ⟨k, hk, rfl⟩ := List.mem_take_iff_getElem.1 h
  have hl := swp_len H 0 m
  have hkm : k < m := by omega
  have tm : ∀ i (h0 : 0 < i) (hi : i < H.length), H[i] ∈ H.tail := fun i h0 hi => by
    cases H with
    | nil => simp at hi
    | cons a t =>
      obtain ⟨j, rfl⟩ : ∃ j, i = j + 1 := ⟨i - 1, by omega⟩
      simp
  simp only [swp_eq (H := H) (i := 0) (j := m) (by omega) (by omega)]
  rw [List.getElem_set, if_neg (by omega), List.getElem_set]
  split
  · exact tm m (by omega) (by omega)
  · exact tm k (by omega) (by omega)
set_option maxHeartbeats 8000000 in
theorem pop_any (F g cap full B m : Nat) (H : List Rst) (w : World) (h : Hp w F g cap full H) (hok : ∀ r ∈ H.tail, r.Ok w B) (hBF : B ≤ F) (hBg : B ≤ g) (hn : H.length ≤ 100000) (hm : H.length = m + 1) :
    Calls Try.prog 44 #[.iface 63 (.pointer (some ⟨F, 0, none⟩))] w fun e w' => (∃ v, e = .returned v) ∧ Hp w' F g m full (hPopped H m) ∧ Fr F g w w' := by
  have HH := hide h
  have HOK := hide hok
  have HSZ := hide (show B ≤ w.heap.size from Nat.le_trans hBF (Nat.le_of_lt (lt_cells h.hf)))
  have hm2 := mLen F
  have hm3 := mSwap F
  have hm4 := mPop F
  have e1 : ((m + 1 : Nat) : Int) - 1 = (m : Int) := by omega
  clear h hok
  go_enter Try.func44, Try.ntmps44
  go_wp2_with fail
  refine Calls.mono (len_any F g cap full H _ HH.out) ?_
  rintro x w3 ⟨rfl, rfl⟩
  rw [hm]
  go_wp2_with fail
  refine Calls.mono (hswap_any F g cap full H 0 m _ HH.out (by omega) (by omega)) ?_
  rintro x w4 ⟨⟨v4, rfl⟩, hp4, hg4⟩
  have HP4 := hide hp4
  have HG4 := hide hg4
  have HOK4 := hide (fun r (hr : r ∈ (swp H 0 m).take m) => (HOK.out r (swp_tail hm hr)).below (grown_below hg4 hBg HSZ.out))
  have HSZ4 := hide (Nat.le_trans HSZ.out hg4.size)
  have hl4 := swp_len H 0 m
  have HL4 := hide hl4
  clear hp4 hg4 hl4
  go_wp2_with fail
  refine Calls.mono (down_any F g cap full B (swp H 0 m) 0 m _ HP4.out (by rw [HL4.out]; omega) HOK4.out hBF hBg (by rw [HL4.out]; exact hn) (by omega)) ?_
  rintro x w5 ⟨rfl, hp5, hg5⟩
  have HP5 := hide hp5
  have HG5 := hide hg5
  have HL5 := hide (hDown_len (swp H 0 m) 0 m)
  clear hp5 hg5
  go_wp2_with fail
  refine Calls.mono (hpop_raw F g cap full m (hDown (swp H 0 m) 0 m).1 _ HP5.out (by rw [HL5.out, HL4.out]; exact hm) (by rw [HL5.out, HL4.out]; exact hn)) ?_
  rintro x w6 ⟨⟨v6, rfl⟩, hp6, hg6⟩
  have HP6 := hide hp6
  have HG6 := hide hg6
  clear hp6 hg6
  go_wp2_with fail
  go_ret
  exact ⟨⟨_, rfl⟩, HP6.out, ((Fr.of_g HG4.out).trans (Fr.of_g HG5.out)).trans (Fr.of_F HG6.out)⟩
end Go.Proofs.Ytgliindhndcceaa
