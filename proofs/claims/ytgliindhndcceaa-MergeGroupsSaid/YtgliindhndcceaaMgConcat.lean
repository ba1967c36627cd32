/- The walk of slices.Concat over rows of edits. -/
import Derived.Test.YtgliindhndcceaaMgWith
import Derived.Test.YtgliindhndcceaaMgAny
import Derived.Lib.AppendZerosOnto
import Derived.Lib.SliceRun
namespace Go.Proofs.Ytgliindhndcceaa
open Go.RowKit

set_option maxHeartbeats 8000000 in
theorem grow_any (k : Nat) (w : World) (hk : k ≤ 100000) :
    Calls Try.prog 39 #[.slice none 0 0, .int .i64 (k : Int)] w fun e w' => ∃ v, e = .returned v ∧ w'.ownsRow w.heap.size 48 5 v 0 [] ∧ Below w.heap.size w w' := by
  obtain ⟨i0, hti, hz0, hz1, hz2⟩ := info_parts edit_info
  by_cases h0 : k = 0
  · subst h0
    go_enter Try.func39, Try.ntmps39
    go_wp2_with fail
    go_ret
    exact ⟨_, rfl, World.ownsRow_nil _ _ _ _, Below.refl _ _⟩
  · obtain ⟨z, hz⟩ : ∃ z, i0.zero = some z ∧ z.cells.size = 5 := ⟨_, hz0, rfl⟩
    have hold : (Builtin.firstCells i0.size 0 (.slice none 0 0)).run Try.prog w.drew = .ok ([] : List Value).toArray w.drew := run_firstCells_none w.drew i0.size 0 0 0
    have hrz : ∀ ty, (Builtin.append_ #[22, 3] ty #[.slice none 0 0, .int .i64 (k : Int)]).run Try.prog w =
        .ok (.slice (some ⟨w.heap.size, 0, none⟩) k (grownCap w k 0 48)) (w.drew.alloc (.cells (Builtin.zeroCells z.cells k ++ Builtin.zeroCells z.cells (grownCap w k 0 48 - k)) 48)) := fun ty => by
      have h := Lib.run_append_grow_zeros w 22 3 ty 48 i0 z .i64 .i64 Try.underlying22 Try.underlying3 hti hz.1 none 0 0 [] hold k (by omega) (by rw [hz1]; omega) (by omega) (by omega) (by rw [hz2]; omega) (growslice_fits (by omega) (by rw [hz2]; omega))
      rw [Nat.zero_add] at h
      rw [h]
      simp
    have hGn : k ≤ grownCap w k 0 48 := grownCap_ge w _ _ _
    have hGm := grownCap_le_maxLen w k 0 48 (by unfold maxLen; omega)
    obtain ⟨G, hG⟩ : ∃ G, G = grownCap w k 0 48 := ⟨_, rfl⟩
    rw [← hG] at hrz hGn hGm
    obtain ⟨Z, hZ⟩ : ∃ Z, Z = Builtin.zeroCells z.cells k ++ Builtin.zeroCells z.cells (G - k) := ⟨_, rfl⟩
    rw [← hZ] at hrz
    have HZ := hide (show Z.size = G * 5 by rw [hZ, Array.size_append, size_zeroCells, size_zeroCells, hz.2, ← Nat.add_mul, Nat.add_sub_cancel' hGn])
    have HGM := hide hGm
    have hk1 : (0 : Int) < (k : Int) := by omega
    have hk2 : wrap64 (k : Int) = (k : Int) := by unfold wrap64; omega
    have hG63 : G ≤ 9223372036854775807 := by unfold maxLen at hGm; omega
    have hG0 : (0 : Int) ≤ (G : Int) := by omega
    clear hold hG hZ hGm hz hti hz0 hz1 hz2
    go_enter Try.func39, Try.ntmps39
    go_wp2_with (at_builtin; refine Lib.wpList_append_run _ rfl _ _ _ _ rfl _ _ rfl rfl _ _ (hrz _) ?_)
    all_goals
      go_ret
      exact ⟨_, rfl, World.ownsRow_made w.drew Z G (Nat.le_refl _) HGM.out HZ.out, (show Below w.heap.size w w.drew from ⟨rfl, rfl, rfl, Nat.le_refl _, fun _ _ => rfl⟩).alloc (Nat.le_refl _) _⟩
set_option maxHeartbeats 16000000 in
theorem concat_any (A : Option Addr) (n c : Nat) (L : List Rw) (w : World) (hA : Rows2 w w.heap.size A n c L) (hn : n ≤ 100) (hr : ∀ r ∈ L, r.n ≤ 1000) :
    Calls Try.prog 30 #[.slice A n c] w fun e w' => ∃ A' m c', e = .returned (.slice A' m c') ∧ Row w' w'.heap.size A' m c' (flat L) ∧ Below w.heap.size w w' := by
  obtain ⟨i0, hti, hz0, hz1, hz2⟩ := info_parts edit_info
  have HA := hide hA
  have HL := hide hA.len
  have HN := hide hr
  clear hA hr
  go_enter Try.func30, Try.ntmps30
  go_wp2_with fail
  go_loopw [3, 11] (fun sv i wr => ∃ j s : Nat, i = .int .i64 (j : Int) ∧ sv = .int .i64 (s : Int) ∧ j ≤ n ∧ s ≤ j * 1000 ∧ Hid (Below w.heap.size w wr)) (fun _ i _ => n - (intOf i).toNat)
  case atStart => exact ⟨0, 0, rfl, rfl, Nat.zero_le _, Nat.zero_le _, hide (Below.refl _ _)⟩
  case round =>
    obtain ⟨j, s, rfl, rfl, hj, hs, hb⟩ := hrel
    by_cases hlt : j < n
    · have hjl : j < L.length := by rw [HL.out]; exact hlt
      have HRW := hide (HA.out.on hb.out)
      obtain ⟨b, o, rfl, -, -⟩ := HRW.out.cell hjl
      obtain ⟨-, y0⟩ := HRW.out.at_ hjl
      have hj0 : (0 : Int) ≤ (j : Int) := by omega
      have hj1 : (j : Int) < (n : Int) := by omega
      have HRN := hide (HN.out L[j] (List.getElem_mem hjl))
      obtain ⟨r, hr⟩ : ∃ r, r = L[j] := ⟨_, rfl⟩
      rw [← hr] at y0 HRN
      clear hr
      have hrn := HRN.out
      have h0s : ¬ ((s : Int) + (r.n : Int) < 0) := by omega
      have hs1 : s + r.n ≤ (j + 1) * 1000 := by omega
      go_wp2_with fail
      go_roundw
      case rel => exact ⟨j + 1, s + r.n, by go_num, by go_num, by omega, hs1, hb⟩
      case measure => simp [intOf]; omega
    · obtain rfl : j = n := by omega
      go_wp2_with fail
      refine Calls.mono (grow_any s _ (by omega)) ?_
      rintro e w2 ⟨v0, rfl, hown2, hb2⟩
      have HB2 := hide (below_then hb.out hb2)
      have HO2 := hide (own_base hown2 hb.out.size)
      clear hown2 hb2 hb
      go_wp2_with fail
      go_loopw [6, 27] (fun av i wr => ∃ (k : Nat) (O : List Ed), i = .int .i64 (k : Int) ∧ k ≤ j ∧ O.length ≤ k * 1000 ∧ Hid (O = flat (L.take k)) ∧ Hid (wr.ownsRow w.heap.size 48 5 av O.length (cellsE O)) ∧ Hid (Below w.heap.size w wr)) (fun _ i _ => j - (intOf i).toNat)
      case atStart => exact ⟨0, [], rfl, Nat.zero_le _, Nat.zero_le _, hide rfl, HO2, HB2⟩
      case round =>
        obtain ⟨k, O, rfl, hk, hOl, hO, hown, hb⟩ := hrel
        by_cases hlt : k < j
        · have hkl : k < L.length := by rw [HL.out]; exact hlt
          have HRW := hide (HA.out.on hb.out)
          obtain ⟨b, o, rfl, -, -⟩ := HRW.out.cell hkl
          obtain ⟨-, y0⟩ := HRW.out.at_ hkl
          have hk0 : (0 : Int) ≤ (k : Int) := by omega
          have hk1 : (k : Int) < (j : Int) := by omega
          have HRO := hide (HRW.out.ok L[k] (List.getElem_mem hkl))
          have hrn := HN.out L[k] (List.getElem_mem hkl)
          have HTJ := hide (flat_take_succ hkl)
          obtain ⟨r, hr⟩ : ∃ r, r = L[k] := ⟨_, rfl⟩
          rw [← hr] at y0 HRO hrn HTJ
          clear hr
          have hsz := hb.out.size
          have HLN := hide HRO.out.len
          go_wp2_with (at_builtin; go_loud (refine wpList_append_reads rfl (.tmp 31) (.tmp 32) _ rfl w.heap.size 48 i0 _ 5 72 Try.underlying22 hti hz0 hz1 hz2 rfl (by omega) u6 O.length (cellsE O) rfl hown.out wr.heap.size r.A r.n r.c (cellsE r.row) rfl HRO.out.cells cellsE_one (by unfold maxLen; omega) (by omega) hsz ?_); intro v9 w9 hown9 hg9 hat9)
          all_goals
            have HB9 := hide (show Below w.heap.size w w9 from hb.out.grown hg9 hsz fun q hq => (hown.out.lt q hq).1)
            go_roundw
            case rel => exact ⟨k + 1, O ++ r.row, by go_num, by omega, by rw [List.length_append, HLN.out]; omega, hide (by rw [hO.out, HTJ.out]), hide (by rw [cellsE_append, List.length_append, HLN.out]; exact hown9), HB9⟩
            case measure => simp [intOf]; omega
        · obtain rfl : k = j := by omega
          have HOF := hide (show O = flat L by rw [hO.out, List.take_of_length_le (by rw [HL.out]; exact Nat.le_refl _)])
          obtain ⟨A6, c6, e6, hc6, hm6, hr6⟩ := own_slice hown.out
          have HRO := hide (show Row wr wr.heap.size A6 O.length c6 (flat L) from ⟨by rw [← HOF.out]; exact hr6, fun e he => (HA.out.flat_ok e he).on hb.out, hc6, hm6⟩)
          rw [e6]
          clear hr6 hc6 hm6 e6 hown
          generalize O.length = q at *
          go_wp2_with fail
          go_ret
          exact ⟨A6, q, c6, rfl, HRO.out, hb.out⟩
end Go.Proofs.Ytgliindhndcceaa
