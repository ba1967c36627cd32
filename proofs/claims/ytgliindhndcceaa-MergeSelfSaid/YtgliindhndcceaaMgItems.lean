/- The walk of the law's own helper items: rows of a tree that some edits put. -/
import Derived.Test.YtgliindhndcceaaMgDone
import Derived.Test.YtgliindhndcceaaMgWith
namespace Go.Proofs.Ytgliindhndcceaa
open Go.RowKit

theorem reads_item (W : World) (x : Ed) : Reads (W.alloc (.cells #[.slice x.kA x.kn x.kc, .slice x.vA x.vn x.vc, .bool x.int, .int .i64 x.n] 51)) (W.heap.size + 1) 4 (some ⟨W.heap.size, 0, none⟩) 1 (cellsI [x]) :=
  Reads.new W 51 _ #[.slice x.kA x.kn x.kc, .slice x.vA x.vn x.vc, .bool x.int, .int .i64 x.n] 1 4 (cellsI [x]) rfl (fun j u hu => by simpa [cellsI, Ed.cellsT] using hu)
set_option maxRecDepth 100000 in
set_option maxHeartbeats 16000000 in
theorem items_any (A : Option Addr) (n c : Nat) (l : List Ed) (w : World) (hA : Row w w.heap.size A n c l) (hn : n ≤ 80000) :
    Calls Try.prog 22 #[.slice A n c] w fun e w' => ∃ A' m c', e = .returned (.slice A' m c') ∧ m ≤ n ∧ ItR w' w'.heap.size A' m c' (l.filter Ed.put) ∧ Below w.heap.size w w' := by
  obtain ⟨i0, hti, hz0, hz1, hz2⟩ := info_parts item_info
  have HA := hide hA
  have HL := hide hA.len
  clear hA
  go_enter Try.func22, Try.ntmps22
  go_wp2_with fail
  go_loopw [3, 8] (fun ov i wr => ∃ (j : Nat) (O : List Ed), i = .int .i64 (j : Int) ∧ j ≤ n ∧ O.length ≤ j ∧ Hid (O = (l.take j).filter Ed.put) ∧ Hid (wr.ownsRow w.heap.size 51 4 ov O.length (cellsI O)) ∧ Hid (Below w.heap.size w wr)) (fun _ i _ => n - (intOf i).toNat)
  case atStart => exact ⟨0, [], rfl, Nat.zero_le _, Nat.le_refl _, hide rfl, hide (World.ownsRow_nil _ _ _ _), hide (Below.refl _ _)⟩
  case round =>
    obtain ⟨j, O, rfl, hj, hOl, hO, hown, hb⟩ := hrel
    by_cases hlt : j < n
    · have hjl : j < l.length := by rw [HL.out]; exact hlt
      have HR := hide (HA.out.on hb.out)
      obtain ⟨b, o, rfl, -, -⟩ := HR.out.cell hjl
      obtain ⟨-, c0, c1, c2, c3, c4⟩ := HR.out.at_ hjl
      have hj0 : (0 : Int) ≤ (j : Int) := by omega
      have hj1 : (j : Int) < (n : Int) := by omega
      have HTJ := hide (show l.take (j + 1) = l.take j ++ [l[j]] from List.take_succ_eq_append_getElem hjl)
      have hszw := hb.out.size
      obtain ⟨x, hx⟩ : ∃ x, x = l[j] := ⟨_, rfl⟩
      rw [← hx] at HTJ c0 c1 c2 c3 c4
      clear hx
      cases hpu : x.put with
      | false =>
        rw [hpu] at c1
        have HFT := hide (show (l.take (j + 1)).filter Ed.put = O by rw [HTJ.out, List.filter_append, ← hO.out]; simp [hpu])
        clear hpu
        go_wp2_with fail
        go_roundw
        case rel => exact ⟨j + 1, O, by go_num, by omega, by omega, hide HFT.out.symm, hide (hown.out.alloc _), hide (hb.out.alloc hszw _)⟩
        case measure => simp [intOf]; omega
      | true =>
        rw [hpu] at c1
        have HFT := hide (show (l.take (j + 1)).filter Ed.put = O ++ [x] by rw [HTJ.out, List.filter_append, ← hO.out]; simp [hpu])
        clear hpu
        have hszA := Nat.le_trans hszw (below_alloc wr (.cells #[.slice x.kA x.kn x.kc, .bool true, .slice x.vA x.vn x.vc, .bool x.int, .int .i64 x.n] 48)).size
        have HBA := hide (hb.out.alloc hszw (.cells #[.slice x.kA x.kn x.kc, .bool true, .slice x.vA x.vn x.vc, .bool x.int, .int .i64 x.n] 48))
        have HOA := hide (hown.out.alloc (.cells #[.slice x.kA x.kn x.kc, .bool true, .slice x.vA x.vn x.vc, .bool x.int, .int .i64 x.n] 48))
        have HXA := hide (new_cells wr (.cells #[.slice x.kA x.kn x.kc, .bool true, .slice x.vA x.vn x.vc, .bool x.int, .int .i64 x.n] 48))
        have HRI := hide (reads_item (wr.alloc (.cells #[.slice x.kA x.kn x.kc, .bool true, .slice x.vA x.vn x.vc, .bool x.int, .int .i64 x.n] 48)) x)
        have HSZ := hide (show (wr.alloc (.cells #[.slice x.kA x.kn x.kc, .bool true, .slice x.vA x.vn x.vc, .bool x.int, .int .i64 x.n] 48)).heap.size = wr.heap.size + 1 by simp)
        rw [HSZ.out] at HRI
        go_wp2_with (at_builtin; go_loud (refine wpList_append_reads rfl (.tmp 14) (.tmp 24) _ rfl w.heap.size 51 i0 _ 4 64 Try.underlying39 hti hz0 hz1 hz2 rfl (by omega) u3 O.length (cellsI O) rfl (HOA.out.alloc _) (wr.heap.size + 1 + 1) (some ⟨wr.heap.size + 1, 0, none⟩) 1 1 (cellsI [x]) rfl HRI.out cellsI_one (by unfold maxLen; omega) (by omega) (Nat.le_trans hszA (below_alloc _ _).size) ?_); intro v9 w9 hown9 hg9 hat9)
        all_goals
          have HB9 := hide (show Below w.heap.size w w9 from (HBA.out.alloc hszA _).grown hg9 (Nat.le_trans hszA (below_alloc _ _).size) fun k hk => (HOA.out.lt k hk).1)
          go_roundw
          case rel => exact ⟨j + 1, O ++ [x], by go_num, by omega, by simp; omega, hide HFT.out.symm, hide (by rw [cellsI_append, List.length_append]; exact hown9), HB9⟩
          case measure => simp [intOf]; omega
    · obtain rfl : j = n := by omega
      have HF := hide (show O = l.filter Ed.put by rw [hO.out, List.take_of_length_le (by rw [HL.out]; exact Nat.le_refl _)])
      obtain ⟨A9, c9, e9, h1, h2, h3⟩ := own_slice hown.out
      rw [e9]
      have HI := hide (show ItR wr wr.heap.size A9 O.length c9 (l.filter Ed.put) from by
        rw [← HF.out]
        exact ⟨h3, fun e he => by
          rw [HF.out] at he
          exact (HA.out.ok e (List.mem_filter.1 he).1).on hb.out, h1, h2⟩)
      clear h1 h2 h3 e9 hown
      generalize O.length = q at *
      go_wp2_with fail
      go_ret
      exact ⟨A9, q, c9, rfl, hOl, HI.out, hb.out⟩
end Go.Proofs.Ytgliindhndcceaa
