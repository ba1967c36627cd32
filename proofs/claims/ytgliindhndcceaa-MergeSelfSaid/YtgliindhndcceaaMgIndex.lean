/- The walk of slices.IndexFunc over the law's own closure: where an item of a key lies. -/
import Derived.Test.YtgliindhndcceaaMgRefDone
namespace Go.Proofs.Ytgliindhndcceaa
open Go.RowKit

set_option maxHeartbeats 8000000 in
theorem clo_any (i y : Ed) (Y : Nat) (fr : Nat × Nat) (w : World) (hi : i.Ok w w.heap.size) (hY : w.heap[Y]? = some (.cells #[.slice y.kA y.kn y.kc, .bool y.put, .slice y.vA y.vn y.vc, .bool y.int, .int .i64 y.n] 48 fr)) (hy : y.Ok w w.heap.size) (h1 : i.kn ≤ 1048576) (h2 : y.kn ≤ 1048576) :
    Calls Try.prog 28 #[i.aggT, .pointer (some ⟨Y, 0, none⟩)] w fun e w' => e = .returned (.bool (decide (i.key = y.key))) ∧ Below w.heap.size w w' := by
  have HI := hide hi
  have HC := hide hY
  have HY := hide hy
  have H1 := hide h1
  have H2 := hide h2
  clear hi hY hy h1 h2
  unfold Ed.aggT
  go_enter Try.func28, Try.ntmps28
  have HX := hide (new_cells w (.cells #[.slice i.kA i.kn i.kc, .slice i.vA i.vn i.vc, .bool i.int, .int .i64 i.n] 51))
  have HB := hide (below_alloc w (.cells #[.slice i.kA i.kn i.kc, .slice i.vA i.vn i.vc, .bool i.int, .int .i64 i.n] 51))
  obtain ⟨z0, -⟩ := five_cells (on_cells HC.out HB.out)
  have y0 : (w.alloc (.cells #[.slice i.kA i.kn i.kc, .slice i.vA i.vn i.vc, .bool i.int, .int .i64 i.n] 51)).cell? ⟨w.heap.size, 0, none⟩ = some (.slice i.kA i.kn i.kc) := cell_of_row _ _ 0 _ _ _ HX.out
  go_wp2_with fail
  refine Calls.mono (equal_b i.kA y.kA i.kn y.kn i.kc y.kc i.key y.key _ ((HI.out.on HB.out).rb (Nat.le_refl _)) ((HY.out.on HB.out).rb (Nat.le_refl _)) H1.out H2.out) ?_
  rintro e w2 ⟨rfl, hb2⟩
  have HB2 := hide (below_then HB.out hb2)
  clear hb2
  go_wp2_with fail
  go_ret
  exact ⟨rfl, HB2.out⟩
set_option maxHeartbeats 8000000 in
theorem index_any (A : Option Addr) (n c : Nat) (its : List Ed) (y : Ed) (Y : Nat) (fr : Nat × Nat) (w : World) (hA : ItR w w.heap.size A n c its) (hY : w.heap[Y]? = some (.cells #[.slice y.kA y.kn y.kc, .bool y.put, .slice y.vA y.vn y.vc, .bool y.int, .int .i64 y.n] 48 fr)) (hy : y.Ok w w.heap.size) (h1 : ∀ e ∈ its, e.kn ≤ 1048576) (h2 : y.kn ≤ 1048576) (hn : n ≤ 80000) :
    Calls Try.prog 27 #[.slice A n c, .func (.func 28) #[] #[.pointer (some ⟨Y, 0, none⟩)]] w fun e w' => ∃ r : Int, e = .returned (.int .i64 r) ∧ ((r = -1 ∧ ∀ e ∈ its, e.key ≠ y.key) ∨ ∃ k, ∃ h : k < its.length, r = (k : Int) ∧ its[k].key = y.key) ∧ Below w.heap.size w w' := by
  have HA := hide hA
  have HL := hide hA.len
  have HC := hide hY
  have HY := hide hy
  have H1 := hide h1
  have H2 := hide h2
  clear hA hY hy h1 h2
  go_enter Try.func27, Try.ntmps27
  go_wp2_with fail
  go_loopw [8] (fun i wr => ∃ j : Nat, i = .int .i64 (j : Int) ∧ j ≤ n ∧ Hid (Below w.heap.size w wr) ∧ Hid (∀ p (h : p < its.length), p < j → its[p].key ≠ y.key)) (fun i _ => n - (intOf i).toNat)
  case atStart => exact ⟨0, rfl, Nat.zero_le _, hide (Below.refl _ _), hide (fun p h hp => absurd hp (by omega))⟩
  case round =>
    obtain ⟨j, rfl, hj, hb, hst⟩ := hrel
    by_cases hlt : j < n
    · have hjl : j < its.length := by rw [HL.out]; exact hlt
      have HR := hide (HA.out.on hb.out)
      obtain ⟨b, o, rfl, -, -⟩ := HR.out.cell hjl
      obtain ⟨-, y0, y1, y2, y3⟩ := HR.out.at_ hjl
      have hj0 : (0 : Int) ≤ (j : Int) := by omega
      have hj1 : (j : Int) < (n : Int) := by omega
      have HO := hide (HR.out.ok its[j] (List.getElem_mem hjl))
      have HK := hide (H1.out its[j] (List.getElem_mem hjl))
      have HNO := hide (fun h : its[j].key ≠ y.key => show ∀ p (h : p < its.length), p < j + 1 → its[p].key ≠ y.key from fun p hp hpj => by
        by_cases he : p = j
        · subst he; exact h
        · exact hst.out p hp (by omega))
      have HYES := hide (fun h : its[j].key = y.key => show ∃ k, ∃ h : k < its.length, (j : Int) = (k : Int) ∧ its[k].key = y.key from ⟨j, hjl, rfl, h⟩)
      obtain ⟨i, hi⟩ : ∃ i, i = its[j] := ⟨_, rfl⟩
      rw [← hi] at y0 y1 y2 y3 HO HK HNO HYES
      clear hi
      go_wp2_with fail
      refine Calls.mono (clo_any i y Y fr _ HO.out (on_cells HC.out hb.out) (HY.out.on hb.out) HK.out H2.out) ?_
      rintro e w5 ⟨rfl, hb5⟩
      have HB5 := hide (below_then hb.out hb5)
      by_cases hk : i.key = y.key
      · rw [decide_eq_true hk]
        have HF := hide (HYES.out hk)
        clear hk y0 y1 y2 y3 hb5
        go_wp2_with fail
        go_ret
        exact ⟨_, rfl, .inr HF.out, HB5.out⟩
      · rw [decide_eq_false hk]
        have HF := hide (HNO.out hk)
        clear hk y0 y1 y2 y3 hb5
        go_wp2_with fail
        go_roundw
        case rel => exact ⟨j + 1, by go_num, by omega, HB5, HF⟩
        case measure => simp [intOf]; omega
    · obtain rfl : j = n := by omega
      have HF := hide (show ∀ e ∈ its, e.key ≠ y.key from fun e he => by
        obtain ⟨p, hp, rfl⟩ := List.getElem_of_mem he
        exact hst.out p hp (by rw [← HL.out]; exact hp))
      go_wp2_with fail
      go_ret
      exact ⟨-1, rfl, .inl ⟨rfl, HF.out⟩, hb.out⟩
end Go.Proofs.Ytgliindhndcceaa
