/- The walks of the document's own With and Sort. -/
import Derived.Test.YtgliindhndcceaaMgRefMath
import Derived.Test.YtgliindhndcceaaMgCheck
import Derived.Deep.LoopGhost
import Derived.Deep.RegionLaw
namespace Go.Proofs.Ytgliindhndcceaa
open Go.RowKit
attribute [local go_sem] Dag.gives

theorem Row.at_ {w : World} {B : Nat} {b o n c : Nat} {l : List Ed} (h : Row w B (some ⟨b, o, none⟩) n c l) {k : Nat} (hk : k < l.length) : b < B ∧
    w.cell? ⟨b, o + k * 5, none⟩ = some (.slice l[k].kA l[k].kn l[k].kc) ∧ w.cell? ⟨b, o + k * 5 + 1, none⟩ = some (.bool l[k].put) ∧
    w.cell? ⟨b, o + k * 5 + 2, none⟩ = some (.slice l[k].vA l[k].vn l[k].vc) ∧ w.cell? ⟨b, o + k * 5 + 3, none⟩ = some (.bool l[k].int) ∧ w.cell? ⟨b, o + k * 5 + 4, none⟩ = some (.int .i64 l[k].n) := by
  obtain ⟨b', o', hA, hb, hc⟩ := h.cell hk
  injection hA with hA
  injection hA with h1 h2
  subst h1 h2
  exact ⟨hb, hc⟩
/-- the edit x in a block of its own, as the cells of a value -/
def xcells (x : Ed) : Array Value := #[.slice x.kA x.kn x.kc, .bool x.put, .slice x.vA x.vn x.vc, .bool x.int, .int .i64 x.n]
theorem reads_x (W : World) (x : Ed) : Reads (W.alloc (.cells #[.slice x.kA x.kn x.kc, .bool x.put, .slice x.vA x.vn x.vc, .bool x.int, .int .i64 x.n] 48)) (W.heap.size + 1) 5 (some ⟨W.heap.size, 0, none⟩) 1 (cellsE [x]) :=
  Reads.new W 48 _ #[.slice x.kA x.kn x.kc, .bool x.put, .slice x.vA x.vn x.vc, .bool x.int, .int .i64 x.n] 1 5 (cellsE [x]) rfl (fun j u hu => by simpa [cellsE, Ed.cells] using hu)
set_option maxRecDepth 100000 in
set_option maxHeartbeats 16000000 in
theorem with_any (A : Option Addr) (n c : Nat) (l : List Ed) (x : Ed) (w : World) (hA : Row w w.heap.size A n c l) (hx : x.Ok w w.heap.size) (hn : n ≤ 80000) :
    Calls Try.prog 37 #[.slice A n c, x.agg] w fun e w' => ∃ v, e = .returned v ∧ w'.ownsRow w.heap.size 48 5 v (stepG x true l).length (cellsE (stepG x true l)) ∧ Below w.heap.size w w' := by
  obtain ⟨i0, hti, hz0, hz1, hz2⟩ := info_parts edit_info
  have HA := hide hA
  have HXX := hide hx
  have HL := hide hA.len
  have hcap := hA.cap
  clear hA hx
  unfold Ed.agg
  go_enter Try.func37, Try.ntmps37
  go_wp2_with fail
  obtain ⟨w0, hw0⟩ : ∃ w0, w.alloc (.cells #[.slice x.kA x.kn x.kc, .bool x.put, .slice x.vA x.vn x.vc, .bool x.int, .int .i64 x.n] 48) = w0 := ⟨_, rfl⟩
  have HX0' := new_cells w (.cells #[.slice x.kA x.kn x.kc, .bool x.put, .slice x.vA x.vn x.vc, .bool x.int, .int .i64 x.n] 48)
  have HBX' := below_alloc w (.cells #[.slice x.kA x.kn x.kc, .bool x.put, .slice x.vA x.vn x.vc, .bool x.int, .int .i64 x.n] 48)
  rw [hw0] at HX0' HBX' ⊢
  obtain ⟨X, hX⟩ : ∃ X, X = w.heap.size := ⟨_, rfl⟩
  rw [← hX] at HX0' ⊢
  have HX0 := hide HX0'
  have HBX := hide HBX'
  obtain ⟨B0, hB⟩ : ∃ B0, B0 = w0.heap.size := ⟨_, rfl⟩
  have hB0 : B0 ≤ w0.heap.size := by omega
  have hB1 : w0.heap.size ≤ B0 := by omega
  have HA0 := hide (show Row w0 B0 A n c l by rw [hB]; exact HA.out.on HBX')
  have HXO := hide (show x.Ok w0 B0 by rw [hB]; exact HXX.out.on HBX')
  have HXw := hide hX
  clear hw0 HX0' HBX' hX hB
  go_wp2_with fail
  go_loopw [5, 6, 7] (fun ov dv i wr => ∃ (j : Nat) (d : Bool) (O : List Ed), i = .int .i64 (j : Int) ∧ j ≤ n ∧ dv = .bool d ∧ O.length ≤ j + d.toNat ∧ Hid (wr.ownsRow B0 48 5 ov O.length (cellsE O)) ∧ Hid (Below B0 w0 wr) ∧ Hid (O ++ stepG x (!d) (l.drop j) = stepG x true l)) (fun _ _ i _ => n - (intOf i).toNat)
  case atStart => exact ⟨0, false, [], rfl, Nat.zero_le _, rfl, Nat.zero_le _, hide (World.ownsRow_nil _ _ _ _), hide (Below.refl _ _), hide rfl⟩
  case round =>
    obtain ⟨j, d, O, rfl, hj, rfl, hOl, hown, hb, hdn⟩ := hrel
    by_cases hlt : j < n
    · have hjl : j < l.length := by rw [HL.out]; exact hlt
      have HR := hide (HA0.out.below hb.out)
      obtain ⟨b, o, rfl, hbw, _⟩ := HR.out.cell hjl
      have HFR := hide (HR.out.at_ hjl)
      have hj0 : (0 : Int) ≤ (j : Int) := by omega
      have hj1 : (j : Int) < (n : Int) := by omega
      have HFO := hide (HA0.out.ok l[j] (List.getElem_mem hjl))
      have HDR := hide (List.drop_eq_getElem_cons hjl)
      obtain ⟨f, hf⟩ : ∃ f, f = l[j] := ⟨_, rfl⟩
      rw [← hf] at HFR HFO HDR
      have HF := hide hf
      have hszr : B0 ≤ wr.heap.size := Nat.le_trans hB0 hb.out.size
      clear hf
      go_wp2_with fail
      cases d with
      | true =>
        have hO1 : O.length ≤ j + 1 := hOl
        refine Dag.wp_region_facts 13 (Dag.list [Dag.Is (.bool true), Dag.Is (.bool false), Dag.Is (.bool false), Dag.Is undef, Dag.Is undef, Dag.Is undef, Dag.Is undef, Dag.Is undef, Dag.Is undef, Dag.Is undef, Dag.Is undef, Dag.Is undef, Dag.Is (.bool false)]) (by kernel_rfl) (by kernel_rfl) (Dag.stable_list (by simp [Dag.Stable.is])) ?_ ?_
        · intro vs W hbW
          simp only [Dag.allOps, List.take_succ_cons, List.take_zero, Dag.fill, Act.put, List.setIfInBounds_toArray, List.set_cons_succ, List.set_cons_zero, Dag.deps, Region.binds, Dag.list, Dag.Is, List.getD_cons_zero, List.getD_cons_succ, and_true, forall_const, Nat.reduceAdd, Region.wanted, reduceIte]
          refine ⟨?_, ?_, ?_, ?_, ?_, ?_, ?_, ?_, ?_, ?_, ?_, ?_, ?_⟩
          · (try intro hd); go_simp; (first | done | exact ⟨Below.refl _ _, rfl⟩ | exact Below.refl _ _ | (intro h; cases h))
          · (try intro hd); go_simp; (first | done | exact ⟨Below.refl _ _, rfl⟩ | exact Below.refl _ _ | (intro h; cases h))
          · (try intro hd); go_simp; (first | done | exact ⟨Below.refl _ _, rfl⟩ | exact Below.refl _ _ | (intro h; cases h))
          · (try intro hd); go_simp; (first | done | exact ⟨Below.refl _ _, rfl⟩ | exact Below.refl _ _ | (intro h; cases h))
          · (try intro hd); go_simp; (first | done | exact ⟨Below.refl _ _, rfl⟩ | exact Below.refl _ _ | (intro h; cases h))
          · (try intro hd); go_simp; (first | done | exact ⟨Below.refl _ _, rfl⟩ | exact Below.refl _ _ | (intro h; cases h))
          · (try intro hd); go_simp; (first | done | exact ⟨Below.refl _ _, rfl⟩ | exact Below.refl _ _ | (intro h; cases h))
          · (try intro hd); go_simp; (first | done | exact ⟨Below.refl _ _, rfl⟩ | exact Below.refl _ _ | (intro h; cases h))
          · (try intro hd); go_simp; (first | done | exact ⟨Below.refl _ _, rfl⟩ | exact Below.refl _ _ | (intro h; cases h))
          · (try intro hd); go_simp; (first | done | exact ⟨Below.refl _ _, rfl⟩ | exact Below.refl _ _ | (intro h; cases h))
          · (try intro hd); go_simp; (first | done | exact ⟨Below.refl _ _, rfl⟩ | exact Below.refl _ _ | (intro h; cases h))
          · (try intro hd); go_simp; (first | done | exact ⟨Below.refl _ _, rfl⟩ | exact Below.refl _ _ | (intro h; cases h))
          · (try intro hd); go_simp; (first | done | exact ⟨Below.refl _ _, rfl⟩ | exact Below.refl _ _ | (intro h; cases h))
        · intro vs W hbW hk
          simp only [Dag.known, Dag.list, Dag.Is, List.getD_cons_zero, List.getD_cons_succ, and_true] at hk
          obtain ⟨k0, k1, k2, k3, k4, k5, k6, k7, k8, k9, k10, k11, k12⟩ := hk
          simp only [List.take_succ_cons, List.take_zero, List.drop_succ_cons, List.drop_zero, Dag.fill, Act.put, List.setIfInBounds_toArray, List.set_cons_succ, List.set_cons_zero, Nat.reduceAdd, k0, k1, k2, k3, k4, k5, k6, k7, k8, k9, k10, k11, k12]
          clear k0 k1 k2 k3 k4 k5 k6 k7 k8 k9 k10 k11 k12
          obtain ⟨wz, hwz⟩ : ∃ wz, wz = W := ⟨_, rfl⟩
          rw [← hwz] at hbW ⊢
          have HBZ := hide (show Below B0 w0 wz from hb.out.trans (hbW.mono hszr))
          have HOZ := hide (own_on hown.out hbW)
          obtain ⟨Oz, hOz⟩ : ∃ Oz, Oz = O := ⟨_, rfl⟩
          have HDZ := hide (show Oz ++ ((if f.key = x.key then [] else [f]) ++ stepG x (!true) (l.drop (j + 1))) = stepG x true l by rw [← hdn.out, HDR.out, stepG_cons, hOz]; simp)
          rw [← hOz] at HOZ hO1
          generalize u5 = oz at *
          clear hOz hwz hbW hown hb hdn hOl HR HFR
          have HFZ := hide ((HA0.out.below HBZ.out).at_ hjl)
          rw [← HF.out] at HFZ
          have HXZ := hide ((HBZ.out.block X (Nat.lt_of_lt_of_le (lt_cells HX0.out) hB1)).trans HX0.out)
          have hszZ : B0 ≤ wz.heap.size := Nat.le_trans hB0 HBZ.out.size
          obtain ⟨kq, hkq⟩ : ∃ kq : Bool, kq = decide (f.key = x.key) := ⟨_, rfl⟩
          have HKQ := hide hkq
          clear hkq
          go_wp2_with fail
          refine Dag.wp_region_facts 9 (Dag.list [Dag.Is (.slice (some ⟨b, o, none⟩) n c), Dag.Is (.int .i64 (j : Int)), Dag.Is (.pointer (some ⟨b, o + j * 5, none⟩)), Dag.Is (.pointer (some ⟨b, o + j * 5, none⟩)), Dag.Is (.slice f.kA f.kn f.kc), Dag.Is (.pointer (some ⟨X, 0, none⟩)), Dag.Is (.slice x.kA x.kn x.kc), Dag.Is (.bool kq), Dag.Is (.bool !kq)]) (by kernel_rfl) (by kernel_rfl) (Dag.stable_list (by simp [Dag.Stable.is])) ?_ ?_
          · intro vs W hbW
            simp only [Dag.allOps, List.take_succ_cons, List.take_zero, Dag.fill, Act.put, List.setIfInBounds_toArray, List.set_cons_succ, List.set_cons_zero, Dag.deps, Region.binds, Dag.list, Dag.Is, List.getD_cons_zero, List.getD_cons_succ, and_true, forall_const, Nat.reduceAdd, Region.wanted, reduceIte]
            refine ⟨?_, ?_, ?_, ?_, ?_, ?_, ?_, ?_, ?_⟩
            · (try intro hd); go_simp; (first | done | exact ⟨Below.refl _ _, rfl⟩ | exact Below.refl _ _ | (intro h; cases h))
            · (try intro hd); go_simp; (first | done | exact ⟨Below.refl _ _, rfl⟩ | exact Below.refl _ _ | (intro h; cases h))
            · (try intro hd); go_simp; (first | done | exact ⟨Below.refl _ _, rfl⟩ | exact Below.refl _ _ | (intro h; cases h))
            · (try intro hd); go_simp; (first | done | exact ⟨Below.refl _ _, rfl⟩ | exact Below.refl _ _ | (intro h; cases h))
            · (try intro hd); have y0 := keep_cell hbW HFZ.out.2.1; go_simp; (first | done | exact ⟨Below.refl _ _, rfl⟩ | exact Below.refl _ _)
            · (try intro hd); go_simp; (first | done | exact ⟨Below.refl _ _, rfl⟩ | exact Below.refl _ _ | (intro h; cases h))
            · (try intro hd); obtain ⟨z0, z1, z2, z3, z4⟩ := five_cells (on_cells HXZ.out hbW); go_simp; (first | done | exact ⟨Below.refl _ _, rfl⟩ | exact Below.refl _ _)
            · (try intro hd); go_simp; refine (is_any f.kA x.kA f.kn x.kn f.kc x.kc f.key x.key _ ((((HFO.out.below HBZ.out).more hszZ).rb (Nat.le_refl _)).on hbW) ((((HXO.out.below HBZ.out).more hszZ).rb (Nat.le_refl _)).on hbW)).mono ?_; rintro x w' ⟨rfl, rfl⟩; exact ⟨by rw [HKQ.out], Below.refl _ _⟩
            · (try intro hd); go_simp; (first | done | exact ⟨Below.refl _ _, rfl⟩ | exact Below.refl _ _ | (intro h; cases h))
          · intro vs W hbW hk
            simp only [Dag.known, Dag.list, Dag.Is, List.getD_cons_zero, List.getD_cons_succ, and_true] at hk
            obtain ⟨k0, k1, k2, k3, k4, k5, k6, k7, k8⟩ := hk
            simp only [List.take_succ_cons, List.take_zero, List.drop_succ_cons, List.drop_zero, Dag.fill, Act.put, List.setIfInBounds_toArray, List.set_cons_succ, List.set_cons_zero, Nat.reduceAdd, k0, k1, k2, k3, k4, k5, k6, k7, k8]
            clear k0 k1 k2 k3 k4 k5 k6 k7 k8
            have HBW := hide (show Below B0 w0 W from HBZ.out.trans (hbW.mono hszZ))
            have HOW := hide (own_on HOZ.out hbW)
            have hszW : B0 ≤ W.heap.size := Nat.le_trans hszZ hbW.size
            cases kq with
            | true =>
              have HKE := hide (show (if f.key = x.key then [] else [f]) = ([] : List Ed) from if_pos (of_decide_eq_true HKQ.out.symm))
              go_wp2_with fail
              go_roundw
              case rel => exact ⟨j + 1, _, Oz, by go_num, by omega, rfl, by omega, HOW, HBW, hide (by rw [← HDZ.out, HKE.out]; rfl)⟩
              case measure => simp [intOf]; omega
            | false =>
              have HKE := hide (show (if f.key = x.key then [] else [f]) = [f] from if_neg (of_decide_eq_false HKQ.out.symm))
              obtain ⟨hbB, y0, y1, y2, y3, y4⟩ := HFZ.out
              have y0 := keep_cell hbW y0
              have y1 := keep_cell hbW y1
              have y2 := keep_cell hbW y2
              have y3 := keep_cell hbW y3
              have y4 := keep_cell hbW y4
              go_wp2_with (at_builtin; go_loud (refine wpList_append_reads rfl (.tmp 40) (.tmp 45) _ rfl B0 48 i0 _ 5 72 Try.underlying22 hti hz0 hz1 hz2 rfl (by omega) oz Oz.length (cellsE Oz) rfl (HOW.out.alloc _) (W.heap.size + 1) (some ⟨W.heap.size, 0, none⟩) 1 1 (cellsE [f]) rfl (reads_x W f) cellsE_one (by unfold maxLen; omega) (by omega) (Nat.le_trans hszW (below_alloc _ _).size) ?_); intro v9 w9 hown9 hg9 hat9)
              all_goals
                have HB9 := hide (show Below B0 w0 w9 from (HBW.out.alloc hszW _).grown hg9 (Nat.le_trans hszW (below_alloc _ _).size) fun k hk => (HOW.out.lt k hk).1)
                go_roundw
                case rel => exact ⟨j + 1, _, Oz ++ [f], by go_num, by omega, rfl, by simp; omega, hide (by rw [cellsE_append, List.length_append]; exact hown9), HB9, hide (by rw [← HDZ.out, HKE.out, List.append_assoc])⟩
                case measure => simp [intOf]; omega
      | false =>
        have hO1 : O.length ≤ j := hOl
        obtain ⟨y, hy⟩ : ∃ y : Bool, y = Mg.lt f.key x.key := ⟨_, rfl⟩
        have HY := hide hy
        clear hy
        have HXR := hide ((hb.out.block X (Nat.lt_of_lt_of_le (lt_cells HX0.out) hB1)).trans HX0.out)
        refine Dag.wp_region_facts 13 (Dag.list [Dag.Is (.bool false), Dag.Is (.bool true), Dag.Is (.bool true), Dag.Is (.slice (some ⟨b, o, none⟩) n c), Dag.Is (.int .i64 (j : Int)), Dag.Is (.pointer (some ⟨b, o + j * 5, none⟩)), Dag.Is (.pointer (some ⟨b, o + j * 5, none⟩)), Dag.Is (.slice f.kA f.kn f.kc), Dag.Is (.pointer (some ⟨X, 0, none⟩)), Dag.Is (.slice x.kA x.kn x.kc), Dag.Is (.bool y), Dag.Is (.bool !y), Dag.Is (.bool !y)]) (by kernel_rfl) (by kernel_rfl) (Dag.stable_list (by simp [Dag.Stable.is])) ?_ ?_
        · intro vs W hbW
          simp only [Dag.allOps, List.take_succ_cons, List.take_zero, Dag.fill, Act.put, List.setIfInBounds_toArray, List.set_cons_succ, List.set_cons_zero, Dag.deps, Region.binds, Dag.list, Dag.Is, List.getD_cons_zero, List.getD_cons_succ, and_true, forall_const, Nat.reduceAdd, Region.wanted, reduceIte]
          refine ⟨?_, ?_, ?_, ?_, ?_, ?_, ?_, ?_, ?_, ?_, ?_, ?_, ?_⟩
          · (try intro hd); go_simp; (first | done | exact ⟨Below.refl _ _, rfl⟩ | exact Below.refl _ _ | (intro h; cases h))
          · (try intro hd); go_simp; (first | done | exact ⟨Below.refl _ _, rfl⟩ | exact Below.refl _ _ | (intro h; cases h))
          · (try intro hd); go_simp; (first | done | exact ⟨Below.refl _ _, rfl⟩ | exact Below.refl _ _ | (intro h; cases h))
          · (try intro hd); go_simp; (first | done | exact ⟨Below.refl _ _, rfl⟩ | exact Below.refl _ _ | (intro h; cases h))
          · (try intro hd); go_simp; (first | done | exact ⟨Below.refl _ _, rfl⟩ | exact Below.refl _ _ | (intro h; cases h))
          · (try intro hd); go_simp; (first | done | exact ⟨Below.refl _ _, rfl⟩ | exact Below.refl _ _ | (intro h; cases h))
          · (try intro hd); go_simp; (first | done | exact ⟨Below.refl _ _, rfl⟩ | exact Below.refl _ _ | (intro h; cases h))
          · (try intro hd); have y0 := keep_cell hbW HFR.out.2.1; go_simp; (first | done | exact ⟨Below.refl _ _, rfl⟩ | exact Below.refl _ _)
          · (try intro hd); go_simp; (first | done | exact ⟨Below.refl _ _, rfl⟩ | exact Below.refl _ _ | (intro h; cases h))
          · (try intro hd); obtain ⟨z0, z1, z2, z3, z4⟩ := five_cells (on_cells HXR.out hbW); go_simp; (first | done | exact ⟨Below.refl _ _, rfl⟩ | exact Below.refl _ _)
          · (try intro hd); go_simp; refine (ahead_any f.kA x.kA f.kn x.kn f.kc x.kc f.key x.key _ ((((HFO.out.below hb.out).more hszr).rb (Nat.le_refl _)).on hbW) ((((HXO.out.below hb.out).more hszr).rb (Nat.le_refl _)).on hbW)).mono ?_; rintro x w' ⟨rfl, rfl⟩; exact ⟨by rw [HY.out], Below.refl _ _⟩
          · (try intro hd); go_simp; (first | done | exact ⟨Below.refl _ _, rfl⟩ | exact Below.refl _ _ | (intro h; cases h))
          · (try intro hd); go_simp; (first | done | exact ⟨Below.refl _ _, rfl⟩ | exact Below.refl _ _ | (intro h; cases h))
        · intro vs W hbW hk
          simp only [Dag.known, Dag.list, Dag.Is, List.getD_cons_zero, List.getD_cons_succ, and_true] at hk
          obtain ⟨k0, k1, k2, k3, k4, k5, k6, k7, k8, k9, k10, k11, k12⟩ := hk
          simp only [List.take_succ_cons, List.take_zero, List.drop_succ_cons, List.drop_zero, Dag.fill, Act.put, List.setIfInBounds_toArray, List.set_cons_succ, List.set_cons_zero, Nat.reduceAdd, k0, k1, k2, k3, k4, k5, k6, k7, k8, k9, k10, k11, k12]
          clear k0 k1 k2 k3 k4 k5 k6 k7 k8 k9 k10 k11 k12
          have HBW1 := hide (show Below B0 w0 W from hb.out.trans (hbW.mono hszr))
          have HOW1 := hide (own_on hown.out hbW)
          have hszW1 : B0 ≤ W.heap.size := Nat.le_trans hszr hbW.size
          have HXW1 := hide (on_cells HXR.out hbW)
          cases y with
          | true =>
            go_wp2_with fail
            obtain ⟨wz, hwz⟩ : ∃ wz, wz = W := ⟨_, rfl⟩
            rw [← hwz] at HBW1 HOW1 ⊢
            have HBZ := HBW1
            have HOZ := HOW1
            obtain ⟨Oz, hOz⟩ : ∃ Oz, Oz = O := ⟨_, rfl⟩
            have HDZ := hide (show Oz ++ ((if f.key = x.key then [] else [f]) ++ stepG x (!false) (l.drop (j + 1))) = stepG x true l by rw [← hdn.out, HDR.out, stepG_cons, hOz, ← HY.out]; simp)
            rw [← hOz] at HOZ hO1
            generalize u5 = oz at *
            clear hOz hwz hbW hown hb hdn hOl HR HFR HBW1 HOW1 HXR hszW1 HXW1 HY
            have HFZ := hide ((HA0.out.below HBZ.out).at_ hjl)
            rw [← HF.out] at HFZ
            have HXZ := hide ((HBZ.out.block X (Nat.lt_of_lt_of_le (lt_cells HX0.out) hB1)).trans HX0.out)
            have hszZ : B0 ≤ wz.heap.size := Nat.le_trans hB0 HBZ.out.size
            obtain ⟨kq, hkq⟩ : ∃ kq : Bool, kq = decide (f.key = x.key) := ⟨_, rfl⟩
            have HKQ := hide hkq
            clear hkq
            go_wp2_with fail
            refine Dag.wp_region_facts 9 (Dag.list [Dag.Is (.slice (some ⟨b, o, none⟩) n c), Dag.Is (.int .i64 (j : Int)), Dag.Is (.pointer (some ⟨b, o + j * 5, none⟩)), Dag.Is (.pointer (some ⟨b, o + j * 5, none⟩)), Dag.Is (.slice f.kA f.kn f.kc), Dag.Is (.pointer (some ⟨X, 0, none⟩)), Dag.Is (.slice x.kA x.kn x.kc), Dag.Is (.bool kq), Dag.Is (.bool !kq)]) (by kernel_rfl) (by kernel_rfl) (Dag.stable_list (by simp [Dag.Stable.is])) ?_ ?_
            · intro vs W hbW
              simp only [Dag.allOps, List.take_succ_cons, List.take_zero, Dag.fill, Act.put, List.setIfInBounds_toArray, List.set_cons_succ, List.set_cons_zero, Dag.deps, Region.binds, Dag.list, Dag.Is, List.getD_cons_zero, List.getD_cons_succ, and_true, forall_const, Nat.reduceAdd, Region.wanted, reduceIte]
              refine ⟨?_, ?_, ?_, ?_, ?_, ?_, ?_, ?_, ?_⟩
              · (try intro hd); go_simp; (first | done | exact ⟨Below.refl _ _, rfl⟩ | exact Below.refl _ _ | (intro h; cases h))
              · (try intro hd); go_simp; (first | done | exact ⟨Below.refl _ _, rfl⟩ | exact Below.refl _ _ | (intro h; cases h))
              · (try intro hd); go_simp; (first | done | exact ⟨Below.refl _ _, rfl⟩ | exact Below.refl _ _ | (intro h; cases h))
              · (try intro hd); go_simp; (first | done | exact ⟨Below.refl _ _, rfl⟩ | exact Below.refl _ _ | (intro h; cases h))
              · (try intro hd); have y0 := keep_cell hbW HFZ.out.2.1; go_simp; (first | done | exact ⟨Below.refl _ _, rfl⟩ | exact Below.refl _ _)
              · (try intro hd); go_simp; (first | done | exact ⟨Below.refl _ _, rfl⟩ | exact Below.refl _ _ | (intro h; cases h))
              · (try intro hd); obtain ⟨z0, z1, z2, z3, z4⟩ := five_cells (on_cells HXZ.out hbW); go_simp; (first | done | exact ⟨Below.refl _ _, rfl⟩ | exact Below.refl _ _)
              · (try intro hd); go_simp; refine (is_any f.kA x.kA f.kn x.kn f.kc x.kc f.key x.key _ ((((HFO.out.below HBZ.out).more hszZ).rb (Nat.le_refl _)).on hbW) ((((HXO.out.below HBZ.out).more hszZ).rb (Nat.le_refl _)).on hbW)).mono ?_; rintro x w' ⟨rfl, rfl⟩; exact ⟨by rw [HKQ.out], Below.refl _ _⟩
              · (try intro hd); go_simp; (first | done | exact ⟨Below.refl _ _, rfl⟩ | exact Below.refl _ _ | (intro h; cases h))
            · intro vs W hbW hk
              simp only [Dag.known, Dag.list, Dag.Is, List.getD_cons_zero, List.getD_cons_succ, and_true] at hk
              obtain ⟨k0, k1, k2, k3, k4, k5, k6, k7, k8⟩ := hk
              simp only [List.take_succ_cons, List.take_zero, List.drop_succ_cons, List.drop_zero, Dag.fill, Act.put, List.setIfInBounds_toArray, List.set_cons_succ, List.set_cons_zero, Nat.reduceAdd, k0, k1, k2, k3, k4, k5, k6, k7, k8]
              clear k0 k1 k2 k3 k4 k5 k6 k7 k8
              have HBW := hide (show Below B0 w0 W from HBZ.out.trans (hbW.mono hszZ))
              have HOW := hide (own_on HOZ.out hbW)
              have hszW : B0 ≤ W.heap.size := Nat.le_trans hszZ hbW.size
              cases kq with
              | true =>
                have HKE := hide (show (if f.key = x.key then [] else [f]) = ([] : List Ed) from if_pos (of_decide_eq_true HKQ.out.symm))
                go_wp2_with fail
                go_roundw
                case rel => exact ⟨j + 1, _, Oz, by go_num, by omega, rfl, by omega, HOW, HBW, hide (by rw [← HDZ.out, HKE.out]; rfl)⟩
                case measure => simp [intOf]; omega
              | false =>
                have HKE := hide (show (if f.key = x.key then [] else [f]) = [f] from if_neg (of_decide_eq_false HKQ.out.symm))
                obtain ⟨hbB, y0, y1, y2, y3, y4⟩ := HFZ.out
                have y0 := keep_cell hbW y0
                have y1 := keep_cell hbW y1
                have y2 := keep_cell hbW y2
                have y3 := keep_cell hbW y3
                have y4 := keep_cell hbW y4
                go_wp2_with (at_builtin; go_loud (refine wpList_append_reads rfl (.tmp 40) (.tmp 45) _ rfl B0 48 i0 _ 5 72 Try.underlying22 hti hz0 hz1 hz2 rfl (by omega) oz Oz.length (cellsE Oz) rfl (HOW.out.alloc _) (W.heap.size + 1) (some ⟨W.heap.size, 0, none⟩) 1 1 (cellsE [f]) rfl (reads_x W f) cellsE_one (by unfold maxLen; omega) (by omega) (Nat.le_trans hszW (below_alloc _ _).size) ?_); intro v9 w9 hown9 hg9 hat9)
                all_goals
                  have HB9 := hide (show Below B0 w0 w9 from (HBW.out.alloc hszW _).grown hg9 (Nat.le_trans hszW (below_alloc _ _).size) fun k hk => (HOW.out.lt k hk).1)
                  go_roundw
                  case rel => exact ⟨j + 1, _, Oz ++ [f], by go_num, by omega, rfl, by simp; omega, hide (by rw [cellsE_append, List.length_append]; exact hown9), HB9, hide (by rw [← HDZ.out, HKE.out, List.append_assoc])⟩
                  case measure => simp [intOf]; omega
          | false =>
            obtain ⟨z0, z1, z2, z3, z4⟩ := five_cells HXW1.out
            go_wp2_with (at_builtin; go_loud (refine wpList_append_reads rfl (.tmp 27) (.tmp 29) _ rfl B0 48 i0 _ 5 72 Try.underlying22 hti hz0 hz1 hz2 rfl (by omega) u5 O.length (cellsE O) rfl (HOW1.out.alloc _) (W.heap.size + 1) (some ⟨W.heap.size, 0, none⟩) 1 1 (cellsE [x]) rfl (reads_x W x) cellsE_one (by unfold maxLen; omega) (by omega) (Nat.le_trans hszW1 (below_alloc _ _).size) ?_); intro oz wz hown9 hg9 hat9)
            all_goals
              have HBZ := hide (show Below B0 w0 wz from (HBW1.out.alloc hszW1 _).grown hg9 (Nat.le_trans hszW1 (below_alloc _ _).size) fun k hk => (HOW1.out.lt k hk).1)
              obtain ⟨Oz, hOz⟩ : ∃ Oz, Oz = O ++ [x] := ⟨_, rfl⟩
              have HOZ := hide (show wz.ownsRow B0 48 5 oz Oz.length (cellsE Oz) by rw [hOz, cellsE_append, List.length_append]; exact hown9)
              have HDZ := hide (show Oz ++ ((if f.key = x.key then [] else [f]) ++ stepG x (!true) (l.drop (j + 1))) = stepG x true l by rw [← hdn.out, HDR.out, stepG_cons, hOz, ← HY.out]; simp)
              have hO1 : Oz.length ≤ j + 1 := by rw [hOz]; simp; omega
              clear hOz hbW hown hb hdn hOl HR HFR HBW1 HOW1 HXR hszW1 HXW1 HY hown9 hg9 hat9 z0 z1 z2 z3 z4
              have HFZ := hide ((HA0.out.below HBZ.out).at_ hjl)
              rw [← HF.out] at HFZ
              have HXZ := hide ((HBZ.out.block X (Nat.lt_of_lt_of_le (lt_cells HX0.out) hB1)).trans HX0.out)
              have hszZ : B0 ≤ wz.heap.size := Nat.le_trans hB0 HBZ.out.size
              obtain ⟨kq, hkq⟩ : ∃ kq : Bool, kq = decide (f.key = x.key) := ⟨_, rfl⟩
              have HKQ := hide hkq
              clear hkq
              go_wp2_with fail
              refine Dag.wp_region_facts 9 (Dag.list [Dag.Is (.slice (some ⟨b, o, none⟩) n c), Dag.Is (.int .i64 (j : Int)), Dag.Is (.pointer (some ⟨b, o + j * 5, none⟩)), Dag.Is (.pointer (some ⟨b, o + j * 5, none⟩)), Dag.Is (.slice f.kA f.kn f.kc), Dag.Is (.pointer (some ⟨X, 0, none⟩)), Dag.Is (.slice x.kA x.kn x.kc), Dag.Is (.bool kq), Dag.Is (.bool !kq)]) (by kernel_rfl) (by kernel_rfl) (Dag.stable_list (by simp [Dag.Stable.is])) ?_ ?_
              · intro vs W hbW
                simp only [Dag.allOps, List.take_succ_cons, List.take_zero, Dag.fill, Act.put, List.setIfInBounds_toArray, List.set_cons_succ, List.set_cons_zero, Dag.deps, Region.binds, Dag.list, Dag.Is, List.getD_cons_zero, List.getD_cons_succ, and_true, forall_const, Nat.reduceAdd, Region.wanted, reduceIte]
                refine ⟨?_, ?_, ?_, ?_, ?_, ?_, ?_, ?_, ?_⟩
                · (try intro hd); go_simp; (first | done | exact ⟨Below.refl _ _, rfl⟩ | exact Below.refl _ _ | (intro h; cases h))
                · (try intro hd); go_simp; (first | done | exact ⟨Below.refl _ _, rfl⟩ | exact Below.refl _ _ | (intro h; cases h))
                · (try intro hd); go_simp; (first | done | exact ⟨Below.refl _ _, rfl⟩ | exact Below.refl _ _ | (intro h; cases h))
                · (try intro hd); go_simp; (first | done | exact ⟨Below.refl _ _, rfl⟩ | exact Below.refl _ _ | (intro h; cases h))
                · (try intro hd); have y0 := keep_cell hbW HFZ.out.2.1; go_simp; (first | done | exact ⟨Below.refl _ _, rfl⟩ | exact Below.refl _ _)
                · (try intro hd); go_simp; (first | done | exact ⟨Below.refl _ _, rfl⟩ | exact Below.refl _ _ | (intro h; cases h))
                · (try intro hd); obtain ⟨z0, z1, z2, z3, z4⟩ := five_cells (on_cells HXZ.out hbW); go_simp; (first | done | exact ⟨Below.refl _ _, rfl⟩ | exact Below.refl _ _)
                · (try intro hd); go_simp; refine (is_any f.kA x.kA f.kn x.kn f.kc x.kc f.key x.key _ ((((HFO.out.below HBZ.out).more hszZ).rb (Nat.le_refl _)).on hbW) ((((HXO.out.below HBZ.out).more hszZ).rb (Nat.le_refl _)).on hbW)).mono ?_; rintro x w' ⟨rfl, rfl⟩; exact ⟨by rw [HKQ.out], Below.refl _ _⟩
                · (try intro hd); go_simp; (first | done | exact ⟨Below.refl _ _, rfl⟩ | exact Below.refl _ _ | (intro h; cases h))
              · intro vs W hbW hk
                simp only [Dag.known, Dag.list, Dag.Is, List.getD_cons_zero, List.getD_cons_succ, and_true] at hk
                obtain ⟨k0, k1, k2, k3, k4, k5, k6, k7, k8⟩ := hk
                simp only [List.take_succ_cons, List.take_zero, List.drop_succ_cons, List.drop_zero, Dag.fill, Act.put, List.setIfInBounds_toArray, List.set_cons_succ, List.set_cons_zero, Nat.reduceAdd, k0, k1, k2, k3, k4, k5, k6, k7, k8]
                clear k0 k1 k2 k3 k4 k5 k6 k7 k8
                have HBW := hide (show Below B0 w0 W from HBZ.out.trans (hbW.mono hszZ))
                have HOW := hide (own_on HOZ.out hbW)
                have hszW : B0 ≤ W.heap.size := Nat.le_trans hszZ hbW.size
                cases kq with
                | true =>
                  have HKE := hide (show (if f.key = x.key then [] else [f]) = ([] : List Ed) from if_pos (of_decide_eq_true HKQ.out.symm))
                  go_wp2_with fail
                  go_roundw
                  case rel => exact ⟨j + 1, _, Oz, by go_num, by omega, rfl, by omega, HOW, HBW, hide (by rw [← HDZ.out, HKE.out]; rfl)⟩
                  case measure => simp [intOf]; omega
                | false =>
                  have HKE := hide (show (if f.key = x.key then [] else [f]) = [f] from if_neg (of_decide_eq_false HKQ.out.symm))
                  obtain ⟨hbB, y0, y1, y2, y3, y4⟩ := HFZ.out
                  have y0 := keep_cell hbW y0
                  have y1 := keep_cell hbW y1
                  have y2 := keep_cell hbW y2
                  have y3 := keep_cell hbW y3
                  have y4 := keep_cell hbW y4
                  go_wp2_with (at_builtin; go_loud (refine wpList_append_reads rfl (.tmp 40) (.tmp 45) _ rfl B0 48 i0 _ 5 72 Try.underlying22 hti hz0 hz1 hz2 rfl (by omega) oz Oz.length (cellsE Oz) rfl (HOW.out.alloc _) (W.heap.size + 1) (some ⟨W.heap.size, 0, none⟩) 1 1 (cellsE [f]) rfl (reads_x W f) cellsE_one (by unfold maxLen; omega) (by omega) (Nat.le_trans hszW (below_alloc _ _).size) ?_); intro v9 w9 hown9 hg9 hat9)
                  all_goals
                    have HB9 := hide (show Below B0 w0 w9 from (HBW.out.alloc hszW _).grown hg9 (Nat.le_trans hszW (below_alloc _ _).size) fun k hk => (HOW.out.lt k hk).1)
                    go_roundw
                    case rel => exact ⟨j + 1, _, Oz ++ [f], by go_num, by omega, rfl, by simp; omega, hide (by rw [cellsE_append, List.length_append]; exact hown9), HB9, hide (by rw [← HDZ.out, HKE.out, List.append_assoc])⟩
                    case measure => simp [intOf]; omega
    · obtain rfl : j = n := by omega
      have hBw : w.heap.size ≤ B0 := Nat.le_trans HBX.out.size hB1
      have HBF := hide (fun (W : World) (h : Below B0 w0 W) => show Below w.heap.size w W from HBX.out.trans (h.mono hBw))
      have hszr : B0 ≤ wr.heap.size := Nat.le_trans hB0 hb.out.size
      have hDN := hdn.out
      rw [List.drop_of_length_le (by rw [HL.out]; exact Nat.le_refl _), stepG_nil] at hDN
      cases d with
      | true =>
        have HDN := hide (show stepG x true l = O by rw [← hDN]; simp)
        clear hDN
        go_wp2_with fail
        go_ret
        exact ⟨u5, rfl, by rw [HDN.out]; exact own_base hown.out hBw, HBF.out _ hb.out⟩
      | false =>
        have HDN := hide (show stepG x true l = O ++ [x] by rw [← hDN]; rfl)
        clear hDN
        have hO1 : O.length ≤ j := hOl
        have HXR := hide ((hb.out.block X (Nat.lt_of_lt_of_le (lt_cells HX0.out) hB1)).trans HX0.out)
        obtain ⟨z0, z1, z2, z3, z4⟩ := five_cells HXR.out
        go_wp2_with (at_builtin; go_loud (refine wpList_append_reads rfl (.tmp 49) (.tmp 51) _ rfl B0 48 i0 _ 5 72 Try.underlying22 hti hz0 hz1 hz2 rfl (by omega) u5 O.length (cellsE O) rfl (hown.out.alloc _) (wr.heap.size + 1) (some ⟨wr.heap.size, 0, none⟩) 1 1 (cellsE [x]) rfl (reads_x wr x) cellsE_one (by unfold maxLen; omega) (by omega) (Nat.le_trans hszr (below_alloc _ _).size) ?_); intro v9 w9 hown9 hg9 hat9)
        all_goals
          have HB9 := hide (show Below B0 w0 w9 from (hb.out.alloc hszr _).grown hg9 (Nat.le_trans hszr (below_alloc _ _).size) fun k hk => (hown.out.lt k hk).1)
          go_ret
          exact ⟨v9, rfl, by rw [HDN.out, cellsE_append, List.length_append]; exact own_base hown9 hBw, HBF.out _ HB9.out⟩
theorem stepG_len1 (x : Ed) (l : List Ed) : (stepG x true l).length ≤ l.length + 1 := stepG_len x true l
set_option maxRecDepth 100000 in
set_option maxHeartbeats 16000000 in
theorem rsort_any (A : Option Addr) (n c : Nat) (l : List Ed) (w : World) (hA : Row w w.heap.size A n c l) (hn : n ≤ 70000) :
    Calls Try.prog 18 #[.slice A n c] w fun e w' => ∃ A' c', e = .returned (.slice A' (srt l).length c') ∧ Row w' w'.heap.size A' (srt l).length c' (srt l) ∧ Below w.heap.size w w' := by
  have HA := hide hA
  have HL := hide hA.len
  clear hA
  go_enter Try.func18, Try.ntmps18
  go_wp2_with fail
  go_loopw [3, 4] (fun ov i wr => ∃ (j m : Nat) (A' : Option Addr) (c' : Nat) (O : List Ed), i = .int .i64 (j : Int) ∧ j ≤ n ∧ m ≤ j ∧ ov = .slice A' m c' ∧ Hid (Row wr wr.heap.size A' m c' O) ∧ Hid (O = srt (l.take j)) ∧ Hid (Below w.heap.size w wr)) (fun _ i _ => n - (intOf i).toNat)
  case atStart => exact ⟨0, 0, none, 0, [], rfl, Nat.zero_le _, Nat.le_refl _, rfl, hide (Row.nil _ _), hide rfl, hide (Below.refl _ _)⟩
  case round =>
    obtain ⟨j, m, A', c', O, rfl, hj, hm, rfl, hO, hOs, hb⟩ := hrel
    by_cases hlt : j < n
    · have hjl : j < l.length := by rw [HL.out]; exact hlt
      have HR := hide (HA.out.on hb.out)
      obtain ⟨b, o, rfl, hbw, -⟩ := HR.out.cell hjl
      obtain ⟨_, y0, y1, y2, y3, y4⟩ := HR.out.at_ hjl
      have hj0 : (0 : Int) ≤ (j : Int) := by omega
      have hj1 : (j : Int) < (n : Int) := by omega
      have HXO := hide (HR.out.ok l[j] (List.getElem_mem hjl))
      have HTJ := hide (show l.take (j + 1) = l.take j ++ [l[j]] from List.take_succ_eq_append_getElem hjl)
      obtain ⟨x, hx⟩ : ∃ x, x = l[j] := ⟨_, rfl⟩
      rw [← hx] at HXO HTJ y0 y1 y2 y3 y4
      have HW := hide (with_any A' m c' O x wr hO.out HXO.out (by omega))
      obtain ⟨O2, hO2⟩ : ∃ O2, O2 = stepG x true O := ⟨_, rfl⟩
      rw [← hO2] at HW
      have HST := hide (show O2 = srt (l.take (j + 1)) by rw [hO2, hOs.out, stepG_ins x (srt_up _), HTJ.out, srt_snoc])
      have HSM := hide (show ∀ e ∈ O2, e = x ∨ e ∈ O from fun e he => by rw [hO2] at he; exact stepG_mem _ _ _ _ he)
      obtain ⟨m2, hm2⟩ : ∃ m2, m2 = O2.length := ⟨_, rfl⟩
      have hsl : m2 ≤ j + 1 := by rw [hm2, hO2]; have := stepG_len1 x O; have := hO.out.len; omega
      rw [← hm2] at HW
      clear hx hO2 hm2
      unfold Ed.agg at HW
      go_wp2_with fail
      refine Calls.mono HW.out ?_
      rintro e w2 ⟨v, rfl, hown, hb2⟩
      obtain ⟨A2, c2, rfl, _⟩ := own_slice hown
      have HO2 := hide (Row.of_own hown (fun e he => by
        rcases HSM.out e he with rfl | h
        · exact HXO.out.on hb2
        · exact (hO.out.ok e h).on hb2))
      have HB2 := hide (below_then hb.out hb2)
      clear hown hb2 HW y0 y1 y2 y3 y4
      go_wp2_with fail
      go_roundw
      case rel => exact ⟨j + 1, m2, A2, c2, O2, by go_num, by omega, hsl, rfl, HO2, HST, HB2⟩
      case measure => simp [intOf]; omega
    · obtain rfl : j = n := by omega
      have HF := hide (show O = srt l by rw [hOs.out, List.take_of_length_le (by rw [HL.out]; exact Nat.le_refl _)])
      have hml := hO.out.len
      rw [HF.out] at hml
      subst hml
      have HO2 := hide (show Row wr wr.heap.size A' (srt l).length c' (srt l) by have h := hO.out; rw [HF.out] at h; exact h)
      go_wp2_with fail
      go_ret
      exact ⟨A', c', rfl, HO2.out, hb.out⟩
end Go.Proofs.Ytgliindhndcceaa
