/- The walk of the document's own Done. -/
import Derived.Test.YtgliindhndcceaaMgItems
import Derived.Test.YtgliindhndcceaaDag2
namespace Go.Proofs.Ytgliindhndcceaa
open Go.RowKit
attribute [local go_sem] Dag.gives

theorem ItR.at_ {w : World} {B : Nat} {b o n c : Nat} {l : List Ed} (h : ItR w B (some ⟨b, o, none⟩) n c l) {k : Nat} (hk : k < l.length) : b < B ∧
    w.cell? ⟨b, o + k * 4, none⟩ = some (.slice l[k].kA l[k].kn l[k].kc) ∧ w.cell? ⟨b, o + k * 4 + 1, none⟩ = some (.slice l[k].vA l[k].vn l[k].vc) ∧
    w.cell? ⟨b, o + k * 4 + 2, none⟩ = some (.bool l[k].int) ∧ w.cell? ⟨b, o + k * 4 + 3, none⟩ = some (.int .i64 l[k].n) := by
  obtain ⟨b', o', hA, hb, hc⟩ := h.cell hk
  injection hA with hA
  injection hA with h1 h2
  subst h1 h2
  exact ⟨hb, hc⟩
theorem reads_made {W : World} {k : Nat} {cs : Array Value} {t : TypeId} {x : Ed} (h : W.heap[k]? = some (.cells cs t (0, 0))) (hc : cs.toList = cellsI [x]) : Reads W W.heap.size 4 (some ⟨k, 0, none⟩) 1 (cellsI [x]) :=
  ⟨by rw [cellsI_len]; rfl, fun _ => ⟨k, 0, rfl, lt_cells h, fun j u hu => by
    rw [Nat.zero_add, cell_of_row _ _ _ _ _ _ h]
    rw [← hc] at hu
    simpa using hu⟩⟩
set_option maxRecDepth 100000 in
set_option maxHeartbeats 16000000 in
theorem rdone_any (A : Option Addr) (n c : Nat) (its : List Ed) (B : Option Addr) (ne ce : Nat) (es : List Ed) (w : World) (hA : ItR w w.heap.size A n c its) (hB : Row w w.heap.size B ne ce es) (hn : n ≤ 40000) (hm : ne ≤ 40000) :
    Calls Try.prog 26 #[.slice A n c, .slice B ne ce] w fun e w' => ∃ A' m' c', e = .returned (.slice A' m' c') ∧ ItR w' w'.heap.size A' m' c' (doneR its es) ∧ Below w.heap.size w w' := by
  obtain ⟨i0, hti, hz0, hz1, hz2⟩ := info_parts item_info
  have HA := hide hA
  have HE := hide hB
  have HEL := hide hB.len
  clear hA hB
  go_enter Try.func26, Try.ntmps26
  go_wp2_with fail
  go_loopw [5, 6] (fun ov i wr => ∃ (j m : Nat) (A1 : Option Addr) (c1 : Nat) (O : List Ed), i = .int .i64 (j : Int) ∧ j ≤ ne ∧ m ≤ n + j ∧ ov = .slice A1 m c1 ∧ Hid (ItR wr wr.heap.size A1 m c1 O) ∧ Hid (O = doneR its (es.take j)) ∧ Hid (Below w.heap.size w wr)) (fun _ i _ => ne - (intOf i).toNat)
  case atStart => exact ⟨0, n, A, c, its, rfl, Nat.zero_le _, Nat.le_refl _, rfl, HA, hide rfl, hide (Below.refl _ _)⟩
  case round =>
    obtain ⟨j, m, A1, c1, O, rfl, hj, hmj, rfl, hO, hOe, hb⟩ := hrel
    by_cases hlt : j < ne
    · have hjl : j < es.length := by rw [HEL.out]; exact hlt
      have HER := hide (HE.out.on hb.out)
      obtain ⟨be, oe, rfl, -, -⟩ := HER.out.cell hjl
      have HX := hide (HER.out.at_ hjl)
      have hj0 : (0 : Int) ≤ (j : Int) := by omega
      have hj1 : (j : Int) < (ne : Int) := by omega
      have HXO' := hide (HER.out.ok es[j] (List.getElem_mem hjl))
      have HTJ := hide (show es.take (j + 1) = es.take j ++ [es[j]] from List.take_succ_eq_append_getElem hjl)
      obtain ⟨x, hx⟩ : ∃ x, x = es[j] := ⟨_, rfl⟩
      rw [← hx] at HX HXO' HTJ
      have HXE := hide hx
      have HLX' := hide (stepG_len x x.put O)
      obtain ⟨LX, hLX⟩ : ∃ LX, (stepG x x.put O).length = LX := ⟨_, rfl⟩
      rw [hLX, hO.out.len] at HLX'
      have HLX := hide hLX
      have HLB := hide (show LX ≤ m + 1 by have := HLX'.out; split at this <;> omega)
      have HOL := hide hO.out.len
      have HBw := hb
      generalize wr = w1 at *
      obtain ⟨B0, hB⟩ : ∃ B0, B0 = w1.heap.size := ⟨_, rfl⟩
      have hB0 : B0 ≤ w1.heap.size := by omega
      have hB1 : w1.heap.size ≤ B0 := by omega
      have HE0 := hide (show Row w1 B0 (some ⟨be, oe, none⟩) ne ce es by rw [hB]; exact HER.out)
      have HO0 := hide (show ItR w1 B0 A1 m c1 O by rw [hB]; exact hO.out)
      have HXO := hide (show x.Ok w1 B0 by rw [hB]; exact HXO'.out)
      have hpx := HX.out.2.2.1
      clear hx hB hLX HLX' HXO' HER hO hb
      go_wp2_with fail
      clear hpx
      go_loopw [7, 8, 9] (fun ov pv i wr => ∃ (k : Nat) (p : Bool) (O2 : List Ed), i = .int .i64 (k : Int) ∧ k ≤ m ∧ pv = .bool p ∧ Hid (wr.ownsRow B0 51 4 ov O2.length (cellsI O2)) ∧ Hid (Below B0 w1 wr) ∧ Hid (O2 ++ stepG x p (O.drop k) = stepG x x.put O)) (fun _ _ i _ => m - (intOf i).toNat)
      case atStart => exact ⟨0, x.put, [], rfl, Nat.zero_le _, rfl, hide (World.ownsRow_nil _ _ _ _), hide (Below.refl _ _), hide rfl⟩
      case round =>
        obtain ⟨k, p, O2, rfl, hk, rfl, hown, hb, hdn⟩ := hrel
        by_cases hlk : k < m
        · have hkl : k < O.length := by rw [HOL.out]; exact hlk
          have HR := hide (HO0.out.below hb.out)
          obtain ⟨b, o, rfl, -, -⟩ := HR.out.cell hkl
          have HFR := hide (HR.out.at_ hkl)
          have HXR := hide ((HE0.out.below hb.out).at_ hjl)
          rw [← HXE.out] at HXR
          have hk0 : (0 : Int) ≤ (k : Int) := by omega
          have hk1 : (k : Int) < (m : Int) := by omega
          have HFO := hide (HO0.out.ok O[k] (List.getElem_mem hkl))
          have HDR := hide (List.drop_eq_getElem_cons hkl)
          obtain ⟨f, hf⟩ : ∃ f, f = O[k] := ⟨_, rfl⟩
          rw [← hf] at HFR HFO HDR
          have HF := hide hf
          have hszr : B0 ≤ wr.heap.size := Nat.le_trans hB0 hb.out.size
          clear hf
          go_wp2_with fail
          cases p with
          | false =>
            refine Dag.wp_region_facts 15 (Dag.list [Dag.Is (.bool false), Dag.Is (.bool false), Dag.Is undef, Dag.Is undef, Dag.Is undef, Dag.Is undef, Dag.Is undef, Dag.Is undef, Dag.Is undef, Dag.Is undef, Dag.Is undef, Dag.Is undef, Dag.Is undef, Dag.Is undef, Dag.Is (.bool false)]) (by kernel_rfl) (by kernel_rfl) (Dag.stable_list (by simp [Dag.Stable.is])) ?_ ?_
            · intro vs W hbW
              simp only [Dag.allOps, List.take_succ_cons, List.take_zero, Dag.fill, Act.put, List.setIfInBounds_toArray, List.set_cons_succ, List.set_cons_zero, Dag.deps, Region.binds, Dag.list, Dag.Is, List.getD_cons_zero, List.getD_cons_succ, and_true, forall_const, Nat.reduceAdd, Region.wanted, reduceIte]
              refine ⟨?_, ?_, ?_, ?_, ?_, ?_, ?_, ?_, ?_, ?_, ?_, ?_, ?_, ?_, ?_⟩
              · (try intro hd); go_simp; (first | done | exact ⟨Below.refl _ _, rfl⟩ | exact Below.refl _ _ | (intro h; cases h))
              · (try intro hd); go_simp; (first | done | exact ⟨Below.refl _ _, rfl⟩ | exact Below.refl _ _ | (intro h; cases h))
              · (try intro hd); go_simp; (first | done | exact ⟨Below.refl _ _, rfl⟩ | exact Below.refl _ _ | (intro h; cases h))
              · (try intro hd); go_simp; (first | done | exact ⟨Below.refl _ _, rfl⟩ | exact Below.refl _ _ | (intro h; cases h))
              · (try intro hd); go_simp; (first | done | exact ⟨Below.refl _ _, rfl⟩ | exact Below.refl _ _ | (intro h; cases h))
              · (try intro hd); go_simp; (first | done | exact ⟨Below.refl _ _, rfl⟩ | exact Below.refl _ _ | (intro h; cases h))
              · (try intro hd); go_simp; (first | done | exact ⟨Below.refl _ _, rfl⟩ | exact Below.refl _ _ | (intro h; cases h))
              · (try intro hd); go_simp; (first | done | exact ⟨Below.refl _ _, rfl⟩ | exact Below.refl _ _ | (intro h; cases h))
              · (try intro hd); go_simp; (first | done | exact ⟨Below.refl _ _, rfl⟩ | exact Below.refl _ _ | (intro h; cases h))
              · (try intro hd); go_simp; (first | done | exact ⟨Below.refl _ _, rfl⟩ | exact Below.refl _ _ | (intro h; cases h))
              · (try intro hd); go_simp; (first | done | exact ⟨Below.refl _ _, rfl⟩ | exact Below.refl _ _ | (intro h; cases h))
              · (try intro hd); go_simp; (first | done | exact ⟨Below.refl _ _, rfl⟩ | exact Below.refl _ _ | (intro h; cases h))
              · (try intro hd); go_simp; (first | done | exact ⟨Below.refl _ _, rfl⟩ | exact Below.refl _ _ | (intro h; cases h))
              · (try intro hd); go_simp; (first | done | exact ⟨Below.refl _ _, rfl⟩ | exact Below.refl _ _ | (intro h; cases h))
              · (try intro hd); go_simp; (first | done | exact ⟨Below.refl _ _, rfl⟩ | exact Below.refl _ _ | (intro h; cases h))
            · intro vs W hbW hk
              simp only [Dag.known, Dag.list, Dag.Is, List.getD_cons_zero, List.getD_cons_succ, and_true] at hk
              obtain ⟨k0, k1, k2, k3, k4, k5, k6, k7, k8, k9, k10, k11, k12, k13, k14⟩ := hk
              simp only [List.take_succ_cons, List.take_zero, List.drop_succ_cons, List.drop_zero, Dag.fill, Act.put, List.setIfInBounds_toArray, List.set_cons_succ, List.set_cons_zero, Nat.reduceAdd, k0, k1, k2, k3, k4, k5, k6, k7, k8, k9, k10, k11, k12, k13, k14]
              clear k0 k1 k2 k3 k4 k5 k6 k7 k8 k9 k10 k11 k12 k13 k14
              obtain ⟨wz, hwz⟩ : ∃ wz, wz = W := ⟨_, rfl⟩
              rw [← hwz] at hbW ⊢
              have HBZ := hide (show Below B0 w1 wz from hb.out.trans (hbW.mono hszr))
              have HOZ := hide (own_on hown.out hbW)
              obtain ⟨Oz, hOz⟩ : ∃ Oz, Oz = O2 := ⟨_, rfl⟩
              have HDZ := hide (show Oz ++ ((if f.key = x.key then [] else [f]) ++ stepG x false (O.drop (k + 1))) = stepG x x.put O by rw [← hdn.out, HDR.out, stepG_cons, hOz]; simp)
              rw [← hOz] at HOZ
              generalize u7 = oz at *
              clear hOz hwz hbW hown hb hdn HR HFR HXR
              have HFZ := hide ((HO0.out.below HBZ.out).at_ hkl)
              have HXZ := hide ((HE0.out.below HBZ.out).at_ hjl)
              rw [← HF.out] at HFZ
              rw [← HXE.out] at HXZ
              have hszZ : B0 ≤ wz.heap.size := Nat.le_trans hB0 HBZ.out.size
              obtain ⟨kq, hkq⟩ : ∃ kq : Bool, kq = decide (f.key = x.key) := ⟨_, rfl⟩
              have HKQ := hide hkq
              clear hkq
              go_wp2_with fail
              refine Dag.wp_region_facts 12 (Dag.list [Dag.Is (.slice (some ⟨b, o, none⟩) m c1), Dag.Is (.int .i64 (k : Int)), Dag.Is (.pointer (some ⟨b, o + k * 4, none⟩)), Dag.Is (.pointer (some ⟨b, o + k * 4, none⟩)), Dag.Is (.slice f.kA f.kn f.kc), Dag.Is (.slice (some ⟨be, oe, none⟩) ne ce), Dag.Is (.int .i64 (j : Int)), Dag.Is (.pointer (some ⟨be, oe + j * 5, none⟩)), Dag.Is (.pointer (some ⟨be, oe + j * 5, none⟩)), Dag.Is (.slice x.kA x.kn x.kc), Dag.Is (.bool kq), Dag.Is (.bool !kq)]) (by kernel_rfl) (by kernel_rfl) (Dag.stable_list (by simp [Dag.Stable.is])) ?_ ?_
              · intro vs W hbW
                simp only [Dag.allOps, List.take_succ_cons, List.take_zero, Dag.fill, Act.put, List.setIfInBounds_toArray, List.set_cons_succ, List.set_cons_zero, Dag.deps, Region.binds, Dag.list, Dag.Is, List.getD_cons_zero, List.getD_cons_succ, and_true, forall_const, Nat.reduceAdd, Region.wanted, reduceIte]
                refine ⟨?_, ?_, ?_, ?_, ?_, ?_, ?_, ?_, ?_, ?_, ?_, ?_⟩
                · (try intro hd); go_simp; (first | done | exact ⟨Below.refl _ _, rfl⟩ | exact Below.refl _ _ | (intro h; cases h))
                · (try intro hd); go_simp; (first | done | exact ⟨Below.refl _ _, rfl⟩ | exact Below.refl _ _ | (intro h; cases h))
                · (try intro hd); go_simp; (first | done | exact ⟨Below.refl _ _, rfl⟩ | exact Below.refl _ _ | (intro h; cases h))
                · (try intro hd); go_simp; (first | done | exact ⟨Below.refl _ _, rfl⟩ | exact Below.refl _ _ | (intro h; cases h))
                · (try intro hd); have y0 := keep_cell hbW HFZ.out.2.1; go_simp; (first | done | exact ⟨Below.refl _ _, rfl⟩ | exact Below.refl _ _)
                · (try intro hd); go_simp; (first | done | exact ⟨Below.refl _ _, rfl⟩ | exact Below.refl _ _ | (intro h; cases h))
                · (try intro hd); go_simp; (first | done | exact ⟨Below.refl _ _, rfl⟩ | exact Below.refl _ _ | (intro h; cases h))
                · (try intro hd); go_simp; (first | done | exact ⟨Below.refl _ _, rfl⟩ | exact Below.refl _ _ | (intro h; cases h))
                · (try intro hd); go_simp; (first | done | exact ⟨Below.refl _ _, rfl⟩ | exact Below.refl _ _ | (intro h; cases h))
                · (try intro hd); have y0 := keep_cell hbW HXZ.out.2.1; go_simp; (first | done | exact ⟨Below.refl _ _, rfl⟩ | exact Below.refl _ _)
                · (try intro hd); go_simp; refine (is_any f.kA x.kA f.kn x.kn f.kc x.kc f.key x.key _ ((((HFO.out.below HBZ.out).more hszZ).rb (Nat.le_refl _)).on hbW) ((((HXO.out.below HBZ.out).more hszZ).rb (Nat.le_refl _)).on hbW)).mono ?_; rintro x w' ⟨rfl, rfl⟩; exact ⟨by rw [HKQ.out], Below.refl _ _⟩
                · (try intro hd); go_simp; (first | done | exact ⟨Below.refl _ _, rfl⟩ | exact Below.refl _ _ | (intro h; cases h))
              · intro vs W hbW hk
                simp only [Dag.known, Dag.list, Dag.Is, List.getD_cons_zero, List.getD_cons_succ, and_true] at hk
                obtain ⟨k0, k1, k2, k3, k4, k5, k6, k7, k8, k9, k10, k11⟩ := hk
                simp only [List.take_succ_cons, List.take_zero, List.drop_succ_cons, List.drop_zero, Dag.fill, Act.put, List.setIfInBounds_toArray, List.set_cons_succ, List.set_cons_zero, Nat.reduceAdd, k0, k1, k2, k3, k4, k5, k6, k7, k8, k9, k10, k11]
                clear k0 k1 k2 k3 k4 k5 k6 k7 k8 k9 k10 k11
                have HBW := hide (show Below B0 w1 W from HBZ.out.trans (hbW.mono hszZ))
                have HOW := hide (own_on HOZ.out hbW)
                have hszW : B0 ≤ W.heap.size := Nat.le_trans hszZ hbW.size
                cases kq with
                | true =>
                  have HKE := hide (show (if f.key = x.key then [] else [f]) = ([] : List Ed) from if_pos (of_decide_eq_true HKQ.out.symm))
                  go_wp2_with fail
                  go_roundw
                  case rel => exact ⟨k + 1, _, Oz, by go_num, by omega, rfl, HOW, HBW, hide (by rw [← HDZ.out, HKE.out]; rfl)⟩
                  case measure => simp [intOf]; omega
                | false =>
                  have HKE := hide (show (if f.key = x.key then [] else [f]) = [f] from if_neg (of_decide_eq_false HKQ.out.symm))
                  have hOz : Oz.length ≤ m + 1 := by
                    have := congrArg List.length HDZ.out
                    rw [List.length_append, HLX.out] at this
                    have := HLB.out
                    omega
                  obtain ⟨hbB, y0, y1, y2, y3⟩ := HFZ.out
                  have y0 := keep_cell hbW y0
                  have y1 := keep_cell hbW y1
                  have y2 := keep_cell hbW y2
                  have y3 := keep_cell hbW y3
                  go_wp2_with (at_builtin; go_loud (refine wpList_append_reads rfl (.tmp 79) (.tmp 84) _ rfl B0 51 i0 _ 4 64 Try.underlying39 hti hz0 hz1 hz2 rfl (by omega) oz Oz.length (cellsI Oz) rfl (HOW.out.alloc _) (W.heap.size + 1) (some ⟨W.heap.size, 0, none⟩) 1 1 (cellsI [f]) rfl (reads_item W f) cellsI_one (by unfold maxLen; omega) (by omega) (Nat.le_trans hszW (below_alloc _ _).size) ?_); intro v9 w9 hown9 hg9 hat9)
                  all_goals
                    have HB9 := hide (show Below B0 w1 w9 from (HBW.out.alloc hszW _).grown hg9 (Nat.le_trans hszW (below_alloc _ _).size) fun k hk => (HOW.out.lt k hk).1)
                    go_roundw
                    case rel => exact ⟨k + 1, _, Oz ++ [f], by go_num, by omega, rfl, hide (by rw [cellsI_append, List.length_append]; exact hown9), HB9, hide (by rw [← HDZ.out, HKE.out, List.append_assoc])⟩
                    case measure => simp [intOf]; omega
          | true =>
            obtain ⟨y, hy⟩ : ∃ y : Bool, y = Mg.lt f.key x.key := ⟨_, rfl⟩
            have HY := hide hy
            clear hy
            have hOl : O2.length ≤ m + 1 := by
              have := congrArg List.length hdn.out
              rw [List.length_append, HLX.out] at this
              have := HLB.out
              omega
            refine Dag.wp_region_facts 15 (Dag.list [Dag.Is (.bool true), Dag.Is (.bool true), Dag.Is (.slice (some ⟨b, o, none⟩) m c1), Dag.Is (.int .i64 (k : Int)), Dag.Is (.pointer (some ⟨b, o + k * 4, none⟩)), Dag.Is (.pointer (some ⟨b, o + k * 4, none⟩)), Dag.Is (.slice f.kA f.kn f.kc), Dag.Is (.slice (some ⟨be, oe, none⟩) ne ce), Dag.Is (.int .i64 (j : Int)), Dag.Is (.pointer (some ⟨be, oe + j * 5, none⟩)), Dag.Is (.pointer (some ⟨be, oe + j * 5, none⟩)), Dag.Is (.slice x.kA x.kn x.kc), Dag.Is (.bool y), Dag.Is (.bool !y), Dag.Is (.bool !y)]) (by kernel_rfl) (by kernel_rfl) (Dag.stable_list (by simp [Dag.Stable.is])) ?_ ?_
            · intro vs W hbW
              simp only [Dag.allOps, List.take_succ_cons, List.take_zero, Dag.fill, Act.put, List.setIfInBounds_toArray, List.set_cons_succ, List.set_cons_zero, Dag.deps, Region.binds, Dag.list, Dag.Is, List.getD_cons_zero, List.getD_cons_succ, and_true, forall_const, Nat.reduceAdd, Region.wanted, reduceIte]
              refine ⟨?_, ?_, ?_, ?_, ?_, ?_, ?_, ?_, ?_, ?_, ?_, ?_, ?_, ?_, ?_⟩
              · (try intro hd); go_simp; (first | done | exact ⟨Below.refl _ _, rfl⟩ | exact Below.refl _ _ | (intro h; cases h))
              · (try intro hd); go_simp; (first | done | exact ⟨Below.refl _ _, rfl⟩ | exact Below.refl _ _ | (intro h; cases h))
              · (try intro hd); go_simp; (first | done | exact ⟨Below.refl _ _, rfl⟩ | exact Below.refl _ _ | (intro h; cases h))
              · (try intro hd); go_simp; (first | done | exact ⟨Below.refl _ _, rfl⟩ | exact Below.refl _ _ | (intro h; cases h))
              · (try intro hd); go_simp; (first | done | exact ⟨Below.refl _ _, rfl⟩ | exact Below.refl _ _ | (intro h; cases h))
              · (try intro hd); go_simp; (first | done | exact ⟨Below.refl _ _, rfl⟩ | exact Below.refl _ _ | (intro h; cases h))
              · (try intro hd); have y0 := keep_cell hbW HFR.out.2.1; go_simp; (first | done | exact ⟨Below.refl _ _, rfl⟩ | exact Below.refl _ _)
              · (try intro hd); go_simp; (first | done | exact ⟨Below.refl _ _, rfl⟩ | exact Below.refl _ _ | (intro h; cases h))
              · (try intro hd); go_simp; (first | done | exact ⟨Below.refl _ _, rfl⟩ | exact Below.refl _ _ | (intro h; cases h))
              · (try intro hd); go_simp; (first | done | exact ⟨Below.refl _ _, rfl⟩ | exact Below.refl _ _ | (intro h; cases h))
              · (try intro hd); go_simp; (first | done | exact ⟨Below.refl _ _, rfl⟩ | exact Below.refl _ _ | (intro h; cases h))
              · (try intro hd); have y0 := keep_cell hbW HXR.out.2.1; go_simp; (first | done | exact ⟨Below.refl _ _, rfl⟩ | exact Below.refl _ _)
              · (try intro hd); go_simp; refine (ahead_any f.kA x.kA f.kn x.kn f.kc x.kc f.key x.key _ ((((HFO.out.below hb.out).more hszr).rb (Nat.le_refl _)).on hbW) ((((HXO.out.below hb.out).more hszr).rb (Nat.le_refl _)).on hbW)).mono ?_; rintro x w' ⟨rfl, rfl⟩; exact ⟨by rw [HY.out], Below.refl _ _⟩
              · (try intro hd); go_simp; (first | done | exact ⟨Below.refl _ _, rfl⟩ | exact Below.refl _ _ | (intro h; cases h))
              · (try intro hd); go_simp; (first | done | exact ⟨Below.refl _ _, rfl⟩ | exact Below.refl _ _ | (intro h; cases h))
            · intro vs W hbW hk
              simp only [Dag.known, Dag.list, Dag.Is, List.getD_cons_zero, List.getD_cons_succ, and_true] at hk
              obtain ⟨k0, k1, k2, k3, k4, k5, k6, k7, k8, k9, k10, k11, k12, k13, k14⟩ := hk
              simp only [List.take_succ_cons, List.take_zero, List.drop_succ_cons, List.drop_zero, Dag.fill, Act.put, List.setIfInBounds_toArray, List.set_cons_succ, List.set_cons_zero, Nat.reduceAdd, k0, k1, k2, k3, k4, k5, k6, k7, k8, k9, k10, k11, k12, k13, k14]
              clear k0 k1 k2 k3 k4 k5 k6 k7 k8 k9 k10 k11 k12 k13 k14
              have HBW1 := hide (show Below B0 w1 W from hb.out.trans (hbW.mono hszr))
              have HOW1 := hide (own_on hown.out hbW)
              have hszW1 : B0 ≤ W.heap.size := Nat.le_trans hszr hbW.size
              cases y with
              | true =>
                go_wp2_with fail
                obtain ⟨wz, hwz⟩ : ∃ wz, wz = W := ⟨_, rfl⟩
                rw [← hwz] at HBW1 HOW1 ⊢
                have HBZ := HBW1
                have HOZ := HOW1
                obtain ⟨Oz, hOz⟩ : ∃ Oz, Oz = O2 := ⟨_, rfl⟩
                have HDZ := hide (show Oz ++ ((if f.key = x.key then [] else [f]) ++ stepG x true (O.drop (k + 1))) = stepG x x.put O by rw [← hdn.out, HDR.out, stepG_cons, hOz, ← HY.out]; simp)
                rw [← hOz] at HOZ
                generalize u7 = oz at *
                clear hOz hwz hbW hown hb hdn hOl HR HFR HXR HBW1 HOW1 hszW1 HY
                have HFZ := hide ((HO0.out.below HBZ.out).at_ hkl)
                have HXZ := hide ((HE0.out.below HBZ.out).at_ hjl)
                rw [← HF.out] at HFZ
                rw [← HXE.out] at HXZ
                have hszZ : B0 ≤ wz.heap.size := Nat.le_trans hB0 HBZ.out.size
                obtain ⟨kq, hkq⟩ : ∃ kq : Bool, kq = decide (f.key = x.key) := ⟨_, rfl⟩
                have HKQ := hide hkq
                clear hkq
                go_wp2_with fail
                refine Dag.wp_region_facts 12 (Dag.list [Dag.Is (.slice (some ⟨b, o, none⟩) m c1), Dag.Is (.int .i64 (k : Int)), Dag.Is (.pointer (some ⟨b, o + k * 4, none⟩)), Dag.Is (.pointer (some ⟨b, o + k * 4, none⟩)), Dag.Is (.slice f.kA f.kn f.kc), Dag.Is (.slice (some ⟨be, oe, none⟩) ne ce), Dag.Is (.int .i64 (j : Int)), Dag.Is (.pointer (some ⟨be, oe + j * 5, none⟩)), Dag.Is (.pointer (some ⟨be, oe + j * 5, none⟩)), Dag.Is (.slice x.kA x.kn x.kc), Dag.Is (.bool kq), Dag.Is (.bool !kq)]) (by kernel_rfl) (by kernel_rfl) (Dag.stable_list (by simp [Dag.Stable.is])) ?_ ?_
                · intro vs W hbW
                  simp only [Dag.allOps, List.take_succ_cons, List.take_zero, Dag.fill, Act.put, List.setIfInBounds_toArray, List.set_cons_succ, List.set_cons_zero, Dag.deps, Region.binds, Dag.list, Dag.Is, List.getD_cons_zero, List.getD_cons_succ, and_true, forall_const, Nat.reduceAdd, Region.wanted, reduceIte]
                  refine ⟨?_, ?_, ?_, ?_, ?_, ?_, ?_, ?_, ?_, ?_, ?_, ?_⟩
                  · (try intro hd); go_simp; (first | done | exact ⟨Below.refl _ _, rfl⟩ | exact Below.refl _ _ | (intro h; cases h))
                  · (try intro hd); go_simp; (first | done | exact ⟨Below.refl _ _, rfl⟩ | exact Below.refl _ _ | (intro h; cases h))
                  · (try intro hd); go_simp; (first | done | exact ⟨Below.refl _ _, rfl⟩ | exact Below.refl _ _ | (intro h; cases h))
                  · (try intro hd); go_simp; (first | done | exact ⟨Below.refl _ _, rfl⟩ | exact Below.refl _ _ | (intro h; cases h))
                  · (try intro hd); have y0 := keep_cell hbW HFZ.out.2.1; go_simp; (first | done | exact ⟨Below.refl _ _, rfl⟩ | exact Below.refl _ _)
                  · (try intro hd); go_simp; (first | done | exact ⟨Below.refl _ _, rfl⟩ | exact Below.refl _ _ | (intro h; cases h))
                  · (try intro hd); go_simp; (first | done | exact ⟨Below.refl _ _, rfl⟩ | exact Below.refl _ _ | (intro h; cases h))
                  · (try intro hd); go_simp; (first | done | exact ⟨Below.refl _ _, rfl⟩ | exact Below.refl _ _ | (intro h; cases h))
                  · (try intro hd); go_simp; (first | done | exact ⟨Below.refl _ _, rfl⟩ | exact Below.refl _ _ | (intro h; cases h))
                  · (try intro hd); have y0 := keep_cell hbW HXZ.out.2.1; go_simp; (first | done | exact ⟨Below.refl _ _, rfl⟩ | exact Below.refl _ _)
                  · (try intro hd); go_simp; refine (is_any f.kA x.kA f.kn x.kn f.kc x.kc f.key x.key _ ((((HFO.out.below HBZ.out).more hszZ).rb (Nat.le_refl _)).on hbW) ((((HXO.out.below HBZ.out).more hszZ).rb (Nat.le_refl _)).on hbW)).mono ?_; rintro x w' ⟨rfl, rfl⟩; exact ⟨by rw [HKQ.out], Below.refl _ _⟩
                  · (try intro hd); go_simp; (first | done | exact ⟨Below.refl _ _, rfl⟩ | exact Below.refl _ _ | (intro h; cases h))
                · intro vs W hbW hk
                  simp only [Dag.known, Dag.list, Dag.Is, List.getD_cons_zero, List.getD_cons_succ, and_true] at hk
                  obtain ⟨k0, k1, k2, k3, k4, k5, k6, k7, k8, k9, k10, k11⟩ := hk
                  simp only [List.take_succ_cons, List.take_zero, List.drop_succ_cons, List.drop_zero, Dag.fill, Act.put, List.setIfInBounds_toArray, List.set_cons_succ, List.set_cons_zero, Nat.reduceAdd, k0, k1, k2, k3, k4, k5, k6, k7, k8, k9, k10, k11]
                  clear k0 k1 k2 k3 k4 k5 k6 k7 k8 k9 k10 k11
                  have HBW := hide (show Below B0 w1 W from HBZ.out.trans (hbW.mono hszZ))
                  have HOW := hide (own_on HOZ.out hbW)
                  have hszW : B0 ≤ W.heap.size := Nat.le_trans hszZ hbW.size
                  cases kq with
                  | true =>
                    have HKE := hide (show (if f.key = x.key then [] else [f]) = ([] : List Ed) from if_pos (of_decide_eq_true HKQ.out.symm))
                    go_wp2_with fail
                    go_roundw
                    case rel => exact ⟨k + 1, _, Oz, by go_num, by omega, rfl, HOW, HBW, hide (by rw [← HDZ.out, HKE.out]; rfl)⟩
                    case measure => simp [intOf]; omega
                  | false =>
                    have HKE := hide (show (if f.key = x.key then [] else [f]) = [f] from if_neg (of_decide_eq_false HKQ.out.symm))
                    have hOz : Oz.length ≤ m + 1 := by
                      have := congrArg List.length HDZ.out
                      rw [List.length_append, HLX.out] at this
                      have := HLB.out
                      omega
                    obtain ⟨hbB, y0, y1, y2, y3⟩ := HFZ.out
                    have y0 := keep_cell hbW y0
                    have y1 := keep_cell hbW y1
                    have y2 := keep_cell hbW y2
                    have y3 := keep_cell hbW y3
                    go_wp2_with (at_builtin; go_loud (refine wpList_append_reads rfl (.tmp 79) (.tmp 84) _ rfl B0 51 i0 _ 4 64 Try.underlying39 hti hz0 hz1 hz2 rfl (by omega) oz Oz.length (cellsI Oz) rfl (HOW.out.alloc _) (W.heap.size + 1) (some ⟨W.heap.size, 0, none⟩) 1 1 (cellsI [f]) rfl (reads_item W f) cellsI_one (by unfold maxLen; omega) (by omega) (Nat.le_trans hszW (below_alloc _ _).size) ?_); intro v9 w9 hown9 hg9 hat9)
                    all_goals
                      have HB9 := hide (show Below B0 w1 w9 from (HBW.out.alloc hszW _).grown hg9 (Nat.le_trans hszW (below_alloc _ _).size) fun k hk => (HOW.out.lt k hk).1)
                      go_roundw
                      case rel => exact ⟨k + 1, _, Oz ++ [f], by go_num, by omega, rfl, hide (by rw [cellsI_append, List.length_append]; exact hown9), HB9, hide (by rw [← HDZ.out, HKE.out, List.append_assoc])⟩
                      case measure => simp [intOf]; omega
              | false =>
                have HXZ := hide ((HE0.out.below HBW1.out).at_ hjl)
                rw [← HXE.out] at HXZ
                clear hbW
                go_wp2_with fail
                refine Dag.wp_region_facts 23 (Dag.list [Dag.Is u7, Dag.Is (.slice (some ⟨be, oe, none⟩) ne ce), Dag.Is (.int .i64 (j : Int)), Dag.Is (.pointer (some ⟨be, oe + j * 5, none⟩)), Dag.Is (.pointer (some ⟨be, oe + j * 5, none⟩)), Dag.Is (.slice x.kA x.kn x.kc), Dag.Is (.slice (some ⟨be, oe, none⟩) ne ce), Dag.Is (.int .i64 (j : Int)), Dag.Is (.pointer (some ⟨be, oe + j * 5, none⟩)), Dag.Is (.pointer (some ⟨be, oe + j * 5 + 2, none⟩)), Dag.Is (.slice x.vA x.vn x.vc), Dag.Is (.slice (some ⟨be, oe, none⟩) ne ce), Dag.Is (.int .i64 (j : Int)), Dag.Is (.pointer (some ⟨be, oe + j * 5, none⟩)), Dag.Is (.pointer (some ⟨be, oe + j * 5 + 3, none⟩)), Dag.Is (.bool x.int), Dag.Is (.slice (some ⟨be, oe, none⟩) ne ce), Dag.Is (.int .i64 (j : Int)), Dag.Is (.pointer (some ⟨be, oe + j * 5, none⟩)), Dag.Is (.pointer (some ⟨be, oe + j * 5 + 4, none⟩)), Dag.Is (.int .i64 x.n), Dag.Is (.agg #[.slice x.kA x.kn x.kc, .slice x.vA x.vn x.vc, .bool x.int, .int .i64 x.n]), Dag.MadeS 0 1 #[.slice x.kA x.kn x.kc, .slice x.vA x.vn x.vc, .bool x.int, .int .i64 x.n] 51]) (by kernel_rfl) (by kernel_rfl) (Dag.stable_list (by simp [Dag.Stable.is, Dag.Stable.madeS])) ?_ ?_
                · intro vs W hbW
                  simp only [Dag.allOps, List.take_succ_cons, List.take_zero, Dag.fill, Act.put, List.setIfInBounds_toArray, List.set_cons_succ, List.set_cons_zero, Dag.deps, Region.binds, Dag.list, Dag.Is, List.getD_cons_zero, List.getD_cons_succ, and_true, forall_const, Nat.reduceAdd, Region.wanted, reduceIte]
                  refine ⟨?_, ?_, ?_, ?_, ?_, ?_, ?_, ?_, ?_, ?_, ?_, ?_, ?_, ?_, ?_, ?_, ?_, ?_, ?_, ?_, ?_, ?_, ?_⟩
                  · (try intro hd); go_simp; (first | done | exact ⟨Below.refl _ _, rfl⟩ | exact Below.refl _ _ | (intro h; cases h))
                  · (try intro hd); go_simp; (first | done | exact ⟨Below.refl _ _, rfl⟩ | exact Below.refl _ _ | (intro h; cases h))
                  · (try intro hd); go_simp; (first | done | exact ⟨Below.refl _ _, rfl⟩ | exact Below.refl _ _ | (intro h; cases h))
                  · (try intro hd); go_simp; (first | done | exact ⟨Below.refl _ _, rfl⟩ | exact Below.refl _ _ | (intro h; cases h))
                  · (try intro hd); go_simp; (first | done | exact ⟨Below.refl _ _, rfl⟩ | exact Below.refl _ _ | (intro h; cases h))
                  · (try intro hd); have y0 := keep_cell hbW HXZ.out.2.1; go_simp; (first | done | exact ⟨Below.refl _ _, rfl⟩ | exact Below.refl _ _)
                  · (try intro hd); go_simp; (first | done | exact ⟨Below.refl _ _, rfl⟩ | exact Below.refl _ _ | (intro h; cases h))
                  · (try intro hd); go_simp; (first | done | exact ⟨Below.refl _ _, rfl⟩ | exact Below.refl _ _ | (intro h; cases h))
                  · (try intro hd); go_simp; (first | done | exact ⟨Below.refl _ _, rfl⟩ | exact Below.refl _ _ | (intro h; cases h))
                  · (try intro hd); go_simp; (first | done | exact ⟨Below.refl _ _, rfl⟩ | exact Below.refl _ _ | (intro h; cases h))
                  · (try intro hd); have y0 := keep_cell hbW HXZ.out.2.2.2.1; go_simp; (first | done | exact ⟨Below.refl _ _, rfl⟩ | exact Below.refl _ _)
                  · (try intro hd); go_simp; (first | done | exact ⟨Below.refl _ _, rfl⟩ | exact Below.refl _ _ | (intro h; cases h))
                  · (try intro hd); go_simp; (first | done | exact ⟨Below.refl _ _, rfl⟩ | exact Below.refl _ _ | (intro h; cases h))
                  · (try intro hd); go_simp; (first | done | exact ⟨Below.refl _ _, rfl⟩ | exact Below.refl _ _ | (intro h; cases h))
                  · (try intro hd); go_simp; (first | done | exact ⟨Below.refl _ _, rfl⟩ | exact Below.refl _ _ | (intro h; cases h))
                  · (try intro hd); have y0 := keep_cell hbW HXZ.out.2.2.2.2.1; go_simp; (first | done | exact ⟨Below.refl _ _, rfl⟩ | exact Below.refl _ _)
                  · (try intro hd); go_simp; (first | done | exact ⟨Below.refl _ _, rfl⟩ | exact Below.refl _ _ | (intro h; cases h))
                  · (try intro hd); go_simp; (first | done | exact ⟨Below.refl _ _, rfl⟩ | exact Below.refl _ _ | (intro h; cases h))
                  · (try intro hd); go_simp; (first | done | exact ⟨Below.refl _ _, rfl⟩ | exact Below.refl _ _ | (intro h; cases h))
                  · (try intro hd); go_simp; (first | done | exact ⟨Below.refl _ _, rfl⟩ | exact Below.refl _ _ | (intro h; cases h))
                  · (try intro hd); have y0 := keep_cell hbW HXZ.out.2.2.2.2.2; go_simp; (first | done | exact ⟨Below.refl _ _, rfl⟩ | exact Below.refl _ _)
                  · (try intro hd); go_simp; (first | done | exact ⟨Below.refl _ _, rfl⟩ | exact Below.refl _ _ | (intro h; cases h))
                  · (try intro hd); go_simp; exact ⟨below_alloc _ _, _, rfl, Nat.zero_le _, by simp, heap_alloc_new _ _⟩
                · intro vs W hbW hk
                  simp only [Dag.known, Dag.list, Dag.Is, List.getD_cons_zero, List.getD_cons_succ, and_true] at hk
                  obtain ⟨k0, k1, k2, k3, k4, k5, k6, k7, k8, k9, k10, k11, k12, k13, k14, k15, k16, k17, k18, k19, k20, k21, k22⟩ := hk
                  simp only [List.take_succ_cons, List.take_zero, List.drop_succ_cons, List.drop_zero, Dag.fill, Act.put, List.setIfInBounds_toArray, List.set_cons_succ, List.set_cons_zero, Nat.reduceAdd, k0, k1, k2, k3, k4, k5, k6, k7, k8, k9, k10, k11, k12, k13, k14, k15, k16, k17, k18, k19, k20, k21]
                  clear k0 k1 k2 k3 k4 k5 k6 k7 k8 k9 k10 k11 k12 k13 k14 k15 k16 k17 k18 k19 k20 k21
                  obtain ⟨g, e22, -, hgl, hg⟩ := k22
                  simp only [e22]
                  have HOW2 := hide (own_on HOW1.out hbW)
                  have HBW2 := hide (show Below B0 w1 W from HBW1.out.trans (hbW.mono hszW1))
                  have hszW2 : B0 ≤ W.heap.size := Nat.le_trans hszW1 hbW.size
                  have HG := hide hg
                  clear e22 hg
                  go_wp2_with (at_builtin; go_loud (refine wpList_append_reads rfl (.tmp 43) (.tmp 65) _ rfl B0 51 i0 _ 4 64 Try.underlying39 hti hz0 hz1 hz2 rfl (by omega) u7 O2.length (cellsI O2) rfl HOW2.out W.heap.size (some ⟨g, 0, none⟩) 1 1 (cellsI [x]) rfl (reads_made HG.out rfl) cellsI_one (by unfold maxLen; omega) (by omega) hszW2 ?_); intro oz wz hown9 hg9 hat9)
                  all_goals
                    have HBZ := hide (show Below B0 w1 wz from HBW2.out.grown hg9 hszW2 fun k hk => (HOW2.out.lt k hk).1)
                    obtain ⟨Oz, hOz⟩ : ∃ Oz, Oz = O2 ++ [x] := ⟨_, rfl⟩
                    have HOZ := hide (show wz.ownsRow B0 51 4 oz Oz.length (cellsI Oz) by rw [hOz, cellsI_append, List.length_append]; exact hown9)
                    have HDZ := hide (show Oz ++ ((if f.key = x.key then [] else [f]) ++ stepG x false (O.drop (k + 1))) = stepG x x.put O by rw [← hdn.out, HDR.out, stepG_cons, hOz, ← HY.out]; simp)
                    clear hOz hbW hown hb hdn hOl HR HFR HXR HBW1 HOW1 hszW1 HY hown9 hg9 hat9 HG HOW2 HBW2 hszW2 HXZ hgl
                    have HFZ := hide ((HO0.out.below HBZ.out).at_ hkl)
                    have HXZ := hide ((HE0.out.below HBZ.out).at_ hjl)
                    rw [← HF.out] at HFZ
                    rw [← HXE.out] at HXZ
                    have hszZ : B0 ≤ wz.heap.size := Nat.le_trans hB0 HBZ.out.size
                    obtain ⟨kq, hkq⟩ : ∃ kq : Bool, kq = decide (f.key = x.key) := ⟨_, rfl⟩
                    have HKQ := hide hkq
                    clear hkq
                    go_wp2_with fail
                    refine Dag.wp_region_facts 12 (Dag.list [Dag.Is (.slice (some ⟨b, o, none⟩) m c1), Dag.Is (.int .i64 (k : Int)), Dag.Is (.pointer (some ⟨b, o + k * 4, none⟩)), Dag.Is (.pointer (some ⟨b, o + k * 4, none⟩)), Dag.Is (.slice f.kA f.kn f.kc), Dag.Is (.slice (some ⟨be, oe, none⟩) ne ce), Dag.Is (.int .i64 (j : Int)), Dag.Is (.pointer (some ⟨be, oe + j * 5, none⟩)), Dag.Is (.pointer (some ⟨be, oe + j * 5, none⟩)), Dag.Is (.slice x.kA x.kn x.kc), Dag.Is (.bool kq), Dag.Is (.bool !kq)]) (by kernel_rfl) (by kernel_rfl) (Dag.stable_list (by simp [Dag.Stable.is])) ?_ ?_
                    · intro vs W hbW
                      simp only [Dag.allOps, List.take_succ_cons, List.take_zero, Dag.fill, Act.put, List.setIfInBounds_toArray, List.set_cons_succ, List.set_cons_zero, Dag.deps, Region.binds, Dag.list, Dag.Is, List.getD_cons_zero, List.getD_cons_succ, and_true, forall_const, Nat.reduceAdd, Region.wanted, reduceIte]
                      refine ⟨?_, ?_, ?_, ?_, ?_, ?_, ?_, ?_, ?_, ?_, ?_, ?_⟩
                      · (try intro hd); go_simp; (first | done | exact ⟨Below.refl _ _, rfl⟩ | exact Below.refl _ _ | (intro h; cases h))
                      · (try intro hd); go_simp; (first | done | exact ⟨Below.refl _ _, rfl⟩ | exact Below.refl _ _ | (intro h; cases h))
                      · (try intro hd); go_simp; (first | done | exact ⟨Below.refl _ _, rfl⟩ | exact Below.refl _ _ | (intro h; cases h))
                      · (try intro hd); go_simp; (first | done | exact ⟨Below.refl _ _, rfl⟩ | exact Below.refl _ _ | (intro h; cases h))
                      · (try intro hd); have y0 := keep_cell hbW HFZ.out.2.1; go_simp; (first | done | exact ⟨Below.refl _ _, rfl⟩ | exact Below.refl _ _)
                      · (try intro hd); go_simp; (first | done | exact ⟨Below.refl _ _, rfl⟩ | exact Below.refl _ _ | (intro h; cases h))
                      · (try intro hd); go_simp; (first | done | exact ⟨Below.refl _ _, rfl⟩ | exact Below.refl _ _ | (intro h; cases h))
                      · (try intro hd); go_simp; (first | done | exact ⟨Below.refl _ _, rfl⟩ | exact Below.refl _ _ | (intro h; cases h))
                      · (try intro hd); go_simp; (first | done | exact ⟨Below.refl _ _, rfl⟩ | exact Below.refl _ _ | (intro h; cases h))
                      · (try intro hd); have y0 := keep_cell hbW HXZ.out.2.1; go_simp; (first | done | exact ⟨Below.refl _ _, rfl⟩ | exact Below.refl _ _)
                      · (try intro hd); go_simp; refine (is_any f.kA x.kA f.kn x.kn f.kc x.kc f.key x.key _ ((((HFO.out.below HBZ.out).more hszZ).rb (Nat.le_refl _)).on hbW) ((((HXO.out.below HBZ.out).more hszZ).rb (Nat.le_refl _)).on hbW)).mono ?_; rintro x w' ⟨rfl, rfl⟩; exact ⟨by rw [HKQ.out], Below.refl _ _⟩
                      · (try intro hd); go_simp; (first | done | exact ⟨Below.refl _ _, rfl⟩ | exact Below.refl _ _ | (intro h; cases h))
                    · intro vs W hbW hk
                      simp only [Dag.known, Dag.list, Dag.Is, List.getD_cons_zero, List.getD_cons_succ, and_true] at hk
                      obtain ⟨k0, k1, k2, k3, k4, k5, k6, k7, k8, k9, k10, k11⟩ := hk
                      simp only [List.take_succ_cons, List.take_zero, List.drop_succ_cons, List.drop_zero, Dag.fill, Act.put, List.setIfInBounds_toArray, List.set_cons_succ, List.set_cons_zero, Nat.reduceAdd, k0, k1, k2, k3, k4, k5, k6, k7, k8, k9, k10, k11]
                      clear k0 k1 k2 k3 k4 k5 k6 k7 k8 k9 k10 k11
                      have HBW := hide (show Below B0 w1 W from HBZ.out.trans (hbW.mono hszZ))
                      have HOW := hide (own_on HOZ.out hbW)
                      have hszW : B0 ≤ W.heap.size := Nat.le_trans hszZ hbW.size
                      cases kq with
                      | true =>
                        have HKE := hide (show (if f.key = x.key then [] else [f]) = ([] : List Ed) from if_pos (of_decide_eq_true HKQ.out.symm))
                        go_wp2_with fail
                        go_roundw
                        case rel => exact ⟨k + 1, _, Oz, by go_num, by omega, rfl, HOW, HBW, hide (by rw [← HDZ.out, HKE.out]; rfl)⟩
                        case measure => simp [intOf]; omega
                      | false =>
                        have HKE := hide (show (if f.key = x.key then [] else [f]) = [f] from if_neg (of_decide_eq_false HKQ.out.symm))
                        have hOz : Oz.length ≤ m + 1 := by
                          have := congrArg List.length HDZ.out
                          rw [List.length_append, HLX.out] at this
                          have := HLB.out
                          omega
                        obtain ⟨hbB, y0, y1, y2, y3⟩ := HFZ.out
                        have y0 := keep_cell hbW y0
                        have y1 := keep_cell hbW y1
                        have y2 := keep_cell hbW y2
                        have y3 := keep_cell hbW y3
                        go_wp2_with (at_builtin; go_loud (refine wpList_append_reads rfl (.tmp 79) (.tmp 84) _ rfl B0 51 i0 _ 4 64 Try.underlying39 hti hz0 hz1 hz2 rfl (by omega) oz Oz.length (cellsI Oz) rfl (HOW.out.alloc _) (W.heap.size + 1) (some ⟨W.heap.size, 0, none⟩) 1 1 (cellsI [f]) rfl (reads_item W f) cellsI_one (by unfold maxLen; omega) (by omega) (Nat.le_trans hszW (below_alloc _ _).size) ?_); intro v9 w9 hown9 hg9 hat9)
                        all_goals
                          have HB9 := hide (show Below B0 w1 w9 from (HBW.out.alloc hszW _).grown hg9 (Nat.le_trans hszW (below_alloc _ _).size) fun k hk => (HOW.out.lt k hk).1)
                          go_roundw
                          case rel => exact ⟨k + 1, _, Oz ++ [f], by go_num, by omega, rfl, hide (by rw [cellsI_append, List.length_append]; exact hown9), HB9, hide (by rw [← HDZ.out, HKE.out, List.append_assoc])⟩
                          case measure => simp [intOf]; omega
        · obtain rfl : k = m := by omega
          have hDN := hdn.out
          rw [List.drop_of_length_le (by rw [HOL.out]; exact Nat.le_refl _), stepG_nil] at hDN
          have HOK := hide (show ∀ e ∈ stepG x x.put O, e.Ok w1 B0 from fun e he => by
            rcases stepG_mem _ _ _ _ he with rfl | h
            · exact HXO.out
            · exact HO0.out.ok e h)
          have hszr : B0 ≤ wr.heap.size := Nat.le_trans hB0 hb.out.size
          have HBF := hide (show Below w.heap.size w wr from HBw.out.trans (hb.out.mono (Nat.le_trans HBw.out.size hB1)))
          cases p with
          | false =>
            have HDN := hide (show stepG x x.put O = O2 by rw [← hDN]; simp)
            have hO2 : O2.length ≤ k + 1 := by have := HLX.out; rw [HDN.out] at this; have := HLB.out; omega
            clear hDN hdn
            obtain ⟨A3, c3, e3, h31, h32, h33⟩ := own_slice hown.out
            have HI3 := hide (show ItR wr wr.heap.size A3 O2.length c3 O2 from ⟨h33, fun e he => ((HOK.out e (by rw [HDN.out]; exact he)).below hb.out).more hszr, h31, h32⟩)
            rw [e3]
            have HOE := hide (show O2 = doneR its (es.take (j + 1)) by rw [HTJ.out, doneR_snoc, ← hOe.out, HDN.out])
            clear h31 h32 h33 e3 hown
            generalize O2.length = q at *
            go_wp2_with fail
            go_roundw
            case rel => exact ⟨j + 1, q, A3, c3, O2, by go_num, by omega, by omega, rfl, HI3, HOE, HBF⟩
            case measure => simp [intOf]; omega
          | true =>
            have HDN := hide (show stepG x x.put O = O2 ++ [x] by rw [← hDN]; rfl)
            have hO2 : O2.length + 1 ≤ k + 1 := by have := HLX.out; rw [HDN.out, List.length_append, List.length_singleton] at this; have := HLB.out; omega
            clear hDN hdn
            have HXZ := hide ((HE0.out.below hb.out).at_ hjl)
            rw [← HXE.out] at HXZ
            go_wp2_with fail
            refine Dag.wp_region_facts 23 (Dag.list [Dag.Is u7, Dag.Is (.slice (some ⟨be, oe, none⟩) ne ce), Dag.Is (.int .i64 (j : Int)), Dag.Is (.pointer (some ⟨be, oe + j * 5, none⟩)), Dag.Is (.pointer (some ⟨be, oe + j * 5, none⟩)), Dag.Is (.slice x.kA x.kn x.kc), Dag.Is (.slice (some ⟨be, oe, none⟩) ne ce), Dag.Is (.int .i64 (j : Int)), Dag.Is (.pointer (some ⟨be, oe + j * 5, none⟩)), Dag.Is (.pointer (some ⟨be, oe + j * 5 + 2, none⟩)), Dag.Is (.slice x.vA x.vn x.vc), Dag.Is (.slice (some ⟨be, oe, none⟩) ne ce), Dag.Is (.int .i64 (j : Int)), Dag.Is (.pointer (some ⟨be, oe + j * 5, none⟩)), Dag.Is (.pointer (some ⟨be, oe + j * 5 + 3, none⟩)), Dag.Is (.bool x.int), Dag.Is (.slice (some ⟨be, oe, none⟩) ne ce), Dag.Is (.int .i64 (j : Int)), Dag.Is (.pointer (some ⟨be, oe + j * 5, none⟩)), Dag.Is (.pointer (some ⟨be, oe + j * 5 + 4, none⟩)), Dag.Is (.int .i64 x.n), Dag.Is (.agg #[.slice x.kA x.kn x.kc, .slice x.vA x.vn x.vc, .bool x.int, .int .i64 x.n]), Dag.MadeS 0 1 #[.slice x.kA x.kn x.kc, .slice x.vA x.vn x.vc, .bool x.int, .int .i64 x.n] 51]) (by kernel_rfl) (by kernel_rfl) (Dag.stable_list (by simp [Dag.Stable.is, Dag.Stable.madeS])) ?_ ?_
            · intro vs W hbW
              simp only [Dag.allOps, List.take_succ_cons, List.take_zero, Dag.fill, Act.put, List.setIfInBounds_toArray, List.set_cons_succ, List.set_cons_zero, Dag.deps, Region.binds, Dag.list, Dag.Is, List.getD_cons_zero, List.getD_cons_succ, and_true, forall_const, Nat.reduceAdd, Region.wanted, reduceIte]
              refine ⟨?_, ?_, ?_, ?_, ?_, ?_, ?_, ?_, ?_, ?_, ?_, ?_, ?_, ?_, ?_, ?_, ?_, ?_, ?_, ?_, ?_, ?_, ?_⟩
              · (try intro hd); go_simp; (first | done | exact ⟨Below.refl _ _, rfl⟩ | exact Below.refl _ _ | (intro h; cases h))
              · (try intro hd); go_simp; (first | done | exact ⟨Below.refl _ _, rfl⟩ | exact Below.refl _ _ | (intro h; cases h))
              · (try intro hd); go_simp; (first | done | exact ⟨Below.refl _ _, rfl⟩ | exact Below.refl _ _ | (intro h; cases h))
              · (try intro hd); go_simp; (first | done | exact ⟨Below.refl _ _, rfl⟩ | exact Below.refl _ _ | (intro h; cases h))
              · (try intro hd); go_simp; (first | done | exact ⟨Below.refl _ _, rfl⟩ | exact Below.refl _ _ | (intro h; cases h))
              · (try intro hd); have y0 := keep_cell hbW HXZ.out.2.1; go_simp; (first | done | exact ⟨Below.refl _ _, rfl⟩ | exact Below.refl _ _)
              · (try intro hd); go_simp; (first | done | exact ⟨Below.refl _ _, rfl⟩ | exact Below.refl _ _ | (intro h; cases h))
              · (try intro hd); go_simp; (first | done | exact ⟨Below.refl _ _, rfl⟩ | exact Below.refl _ _ | (intro h; cases h))
              · (try intro hd); go_simp; (first | done | exact ⟨Below.refl _ _, rfl⟩ | exact Below.refl _ _ | (intro h; cases h))
              · (try intro hd); go_simp; (first | done | exact ⟨Below.refl _ _, rfl⟩ | exact Below.refl _ _ | (intro h; cases h))
              · (try intro hd); have y0 := keep_cell hbW HXZ.out.2.2.2.1; go_simp; (first | done | exact ⟨Below.refl _ _, rfl⟩ | exact Below.refl _ _)
              · (try intro hd); go_simp; (first | done | exact ⟨Below.refl _ _, rfl⟩ | exact Below.refl _ _ | (intro h; cases h))
              · (try intro hd); go_simp; (first | done | exact ⟨Below.refl _ _, rfl⟩ | exact Below.refl _ _ | (intro h; cases h))
              · (try intro hd); go_simp; (first | done | exact ⟨Below.refl _ _, rfl⟩ | exact Below.refl _ _ | (intro h; cases h))
              · (try intro hd); go_simp; (first | done | exact ⟨Below.refl _ _, rfl⟩ | exact Below.refl _ _ | (intro h; cases h))
              · (try intro hd); have y0 := keep_cell hbW HXZ.out.2.2.2.2.1; go_simp; (first | done | exact ⟨Below.refl _ _, rfl⟩ | exact Below.refl _ _)
              · (try intro hd); go_simp; (first | done | exact ⟨Below.refl _ _, rfl⟩ | exact Below.refl _ _ | (intro h; cases h))
              · (try intro hd); go_simp; (first | done | exact ⟨Below.refl _ _, rfl⟩ | exact Below.refl _ _ | (intro h; cases h))
              · (try intro hd); go_simp; (first | done | exact ⟨Below.refl _ _, rfl⟩ | exact Below.refl _ _ | (intro h; cases h))
              · (try intro hd); go_simp; (first | done | exact ⟨Below.refl _ _, rfl⟩ | exact Below.refl _ _ | (intro h; cases h))
              · (try intro hd); have y0 := keep_cell hbW HXZ.out.2.2.2.2.2; go_simp; (first | done | exact ⟨Below.refl _ _, rfl⟩ | exact Below.refl _ _)
              · (try intro hd); go_simp; (first | done | exact ⟨Below.refl _ _, rfl⟩ | exact Below.refl _ _ | (intro h; cases h))
              · (try intro hd); go_simp; exact ⟨below_alloc _ _, _, rfl, Nat.zero_le _, by simp, heap_alloc_new _ _⟩
            · intro vs W hbW hk
              simp only [Dag.known, Dag.list, Dag.Is, List.getD_cons_zero, List.getD_cons_succ, and_true] at hk
              obtain ⟨k0, k1, k2, k3, k4, k5, k6, k7, k8, k9, k10, k11, k12, k13, k14, k15, k16, k17, k18, k19, k20, k21, k22⟩ := hk
              simp only [List.take_succ_cons, List.take_zero, List.drop_succ_cons, List.drop_zero, Dag.fill, Act.put, List.setIfInBounds_toArray, List.set_cons_succ, List.set_cons_zero, Nat.reduceAdd, k0, k1, k2, k3, k4, k5, k6, k7, k8, k9, k10, k11, k12, k13, k14, k15, k16, k17, k18, k19, k20, k21]
              clear k0 k1 k2 k3 k4 k5 k6 k7 k8 k9 k10 k11 k12 k13 k14 k15 k16 k17 k18 k19 k20 k21
              obtain ⟨g, e22, -, hgl, hg⟩ := k22
              simp only [e22]
              have HOW2 := hide (own_on hown.out hbW)
              have HBW2 := hide (show Below B0 w1 W from hb.out.trans (hbW.mono hszr))
              have hszW2 : B0 ≤ W.heap.size := Nat.le_trans hszr hbW.size
              have HG := hide hg
              clear e22 hg
              go_wp2_with (at_builtin; go_loud (refine wpList_append_reads rfl (.tmp 87) (.tmp 109) _ rfl B0 51 i0 _ 4 64 Try.underlying39 hti hz0 hz1 hz2 rfl (by omega) u7 O2.length (cellsI O2) rfl HOW2.out W.heap.size (some ⟨g, 0, none⟩) 1 1 (cellsI [x]) rfl (reads_made HG.out rfl) cellsI_one (by unfold maxLen; omega) (by omega) hszW2 ?_); intro oz wz hown9 hg9 hat9; obtain ⟨A3, c3, rfl, h31, h32, h33⟩ := own_slice hown9)
              all_goals
                have HB9 := hide (show Below B0 w1 wz from HBW2.out.grown hg9 hszW2 fun k hk => (HOW2.out.lt k hk).1)
                have hszz := HB9.out.size
                have HI3 := hide (show ItR wz wz.heap.size A3 (O2.length + 1) c3 (O2 ++ [x]) from ⟨by rw [cellsI_append]; exact h33, fun e he => ((HOK.out e (by rw [HDN.out]; exact he)).below HB9.out).more (Nat.le_trans hB0 hszz), h31, h32⟩)
                have HOE := hide (show O2 ++ [x] = doneR its (es.take (j + 1)) by rw [HTJ.out, doneR_snoc, ← hOe.out, HDN.out])
                have HBF2 := hide (show Below w.heap.size w wz from HBw.out.trans (HB9.out.mono (Nat.le_trans HBw.out.size hB1)))
                clear h31 h32 h33 hown hown9 hg9 hat9
                generalize O2.length = q at *
                go_roundw
                case rel => exact ⟨j + 1, q + 1, A3, c3, O2 ++ [x], by go_num, by omega, by omega, rfl, HI3, HOE, HBF2⟩
                case measure => simp [intOf]; omega
    · obtain rfl : j = ne := by omega
      have HF := hide (show O = doneR its es by rw [hOe.out, List.take_of_length_le (by rw [HEL.out]; exact Nat.le_refl _)])
      rw [HF.out] at hO
      go_wp2_with fail
      go_ret
      exact ⟨A1, m, c1, rfl, hO.out, hb.out⟩
end Go.Proofs.Ytgliindhndcceaa
