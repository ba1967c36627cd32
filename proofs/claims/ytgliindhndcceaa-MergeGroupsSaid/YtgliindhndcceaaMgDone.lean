/- The walk of Done. -/
import Derived.Test.YtgliindhndcceaaMgDoneMath
import Derived.Deep.LoopGhost
import Derived.Deep.RegionLaw
import Derived.Test.YtgliindhndcceaaDag
namespace Go.Proofs.Ytgliindhndcceaa
open Go.RowKit
attribute [local go_sem] Dag.gives

theorem item_info : (Try.prog.info? 51).map (fun i => (i.zero, i.size, i.bytes)) = some (some (.agg #[.slice none 0 0, .slice none 0 0, .bool false, .int .i64 0]), 4, 64) := by kernel_rfl
theorem ItR.first {w : World} {B : Nat} {A : Option Addr} {n c : Nat} {x : Ed} {t : List Ed} (h : ItR w B A n c (x :: t)) : ∃ b o, A = some ⟨b, o, none⟩ ∧ b < B ∧ n = t.length + 1 ∧
    w.cell? ⟨b, o, none⟩ = some (.slice x.kA x.kn x.kc) ∧ w.cell? ⟨b, o + 1, none⟩ = some (.slice x.vA x.vn x.vc) ∧ w.cell? ⟨b, o + 2, none⟩ = some (.bool x.int) ∧ w.cell? ⟨b, o + 3, none⟩ = some (.int .i64 x.n) := by
  obtain ⟨b, o, hA, hb, h0, h1, h2, h3⟩ := h.cell (k := 0) (by simp)
  have := h.len
  simp only [Nat.zero_mul, Nat.add_zero, List.getElem_cons_zero] at h0 h1 h2 h3
  exact ⟨b, o, hA, hb, by simp at this; omega, h0, h1, h2, h3⟩
/-- what Done answers -/
def DoneAs (its es : List Ed) (w : World) (e : Ending) (w' : World) : Prop := Below w.heap.size w w' ∧
  if right es = true ∧ riseI its = true then ∃ v, e = .returned (.tuple #[v, .int .i64 0]) ∧ w'.ownsRow w.heap.size 51 4 v (doneN its es).length (cellsI (doneN its es)) else e = .returned (.tuple #[.slice none 0 0, .int .i64 250])
set_option maxRecDepth 100000 in
set_option maxHeartbeats 16000000 in
theorem done_any (A : Option Addr) (n c : Nat) (its : List Ed) (B : Option Addr) (m d : Nat) (es : List Ed) (w : World) (hA : ItR w w.heap.size A n c its) (hB : Row w w.heap.size B m d es) (hk : ∀ e ∈ its, e.kn ≤ 1048576) (hn : n ≤ 80000) (hm : m ≤ 80000) :
    Calls Try.prog 23 #[.slice A n c, .slice B m d] w (DoneAs its es w) := by
  obtain ⟨i0, hti, hz0, hz1, hz2⟩ := info_parts item_info
  have HA := hide hA
  have HKN := hide hk
  have HL := hide hA.len
  have HN := hide (Nat.le_trans hA.cap hA.max)
  have HE := hide hB
  have HEL := hide hB.len
  clear hA hB hk
  go_enter Try.func23, Try.ntmps23
  go_wp2_with fail
  refine Calls.mono (check_any B m d es _ HE.out) ?_
  rintro e2 w2 ⟨rfl, hb2⟩
  have HB2 := hide hb2
  clear hb2
  cases hrt : right es with
  | false =>
    rw [rightE_no hrt]
    have HRT := hide hrt
    clear hrt
    go_wp2_with fail
    go_ret2
    refine ⟨HB2.out, ?_⟩
    rw [if_neg (fun h => by rw [HRT.out] at h; cases h.1)]
    rfl
  | true =>
    rw [rightE_yes hrt]
    have HRT := hide hrt
    clear hrt
    go_wp2_with fail
    go_loopw [18] (fun i wr => ∃ j : Nat, i = .int .i64 (j : Int) ∧ j ≤ n ∧ Hid (Below w.heap.size w wr) ∧ Hid (∀ p (h : p + 1 < its.length), p + 1 < j → Mg.lt (its[p]'(by omega)).key its[p + 1].key = true)) (fun i _ => n - (intOf i).toNat)
    case atStart => exact ⟨0, rfl, Nat.zero_le _, HB2, hide (fun p h hp => absurd hp (by omega))⟩
    case round =>
      obtain ⟨j, rfl, hj, hb, hst⟩ := hrel
      by_cases hlt : j < n
      · have hjl : j < its.length := by rw [HL.out]; exact hlt
        have HR := hide (HA.out.on hb.out)
        have HJ := hide (HR.out.cell hjl)
        obtain ⟨b, o, rfl, hbw, _⟩ := HJ.out
        have hj0 : (0 : Int) ≤ (j : Int) := by omega
        have hj1 : (j : Int) < (n : Int) := by omega
        go_wp2_with fail
        cases j with
        | zero =>
          refine Dag.wp_region_facts 16 (Dag.list [Dag.Is (.int .i64 ((0 : Nat) : Int)), Dag.Is (.bool false), Dag.Is (.bool false), Dag.Is undef, Dag.Is undef, Dag.Is undef, Dag.Is undef, Dag.Is undef, Dag.Is undef, Dag.Is undef, Dag.Is undef, Dag.Is undef, Dag.Is undef, Dag.Is undef, Dag.Is undef, Dag.Is undef]) (by kernel_rfl) (by kernel_rfl) (Dag.stable_list (by simp [Dag.Stable.is])) ?_ ?_
          · intro vs W hbW
            simp only [Dag.allOps, List.take_succ_cons, List.take_zero, Dag.fill, Act.put, List.setIfInBounds_toArray, List.set_cons_succ, List.set_cons_zero, Dag.deps, Region.binds, Dag.list, Dag.Is, List.getD_cons_zero, List.getD_cons_succ, and_true, forall_const, Nat.reduceAdd, Region.wanted, reduceIte]
            refine ⟨?_, ?_, ?_, ?_, ?_, ?_, ?_, ?_, ?_, ?_, ?_, ?_, ?_, ?_, ?_, ?_⟩
            · (try intro hd); go_simp; (first | done | exact ⟨Below.refl _ _, rfl⟩ | exact Below.refl _ _ | (intro h; cases h))
            · (try intro hd); go_simp; (first | done | exact ⟨Below.refl _ _, rfl⟩ | exact Below.refl _ _ | (intro h; cases h))
            · (try intro hd); go_simp; (first | done | exact ⟨Below.refl _ _, rfl⟩ | exact Below.refl _ _ | (intro h; cases h))
            · (try intro hd); go_simp; (first | done | exact ⟨Below.refl _ _, rfl⟩ | exact Below.refl _ _ | (intro h; cases h))
            · (try intro hd); go_simp; (first | done | exact ⟨Below.refl _ _, rfl⟩ | exact Below.refl _ _ | (intro h; cases h))
            · (try intro hd); go_simp; (first | done | exact ⟨Below.refl _ _, rfl⟩ | exact Below.refl _ _ | (intro h; cases h))
            · (try intro hd); go_simp; (first | done | exact ⟨Below.refl _ _, rfl⟩ | exact Below.refl _ _ | (intro h; cases h))
            · (try intro hd); go_simp; (first | done | exact ⟨Below.refl _ _, rfl⟩ | exact Below.refl _ _ | (intro h; cases h))
            · (try intro hd); go_simp; (first | done | exact ⟨Below.refl _ _, rfl⟩ | exact Below.refl _ _ | (intro h; cases h))
            · (try intro hd); go_simp; (first | done | exact ⟨Below.refl _ _, rfl⟩ | exact Below.refl _ _ | (intro h; cases h))
            · (try intro hd); go_simp; (first | done | exact ⟨Below.refl _ _, rfl⟩ | exact Below.refl _ _ | (intro h; cases h))
            · (try intro hd); go_simp; (first | done | exact ⟨Below.refl _ _, rfl⟩ | exact Below.refl _ _ | (intro h; cases h))
            · (try intro hd); go_simp; (first | done | exact ⟨Below.refl _ _, rfl⟩ | exact Below.refl _ _ | (intro h; cases h))
            · (try intro hd); go_simp; (first | done | exact ⟨Below.refl _ _, rfl⟩ | exact Below.refl _ _ | (intro h; cases h))
            · (try intro hd); go_simp; (first | done | exact ⟨Below.refl _ _, rfl⟩ | exact Below.refl _ _ | (intro h; cases h))
            · (try intro hd); go_simp; (first | done | exact ⟨Below.refl _ _, rfl⟩ | exact Below.refl _ _ | (intro h; cases h))
          · intro vs W hbW hk
            simp only [Dag.known, Dag.list, Dag.Is, List.getD_cons_zero, List.getD_cons_succ, and_true] at hk
            obtain ⟨k0, k1, k2, k3, k4, k5, k6, k7, k8, k9, k10, k11, k12, k13, k14, k15⟩ := hk
            simp only [List.take_succ_cons, List.take_zero, List.drop_succ_cons, List.drop_zero, Dag.fill, Act.put, List.setIfInBounds_toArray, List.set_cons_succ, List.set_cons_zero, Nat.reduceAdd, k0, k1, k2, k3, k4, k5, k6, k7, k8, k9, k10, k11, k12, k13, k14, k15]
            clear k0 k1 k2 k3 k4 k5 k6 k7 k8 k9 k10 k11 k12 k13 k14 k15
            go_wp2_with fail
            go_roundw
            case rel => exact ⟨1, rfl, by omega, hide (below_then hb.out hbW), hide (fun q h hq => absurd hq (by omega))⟩
            case measure => simp [intOf]; omega
        | succ p =>
          have hpl : p < its.length := by omega
          have HP := hide (HR.out.cell hpl)
          have HO1 := hide (HR.out.ok its[p] (List.getElem_mem hpl))
          have HO2 := hide (HR.out.ok its[p + 1] (List.getElem_mem hjl))
          have hpn : (p : Int) < (n : Int) := by omega
          have hp0 : (0 : Int) ≤ (p : Int) + 1 := by omega
          have hp1 : (p : Int) + 1 < (n : Int) := by omega
          have HWP := hide (wrap_in (p := p) (n := n) (by omega) HN.out)
          have e1 : (((p + 1 : Nat) : Int)) - 1 = (p : Int) := by omega
          obtain ⟨f, hf⟩ : ∃ f, f = its[p] := ⟨_, rfl⟩
          obtain ⟨g, hg⟩ : ∃ g, g = its[p + 1] := ⟨_, rfl⟩
          rw [← hf] at HP HO1
          rw [← hg] at HJ HO2
          obtain ⟨x, hx⟩ : ∃ x : Bool, x = Mg.lt f.key g.key := ⟨_, rfl⟩
          have HXX := hide hx
          have HSE := hide (show Mg.lt its[p].key its[p + 1].key = x by rw [hx, hf, hg])
          clear hx hf hg
          refine Dag.wp_region_facts 16 (Dag.list [Dag.Is (.int .i64 ((p + 1 : Nat) : Int)), Dag.Is (.bool true), Dag.Is (.bool true), Dag.Is (.slice (some ⟨b, o, none⟩) n c), Dag.Is (.int .i64 ((p + 1 : Nat) : Int)), Dag.Is (.int .i64 (p : Int)), Dag.Is (.pointer (some ⟨b, o + p * 4, none⟩)), Dag.Is (.pointer (some ⟨b, o + p * 4, none⟩)), Dag.Is (.slice f.kA f.kn f.kc), Dag.Is (.slice (some ⟨b, o, none⟩) n c), Dag.Is (.int .i64 ((p + 1 : Nat) : Int)), Dag.Is (.pointer (some ⟨b, o + (p + 1) * 4, none⟩)), Dag.Is (.pointer (some ⟨b, o + (p + 1) * 4, none⟩)), Dag.Is (.slice g.kA g.kn g.kc), Dag.Is (.bool x), Dag.Is (.bool !x)]) (by kernel_rfl) (by kernel_rfl) (Dag.stable_list (by simp [Dag.Stable.is])) ?_ ?_
          · intro vs W hbW
            simp only [Dag.allOps, List.take_succ_cons, List.take_zero, Dag.fill, Act.put, List.setIfInBounds_toArray, List.set_cons_succ, List.set_cons_zero, Dag.deps, Region.binds, Dag.list, Dag.Is, List.getD_cons_zero, List.getD_cons_succ, and_true, forall_const, Nat.reduceAdd, Region.wanted, reduceIte]
            refine ⟨?_, ?_, ?_, ?_, ?_, ?_, ?_, ?_, ?_, ?_, ?_, ?_, ?_, ?_, ?_, ?_⟩
            · (try intro hd); go_simp; (first | done | exact ⟨Below.refl _ _, rfl⟩ | exact Below.refl _ _ | (intro h; cases h))
            · (try intro hd); go_simp; (first | done | exact ⟨Below.refl _ _, rfl⟩ | exact Below.refl _ _ | (intro h; cases h))
            · (try intro hd); go_simp; (first | done | exact ⟨Below.refl _ _, rfl⟩ | exact Below.refl _ _ | (intro h; cases h))
            · (try intro hd); go_simp; (first | done | exact ⟨Below.refl _ _, rfl⟩ | exact Below.refl _ _ | (intro h; cases h))
            · (try intro hd); go_simp; (first | done | exact ⟨Below.refl _ _, rfl⟩ | exact Below.refl _ _ | (intro h; cases h))
            · (try intro hd); go_simp; exact ⟨Below.refl _ _, HWP.out⟩
            · (try intro hd); go_simp; (first | done | exact ⟨Below.refl _ _, rfl⟩ | exact Below.refl _ _ | (intro h; cases h))
            · (try intro hd); go_simp; (first | done | exact ⟨Below.refl _ _, rfl⟩ | exact Below.refl _ _ | (intro h; cases h))
            · (try intro hd); obtain ⟨b', o', hbo, hbl, z0, z1, z2, z3⟩ := HP.out; cases hbo; have y0 := keep_cell hbW z0; go_simp; (first | done | exact ⟨Below.refl _ _, rfl⟩ | exact Below.refl _ _)
            · (try intro hd); go_simp; (first | done | exact ⟨Below.refl _ _, rfl⟩ | exact Below.refl _ _ | (intro h; cases h))
            · (try intro hd); go_simp; (first | done | exact ⟨Below.refl _ _, rfl⟩ | exact Below.refl _ _ | (intro h; cases h))
            · (try intro hd); go_simp; (first | done | exact ⟨Below.refl _ _, rfl⟩ | exact Below.refl _ _ | (intro h; cases h))
            · (try intro hd); go_simp; (first | done | exact ⟨Below.refl _ _, rfl⟩ | exact Below.refl _ _ | (intro h; cases h))
            · (try intro hd); obtain ⟨b', o', hbo, hbl, z0, z1, z2, z3⟩ := HJ.out; cases hbo; have y0 := keep_cell hbW z0; go_simp; (first | done | exact ⟨Below.refl _ _, rfl⟩ | exact Below.refl _ _)
            · (try intro hd); go_simp; refine (less_any f.kA g.kA f.kn g.kn f.kc g.kc f.key g.key _ ((HO1.out.rb (Nat.le_refl _)).on hbW) ((HO2.out.rb (Nat.le_refl _)).on hbW) (Nat.le_trans HO1.out.kc HO1.out.km)).mono ?_; rintro x w' ⟨rfl, rfl⟩; exact ⟨by rw [HXX.out], Below.refl _ _⟩
            · (try intro hd); go_simp; (first | done | exact ⟨Below.refl _ _, rfl⟩ | exact Below.refl _ _ | (intro h; cases h))
          · intro vs W hbW hk
            simp only [Dag.known, Dag.list, Dag.Is, List.getD_cons_zero, List.getD_cons_succ, and_true] at hk
            obtain ⟨k0, k1, k2, k3, k4, k5, k6, k7, k8, k9, k10, k11, k12, k13, k14, k15⟩ := hk
            simp only [List.take_succ_cons, List.take_zero, List.drop_succ_cons, List.drop_zero, Dag.fill, Act.put, List.setIfInBounds_toArray, List.set_cons_succ, List.set_cons_zero, Nat.reduceAdd, k0, k1, k2, k3, k4, k5, k6, k7, k8, k9, k10, k11, k12, k13, k14, k15]
            clear k0 k1 k2 k3 k4 k5 k6 k7 k8 k9 k10 k11 k12 k13 k14 k15
            cases x with
            | false =>
              have HS := hide (riseI_no hjl HSE.out)
              go_wp2_with fail
              go_ret2
              refine ⟨below_then hb.out hbW, ?_⟩
              rw [if_neg (fun h => by rw [HS.out] at h; cases h.2)]
              rfl
            | true =>
              go_wp2_with fail
              go_roundw
              case rel => exact ⟨p + 1 + 1, by go_num, by omega, hide (below_then hb.out hbW), hide (fun q h hq => by
                by_cases hqe : q = p
                · subst hqe; exact HSE.out
                · exact hst.out q h (by omega))⟩
              case measure => simp [intOf]; omega
      · obtain rfl : j = n := by omega
        have HRI := hide (riseI_yes fun p h => hst.out p h (by have := HL.out; omega))
        obtain ⟨B0, hB0⟩ : ∃ B0, B0 = w.heap.size := ⟨_, rfl⟩
        have HB0 := hide hB0
        have HA0 := hide (show ItR w B0 A j c its by rw [hB0]; exact HA.out)
        have HE0 := hide (show Row w B0 B m d es by rw [hB0]; exact HE.out)
        have hb0 := hide (show Below B0 w wr by rw [hB0]; exact hb.out)
        have hB0w : B0 ≤ w.heap.size := by omega
        have HXN := hide (right_kn (l := es) (by have := HRT.out; unfold right at this; rw [Bool.and_eq_true] at this; exact this.1))
        clear hB0 hb hst
        go_wp2_with fail
        go_loopw [0, 8, 41] (fun iv ov i wr => ∃ (q : Nat) (A' : Option Addr) (r c' : Nat) (R O : List Ed), i = .int .i64 (q : Int) ∧ q ≤ m ∧ iv = .slice A' r c' ∧ O.length + r ≤ j + q ∧ Hid (ItR w B0 A' r c' R) ∧ Hid (∀ e ∈ R, e.kn ≤ 1048576) ∧ Hid (wr.ownsRow B0 51 4 ov O.length (cellsI O)) ∧ Hid (Below B0 w wr) ∧ Hid (doneN its es = O ++ doneN R (es.drop q))) (fun _ _ i _ => m - (intOf i).toNat)
        case atStart => exact ⟨0, A, j, c, its, [], rfl, Nat.zero_le _, rfl, by simp, HA0, HKN, hide (World.ownsRow_nil _ _ _ _), hb0, hide rfl⟩
        case round =>
          obtain ⟨q, A1, r, c1, R, O, rfl, hq, rfl, hOr, hR, hKN, hO, hb, hdn⟩ := hrel
          by_cases hlt : q < m
          · have hjl : q < es.length := by rw [HEL.out]; exact hlt
            have HER := hide (HE0.out.below hb.out)
            obtain ⟨bb, oo, rfl, hbw, c0, c1', c2, c3, c4⟩ := HER.out.cell hjl
            have hq0 : (0 : Int) ≤ (q : Int) := by omega
            have hq1 : (q : Int) < (m : Int) := by omega
            have HOK := hide (HE0.out.ok es[q] (List.getElem_mem hjl))
            have HXL := hide (HXN.out es[q] (List.getElem_mem hjl))
            have HDR := hide (List.drop_eq_getElem_cons hjl)
            obtain ⟨x, hx⟩ : ∃ x, x = es[q] := ⟨_, rfl⟩
            rw [← hx] at c0 c1' c2 c3 c4 HOK HXL HDR
            clear hx
            go_wp2_with fail
            have HB5 := hide (show Below B0 w (wr.alloc (.cells #[.slice x.kA x.kn x.kc, .bool x.put, .slice x.vA x.vn x.vc, .bool x.int, .int .i64 x.n] 48)) from hb.out.alloc (Nat.le_trans hB0w hb.out.size) _)
            have HO5 := hide (hO.out.alloc (.cells #[.slice x.kA x.kn x.kc, .bool x.put, .slice x.vA x.vn x.vc, .bool x.int, .int .i64 x.n] 48))
            have HX5 := hide (new_cells wr (.cells #[.slice x.kA x.kn x.kc, .bool x.put, .slice x.vA x.vn x.vc, .bool x.int, .int .i64 x.n] 48))
            obtain ⟨X, hX⟩ : ∃ X, X = wr.heap.size := ⟨_, rfl⟩
            rw [← hX] at HX5 ⊢
            have hX0 : B0 ≤ X := by rw [hX]; exact Nat.le_trans hB0w hb.out.size
            generalize wr.alloc (.cells #[.slice x.kA x.kn x.kc, .bool x.put, .slice x.vA x.vn x.vc, .bool x.int, .int .i64 x.n] 48) = w5 at *
            clear hX c0 c1' c2 c3 c4 hb hO HER hbw
            go_loopg [0, 8] r (fun k iv ov wi => ∃ (A2 : Option Addr) (c2 : Nat) (R2 O2 : List Ed), iv = .slice A2 k c2 ∧ O2.length + k ≤ j + q ∧ Hid (ItR w B0 A2 k c2 R2) ∧ Hid (∀ e ∈ R2, e.kn ≤ 1048576) ∧ Hid (wi.ownsRow B0 51 4 ov O2.length (cellsI O2)) ∧ Hid (Below B0 w wi) ∧ Hid (doneN its es = O2 ++ doneN R2 (es.drop q)) ∧ Hid (wi.heap[X]? = some (.cells #[.slice x.kA x.kn x.kc, .bool x.put, .slice x.vA x.vn x.vc, .bool x.int, .int .i64 x.n] 48 (0, 0))))
            case atStart => exact ⟨A1, c1, R, O, rfl, hOr, hR, hKN, HO5, HB5, hdn, HX5⟩
            case round =>
              obtain ⟨A2, c2, R2, O2, rfl, hOk, hR2, hKN2, hO2, hb2, hdn2, hX2⟩ := hrel
              cases R2 with
              | nil =>
                obtain rfl : gk = 0 := by have := hR2.out.len; simpa using this.symm
                have e0 : ¬ (0 : Int) < ((0 : Nat) : Int) := by omega
                go_wp2_with fail
                refine Dag.wp_region_facts 11 (Dag.list [Dag.Is (.slice A2 0 c2), Dag.Is (.int .i64 ((0 : Nat) : Int)), Dag.Is (.bool false), Dag.Is (.bool false), Dag.Is undef, Dag.Is undef, Dag.Is undef, Dag.Is undef, Dag.Is undef, Dag.Is undef, Dag.Is undef]) (by kernel_rfl) (by kernel_rfl) (Dag.stable_list (by simp [Dag.Stable.is])) ?_ ?_
                · intro vs W hbW
                  simp only [Dag.allOps, List.take_succ_cons, List.take_zero, Dag.fill, Act.put, List.setIfInBounds_toArray, List.set_cons_succ, List.set_cons_zero, Dag.deps, Region.binds, Dag.list, Dag.Is, List.getD_cons_zero, List.getD_cons_succ, and_true, forall_const, Nat.reduceAdd, Region.wanted, reduceIte]
                  refine ⟨?_, ?_, ?_, ?_, ?_, ?_, ?_, ?_, ?_, ?_, ?_⟩
                  · (try intro hd); go_simp; (first | done | exact ⟨Below.refl _ _, rfl⟩ | exact Below.refl _ _ | (intro h; cases h))
                  · (try intro hd); go_simp; (first | done | exact ⟨Below.refl _ _, rfl⟩ | exact Below.refl _ _ | (intro h; cases h))
                  · (try intro hd); go_simp; (first | done | exact ⟨Below.refl _ _, rfl⟩ | exact Below.refl _ _ | (intro h; cases h))
                  · (try intro hd); go_simp; (first | done | exact ⟨Below.refl _ _, rfl⟩ | exact Below.refl _ _ | (intro h; cases h))
                  · (try intro hd); go_simp; (first | done | exact ⟨Below.refl _ _, rfl⟩ | exact Below.refl _ _ | (intro h; cases h))
                  · (try intro hd); go_simp; (first | done | exact ⟨Below.refl _ _, rfl⟩ | exact Below.refl _ _ | (intro h; cases h))
                  · (try intro hd); go_simp; (first | done | exact ⟨Below.refl _ _, rfl⟩ | exact Below.refl _ _ | (intro h; cases h))
                  · (try intro hd); go_simp; (first | done | exact ⟨Below.refl _ _, rfl⟩ | exact Below.refl _ _ | (intro h; cases h))
                  · (try intro hd); go_simp; (first | done | exact ⟨Below.refl _ _, rfl⟩ | exact Below.refl _ _ | (intro h; cases h))
                  · (try intro hd); go_simp; (first | done | exact ⟨Below.refl _ _, rfl⟩ | exact Below.refl _ _ | (intro h; cases h))
                  · (try intro hd); go_simp; (first | done | exact ⟨Below.refl _ _, rfl⟩ | exact Below.refl _ _ | (intro h; cases h))
                · intro vs W hbW hk
                  simp only [Dag.known, Dag.list, Dag.Is, List.getD_cons_zero, List.getD_cons_succ, and_true] at hk
                  obtain ⟨k0, k1, k2, k3, k4, k5, k6, k7, k8, k9, k10⟩ := hk
                  simp only [List.take_succ_cons, List.take_zero, List.drop_succ_cons, List.drop_zero, Dag.fill, Act.put, List.setIfInBounds_toArray, List.set_cons_succ, List.set_cons_zero, Nat.reduceAdd, k0, k1, k2, k3, k4, k5, k6, k7, k8, k9, k10]
                  clear k0 k1 k2 k3 k4 k5 k6 k7 k8 k9 k10
                  have HOW1 := hide (own_on hO2.out hbW)
                  have HXW1 := hide (on_cells hX2.out hbW)
                  have HBW1 := hide (show Below B0 w W from hb2.out.trans (hbW.mono (Nat.le_trans hB0w hb2.out.size)))
                  have hB02 : B0 ≤ W.heap.size := Nat.le_trans (Nat.le_trans hB0w hb2.out.size) hbW.size
                  have HBX2 := hide (fun W2 (h : Below W.heap.size W W2) => show Below B0 w W2 from HBW1.out.trans (h.mono hB02))
                  clear hbW
                  go_wp2_with fail
                  refine Dag.wp_region_facts 11 (Dag.list [Dag.Is (.slice A2 0 c2), Dag.Is (.int .i64 ((0 : Nat) : Int)), Dag.Is (.bool false), Dag.Is (.bool false), Dag.Is undef, Dag.Is undef, Dag.Is undef, Dag.Is undef, Dag.Is undef, Dag.Is undef, Dag.Is undef]) (by kernel_rfl) (by kernel_rfl) (Dag.stable_list (by simp [Dag.Stable.is])) ?_ ?_
                  · intro vs W hbW
                    simp only [Dag.allOps, List.take_succ_cons, List.take_zero, Dag.fill, Act.put, List.setIfInBounds_toArray, List.set_cons_succ, List.set_cons_zero, Dag.deps, Region.binds, Dag.list, Dag.Is, List.getD_cons_zero, List.getD_cons_succ, and_true, forall_const, Nat.reduceAdd, Region.wanted, reduceIte]
                    refine ⟨?_, ?_, ?_, ?_, ?_, ?_, ?_, ?_, ?_, ?_, ?_⟩
                    · (try intro hd); go_simp; (first | done | exact ⟨Below.refl _ _, rfl⟩ | exact Below.refl _ _ | (intro h; cases h))
                    · (try intro hd); go_simp; (first | done | exact ⟨Below.refl _ _, rfl⟩ | exact Below.refl _ _ | (intro h; cases h))
                    · (try intro hd); go_simp; (first | done | exact ⟨Below.refl _ _, rfl⟩ | exact Below.refl _ _ | (intro h; cases h))
                    · (try intro hd); go_simp; (first | done | exact ⟨Below.refl _ _, rfl⟩ | exact Below.refl _ _ | (intro h; cases h))
                    · (try intro hd); go_simp; (first | done | exact ⟨Below.refl _ _, rfl⟩ | exact Below.refl _ _ | (intro h; cases h))
                    · (try intro hd); go_simp; (first | done | exact ⟨Below.refl _ _, rfl⟩ | exact Below.refl _ _ | (intro h; cases h))
                    · (try intro hd); go_simp; (first | done | exact ⟨Below.refl _ _, rfl⟩ | exact Below.refl _ _ | (intro h; cases h))
                    · (try intro hd); go_simp; (first | done | exact ⟨Below.refl _ _, rfl⟩ | exact Below.refl _ _ | (intro h; cases h))
                    · (try intro hd); go_simp; (first | done | exact ⟨Below.refl _ _, rfl⟩ | exact Below.refl _ _ | (intro h; cases h))
                    · (try intro hd); go_simp; (first | done | exact ⟨Below.refl _ _, rfl⟩ | exact Below.refl _ _ | (intro h; cases h))
                    · (try intro hd); go_simp; (first | done | exact ⟨Below.refl _ _, rfl⟩ | exact Below.refl _ _ | (intro h; cases h))
                  · intro vs W hbW hk
                    simp only [Dag.known, Dag.list, Dag.Is, List.getD_cons_zero, List.getD_cons_succ, and_true] at hk
                    obtain ⟨k0, k1, k2, k3, k4, k5, k6, k7, k8, k9, k10⟩ := hk
                    simp only [List.take_succ_cons, List.take_zero, List.drop_succ_cons, List.drop_zero, Dag.fill, Act.put, List.setIfInBounds_toArray, List.set_cons_succ, List.set_cons_zero, Nat.reduceAdd, k0, k1, k2, k3, k4, k5, k6, k7, k8, k9, k10]
                    clear k0 k1 k2 k3 k4 k5 k6 k7 k8 k9 k10
                    have HOW := hide (own_on HOW1.out hbW)
                    have HXW := hide (on_cells HXW1.out hbW)
                    have HBW := hide (HBX2.out _ hbW)
                    have hszW : B0 ≤ W.heap.size := Nat.le_trans hB02 hbW.size
                    have HR3 := hR2
                    have HK3 := hKN2
                    have HD3 := hide (show doneN its es = O2 ++ (lay x ++ doneN [] (es.drop (q + 1))) by rw [hdn2.out, HDR.out, doneN_none])
                    obtain ⟨R3, hR3⟩ : ∃ R3 : List Ed, R3 = [] := ⟨_, rfl⟩
                    rw [← hR3] at HR3 HK3 HD3
                    clear hR3 hbW
                    obtain ⟨z0, z1, z2, z3, z4⟩ := five_cells HXW.out
                    cases hpu : x.put with
                    | false =>
                      rw [hpu] at z1
                      have HLAY := hide (show lay x = [] by unfold lay; rw [hpu]; rfl)
                      clear hpu
                      go_wp2_with fail
                      all_goals
                        go_roundw
                        case rel => exact ⟨q + 1, _, _, _, R3, O2, by go_num, by omega, rfl, by omega, hide (by have h := HR3.out; first | exact h | (have e : c2 = 1 := (by assumption); simpa [e] using h) | (have e : ¬ c2 = 1 := (by assumption); simpa [e] using h)), HK3, HOW, HBW, hide (by rw [HD3.out, HLAY.out]; rfl)⟩
                        case measure => simp [intOf]; omega
                    | true =>
                      rw [hpu] at z1
                      have HLAY := hide (show lay x = [x] by unfold lay; rw [hpu]; rfl)
                      clear hpu
                      go_wp2_with (at_builtin; go_loud (refine wpList_append_reads rfl (.tmp 81) (.tmp 91) _ rfl B0 51 i0 _ 4 64 Try.underlying39 hti hz0 hz1 hz2 rfl (by omega) u8 O2.length (cellsI O2) rfl (HOW.out.alloc _) (W.heap.size + 1) (some ⟨W.heap.size, 0, none⟩) 1 1 (cellsI [x]) rfl (Reads.new W 51 _ #[.slice x.kA x.kn x.kc, .slice x.vA x.vn x.vc, .bool x.int, .int .i64 x.n] 1 4 (cellsI [x]) rfl (fun j u hu => by simpa [cellsI, Ed.cellsT] using hu)) cellsI_one (by unfold maxLen; omega) (by omega) (by simp; omega) ?_); intro v9 w9 hown9 hg9 hat9)
                      all_goals have HB9 := hide (HBW.out.trans (((Below.refl B0 W).alloc hszW (.cells #[.slice x.kA x.kn x.kc, .slice x.vA x.vn x.vc, .bool x.int, .int .i64 x.n] 51)).grown hg9 (by simp; omega) fun k hk => (HOW.out.lt k hk).1))
                      all_goals
                        go_roundw
                        case rel => exact ⟨q + 1, _, _, _, R3, O2 ++ [x], by go_num, by omega, rfl, by simp; omega, hide (by have h := HR3.out; first | exact h | (have e : c2 = 1 := (by assumption); simpa [e] using h) | (have e : ¬ c2 = 1 := (by assumption); simpa [e] using h)), HK3, hide (by rw [cellsI_append, List.length_append]; exact hown9), HB9, hide (by rw [HD3.out, HLAY.out, List.append_assoc])⟩
                        case measure => simp [intOf]; omega
              | cons i t =>
                have HI := hide ((hR2.out.below hb2.out).first)
                obtain ⟨bi, oi, rfl, _, hgk, _⟩ := HI.out
                have hg0 : (0 : Int) < (gk : Int) := by omega
                have hgn : 0 < gk := by omega
                obtain ⟨y, hy⟩ : ∃ y : Bool, y = Mg.lt i.key x.key := ⟨_, rfl⟩
                have HY := hide hy
                have HGK := hide hgk
                have HIOK := hide (hR2.out.ok i (by simp))
                have HBX := hide (fun W (h : Below wr.heap.size wr W) => show Below B0 w W from hb2.out.trans (h.mono (Nat.le_trans hB0w hb2.out.size)))
                have hB0i : B0 ≤ wr.heap.size := Nat.le_trans hB0w hb2.out.size
                clear hy hgk
                go_wp2_with fail
                refine Dag.wp_region_facts 11 (Dag.list [Dag.Is (.slice (some ⟨bi, oi, none⟩) gk c2), Dag.Is (.int .i64 (gk : Int)), Dag.Is (.bool true), Dag.Is (.bool true), Dag.Is (.slice (some ⟨bi, oi, none⟩) gk c2), Dag.Is (.pointer (some ⟨bi, oi, none⟩)), Dag.Is (.pointer (some ⟨bi, oi, none⟩)), Dag.Is (.slice i.kA i.kn i.kc), Dag.Is (.pointer (some ⟨X, 0, none⟩)), Dag.Is (.slice x.kA x.kn x.kc), Dag.Is (.bool y)]) (by kernel_rfl) (by kernel_rfl) (Dag.stable_list (by simp [Dag.Stable.is])) ?_ ?_
                · intro vs W hbW
                  simp only [Dag.allOps, List.take_succ_cons, List.take_zero, Dag.fill, Act.put, List.setIfInBounds_toArray, List.set_cons_succ, List.set_cons_zero, Dag.deps, Region.binds, Dag.list, Dag.Is, List.getD_cons_zero, List.getD_cons_succ, and_true, forall_const, Nat.reduceAdd, Region.wanted, reduceIte]
                  refine ⟨?_, ?_, ?_, ?_, ?_, ?_, ?_, ?_, ?_, ?_, ?_⟩
                  · (try intro hd); go_simp; (first | done | exact ⟨Below.refl _ _, rfl⟩ | exact Below.refl _ _ | (intro h; cases h))
                  · (try intro hd); go_simp; (first | done | exact ⟨Below.refl _ _, rfl⟩ | exact Below.refl _ _ | (intro h; cases h))
                  · (try intro hd); go_simp; (first | done | exact ⟨Below.refl _ _, rfl⟩ | exact Below.refl _ _ | (intro h; cases h))
                  · (try intro hd); go_simp; (first | done | exact ⟨Below.refl _ _, rfl⟩ | exact Below.refl _ _ | (intro h; cases h))
                  · (try intro hd); go_simp; (first | done | exact ⟨Below.refl _ _, rfl⟩ | exact Below.refl _ _ | (intro h; cases h))
                  · (try intro hd); go_simp; (first | done | exact ⟨Below.refl _ _, rfl⟩ | exact Below.refl _ _ | (intro h; cases h))
                  · (try intro hd); go_simp; (first | done | exact ⟨Below.refl _ _, rfl⟩ | exact Below.refl _ _ | (intro h; cases h))
                  · (try intro hd); obtain ⟨b', o', hbo, hbl, hn', z0, z1, z2, z3⟩ := HI.out; cases hbo; have y0 := keep_cell hbW z0; go_simp; (first | done | exact ⟨Below.refl _ _, rfl⟩ | exact Below.refl _ _)
                  · (try intro hd); go_simp; (first | done | exact ⟨Below.refl _ _, rfl⟩ | exact Below.refl _ _ | (intro h; cases h))
                  · (try intro hd); obtain ⟨z0, z1, z2, z3, z4⟩ := five_cells (on_cells hX2.out hbW); go_simp; (first | done | exact ⟨Below.refl _ _, rfl⟩ | exact Below.refl _ _)
                  · (try intro hd); go_simp; refine (less_any i.kA x.kA i.kn x.kn i.kc x.kc i.key x.key _ ((HIOK.out.below (HBX.out _ hbW)).rb (Nat.le_trans hB0i hbW.size)) ((HOK.out.below (HBX.out _ hbW)).rb (Nat.le_trans hB0i hbW.size)) (Nat.le_trans HIOK.out.kc HIOK.out.km)).mono ?_; rintro x w' ⟨rfl, rfl⟩; exact ⟨by rw [HY.out], Below.refl _ _⟩
                · intro vs W hbW hk
                  simp only [Dag.known, Dag.list, Dag.Is, List.getD_cons_zero, List.getD_cons_succ, and_true] at hk
                  obtain ⟨k0, k1, k2, k3, k4, k5, k6, k7, k8, k9, k10⟩ := hk
                  simp only [List.take_succ_cons, List.take_zero, List.drop_succ_cons, List.drop_zero, Dag.fill, Act.put, List.setIfInBounds_toArray, List.set_cons_succ, List.set_cons_zero, Nat.reduceAdd, k0, k1, k2, k3, k4, k5, k6, k7, k8, k9, k10]
                  clear k0 k1 k2 k3 k4 k5 k6 k7 k8 k9 k10
                  cases y with
                  | true =>
                    go_wp2_with fail
                    obtain ⟨b', o', hbo, hbl, hn', z0, z1, z2, z3⟩ := HI.out
                    cases hbo
                    have y0 := keep_cell hbW z0
                    have y1 := keep_cell hbW z1
                    have y2 := keep_cell hbW z2
                    have y3 := keep_cell hbW z3
                    have HOW := hide (own_on hO2.out hbW)
                    have HBW := hide (HBX.out _ hbW)
                    have HXW := hide (on_cells hX2.out hbW)
                    have hszW : B0 ≤ W.heap.size := Nat.le_trans hB0i hbW.size
                    have hcap := hR2.out.cap
                    have hg1 : (1 : Int) ≤ (gk : Int) := by omega
                    obtain ⟨v', W', hrun, hown', hgr, hor⟩ := run_append_reads (P := Try.prog) (W.alloc (.cells #[.slice i.kA i.kn i.kc, .slice i.vA i.vn i.vc, .bool i.int, .int .i64 i.n] 51)).drew B0 39 39 51 i0 _ 4 64 Try.underlying39 hti hz0 hz1 hz2 rfl (by omega) u8 O2.length (cellsI O2) (HOW.out.alloc _) (W.heap.size + 1) (some ⟨W.heap.size, 0, none⟩) 1 1 (cellsI [i]) (Reads.new W 51 _ #[.slice i.kA i.kn i.kc, .slice i.vA i.vn i.vc, .bool i.int, .int .i64 i.n] 1 4 (cellsI [i]) rfl (fun j u hu => by simpa [cellsI, Ed.cellsT] using hu)) cellsI_one (by unfold maxLen; omega) (by omega) (by simp; omega)
                    have HR := hide hrun
                    have HO' := hide (And.intro hown' (And.intro hgr hor))
                    clear hrun hown' hgr hor z0 z1 z2 z3 hbW hn'
                    go_region_law (refine step_append_run rfl (.tmp 57) (.tmp 61) _ rfl u8 (.slice (some ⟨W.heap.size, 0, none⟩) 1 1) v' W' rfl rfl HR.out ?_)
                    all_goals
                      have HX' := hide (show W'.heap[X]? = some (.cells #[.slice x.kA x.kn x.kc, .bool x.put, .slice x.vA x.vn x.vc, .bool x.int, .int .i64 x.n] 48 (0, 0)) from (HO'.out.2.1.block X (by simp [World.drew]; have := lt_cells HXW.out; omega) (fun e => by
                        rcases own_apart HOW.out HXW.out (by decide) with h | h
                        · rw [h] at e; cases e
                        · exact h e.symm)).trans (old_cells HXW.out _))
                      have HB' := hide (HBW.out.trans (((Below.refl B0 W).alloc hszW (.cells #[.slice i.kA i.kn i.kc, .slice i.vA i.vn i.vc, .bool i.int, .int .i64 i.n] 51)).drew.grown HO'.out.2.1 (by simp [World.drew]; omega) fun j hj => (HOW.out.lt j hj).1))
                      have HD' := hide (show doneN its es = (O2 ++ [i]) ++ doneN t (es.drop q) by rw [hdn2.out, HDR.out, doneN_less HY.out.symm, List.append_assoc, List.singleton_append])
                      have HR' := hide (show ItR w B0 (if c2 = 1 then some ⟨bi, oi, none⟩ else some ⟨bi, oi + 4, none⟩) (gk - 1) (c2 - 1) t by
                        have h := hR2.out.drop 1 (by omega)
                        simpa [addr_add] using h)
                      go_wp2_with fail
                      all_goals go_roundg (gk - 1)
                      case rel => exact ⟨_, _, t, O2 ++ [i], rfl, by simp; omega, hide (by have h := HR'.out; first | (have e : c2 = 1 := (by assumption); simpa [e] using h) | (have e : ¬ c2 = 1 := (by assumption); simpa [e] using h)), hide (fun e he => hKN2.out e (by simp [he])), hide (by rw [cellsI_append, List.length_append]; exact HO'.out.1), HB', HD', HX'⟩
                      case measure => omega
                      case rel => exact ⟨_, _, t, O2 ++ [i], rfl, by simp; omega, hide (by have h := HR'.out; first | (have e : c2 = 1 := (by assumption); simpa [e] using h) | (have e : ¬ c2 = 1 := (by assumption); simpa [e] using h)), hide (fun e he => hKN2.out e (by simp [he])), hide (by rw [cellsI_append, List.length_append]; exact HO'.out.1), HB', HD', HX'⟩
                      case measure => omega
                  | false =>
                    by_cases hkey : i.key = x.key
                    · have hd : decide (i.key = x.key) = true := decide_eq_true hkey
                      have HD3 := hide (show doneN its es = O2 ++ (lay x ++ doneN t (es.drop (q + 1))) by rw [hdn2.out, HDR.out, doneN_same HY.out.symm hkey])
                      have HI2 := hide ((hR2.out.below (HBX.out _ hbW)).first)
                      have HXW1 := hide (on_cells hX2.out hbW)
                      have HOW1 := hide (own_on hO2.out hbW)
                      have HBW1 := hide (HBX.out _ hbW)
                      have hB02 : B0 ≤ W.heap.size := Nat.le_trans hB0i hbW.size
                      have HBX2 := hide (fun W2 (h : Below W.heap.size W W2) => show Below B0 w W2 from HBW1.out.trans (h.mono hB02))
                      clear hbW
                      have HHD := hide hd
                      have HKL := hide (hKN2.out i (by simp))
                      obtain ⟨kq, hkq⟩ : ∃ kq : Bool, kq = decide (i.key = x.key) := ⟨_, rfl⟩
                      rw [← hkq] at HHD
                      have HKQ := hide hkq
                      clear hkey hd hkq
                      go_wp2_with fail
                      refine Dag.wp_region_facts 11 (Dag.list [Dag.Is (.slice (some ⟨bi, oi, none⟩) gk c2), Dag.Is (.int .i64 (gk : Int)), Dag.Is (.bool true), Dag.Is (.bool true), Dag.Is (.slice (some ⟨bi, oi, none⟩) gk c2), Dag.Is (.pointer (some ⟨bi, oi, none⟩)), Dag.Is (.pointer (some ⟨bi, oi, none⟩)), Dag.Is (.slice i.kA i.kn i.kc), Dag.Is (.pointer (some ⟨X, 0, none⟩)), Dag.Is (.slice x.kA x.kn x.kc), Dag.Is (.bool kq)]) (by kernel_rfl) (by kernel_rfl) (Dag.stable_list (by simp [Dag.Stable.is])) ?_ ?_
                      · intro vs W hbW
                        simp only [Dag.allOps, List.take_succ_cons, List.take_zero, Dag.fill, Act.put, List.setIfInBounds_toArray, List.set_cons_succ, List.set_cons_zero, Dag.deps, Region.binds, Dag.list, Dag.Is, List.getD_cons_zero, List.getD_cons_succ, and_true, forall_const, Nat.reduceAdd, Region.wanted, reduceIte]
                        refine ⟨?_, ?_, ?_, ?_, ?_, ?_, ?_, ?_, ?_, ?_, ?_⟩
                        · (try intro hd); go_simp; (first | done | exact ⟨Below.refl _ _, rfl⟩ | exact Below.refl _ _ | (intro h; cases h))
                        · (try intro hd); go_simp; (first | done | exact ⟨Below.refl _ _, rfl⟩ | exact Below.refl _ _ | (intro h; cases h))
                        · (try intro hd); go_simp; (first | done | exact ⟨Below.refl _ _, rfl⟩ | exact Below.refl _ _ | (intro h; cases h))
                        · (try intro hd); go_simp; (first | done | exact ⟨Below.refl _ _, rfl⟩ | exact Below.refl _ _ | (intro h; cases h))
                        · (try intro hd); go_simp; (first | done | exact ⟨Below.refl _ _, rfl⟩ | exact Below.refl _ _ | (intro h; cases h))
                        · (try intro hd); go_simp; (first | done | exact ⟨Below.refl _ _, rfl⟩ | exact Below.refl _ _ | (intro h; cases h))
                        · (try intro hd); go_simp; (first | done | exact ⟨Below.refl _ _, rfl⟩ | exact Below.refl _ _ | (intro h; cases h))
                        · (try intro hd); obtain ⟨b', o', hbo, hbl, hn', z0, z1, z2, z3⟩ := HI2.out; cases hbo; have y0 := keep_cell hbW z0; go_simp; (first | done | exact ⟨Below.refl _ _, rfl⟩ | exact Below.refl _ _)
                        · (try intro hd); go_simp; (first | done | exact ⟨Below.refl _ _, rfl⟩ | exact Below.refl _ _ | (intro h; cases h))
                        · (try intro hd); obtain ⟨z0, z1, z2, z3, z4⟩ := five_cells (on_cells HXW1.out hbW); go_simp; (first | done | exact ⟨Below.refl _ _, rfl⟩ | exact Below.refl _ _)
                        · (try intro hd); go_simp; refine (equal_b i.kA x.kA i.kn x.kn i.kc x.kc i.key x.key _ ((HIOK.out.below (HBX2.out _ hbW)).rb (Nat.le_trans hB02 hbW.size)) ((HOK.out.below (HBX2.out _ hbW)).rb (Nat.le_trans hB02 hbW.size)) HKL.out HXL.out).mono ?_; rintro x w' ⟨rfl, hb'⟩; exact ⟨by rw [HKQ.out], hb'⟩
                      · intro vs W hbW hk
                        simp only [Dag.known, Dag.list, Dag.Is, List.getD_cons_zero, List.getD_cons_succ, and_true] at hk
                        obtain ⟨k0, k1, k2, k3, k4, k5, k6, k7, k8, k9, k10⟩ := hk
                        simp only [List.take_succ_cons, List.take_zero, List.drop_succ_cons, List.drop_zero, Dag.fill, Act.put, List.setIfInBounds_toArray, List.set_cons_succ, List.set_cons_zero, Nat.reduceAdd, k0, k1, k2, k3, k4, k5, k6, k7, k8, k9, k10]
                        clear k0 k1 k2 k3 k4 k5 k6 k7 k8 k9 k10
                        have HOW := hide (own_on HOW1.out hbW)
                        have HXW := hide (on_cells HXW1.out hbW)
                        have HBW := hide (HBX2.out _ hbW)
                        have hszW : B0 ≤ W.heap.size := Nat.le_trans hB02 hbW.size
                        have hg1 : (1 : Int) ≤ (gk : Int) := by omega
                        obtain rfl : kq = true := HHD.out
                        have HR3 := hide (show ItR w B0 (if c2 = 1 then some ⟨bi, oi, none⟩ else some ⟨bi, oi + 4, none⟩) (gk - 1) (c2 - 1) t by
                          have h := hR2.out.drop 1 (by omega)
                          simpa [addr_add] using h)
                        have HK3 := hide (fun e (he : e ∈ t) => hKN2.out e (by simp [he]))
                        obtain ⟨R3, hR3⟩ : ∃ R3, R3 = t := ⟨_, rfl⟩
                        rw [← hR3] at HR3 HK3 HD3
                        clear hR3 hbW
                        obtain ⟨z0, z1, z2, z3, z4⟩ := five_cells HXW.out
                        cases hpu : x.put with
                        | false =>
                          rw [hpu] at z1
                          have HLAY := hide (show lay x = [] by unfold lay; rw [hpu]; rfl)
                          clear hpu
                          go_wp2_with fail
                          all_goals
                            go_roundw
                            case rel => exact ⟨q + 1, _, _, _, R3, O2, by go_num, by omega, rfl, by omega, hide (by have h := HR3.out; first | exact h | (have e : c2 = 1 := (by assumption); simpa [e] using h) | (have e : ¬ c2 = 1 := (by assumption); simpa [e] using h)), HK3, HOW, HBW, hide (by rw [HD3.out, HLAY.out]; rfl)⟩
                            case measure => simp [intOf]; omega
                        | true =>
                          rw [hpu] at z1
                          have HLAY := hide (show lay x = [x] by unfold lay; rw [hpu]; rfl)
                          clear hpu
                          go_wp2_with (at_builtin; go_loud (refine wpList_append_reads rfl (.tmp 81) (.tmp 91) _ rfl B0 51 i0 _ 4 64 Try.underlying39 hti hz0 hz1 hz2 rfl (by omega) u8 O2.length (cellsI O2) rfl (HOW.out.alloc _) (W.heap.size + 1) (some ⟨W.heap.size, 0, none⟩) 1 1 (cellsI [x]) rfl (Reads.new W 51 _ #[.slice x.kA x.kn x.kc, .slice x.vA x.vn x.vc, .bool x.int, .int .i64 x.n] 1 4 (cellsI [x]) rfl (fun j u hu => by simpa [cellsI, Ed.cellsT] using hu)) cellsI_one (by unfold maxLen; omega) (by omega) (by simp; omega) ?_); intro v9 w9 hown9 hg9 hat9)
                          all_goals have HB9 := hide (HBW.out.trans (((Below.refl B0 W).alloc hszW (.cells #[.slice x.kA x.kn x.kc, .slice x.vA x.vn x.vc, .bool x.int, .int .i64 x.n] 51)).grown hg9 (by simp; omega) fun k hk => (HOW.out.lt k hk).1))
                          all_goals
                            go_roundw
                            case rel => exact ⟨q + 1, _, _, _, R3, O2 ++ [x], by go_num, by omega, rfl, by simp; omega, hide (by have h := HR3.out; first | exact h | (have e : c2 = 1 := (by assumption); simpa [e] using h) | (have e : ¬ c2 = 1 := (by assumption); simpa [e] using h)), HK3, hide (by rw [cellsI_append, List.length_append]; exact hown9), HB9, hide (by rw [HD3.out, HLAY.out, List.append_assoc])⟩
                            case measure => simp [intOf]; omega
                    · have hd : decide (i.key = x.key) = false := decide_eq_false hkey
                      have HD3 := hide (show doneN its es = O2 ++ (lay x ++ doneN (i :: t) (es.drop (q + 1))) by rw [hdn2.out, HDR.out, doneN_more HY.out.symm hkey])
                      have HI2 := hide ((hR2.out.below (HBX.out _ hbW)).first)
                      have HXW1 := hide (on_cells hX2.out hbW)
                      have HOW1 := hide (own_on hO2.out hbW)
                      have HBW1 := hide (HBX.out _ hbW)
                      have hB02 : B0 ≤ W.heap.size := Nat.le_trans hB0i hbW.size
                      have HBX2 := hide (fun W2 (h : Below W.heap.size W W2) => show Below B0 w W2 from HBW1.out.trans (h.mono hB02))
                      clear hbW
                      have HHD := hide hd
                      have HKL := hide (hKN2.out i (by simp))
                      obtain ⟨kq, hkq⟩ : ∃ kq : Bool, kq = decide (i.key = x.key) := ⟨_, rfl⟩
                      rw [← hkq] at HHD
                      have HKQ := hide hkq
                      clear hkey hd hkq
                      go_wp2_with fail
                      refine Dag.wp_region_facts 11 (Dag.list [Dag.Is (.slice (some ⟨bi, oi, none⟩) gk c2), Dag.Is (.int .i64 (gk : Int)), Dag.Is (.bool true), Dag.Is (.bool true), Dag.Is (.slice (some ⟨bi, oi, none⟩) gk c2), Dag.Is (.pointer (some ⟨bi, oi, none⟩)), Dag.Is (.pointer (some ⟨bi, oi, none⟩)), Dag.Is (.slice i.kA i.kn i.kc), Dag.Is (.pointer (some ⟨X, 0, none⟩)), Dag.Is (.slice x.kA x.kn x.kc), Dag.Is (.bool kq)]) (by kernel_rfl) (by kernel_rfl) (Dag.stable_list (by simp [Dag.Stable.is])) ?_ ?_
                      · intro vs W hbW
                        simp only [Dag.allOps, List.take_succ_cons, List.take_zero, Dag.fill, Act.put, List.setIfInBounds_toArray, List.set_cons_succ, List.set_cons_zero, Dag.deps, Region.binds, Dag.list, Dag.Is, List.getD_cons_zero, List.getD_cons_succ, and_true, forall_const, Nat.reduceAdd, Region.wanted, reduceIte]
                        refine ⟨?_, ?_, ?_, ?_, ?_, ?_, ?_, ?_, ?_, ?_, ?_⟩
                        · (try intro hd); go_simp; (first | done | exact ⟨Below.refl _ _, rfl⟩ | exact Below.refl _ _ | (intro h; cases h))
                        · (try intro hd); go_simp; (first | done | exact ⟨Below.refl _ _, rfl⟩ | exact Below.refl _ _ | (intro h; cases h))
                        · (try intro hd); go_simp; (first | done | exact ⟨Below.refl _ _, rfl⟩ | exact Below.refl _ _ | (intro h; cases h))
                        · (try intro hd); go_simp; (first | done | exact ⟨Below.refl _ _, rfl⟩ | exact Below.refl _ _ | (intro h; cases h))
                        · (try intro hd); go_simp; (first | done | exact ⟨Below.refl _ _, rfl⟩ | exact Below.refl _ _ | (intro h; cases h))
                        · (try intro hd); go_simp; (first | done | exact ⟨Below.refl _ _, rfl⟩ | exact Below.refl _ _ | (intro h; cases h))
                        · (try intro hd); go_simp; (first | done | exact ⟨Below.refl _ _, rfl⟩ | exact Below.refl _ _ | (intro h; cases h))
                        · (try intro hd); obtain ⟨b', o', hbo, hbl, hn', z0, z1, z2, z3⟩ := HI2.out; cases hbo; have y0 := keep_cell hbW z0; go_simp; (first | done | exact ⟨Below.refl _ _, rfl⟩ | exact Below.refl _ _)
                        · (try intro hd); go_simp; (first | done | exact ⟨Below.refl _ _, rfl⟩ | exact Below.refl _ _ | (intro h; cases h))
                        · (try intro hd); obtain ⟨z0, z1, z2, z3, z4⟩ := five_cells (on_cells HXW1.out hbW); go_simp; (first | done | exact ⟨Below.refl _ _, rfl⟩ | exact Below.refl _ _)
                        · (try intro hd); go_simp; refine (equal_b i.kA x.kA i.kn x.kn i.kc x.kc i.key x.key _ ((HIOK.out.below (HBX2.out _ hbW)).rb (Nat.le_trans hB02 hbW.size)) ((HOK.out.below (HBX2.out _ hbW)).rb (Nat.le_trans hB02 hbW.size)) HKL.out HXL.out).mono ?_; rintro x w' ⟨rfl, hb'⟩; exact ⟨by rw [HKQ.out], hb'⟩
                      · intro vs W hbW hk
                        simp only [Dag.known, Dag.list, Dag.Is, List.getD_cons_zero, List.getD_cons_succ, and_true] at hk
                        obtain ⟨k0, k1, k2, k3, k4, k5, k6, k7, k8, k9, k10⟩ := hk
                        simp only [List.take_succ_cons, List.take_zero, List.drop_succ_cons, List.drop_zero, Dag.fill, Act.put, List.setIfInBounds_toArray, List.set_cons_succ, List.set_cons_zero, Nat.reduceAdd, k0, k1, k2, k3, k4, k5, k6, k7, k8, k9, k10]
                        clear k0 k1 k2 k3 k4 k5 k6 k7 k8 k9 k10
                        have HOW := hide (own_on HOW1.out hbW)
                        have HXW := hide (on_cells HXW1.out hbW)
                        have HBW := hide (HBX2.out _ hbW)
                        have hszW : B0 ≤ W.heap.size := Nat.le_trans hB02 hbW.size
                        obtain rfl : kq = false := HHD.out
                        have HR3 := hR2
                        have HK3 := hKN2
                        obtain ⟨R3, hR3⟩ : ∃ R3, R3 = i :: t := ⟨_, rfl⟩
                        rw [← hR3] at HR3 HK3 HD3
                        clear hR3 hbW
                        obtain ⟨z0, z1, z2, z3, z4⟩ := five_cells HXW.out
                        cases hpu : x.put with
                        | false =>
                          rw [hpu] at z1
                          have HLAY := hide (show lay x = [] by unfold lay; rw [hpu]; rfl)
                          clear hpu
                          go_wp2_with fail
                          all_goals
                            go_roundw
                            case rel => exact ⟨q + 1, _, _, _, R3, O2, by go_num, by omega, rfl, by omega, hide (by have h := HR3.out; first | exact h | (have e : c2 = 1 := (by assumption); simpa [e] using h) | (have e : ¬ c2 = 1 := (by assumption); simpa [e] using h)), HK3, HOW, HBW, hide (by rw [HD3.out, HLAY.out]; rfl)⟩
                            case measure => simp [intOf]; omega
                        | true =>
                          rw [hpu] at z1
                          have HLAY := hide (show lay x = [x] by unfold lay; rw [hpu]; rfl)
                          clear hpu
                          go_wp2_with (at_builtin; go_loud (refine wpList_append_reads rfl (.tmp 81) (.tmp 91) _ rfl B0 51 i0 _ 4 64 Try.underlying39 hti hz0 hz1 hz2 rfl (by omega) u8 O2.length (cellsI O2) rfl (HOW.out.alloc _) (W.heap.size + 1) (some ⟨W.heap.size, 0, none⟩) 1 1 (cellsI [x]) rfl (Reads.new W 51 _ #[.slice x.kA x.kn x.kc, .slice x.vA x.vn x.vc, .bool x.int, .int .i64 x.n] 1 4 (cellsI [x]) rfl (fun j u hu => by simpa [cellsI, Ed.cellsT] using hu)) cellsI_one (by unfold maxLen; omega) (by omega) (by simp; omega) ?_); intro v9 w9 hown9 hg9 hat9)
                          all_goals have HB9 := hide (HBW.out.trans (((Below.refl B0 W).alloc hszW (.cells #[.slice x.kA x.kn x.kc, .slice x.vA x.vn x.vc, .bool x.int, .int .i64 x.n] 51)).grown hg9 (by simp; omega) fun k hk => (HOW.out.lt k hk).1))
                          all_goals
                            go_roundw
                            case rel => exact ⟨q + 1, _, _, _, R3, O2 ++ [x], by go_num, by omega, rfl, by simp; omega, hide (by have h := HR3.out; first | exact h | (have e : c2 = 1 := (by assumption); simpa [e] using h) | (have e : ¬ c2 = 1 := (by assumption); simpa [e] using h)), HK3, hide (by rw [cellsI_append, List.length_append]; exact hown9), HB9, hide (by rw [HD3.out, HLAY.out, List.append_assoc])⟩
                            case measure => simp [intOf]; omega
          · obtain rfl : q = m := by omega
            have hr1 := hR.out.len
            have HD := hide (show doneN its es = O ++ R by rw [hdn.out, List.drop_of_length_le (by rw [HEL.out]; exact Nat.le_refl _), doneN_nil])
            have hszW : B0 ≤ wr.heap.size := Nat.le_trans hB0w hb.out.size
            go_wp2_with (at_builtin; go_loud (refine wpList_append_reads rfl (.tmp 94) (.tmp 95) _ rfl B0 51 i0 _ 4 64 Try.underlying39 hti hz0 hz1 hz2 rfl (by omega) u8 O.length (cellsI O) rfl hO.out B0 A1 r c1 (cellsI R) rfl (hR.out.below hb.out).cells cellsI_one (by unfold maxLen; omega) (by omega) (by omega) ?_); intro v9 w9 hown9 hg9 hat9)
            go_ret2
            refine ⟨by rw [← HB0.out]; exact hb.out.grown hg9 hszW fun k hk => (hO.out.lt k hk).1, ?_⟩
            rw [if_pos ⟨HRT.out, HRI.out⟩]
            refine ⟨_, rfl, ?_⟩
            rw [← HB0.out, HD.out, List.length_append, cellsI_append, hr1]
            exact hown9
end Go.Proofs.Ytgliindhndcceaa
