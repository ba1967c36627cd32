/- The walks that look at a row of edits: Check, All, Right. -/
import Derived.Test.YtgliindhndcceaaMgList
import Derived.Test.YtgliindhndcceaaDag
namespace Go.Proofs.Ytgliindhndcceaa
open Go.RowKit
attribute [local go_sem] Dag.gives
/-- what Check answers -/
def rightE (l : List Ed) : Int := if right l = true then 0 else 250
theorem rightE_yes {l : List Ed} (h : right l = true) : rightE l = 0 := if_pos h
theorem rightE_no {l : List Ed} (h : right l = false) : rightE l = 250 := if_neg (by rw [h]; decide)
theorem wrap_in {p n : Nat} (h : p < n) (hn : n ≤ maxLen) : IntKind.i64.wrap (p : Int) = (p : Int) := by
  unfold maxLen at hn
  unfold IntKind.wrap
  simp [IntKind.signed, IntKind.bits]
  omega
theorem wrap_two {p n : Nat} (h : p + 1 < n) (hn : n ≤ maxLen) : wrap64 ((p : Int) + 1 + 1) = (p : Int) + 1 + 1 := wrap_succ (j := p + 1) h hn
section
variable {w w' : World} {b : Nat} {t : TypeId} {fr : Nat × Nat} {x0 x1 x2 x3 x4 : Value}
theorem five_cells (h : w.heap[b]? = some (.cells #[x0, x1, x2, x3, x4] t fr)) : w.cell? ⟨b, 0, none⟩ = some x0 ∧ w.cell? ⟨b, 1, none⟩ = some x1 ∧ w.cell? ⟨b, 2, none⟩ = some x2 ∧ w.cell? ⟨b, 3, none⟩ = some x3 ∧ w.cell? ⟨b, 4, none⟩ = some x4 :=
  ⟨cell_of_row _ _ 0 _ _ _ h, cell_of_row _ _ 1 _ _ _ h, cell_of_row _ _ 2 _ _ _ h, cell_of_row _ _ 3 _ _ _ h, cell_of_row _ _ 4 _ _ _ h⟩
end
set_option maxHeartbeats 8000000 in
theorem check_any (A : Option Addr) (n c : Nat) (l : List Ed) (w : World) (hA : Row w w.heap.size A n c l) :
    Calls Try.prog 13 #[.slice A n c] w fun e w' => e = .returned (.int .i64 (rightE l)) ∧ Below w.heap.size w w' := by
  have HA := hide hA
  have HL := hide hA.len
  have HN := hide (Nat.le_trans hA.cap hA.max)
  clear hA
  go_enter Try.func13, Try.ntmps13
  go_wp2_with fail
  go_loopw [7] (fun i wr => ∃ j : Nat, i = .int .i64 (j : Int) ∧ j ≤ n ∧ Hid (Below w.heap.size w wr) ∧ Hid (∀ p (h : p < l.length), p < j → stepOk l p h = true)) (fun i _ => n - (intOf i).toNat)
  case atStart => exact ⟨0, rfl, Nat.zero_le _, hide (Below.refl _ _), hide (fun p h hp => absurd hp (by omega))⟩
  case round =>
    obtain ⟨j, rfl, hj, hb, hst⟩ := hrel
    by_cases hlt : j < n
    · have hjl : j < l.length := by rw [HL.out]; exact hlt
      have HR := hide (HA.out.on hb.out)
      obtain ⟨b, o, rfl, hbw, c0, c1, c2, c3, c4⟩ := HR.out.cell hjl
      have hj0 : (0 : Int) ≤ (j : Int) := by omega
      have hj1 : (j : Int) < (n : Int) := by omega
      have HW := hide (wrap_succ hlt HN.out)
      have HOK := hide (HR.out.ok l[j] (List.getElem_mem hjl))
      go_wp2_with fail
      clear c0 c1 c2 c3 c4
      have HX5 := hide (new_cells wr (.cells #[.slice l[j].kA l[j].kn l[j].kc, .bool l[j].put, .slice l[j].vA l[j].vn l[j].vc, .bool l[j].int, .int .i64 l[j].n] 48))
      have HB5 := hide (below_alloc wr (.cells #[.slice l[j].kA l[j].kn l[j].kc, .bool l[j].put, .slice l[j].vA l[j].vn l[j].vc, .bool l[j].int, .int .i64 l[j].n] 48))
      have HM := hide (may_any l[j])
      obtain ⟨e, he⟩ : ∃ e, e = l[j] := ⟨_, rfl⟩
      rw [← he] at HX5 HB5 HM HOK ⊢
      obtain ⟨w5, hw5⟩ : ∃ w5, w5 = wr.alloc (.cells #[.slice e.kA e.kn e.kc, .bool e.put, .slice e.vA e.vn e.vc, .bool e.int, .int .i64 e.n] 48) := ⟨_, rfl⟩
      rw [← hw5] at HX5 HB5 ⊢
      have HE := hide he
      clear hw5 he
      cases hm : e.may with
      | false =>
        have HS := hide (right_no hjl (step_may (by rw [← HE.out]; exact hm)))
        refine Dag.wp_region_facts 18 (Dag.list [Dag.Is e.agg, Dag.Is (.bool false), Dag.Is (.bool true), Dag.Is (.bool true), Dag.Is undef, Dag.Is undef, Dag.Is undef, Dag.Is undef, Dag.Is undef, Dag.Is undef, Dag.Is undef, Dag.Is undef, Dag.Is undef, Dag.Is undef, Dag.Is undef, Dag.Is undef, Dag.Is undef, Dag.Is undef]) (by kernel_rfl) (by kernel_rfl) (Dag.stable_list (by simp [Dag.Stable.is])) ?_ ?_
        · intro vs W hbW
          simp only [Dag.allOps, List.take_succ_cons, List.take_zero, Dag.fill, Act.put, List.setIfInBounds_toArray, List.set_cons_succ, List.set_cons_zero, Dag.deps, Region.binds, Dag.list, Dag.Is, List.getD_cons_zero, List.getD_cons_succ, and_true, forall_const, Nat.reduceAdd, Region.wanted, reduceIte]
          refine ⟨?_, ?_, ?_, ?_, ?_, ?_, ?_, ?_, ?_, ?_, ?_, ?_, ?_, ?_, ?_, ?_, ?_, ?_⟩
          · (try intro hd); obtain ⟨z0, z1, z2, z3, z4⟩ := five_cells (on_cells HX5.out hbW); go_simp; (first | done | exact ⟨Below.refl _ _, rfl⟩ | exact Below.refl _ _)
          · (try intro hd); go_simp; refine (HM.out _).mono ?_; rintro x w' ⟨rfl, hb'⟩; exact ⟨by rw [hm], hb'⟩
          · (try intro hd); go_simp; (first | done | exact ⟨Below.refl _ _, rfl⟩ | exact Below.refl _ _ | (intro h; cases h))
          · (try intro hd); go_simp; (first | done | exact ⟨Below.refl _ _, rfl⟩ | exact Below.refl _ _ | (intro h; cases h))
          · (try intro hd); go_simp; (first | done | exact ⟨Below.refl _ _, rfl⟩ | exact Below.refl _ _ | (intro h; cases h))
          · (try intro hd); go_simp; (first | done | exact ⟨Below.refl _ _, rfl⟩ | exact Below.refl _ _ | (intro h; cases h))
          · (try intro hd); go_simp; (first | done | exact ⟨Below.refl _ _, rfl⟩ | exact Below.refl _ _ | (intro h; cases h))
          · (try intro hd); go_simp; (first | done | exact ⟨Below.refl _ _, rfl⟩ | exact Below.refl _ _ | (intro h; cases h))
          · (try intro hd); go_simp; (first | done | exact ⟨Below.refl _ _, rfl⟩ | exact Below.refl _ _ | (intro h; cases h))
          · (try intro hd); go_simp; (first | done | exact ⟨Below.refl _ _, rfl⟩ | exact Below.refl _ _ | (intro h; cases h))
          · (try intro hd); go_simp; (first | done | exact ⟨Below.refl _ _, rfl⟩ | exact Below.refl _ _ | (intro h; cases h))
          · (try intro hd); go_simp; (first | done | exact ⟨Below.refl _ _, rfl⟩ | exact Below.refl _ _ | (intro h; cases h))
          · (try intro hd); go_simp; (first | done | exact ⟨Below.refl _ _, rfl⟩ | exact Below.refl _ _ | (intro h; cases h))
          · (try intro hd); go_simp; (first | done | exact ⟨Below.refl _ _, rfl⟩ | exact Below.refl _ _ | (intro h; cases h))
          · (try intro hd); go_simp; (first | done | exact ⟨Below.refl _ _, rfl⟩ | exact Below.refl _ _ | (intro h; cases h))
          · (try intro hd); go_simp; (first | done | exact ⟨Below.refl _ _, rfl⟩ | exact Below.refl _ _ | (intro h; cases h))
          · (try intro hd); go_simp; (first | done | exact ⟨Below.refl _ _, rfl⟩ | exact Below.refl _ _ | (intro h; cases h))
          · (try intro hd); go_simp; (first | done | exact ⟨Below.refl _ _, rfl⟩ | exact Below.refl _ _ | (intro h; cases h))
        · intro vs W hbW hk
          simp only [Dag.known, Dag.list, Dag.Is, List.getD_cons_zero, List.getD_cons_succ, and_true] at hk
          obtain ⟨k0, k1, k2, k3, k4, k5, k6, k7, k8, k9, k10, k11, k12, k13, k14, k15, k16, k17⟩ := hk
          simp only [List.take_succ_cons, List.take_zero, List.drop_succ_cons, List.drop_zero, Dag.fill, Act.put, List.setIfInBounds_toArray, List.set_cons_succ, List.set_cons_zero, Nat.reduceAdd, k0, k1, k2, k3, k4, k5, k6, k7, k8, k9, k10, k11, k12, k13, k14, k15, k16, k17]
          clear k0 k1 k2 k3 k4 k5 k6 k7 k8 k9 k10 k11 k12 k13 k14 k15 k16 k17
          go_wp2_with fail
          go_ret
          exact ⟨by rw [rightE_no HS.out]; rfl, below_then hb.out (below_then HB5.out hbW)⟩
      | true =>
        by_cases hp : j = 0
        · subst hp
          have HS := hide (show stepOk l 0 hjl = true by rw [step_zero, ← HE.out]; exact hm)
          refine Dag.wp_region_facts 18 (Dag.list [Dag.Is e.agg, Dag.Is (.bool true), Dag.Is (.bool false), Dag.Is (.bool false), Dag.Is (.int .i64 ((0 : Nat) : Int)), Dag.Is (.bool false), Dag.Is (.bool false), Dag.Is undef, Dag.Is undef, Dag.Is undef, Dag.Is undef, Dag.Is undef, Dag.Is undef, Dag.Is undef, Dag.Is undef, Dag.Is undef, Dag.Is undef, Dag.Is (.bool false)]) (by kernel_rfl) (by kernel_rfl) (Dag.stable_list (by simp [Dag.Stable.is])) ?_ ?_
          · intro vs W hbW
            simp only [Dag.allOps, List.take_succ_cons, List.take_zero, Dag.fill, Act.put, List.setIfInBounds_toArray, List.set_cons_succ, List.set_cons_zero, Dag.deps, Region.binds, Dag.list, Dag.Is, List.getD_cons_zero, List.getD_cons_succ, and_true, forall_const, Nat.reduceAdd, Region.wanted, reduceIte]
            refine ⟨?_, ?_, ?_, ?_, ?_, ?_, ?_, ?_, ?_, ?_, ?_, ?_, ?_, ?_, ?_, ?_, ?_, ?_⟩
            · (try intro hd); obtain ⟨z0, z1, z2, z3, z4⟩ := five_cells (on_cells HX5.out hbW); go_simp; (first | done | exact ⟨Below.refl _ _, rfl⟩ | exact Below.refl _ _)
            · (try intro hd); go_simp; refine (HM.out _).mono ?_; rintro x w' ⟨rfl, hb'⟩; exact ⟨by rw [hm], hb'⟩
            · (try intro hd); go_simp; (first | done | exact ⟨Below.refl _ _, rfl⟩ | exact Below.refl _ _ | (intro h; cases h))
            · (try intro hd); go_simp; (first | done | exact ⟨Below.refl _ _, rfl⟩ | exact Below.refl _ _ | (intro h; cases h))
            · (try intro hd); go_simp; (first | done | exact ⟨Below.refl _ _, rfl⟩ | exact Below.refl _ _ | (intro h; cases h))
            · (try intro hd); go_simp; (first | done | exact ⟨Below.refl _ _, rfl⟩ | exact Below.refl _ _ | (intro h; cases h))
            · (try intro hd); go_simp; (first | done | exact ⟨Below.refl _ _, rfl⟩ | exact Below.refl _ _ | (intro h; cases h))
            · (try intro hd); go_simp; (first | done | exact ⟨Below.refl _ _, rfl⟩ | exact Below.refl _ _ | (intro h; cases h))
            · (try intro hd); go_simp; (first | done | exact ⟨Below.refl _ _, rfl⟩ | exact Below.refl _ _ | (intro h; cases h))
            · (try intro hd); go_simp; (first | done | exact ⟨Below.refl _ _, rfl⟩ | exact Below.refl _ _ | (intro h; cases h))
            · (try intro hd); go_simp; (first | done | exact ⟨Below.refl _ _, rfl⟩ | exact Below.refl _ _ | (intro h; cases h))
            · (try intro hd); go_simp; (first | done | exact ⟨Below.refl _ _, rfl⟩ | exact Below.refl _ _ | (intro h; cases h))
            · (try intro hd); go_simp; (first | done | exact ⟨Below.refl _ _, rfl⟩ | exact Below.refl _ _ | (intro h; cases h))
            · (try intro hd); go_simp; (first | done | exact ⟨Below.refl _ _, rfl⟩ | exact Below.refl _ _ | (intro h; cases h))
            · (try intro hd); go_simp; (first | done | exact ⟨Below.refl _ _, rfl⟩ | exact Below.refl _ _ | (intro h; cases h))
            · (try intro hd); go_simp; (first | done | exact ⟨Below.refl _ _, rfl⟩ | exact Below.refl _ _ | (intro h; cases h))
            · (try intro hd); go_simp; (first | done | exact ⟨Below.refl _ _, rfl⟩ | exact Below.refl _ _ | (intro h; cases h))
            · (try intro hd); go_simp; (first | done | exact ⟨Below.refl _ _, rfl⟩ | exact Below.refl _ _ | (intro h; cases h))
          · intro vs W hbW hk
            simp only [Dag.known, Dag.list, Dag.Is, List.getD_cons_zero, List.getD_cons_succ, and_true] at hk
            obtain ⟨k0, k1, k2, k3, k4, k5, k6, k7, k8, k9, k10, k11, k12, k13, k14, k15, k16, k17⟩ := hk
            simp only [List.take_succ_cons, List.take_zero, List.drop_succ_cons, List.drop_zero, Dag.fill, Act.put, List.setIfInBounds_toArray, List.set_cons_succ, List.set_cons_zero, Nat.reduceAdd, k0, k1, k2, k3, k4, k5, k6, k7, k8, k9, k10, k11, k12, k13, k14, k15, k16, k17]
            clear k0 k1 k2 k3 k4 k5 k6 k7 k8 k9 k10 k11 k12 k13 k14 k15 k16 k17
            go_wp2_with fail
            go_roundw
            case rel => exact ⟨1, rfl, by omega, hide (below_then hb.out (below_then HB5.out hbW)), hide (fun p h hp => by cases p with
              | zero => exact HS.out
              | succ p => omega)⟩
            case measure => simp [intOf]; omega
        · obtain ⟨p, rfl⟩ : ∃ p, j = p + 1 := ⟨j - 1, by omega⟩
          have hpl : p < l.length := by omega
          have HP := hide (HR.out.cell hpl)
          have HOP := hide (HR.out.ok l[p] (List.getElem_mem hpl))
          have HSE := hide (step_succ (h := hjl))
          have HWP := hide (wrap_in (p := p) (n := n) (by omega) HN.out)
          have HW2 := hide (wrap_two (p := p) (n := n) hlt HN.out)
          have e1 : (((p + 1 : Nat) : Int)) - 1 = (p : Int) := by omega
          have hj2 : (0 : Int) < ((p + 1 : Nat) : Int) := by omega
          have hpn : (p : Int) < (n : Int) := by omega
          rw [← HE.out, hm, Bool.true_and] at HSE
          obtain ⟨f, hf⟩ : ∃ f, f = l[p] := ⟨_, rfl⟩
          rw [← hf] at HP HOP HSE
          obtain ⟨x, hx⟩ : ∃ x : Bool, x = Mg.lt f.key e.key := ⟨_, rfl⟩
          rw [← hx] at HSE
          have HXX := hide hx
          clear hp hx hf
          refine Dag.wp_region_facts 18 (Dag.list [Dag.Is e.agg, Dag.Is (.bool true), Dag.Is (.bool false), Dag.Is (.bool false), Dag.Is (.int .i64 ((p + 1 : Nat) : Int)), Dag.Is (.bool true), Dag.Is (.bool true), Dag.Is (.slice (some ⟨b, o, none⟩) n c), Dag.Is (.int .i64 ((p + 1 : Nat) : Int)), Dag.Is (.int .i64 (p : Int)), Dag.Is (.pointer (some ⟨b, o + p * 5, none⟩)), Dag.Is (.pointer (some ⟨b, o + p * 5, none⟩)), Dag.Is (.slice f.kA f.kn f.kc), Dag.Is (.pointer (some ⟨wr.heap.size, 0, none⟩)), Dag.Is (.slice e.kA e.kn e.kc), Dag.Is (.bool x), Dag.Is (.bool !x), Dag.Is (.bool !x)]) (by kernel_rfl) (by kernel_rfl) (Dag.stable_list (by simp [Dag.Stable.is])) ?_ ?_
          · intro vs W hbW
            simp only [Dag.allOps, List.take_succ_cons, List.take_zero, Dag.fill, Act.put, List.setIfInBounds_toArray, List.set_cons_succ, List.set_cons_zero, Dag.deps, Region.binds, Dag.list, Dag.Is, List.getD_cons_zero, List.getD_cons_succ, and_true, forall_const, Nat.reduceAdd, Region.wanted, reduceIte]
            refine ⟨?_, ?_, ?_, ?_, ?_, ?_, ?_, ?_, ?_, ?_, ?_, ?_, ?_, ?_, ?_, ?_, ?_, ?_⟩
            · (try intro hd); obtain ⟨z0, z1, z2, z3, z4⟩ := five_cells (on_cells HX5.out hbW); go_simp; (first | done | exact ⟨Below.refl _ _, rfl⟩ | exact Below.refl _ _)
            · (try intro hd); go_simp; refine (HM.out _).mono ?_; rintro x w' ⟨rfl, hb'⟩; exact ⟨by rw [hm], hb'⟩
            · (try intro hd); go_simp; (first | done | exact ⟨Below.refl _ _, rfl⟩ | exact Below.refl _ _ | (intro h; cases h))
            · (try intro hd); go_simp; (first | done | exact ⟨Below.refl _ _, rfl⟩ | exact Below.refl _ _ | (intro h; cases h))
            · (try intro hd); go_simp; (first | done | exact ⟨Below.refl _ _, rfl⟩ | exact Below.refl _ _ | (intro h; cases h))
            · (try intro hd); go_simp; (first | done | exact ⟨Below.refl _ _, rfl⟩ | exact Below.refl _ _ | (intro h; cases h))
            · (try intro hd); go_simp; (first | done | exact ⟨Below.refl _ _, rfl⟩ | exact Below.refl _ _ | (intro h; cases h))
            · (try intro hd); go_simp; (first | done | exact ⟨Below.refl _ _, rfl⟩ | exact Below.refl _ _ | (intro h; cases h))
            · (try intro hd); go_simp; (first | done | exact ⟨Below.refl _ _, rfl⟩ | exact Below.refl _ _ | (intro h; cases h))
            · (try intro hd); go_simp; exact ⟨Below.refl _ _, HWP.out⟩
            · (try intro hd); go_simp; (first | done | exact ⟨Below.refl _ _, rfl⟩ | exact Below.refl _ _ | (intro h; cases h))
            · (try intro hd); go_simp; (first | done | exact ⟨Below.refl _ _, rfl⟩ | exact Below.refl _ _ | (intro h; cases h))
            · (try intro hd); obtain ⟨b', o', hbo, hbl, z0, z1, z2, z3, z4⟩ := HP.out; cases hbo; have y0 := keep_cell (below_then HB5.out hbW) z0; go_simp; (first | done | exact ⟨Below.refl _ _, rfl⟩ | exact Below.refl _ _)
            · (try intro hd); go_simp; (first | done | exact ⟨Below.refl _ _, rfl⟩ | exact Below.refl _ _ | (intro h; cases h))
            · (try intro hd); obtain ⟨z0, z1, z2, z3, z4⟩ := five_cells (on_cells HX5.out hbW); go_simp; (first | done | exact ⟨Below.refl _ _, rfl⟩ | exact Below.refl _ _)
            · (try intro hd); go_simp; refine (less_any f.kA e.kA f.kn e.kn f.kc e.kc f.key e.key _ ((HOP.out.rb (Nat.le_refl _)).on (below_then HB5.out hbW)) ((HOK.out.rb (Nat.le_refl _)).on (below_then HB5.out hbW)) (Nat.le_trans HOP.out.kc HOP.out.km)).mono ?_; rintro x w' ⟨rfl, rfl⟩; exact ⟨by rw [HXX.out], Below.refl _ _⟩
            · (try intro hd); go_simp; (first | done | exact ⟨Below.refl _ _, rfl⟩ | exact Below.refl _ _ | (intro h; cases h))
            · (try intro hd); go_simp; (first | done | exact ⟨Below.refl _ _, rfl⟩ | exact Below.refl _ _ | (intro h; cases h))
          · intro vs W hbW hk
            simp only [Dag.known, Dag.list, Dag.Is, List.getD_cons_zero, List.getD_cons_succ, and_true] at hk
            obtain ⟨k0, k1, k2, k3, k4, k5, k6, k7, k8, k9, k10, k11, k12, k13, k14, k15, k16, k17⟩ := hk
            simp only [List.take_succ_cons, List.take_zero, List.drop_succ_cons, List.drop_zero, Dag.fill, Act.put, List.setIfInBounds_toArray, List.set_cons_succ, List.set_cons_zero, Nat.reduceAdd, k0, k1, k2, k3, k4, k5, k6, k7, k8, k9, k10, k11, k12, k13, k14, k15, k16, k17]
            clear k0 k1 k2 k3 k4 k5 k6 k7 k8 k9 k10 k11 k12 k13 k14 k15 k16 k17
            cases x with
            | false =>
              have HS := hide (right_no hjl HSE.out)
              go_wp2_with fail
              go_ret
              exact ⟨by rw [rightE_no HS.out]; rfl, below_then hb.out (below_then HB5.out hbW)⟩
            | true =>
              go_wp2_with fail
              go_roundw
              case rel => exact ⟨p + 1 + 1, by rw [HW2.out]; first | done | rfl, by omega, hide (below_then hb.out (below_then HB5.out hbW)), hide (fun q h hq => by
                by_cases hqe : q = p + 1
                · subst hqe; exact HSE.out
                · exact hst.out q h (by omega))⟩
              case measure => rw [HW2.out]; simp [intOf]; omega
    · obtain rfl : j = n := by omega
      have HF := hide (right_yes fun p h => hst.out p h (by have := HL.out; omega))
      go_wp2_with fail
      go_ret
      exact ⟨by rw [rightE_yes HF.out]; rfl, hb.out⟩
end Go.Proofs.Ytgliindhndcceaa
