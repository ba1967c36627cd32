/- The walk of the document's own look whether items rise. -/
import Derived.Test.YtgliindhndcceaaMgCheck
import Derived.Test.YtgliindhndcceaaMgDoneMath
namespace Go.Proofs.Ytgliindhndcceaa
open Go.RowKit
attribute [local go_sem] Dag.gives
set_option maxHeartbeats 8000000 in
theorem rise_any (A : Option Addr) (n c : Nat) (l : List Ed) (w : World) (hA : ItR w w.heap.size A n c l) :
    Calls Try.prog 24 #[.slice A n c] w fun e w' => e = .returned (.bool (riseI l)) ∧ Below w.heap.size w w' := by
  have HA := hide hA
  have HL := hide hA.len
  have HN := hide (Nat.le_trans hA.cap hA.max)
  clear hA
  go_enter Try.func24, Try.ntmps24
  go_wp2_with fail
  go_loopw [3] (fun i wr => ∃ j : Nat, i = .int .i64 ((j + 1 : Nat) : Int) ∧ (j + 1 ≤ n ∨ j = 0) ∧ Hid (Below w.heap.size w wr) ∧ Hid (∀ p (h : p + 1 < l.length), p < j → Mg.lt (l[p]'(by omega)).key l[p + 1].key = true)) (fun i _ => n - (intOf i).toNat)
  case atStart => exact ⟨0, rfl, .inr rfl, hide (Below.refl _ _), hide (fun p h hp => absurd hp (by omega))⟩
  case round =>
    obtain ⟨j, rfl, hj, hb, hst⟩ := hrel
    by_cases hlt : j + 1 < n
    · have hjl : j + 1 < l.length := by rw [HL.out]; exact hlt
      have hjk : j < l.length := by omega
      have HR := hide (HA.out.on hb.out)
      obtain ⟨b, o, rfl, hbw, c0, _, _, _⟩ := HR.out.cell hjl
      have HP := hide (HR.out.cell hjk)
      have hj0 : (0 : Int) ≤ ((j + 1 : Nat) : Int) := by omega
      have hj1 : ((j + 1 : Nat) : Int) < (n : Int) := by omega
      have hjn : (j : Int) < (n : Int) := by omega
      have e1 : (((j + 1 : Nat) : Int)) - 1 = (j : Int) := by omega
      have HWP := hide (wrap_in (p := j) (n := n) (by omega) HN.out)
      have HW2 := hide (wrap_two (p := j) (n := n) hlt HN.out)
      have HO1 := hide (HR.out.ok l[j] (List.getElem_mem hjk))
      have HO2 := hide (HR.out.ok l[j + 1] (List.getElem_mem hjl))
      have HC0 := hide c0
      obtain ⟨f, hf⟩ : ∃ f, f = l[j] := ⟨_, rfl⟩
      obtain ⟨e, he⟩ : ∃ e, e = l[j + 1] := ⟨_, rfl⟩
      rw [← hf] at HP HO1
      rw [← he] at HC0 HO2
      obtain ⟨x, hx⟩ : ∃ x : Bool, x = Mg.lt f.key e.key := ⟨_, rfl⟩
      have HXX := hide hx
      have HSE := hide (show Mg.lt l[j].key l[j + 1].key = x by rw [hx, hf, he])
      clear hx hf he c0
      go_wp2_with fail
      refine Dag.wp_region_facts 12 (Dag.list [Dag.Is (.slice (some ⟨b, o, none⟩) n c), Dag.Is (.int .i64 ((j + 1 : Nat) : Int)), Dag.Is (.int .i64 (j : Int)), Dag.Is (.pointer (some ⟨b, o + j * 4, none⟩)), Dag.Is (.pointer (some ⟨b, o + j * 4, none⟩)), Dag.Is (.slice f.kA f.kn f.kc), Dag.Is (.slice (some ⟨b, o, none⟩) n c), Dag.Is (.int .i64 ((j + 1 : Nat) : Int)), Dag.Is (.pointer (some ⟨b, o + (j + 1) * 4, none⟩)), Dag.Is (.pointer (some ⟨b, o + (j + 1) * 4, none⟩)), Dag.Is (.slice e.kA e.kn e.kc), Dag.Is (.bool x)]) (by kernel_rfl) (by kernel_rfl) (Dag.stable_list (by simp [Dag.Stable.is])) ?_ ?_
      · intro vs W hbW
        simp only [Dag.allOps, List.take_succ_cons, List.take_zero, Dag.fill, Act.put, List.setIfInBounds_toArray, List.set_cons_succ, List.set_cons_zero, Dag.deps, Region.binds, Dag.list, Dag.Is, List.getD_cons_zero, List.getD_cons_succ, and_true, forall_const, Nat.reduceAdd, Region.wanted, reduceIte]
        refine ⟨?_, ?_, ?_, ?_, ?_, ?_, ?_, ?_, ?_, ?_, ?_, ?_⟩
        · (try intro hd); go_simp; (first | done | exact ⟨Below.refl _ _, rfl⟩ | exact Below.refl _ _ | (intro h; cases h))
        · (try intro hd); go_simp; (first | done | exact ⟨Below.refl _ _, rfl⟩ | exact Below.refl _ _ | (intro h; cases h))
        · (try intro hd); go_simp; exact ⟨Below.refl _ _, HWP.out⟩
        · (try intro hd); go_simp; (first | done | exact ⟨Below.refl _ _, rfl⟩ | exact Below.refl _ _ | (intro h; cases h))
        · (try intro hd); go_simp; (first | done | exact ⟨Below.refl _ _, rfl⟩ | exact Below.refl _ _ | (intro h; cases h))
        · (try intro hd); obtain ⟨b', o', hbo, hbl, z0, z1, z2, z3⟩ := HP.out; cases hbo; have y0 := keep_cell hbW z0; go_simp; (first | done | exact ⟨Below.refl _ _, rfl⟩ | exact Below.refl _ _)
        · (try intro hd); go_simp; (first | done | exact ⟨Below.refl _ _, rfl⟩ | exact Below.refl _ _ | (intro h; cases h))
        · (try intro hd); go_simp; (first | done | exact ⟨Below.refl _ _, rfl⟩ | exact Below.refl _ _ | (intro h; cases h))
        · (try intro hd); go_simp; (first | done | exact ⟨Below.refl _ _, rfl⟩ | exact Below.refl _ _ | (intro h; cases h))
        · (try intro hd); go_simp; (first | done | exact ⟨Below.refl _ _, rfl⟩ | exact Below.refl _ _ | (intro h; cases h))
        · (try intro hd); have y0 := keep_cell hbW HC0.out; go_simp; (first | done | exact ⟨Below.refl _ _, rfl⟩ | exact Below.refl _ _)
        · (try intro hd); go_simp; refine (ahead_any f.kA e.kA f.kn e.kn f.kc e.kc f.key e.key _ ((HO1.out.rb (Nat.le_refl _)).on hbW) ((HO2.out.rb (Nat.le_refl _)).on hbW)).mono ?_; rintro x w' ⟨rfl, rfl⟩; exact ⟨by rw [HXX.out], Below.refl _ _⟩
      · intro vs W hbW hk
        simp only [Dag.known, Dag.list, Dag.Is, List.getD_cons_zero, List.getD_cons_succ, and_true] at hk
        obtain ⟨k0, k1, k2, k3, k4, k5, k6, k7, k8, k9, k10, k11⟩ := hk
        simp only [List.take_succ_cons, List.take_zero, List.drop_succ_cons, List.drop_zero, Dag.fill, Act.put, List.setIfInBounds_toArray, List.set_cons_succ, List.set_cons_zero, Nat.reduceAdd, k0, k1, k2, k3, k4, k5, k6, k7, k8, k9, k10, k11]
        clear k0 k1 k2 k3 k4 k5 k6 k7 k8 k9 k10 k11
        cases x with
        | false =>
          have HS := hide (riseI_no hjl HSE.out)
          go_wp2_with fail
          go_ret
          exact ⟨by rw [HS.out]; rfl, below_then hb.out hbW⟩
        | true =>
          go_wp2_with fail
          go_roundw
          case rel => exact ⟨j + 1, by rw [HW2.out]; first | done | rfl, .inl (by omega), hide (below_then hb.out hbW), hide (fun q h hq => by
            by_cases hqe : q = j
            · subst hqe; exact HSE.out
            · exact hst.out q h (by omega))⟩
          case measure => rw [HW2.out]; simp [intOf]; omega
    · have hj1 : ¬ ((j + 1 : Nat) : Int) < (n : Int) := by omega
      have HF := hide (riseI_yes (l := l) fun p h => hst.out p h (by have := HL.out; omega))
      go_wp2_with fail
      go_ret
      exact ⟨by rw [HF.out]; rfl, hb.out⟩
end Go.Proofs.Ytgliindhndcceaa
