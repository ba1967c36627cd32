/- The walk of the reference's Read: the code points that a quoted text says. -/
import Derived.Test.YtbnibiealnogdaaDoorQuoBegin
import Derived.Test.YtbnibiealnogdaaDoorQuoRead
import Derived.Test.YtbnibiealnogdaaDoorUtfRefPts
namespace Go.Proofs.YtbnibiealnogdaaDoor
open Go.RowKit

/-- b[k:] -/
theorem cut_from {A : Option Addr} {n c k : Nat} {l : List UInt8} {w : World} (h : RB w A n l) (h1 : k ≤ n) (hc : n ≤ c) :
    ∃ A', (∀ W : World, (Instr.sliceAt 29 (.slice A n c) (some (.int .i64 (k : Int))) none none).run Tryd.prog W = .ok (.slice A' (n - k) (c - k)) W) ∧ RB w A' (n - k) (l.drop k) := by
  refine ⟨if c = k then A else A.map (·.add k), fun W => ?_, h.drop h1 hc⟩
  rw [run_sliceAt_slice (P := Tryd.prog) (w := W) 29 _ _ _ _ under_elem, run_slice_l (P := Tryd.prog) (w := W) 29 A n c under_elem _ _ (by omega) (by omega), size_elem]
  show Result.ok (Go.sliced _ _ _ _ _) W = _
  unfold Go.sliced
  rw [Nat.mul_one, Int.toNat_natCast]
def RReadAs (l : List UInt8) (k : Nat) (w : World) (e : Ending) (w' : World) : Prop :=
  ∃ A c, e = .returned (.tuple #[.slice A (readR l (k : Int)).1.length c, .int .i64 (readR l (k : Int)).2.1, .int .i64 (readR l (k : Int)).2.2]) ∧ RI w' A (readR l (k : Int)).1.length (zs (readR l (k : Int)).1) ∧ Below w.heap.size w w'
theorem RReadAs.of {l : List UInt8} {k : Nat} {w w' : World} {e : Ending} {ps : List Nat} {p v : Int} (h : readR l (k : Int) = (ps, p, v)) {A : Option Addr} {c : Nat} (he : e = .returned (.tuple #[.slice A ps.length c, .int .i64 p, .int .i64 v])) (hr : RI w' A ps.length (zs ps)) (hb : Below w.heap.size w w') : RReadAs l k w e w' := by
  unfold RReadAs
  rw [h]
  exact ⟨A, c, he, hr, hb⟩
theorem readR_mark {l : List UInt8} {k : Nat} (h : l[k]? = some 34) : readR l (k : Int) = ((readAt l k).1, ((readAt l k).2.1 : Int), (readAt l k).2.2) := by
  have hl : k < l.length := (List.getElem?_eq_some_iff.1 h).1
  unfold readR
  rw [if_neg (by omega), if_neg (by omega), Int.toNat_natCast, if_pos h]
theorem qscan_on {D E : List UInt8} {ps : List Nat} {a p m : Nat} (h : Quo.qscan D = (ps ++ (Quo.qscan E).1, a + (Quo.qscan E).2)) (hs : Quo.sign E = (p, m)) (hm : m ≠ 0) :
    Quo.qscan D = ((ps ++ [p]) ++ (Quo.qscan (E.drop m)).1, (a + m) + (Quo.qscan (E.drop m)).2) := by
  rw [h, Quo.qscan_go hs hm]
  simp only [List.append_assoc, List.cons_append, List.nil_append, Nat.add_assoc]
theorem qscan_at {D E : List UInt8} {ps : List Nat} {a : Nat} (h : Quo.qscan D = (ps ++ (Quo.qscan E).1, a + (Quo.qscan E).2)) (hs : (Quo.sign E).2 = 0) : Quo.qscan D = (ps, a) := by
  rw [h, Quo.qscan_stop hs, List.append_nil, Nat.add_zero]
set_option maxRecDepth 100000 in
set_option maxHeartbeats 8000000 in
theorem rReadQ_any (A : Option Addr) (n c k : Nat) (l : List UInt8) (w : World) (hA : RB w A n l) (hc : n ≤ c) (hn : n ≤ 10000) (hk : k ≤ n) :
    Calls Tryd.prog 21 #[.slice A n c, .int .i64 (k : Int)] w (RReadAs l k w) := by
  obtain ⟨i0, hi, hz0, hz1, hz2⟩ := info_parts i64_info
  have HL := hide hA.len
  have HA := hide hA
  by_cases hkn : k = n
  · have HF := hide (show readR l (k : Int) = ([], (k : Int), 6) by unfold readR; rw [HL.out, if_neg (by omega), if_pos (by omega)])
    have ht : ((k : Int) == (n : Int)) = true := by rw [hkn]; simp
    clear hkn hA
    go_enter Tryd.func21, Tryd.ntmps21
    go_wp2_with fail
    go_ret3
    exact RReadAs.of HF.out rfl (RI.empty _ _) (Below.refl _ _)
  · have ht : ((k : Int) == (n : Int)) = false := by rw [beq_eq_false_iff_ne]; omega
    have hkl : k < l.length := by rw [HL.out]; omega
    have hk0 : (0 : Int) ≤ (k : Int) := by omega
    have hk1 : (k : Int) < (n : Int) := by omega
    obtain ⟨b, o, rfl, hb0, hc0⟩ := hA.cell hkl
    have HX := hide (List.getElem?_eq_getElem hkl)
    obtain ⟨x, hx⟩ : ∃ x, x = l[k] := ⟨_, rfl⟩
    rw [← hx] at hc0 HX
    clear hx hkl hA
    by_cases h34 : x.toNat = 34
    · have t34 : ((x.toNat : Int) != 34) = false := by rw [h34]; rfl
      have HM := hide (readR_mark (l := l) (k := k) (by rw [HX.out, UInt8.toNat_inj.1 (show x.toNat = (34 : UInt8).toNat from h34)]))
      have HK := hide (show k < n by omega)
      clear h34 hkn
      go_enter Tryd.func21, Tryd.ntmps21
      go_wp2_with fail
      go_loopw [1, 7] (fun i a wr => ∃ (j : Nat) (ps : List Nat), i = .int .i64 (j : Int) ∧ k + 1 ≤ j ∧ j ≤ n ∧ ps.length ≤ j ∧ Hid (Quo.qscan (l.drop (k + 1)) = (ps ++ (Quo.qscan (l.drop j)).1, (j - (k + 1)) + (Quo.qscan (l.drop j)).2)) ∧ Hid (wr.ownsRow w.heap.size 3 1 a ps.length (ints (zs ps))) ∧ Hid (Below w.heap.size w wr)) (fun i _ _ => n - (intOf i).toNat)
      case atStart => exact ⟨k + 1, [], rfl, Nat.le_refl _, HK.out, Nat.zero_le _, hide (by rw [Nat.sub_self, Nat.zero_add]; rfl), hide (World.ownsRow_nil _ _ _ _), hide (Below.refl _ _)⟩
      case round =>
        obtain ⟨j, ps, rfl, hkj, hj, hpl, hsc, ho, hb⟩ := hrel
        clear hc0
        have hj0 : (0 : Int) ≤ (j : Int) := by omega
        by_cases hend : l[j]? = some 34
        · have hjl : j < l.length := (List.getElem?_eq_some_iff.1 hend).1
          have hje := (List.getElem?_eq_some_iff.1 hend).2
          have hjn : (j : Int) < (n : Int) := by rw [HL.out] at hjl; omega
          obtain ⟨b4, o4, he4, hb4, hc4⟩ := (HA.out.on hb.out).cell hjl
          obtain ⟨rfl, rfl⟩ : b = b4 ∧ o = o4 := by simpa using he4
          rw [hje] at hc4
          have hc5 : wr.cell? ⟨b, o + j, none⟩ = some (.int .u8 34) := hc4
          have hst : (Quo.sign (l.drop j)).2 = 0 := by rw [List.drop_eq_getElem_cons hjl, hje, Quo.sign_end]
          have hq := qscan_at hsc.out hst
          have HF := hide (show readR l (k : Int) = (ps, ((j + 1 : Nat) : Int), 0) by
            rw [HM.out, readAt_yes (q := j) (by rw [hq]; omega) hend, hq])
          obtain ⟨A5, c5, rfl, hc5', hm5, hr5⟩ := own_slice ho.out
          have HR5 := hide hr5
          clear hst hq hend hje hc4 he4 hjl hr5
          go_wp2_with fail
          go_ret3
          exact RReadAs.of HF.out rfl HR5.out hb.out
        · obtain ⟨A6, hcut, hr6⟩ := cut_from (HA.out.on hb.out) hj hc
          have HR6 := hide hr6
          have HNE := hide hend
          clear hr6
          have hstep : ∀ (hjn : j < n), ∃ y : UInt8, wr.cell? ⟨b, o + j, none⟩ = some (.int .u8 (y.toNat : Int)) ∧ ((y.toNat : Int) == 34) = false := fun hjn => by
            have hjl : j < l.length := by rw [HL.out]; exact hjn
            obtain ⟨b4, o4, he4, hb4, hc4⟩ := (HA.out.on hb.out).cell hjl
            obtain ⟨rfl, rfl⟩ : b = b4 ∧ o = o4 := by simpa using he4
            refine ⟨l[j], hc4, ?_⟩
            rw [beq_eq_false_iff_ne]
            intro h
            exact hend (by rw [List.getElem?_eq_getElem hjl, UInt8.toNat_inj.1 (show (l[j]).toNat = (34 : UInt8).toNat by simpa using Int.ofNat.inj h)])
          have HSG := hide (show ∀ p m, Quo.sign (l.drop j) = (p, m) → m ≠ 0 → j + m ≤ n from fun p m h hm => by have := (Quo.sign_stable h hm).2.1; rw [List.length_drop, HL.out] at this; omega)
          clear hend
          by_cases hjn : j < n
          · have hjn' : (j : Int) < (n : Int) := by omega
            obtain ⟨y, hy1, hy2⟩ := hstep hjn
            clear hstep
            go_wp2_with fail
            refine Calls.mono (rBeginQ_any A6 (n - j) (c - j) (l.drop j) _ HR6.out (by omega) (by omega)) ?_
            rintro e w2 ⟨rfl, hb2⟩
            have HB2 := hide (below_then hb.out hb2)
            have HO2 := hide (own_on ho.out hb2)
            clear hb2 hcut
            cases hs : Quo.sign (l.drop j) with
            | mk p m =>
              unfold decV
              dsimp only
              by_cases hm : m = 0
              · have t1 : ((m : Int) == 0) = true := by rw [hm]; rfl
                have hq := qscan_at hsc.out (by rw [hs]; exact hm)
                have HF := hide (show readR l (k : Int) = ([], (j : Int), wrongE (l.drop j)) by
                  rw [HM.out, readAt_no (q := j) (by rw [hq]; omega) HNE.out])
                clear hm hs hq
                go_wp2_with fail
                refine Calls.mono (rWrong_any (some ⟨b, o, none⟩) n c j l _ (HA.out.on HB2.out) hj) ?_
                rintro e w3 ⟨rfl, rfl⟩
                go_wp2_with fail
                go_ret3
                exact RReadAs.of HF.out rfl (RI.empty _ _) HB2.out
              · have t1 : ((m : Int) == 0) = false := by rw [beq_eq_false_iff_ne]; omega
                have hjm := HSG.out p m hs hm
                have HSC := hide (qscan_on hsc.out hs hm)
                rw [List.drop_drop, show j - (k + 1) + m = j + m - (k + 1) by omega] at HSC
                have HJ := hide (show 0 < m ∧ j + m ≤ n ∧ k + 1 ≤ j + m ∧ ps.length + 1 ≤ j + m by omega)
                have HEQ := hide (show (j : Int) + (m : Int) = ((j + m : Nat) : Int) from rfl)
                have hpn : ps.length ≤ 10000 := by omega
                have hjm2 : (j : Int) + (m : Int) ≤ 10000 := by omega
                have hbs := HB2.out.size
                clear hm hs hjm
                go_wp2_with (at_builtin; go_loud (refine wpList_append_reads rfl (.tmp 50) (.tmp 52) _ rfl w.heap.size 3 i0 (.int .i64 0) 1 8 Tryd.underlying26 hi hz0 hz1 hz2 rfl (by omega) u7 ps.length (ints (zs ps)) rfl (HO2.out.alloc _) (w2.heap.size + 1) (some ⟨w2.heap.size, 0, none⟩) 1 1 [.int .i64 (p : Int)] rfl (Reads.one _ _ _) (by intro u hu; simp at hu; subst hu; rfl) (by unfold maxLen; omega) (by omega) (by simp; omega) ?_); intro v3 w3 hown3 hg3 hat3)
                have HB3 := hide ((HB2.out.alloc hbs _).grown hg3 (by simp; omega) fun j hj => (HO2.out.lt j hj).1)
                have HO3 := hide hown3
                clear hown3 hg3 hat3 hbs
                go_roundw
                case rel => exact ⟨j + m, ps ++ [p], congrArg (Value.int .i64) HEQ.out, HJ.out.2.2.1, HJ.out.2.1, by rw [List.length_append]; exact HJ.out.2.2.2, HSC, hide (by rw [List.length_append, zs_snoc]; exact HO3.out), HB3⟩
                case measure => exact meas (n := n) (j := j) (m := m) ⟨HJ.out.1, HJ.out.2.1⟩
          · have hjn' : ¬ (j : Int) < (n : Int) := by omega
            clear hstep
            go_wp2_with fail
            refine Calls.mono (rBeginQ_any A6 (n - j) (c - j) (l.drop j) _ HR6.out (by omega) (by omega)) ?_
            rintro e w2 ⟨rfl, hb2⟩
            have HB2 := hide (below_then hb.out hb2)
            have HO2 := hide (own_on ho.out hb2)
            clear hb2 hcut
            cases hs : Quo.sign (l.drop j) with
            | mk p m =>
              unfold decV
              dsimp only
              by_cases hm : m = 0
              · have t1 : ((m : Int) == 0) = true := by rw [hm]; rfl
                have hq := qscan_at hsc.out (by rw [hs]; exact hm)
                have HF := hide (show readR l (k : Int) = ([], (j : Int), wrongE (l.drop j)) by
                  rw [HM.out, readAt_no (q := j) (by rw [hq]; omega) HNE.out])
                clear hm hs hq
                go_wp2_with fail
                refine Calls.mono (rWrong_any (some ⟨b, o, none⟩) n c j l _ (HA.out.on HB2.out) hj) ?_
                rintro e w3 ⟨rfl, rfl⟩
                go_wp2_with fail
                go_ret3
                exact RReadAs.of HF.out rfl (RI.empty _ _) HB2.out
              · have t1 : ((m : Int) == 0) = false := by rw [beq_eq_false_iff_ne]; omega
                have hjm := HSG.out p m hs hm
                have HSC := hide (qscan_on hsc.out hs hm)
                rw [List.drop_drop, show j - (k + 1) + m = j + m - (k + 1) by omega] at HSC
                have HJ := hide (show 0 < m ∧ j + m ≤ n ∧ k + 1 ≤ j + m ∧ ps.length + 1 ≤ j + m by omega)
                have HEQ := hide (show (j : Int) + (m : Int) = ((j + m : Nat) : Int) from rfl)
                have hpn : ps.length ≤ 10000 := by omega
                have hjm2 : (j : Int) + (m : Int) ≤ 10000 := by omega
                have hbs := HB2.out.size
                clear hm hs hjm
                go_wp2_with (at_builtin; go_loud (refine wpList_append_reads rfl (.tmp 50) (.tmp 52) _ rfl w.heap.size 3 i0 (.int .i64 0) 1 8 Tryd.underlying26 hi hz0 hz1 hz2 rfl (by omega) u7 ps.length (ints (zs ps)) rfl (HO2.out.alloc _) (w2.heap.size + 1) (some ⟨w2.heap.size, 0, none⟩) 1 1 [.int .i64 (p : Int)] rfl (Reads.one _ _ _) (by intro u hu; simp at hu; subst hu; rfl) (by unfold maxLen; omega) (by omega) (by simp; omega) ?_); intro v3 w3 hown3 hg3 hat3)
                have HB3 := hide ((HB2.out.alloc hbs _).grown hg3 (by simp; omega) fun j hj => (HO2.out.lt j hj).1)
                have HO3 := hide hown3
                clear hown3 hg3 hat3 hbs
                go_roundw
                case rel => exact ⟨j + m, ps ++ [p], congrArg (Value.int .i64) HEQ.out, HJ.out.2.2.1, HJ.out.2.1, by rw [List.length_append]; exact HJ.out.2.2.2, HSC, hide (by rw [List.length_append, zs_snoc]; exact HO3.out), HB3⟩
                case measure => exact meas (n := n) (j := j) (m := m) ⟨HJ.out.1, HJ.out.2.1⟩
    · have t34 : ((x.toNat : Int) != 34) = true := by rw [bne_iff_ne]; omega
      have HF := hide (show readR l (k : Int) = ([], (k : Int), 7) by
        unfold readR; rw [HL.out, if_neg (by omega), if_neg (by omega), Int.toNat_natCast, HX.out, if_neg (by intro h; exact h34 (by rw [Option.some.inj h]; rfl))])
      clear h34 hkn
      go_enter Tryd.func21, Tryd.ntmps21
      go_wp2_with fail
      go_ret3
      exact RReadAs.of HF.out rfl (RI.empty _ _) (Below.refl _ _)
end Go.Proofs.YtbnibiealnogdaaDoor
