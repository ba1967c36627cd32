/- Proved: davenportlaw01.UtfJoins returns true for every input: the concatenation of two valid texts has the code points of both; a prefix before the first error is valid. The card ties the package variable that the walk reads to the program's text. -/
import Derived.Test.YtheoadempenpaaaDoorRows
import Derived.Test.YtheoadempenpaaaDoorCards
import Derived.Test.YtheoadempenpaaaDoorTie
import Derived.Test.YtheoadempenpaaaDoorOpen
import Derived.Test.YtheoadempenpaaaDoorFew
import Derived.Test.YtheoadempenpaaaDoorUtfLaid
import Derived.Test.YtheoadempenpaaaDoorUtfWakes
import Derived.Test.YtheoadempenpaaaDoorUtfStr
import Derived.Test.YtheoadempenpaaaDoorConcatI
import Derived.SevenTiedAt
namespace Go.Proofs.YtheoadempenpaaaDoor.LawUtfJoins
open Go.ChangeShapes Go.WideShapes Go.ChangeAt Go.RowKit
open Go.ChangeMaps (open_string shut_string)

set_option maxHeartbeats 8000000 in
theorem walk (s t : ByteArray) (w : World) (hs : s.size ≤ maxLen) (ht : t.size ≤ maxLen) (hg : Gl w) :
    Calls Tryd.prog 8 #[.string s, .string t] w fun e w' => e = .returned (.bool true) ∧ Below w.heap.size w w' := by
  have HG := hide hg
  clear hg
  unfold maxLen at hs ht
  go_enter Tryd.func8, Tryd.ntmps8
  go_wp2_with fail
  refine Calls.mono (wakes_any _ HG.out) ?_
  rintro e w1 ⟨rfl, hb1⟩
  have HB1 := hide hb1
  clear hb1
  go_wp2_with fail
  obtain ⟨M, hM⟩ : ∃ M, M = min s.size 200 := ⟨_, rfl⟩
  obtain ⟨N, hN⟩ : ∃ N, N = min t.size 200 := ⟨_, rfl⟩
  have f1 : (if (200 : Int) < (s.size : Int) then (200 : Int) else (s.size : Int)) = (M : Int) := by split <;> omega
  have f2 : (if (200 : Int) < (t.size : Int) then (200 : Int) else (t.size : Int)) = (N : Int) := by split <;> omega
  have f3 : (0 : Int) ≤ (M : Int) := by omega
  have f4 : (M : Int) ≤ (s.size : Int) := by omega
  have f5 : (0 : Int) ≤ (N : Int) := by omega
  have f6 : (N : Int) ≤ (t.size : Int) := by omega
  have HM := hide hM
  have HN := hide hN
  clear hM hN
  go_quiet (fail)
  have hS := str_take s M
  have hT := str_take t N
  have hL : (s.data.toList.take M).length = M := by
    rw [List.length_take, HM.out, Array.length_toList]; show min _ s.size = _; omega
  have hK : (t.data.toList.take N).length = N := by
    rw [List.length_take, HN.out, Array.length_toList]; show min _ t.size = _; omega
  have hM2 : M ≤ 200 := by rw [HM.out]; omega
  have hN2 : N ≤ 200 := by rw [HN.out]; omega
  generalize s.extract 0 M = S at *
  generalize t.extract 0 N = T at *
  generalize s.data.toList.take M = L at *
  generalize t.data.toList.take N = K at *
  have HS := hide hS
  have HT := hide hT
  have HL := hide hL
  have HK := hide hK
  have hSz : S.size = M := by rw [hS, str_size, hL]
  clear HM HN f1 f2 f3 f4 f5 f6 hs ht hS hT hL hK
  have HBQ := hide (below_then HB1.out (below_drewN w1 nq))
  generalize w1.drewN nq = wq at *
  clear HB1
  go_wp2_with fail
  rw [HS.out]
  refine Calls.mono (Points_any L _ (by rw [HL.out]; omega) (HG.out.on HBQ.out)) ?_
  rintro e w2 ⟨hb2, he⟩
  have HB2 := hide (below_then HBQ.out hb2)
  clear hb2
  by_cases hyes : (Utf.scan L).2 = L.length
  · rw [if_pos hyes] at he
    obtain ⟨A2, c2, rfl, hr2, _, _⟩ := he
    have HR2 := hide hr2
    have HY := hide hyes
    have HCAT := hide (scan_cat (k := K) hyes)
    have HPL := hide (show (Utf.scan L).1.length ≤ 200 by have := scan_len L; rw [HL.out] at this; omega)
    have HQL := hide (show (Utf.scan K).1.length ≤ 200 by have := scan_len K; rw [HK.out] at this; omega)
    clear hr2 hyes
    go_wp2_with fail
    rw [HT.out]
    refine Calls.mono (Points_any K _ (by rw [HK.out]; omega) (HG.out.on HB2.out)) ?_
    rintro e w3 ⟨hb3, he⟩
    have HB3 := hide (below_then HB2.out hb3)
    have HR3 := hide (HR2.out.on hb3)
    clear hb3
    by_cases hk : (Utf.scan K).2 = K.length
    · rw [if_pos hk] at he
      obtain ⟨A3, c3, rfl, hr3, _, _⟩ := he
      have HQ3 := hide hr3
      have HYY := hide (show (Utf.scan (L ++ K)).2 = (L ++ K).length by rw [HCAT.out, List.length_append]; simp only; rw [hk])
      clear hr3 hk
      have z1 : (str L).size ≤ 200 := by rw [str_size, HL.out]; exact hM2
      have z2 : (str K).size ≤ 200 := by rw [str_size, HK.out]; exact hN2
      go_wp2_with fail
      rw [str_cat]
      refine Calls.mono (Points_any (L ++ K) _ (by rw [List.length_append, HL.out, HK.out]; omega) (HG.out.on HB3.out)) ?_
      rintro e w4 ⟨hb4, he⟩
      rw [if_pos HYY.out, HCAT.out] at he
      obtain ⟨A4, c4, rfl, hr4, _, _⟩ := he
      have HB4 := hide (below_then HB3.out hb4)
      have HR4 := hide (HR3.out.on hb4)
      have HQ4 := hide (HQ3.out.on hb4)
      have HA4 : Hid (RI w4 A4 ((Utf.scan L).1 ++ (Utf.scan K).1).length (zs ((Utf.scan L).1 ++ (Utf.scan K).1))) := hide hr4
      clear hb4 hr4
      go_wp2_with fail
      refine Calls.mono (ConI.concat_any _ 2 _ [⟨A2, (Utf.scan L).1.length, c2, zs (Utf.scan L).1⟩, ⟨A3, (Utf.scan K).1.length, c3, zs (Utf.scan K).1⟩] _ rfl ?_ (by omega) (by have := HPL.out; have := HQL.out; simp [ConI.lens]; omega)) ?_
      · intro i hi
        match i, hi with
        | 0, _ => exact ⟨by simp, HR4.out.on (below_alloc _ _)⟩
        | 1, _ => exact ⟨by simp, HQ4.out.on (below_alloc _ _)⟩
      rintro e w5 ⟨v, rfl, ho5, hb5⟩
      obtain ⟨A5, c5, rfl, hc5, hm5, hr5⟩ := own_slice ho5
      have HB5 := hide (below_then (below_then HB4.out (below_alloc w4 _)) hb5)
      have HA5 := hide ((HA4.out.on (below_alloc w4 _)).on hb5)
      have HR5 : Hid (RI w5 A5 ((Utf.scan L).1 ++ (Utf.scan K).1).length (zs ((Utf.scan L).1 ++ (Utf.scan K).1))) := hide (by
        have h1 : RI w5 A5 _ _ := hr5
        simpa [ConI.lens, ConI.cat, zs_append, List.length_append] using h1)
      have hle : (ConI.lens [⟨A2, (Utf.scan L).1.length, c2, zs (Utf.scan L).1⟩, ⟨A3, (Utf.scan K).1.length, c3, zs (Utf.scan K).1⟩] 2) = ((Utf.scan L).1 ++ (Utf.scan K).1).length := by simp [ConI.lens, List.length_append]
      rw [hle]
      have HA6 : Hid (RI w5 A4 ((Utf.scan L).1.length + (Utf.scan K).1.length) (zs ((Utf.scan L).1 ++ (Utf.scan K).1))) := hide (by have := HA5.out; rwa [List.length_append] at this)
      have HR6 : Hid (RI w5 A5 ((Utf.scan L).1.length + (Utf.scan K).1.length) (zs ((Utf.scan L).1 ++ (Utf.scan K).1))) := hide (by have := HR5.out; rwa [List.length_append] at this)
      clear ho5 hb5 hc5 hm5 hr5 hle HA5 HR5
      go_wp2_with fail
      refine Calls.mono (equal_ints A4 A5 _ _ c4 c5 _ _ _ HA6.out HR6.out (by have := HPL.out; have := HQL.out; omega) (by have := HPL.out; have := HQL.out; omega)) ?_
      rintro e w6 ⟨rfl, hb6⟩
      rw [decide_eq_true rfl]
      go_wp2_with fail
      go_ret
      exact ⟨rfl, below_then HB5.out hb6⟩
    · rw [if_neg hk] at he
      subst he
      have hkl := scan_le K
      have HNN := hide (show ¬ (Utf.scan (L ++ K)).2 = (L ++ K).length by rw [HCAT.out, List.length_append]; simp only; omega)
      have HKL := hide (show (Utf.scan K).2 ≤ 200 by rw [HK.out] at hkl; omega)
      clear hk hkl
      have z1 : (str L).size ≤ 200 := by rw [str_size, HL.out]; exact hM2
      have z2 : (str K).size ≤ 200 := by rw [str_size, HK.out]; exact hN2
      go_wp2_with fail
      rw [str_cat]
      refine Calls.mono (Points_any (L ++ K) _ (by rw [List.length_append, HL.out, HK.out]; omega) (HG.out.on HB3.out)) ?_
      rintro e w4 ⟨hb4, he⟩
      rw [if_neg HNN.out, HCAT.out, HL.out] at he
      subst he
      have HB4 := hide (below_then HB3.out hb4)
      have hkl := HKL.out
      have hw : wrap64 ((M : Int) + ((Utf.scan K).2 : Int)) = (M : Int) + ((Utf.scan K).2 : Int) := by unfold wrap64; omega
      have hee : ((M : Int) + ((Utf.scan K).2 : Int) == (M : Int) + ((Utf.scan K).2 : Int)) = true := by simp
      rw [← HS.out]
      generalize (Utf.scan K).2 = q at *
      clear hb4
      go_wp2_with fail
      go_ret
      exact ⟨by first | rfl | simp, HB4.out⟩
  · rw [if_neg hyes] at he
    subst he
    have hql := scan_le L
    have HCUT := hide (scan_cut L)
    rw [HL.out] at hql hyes
    have HLT := hide (show (L.take (Utf.scan L).2).length = (Utf.scan L).2 by rw [List.length_take, HL.out]; omega)
    generalize hq : (Utf.scan L).2 = q at *
    have HQ := hide hq
    have g1 : (0 : Int) ≤ (q : Int) := by omega
    have g2 : (q : Int) ≤ (M : Int) := by omega
    have g3 : (q : Int) < (M : Int) := by omega
    have HEQ := hide (show (Utf.scan (L.take q)).2 = (L.take q).length by rw [HCUT.out, HLT.out, HQ.out])
    have HCK := hide (show chkV (L.take q) = .tuple #[.int .i64 0, .int .i64 0] by unfold chkV; rw [if_pos HEQ.out])
    rw [← HS.out]
    clear hq hyes
    go_wp2_with fail
    rw [HS.out, take_str]
    refine Calls.mono (Points_any (L.take q) _ (by rw [HLT.out]; omega) (HG.out.on HB2.out)) ?_
    rintro e w3 ⟨hb3, he⟩
    rw [if_pos HEQ.out] at he
    obtain ⟨A3, c3, rfl, hr3, _, _⟩ := he
    have HB3 := hide (below_then HB2.out hb3)
    clear hb3 hr3
    rw [← take_str, ← HS.out]
    go_wp2_with fail
    rw [HS.out, take_str]
    refine Calls.mono (Check_any (L.take q) _ (by rw [HLT.out]; omega) (HG.out.on HB3.out)) ?_
    rintro e w4 ⟨rfl, hb4⟩
    rw [HCK.out]
    have HB4 := hide (below_then HB3.out hb4)
    clear hb4
    rw [← take_str, ← HS.out]
    go_wp2_with fail
    go_ret
    exact ⟨by first | rfl | simp, HB4.out⟩
/-! ### the row's step, written by program after the guide's skeleton -/
theorem own : ownKnob Tryd.prog.godebug = none := by kernel_rfl
theorem laidOut : laidOutB Tryd.prog = true := by kernel_rfl
set_option maxRecDepth 100000 in
theorem lifted (os : Os) (started : os.Started) (H : Type) (enc : TypeId × Value → H) :
    ReturnsInHanded {} Tryd.checked os 8 .any (fun w args => (Rows.utfJoinsSpec.pre enc Tryd.prog Tryd.f8 [] false w args ∧ laidMetH Tryd.prog laidL w) ∧ sizedMet enc Tryd.prog Tryd.f8 (OpenSpec.ofChange Rows.utfJoinsSpec) false w args) (Rows.utfJoinsSpec.post enc Tryd.prog Tryd.f8 false true false false) := by
  refine returnsInHanded_of_change_and (C := Tryd.checked) (X := fun w _ => laidMetH Tryd.prog laidL w) (fun _ _ _ hh h => h.of_heap hh) own started (by kernel_rfl) Tryd.func8
    (ChangeSpec.witness_shaped (enc := enc) (C := Tryd.checked) (os := os) (X := fun w _ => laidMetH Tryd.prog laidL w) false (World.doorLaid Tryd.prog 400 os) #[.string ByteArray.empty, .string ByteArray.empty] 8 rfl (World.shaped_of_RefB (by kernel_rfl) (by kernel_rfl)) (by kernel_rfl) (by kernel_rfl) (by kernel_rfl) (door_met os _)) ?_
  intro W base args ds gs before hval0 hW _ _ hL _
  have hGl := gl_of_laid hL
  have hval : ∀ (j : Nat) t v, Tryd.f8.params[j]? = some t → args[j]? = some v → Value.okWide Tryd.prog W .any base t v := hval0
  have hW' := hW
  obtain ⟨p, q, hA0, hV, rfl, hfz, hnd⟩ := hW
  have hA : DataW.TrodAll enc Tryd.prog W 0 (fun _ => true) true Tryd.f8.params.toList args.toList ds p := hA0
  rw [Tryd.params8] at hA hval
  obtain ⟨v0, vs0, d0, ds0, p0, q0, hargs, rfl, rfl, h0, r0⟩ := trodAll_cons hA
  obtain ⟨v1, vs1, d1, ds1, p1, q1, rfl, rfl, rfl, h1, r1⟩ := trodAll_cons r0
  obtain ⟨rfl, rfl, rfl⟩ := trodAll_nil r1
  obtain rfl : args = #[v0, v1] := by cases args; simp_all
  obtain ⟨rfl, rfl⟩ := trodVars_none hV
  obtain ⟨a0, rfl, rfl, rfl, w0⟩ := open_string Tryd.underlying9 (hval 0 9 v0 rfl rfl) h0
  obtain ⟨a1, rfl, rfl, rfl, w1⟩ := open_string Tryd.underlying9 (hval 1 9 v1 rfl rfl) h1
  clear hA0 hval0
  refine (walk a0 a1 W w0 w1 hGl).mono fun e W' ⟨he, bel⟩ => ?_
  subst he
  exact ⟨_, rfl, _, _, _, [], _, [], hW', trodAll_mk1 (shut_bool Tryd.underlying4 _), (trodAll_cons_mk (shut_string Tryd.underlying9 w0) (trodAll_cons_mk (shut_string Tryd.underlying9 w1) trodAll_mk0)), rfl, bel.frame _, fun h => by cases h⟩

theorem over : Rows.utfJoinsRow.holds Tryd.pinned (OpenSpec.ofChange Rows.utfJoinsSpec) :=
  OpenClaim.holds_of_wide 8 Tryd.f8 rfl rfl rfl rfl rfl rfl rfl ⟨rfl, rfl, rfl, rfl, rfl⟩ rfl rfl rfl rfl rfl (by kernel_rfl) Tryd.func8 (by kernel_rfl)
    (of_decide_eq_true (by kernel_rfl)) (by unfold Func.isWrapper; first | (rw [if_pos (by decide +kernel)]; kernel_rfl) | (rw [if_neg (by decide +kernel)]; exact ⟨rfl, rfl⟩))
    (fun os started H enc _ => lifted os started H enc)

/-- the tied card, closed by the builder -/
theorem proved : Rows.UtfJoinsCardSaid :=
  Claim7.holds_tied_plain_at .later [] [.data] true (true, "5db38756cb098dae97c1566c1026846fa7771e753dcd2c8b6f1b86bf2868e610") false
    over (fun _ h => by cases h) (by kernel_rfl) (fun _ h => by cases h) utfJoins_row_tie rfl ⟨rfl, rfl⟩ (by kernel_rfl) rfl
    (fun f fn hf hfn => by
      obtain rfl : f = 8 := Option.some.inj ((show Tryd.prog.funcNamed "davenport/davenportlaw01.UtfJoins" = some 8 by kernel_rfl).symm.trans hf) |>.symm
      obtain rfl : fn = Tryd.f8 := (Option.some.inj (Tryd.func8.symm.trans hfn)).symm
      exact ⟨by kernel_rfl, fun j t ht => by
        rw [Tryd.params8] at ht
        rcases j with _ | j
        · obtain rfl : 9 = t := by simpa using ht
          exact (show Tryd.prog.wantsStandIn 9 = false by kernel_rfl)
        rcases j with _ | j
        · obtain rfl : 9 = t := by simpa using ht
          exact (show Tryd.prog.wantsStandIn 9 = false by kernel_rfl)
        · simp at ht⟩)
    (by kernel_rfl)
end Go.Proofs.YtheoadempenpaaaDoor.LawUtfJoins
