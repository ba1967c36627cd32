/- Proved: davenportlaw02.QuotePrints returns true for every input: Print and Size return the canonical literal of every string and its length. The card ties the package variable that the walk reads to the program's text. -/
import Derived.Test.YtbnibiealnogdaaDoorRows
import Derived.Test.YtbnibiealnogdaaDoorCards
import Derived.Test.YtbnibiealnogdaaDoorTie
import Derived.Test.YtbnibiealnogdaaDoorOpen
import Derived.Test.YtbnibiealnogdaaDoorUtfLaid
import Derived.Test.YtbnibiealnogdaaDoorQuoWakes
import Derived.Test.YtbnibiealnogdaaDoorQuoRefPrint
import Derived.Test.YtbnibiealnogdaaDoorUtfRefPts
import Derived.SevenTiedAt
namespace Go.Proofs.YtbnibiealnogdaaDoor.LawQuotePrints
open Go.ChangeShapes Go.WideShapes Go.ChangeAt Go.RowKit
open Go.ChangeMaps (open_string shut_string)

set_option maxRecDepth 100000 in
set_option maxHeartbeats 8000000 in
theorem walk (s : ByteArray) (w : World) (hs : s.size ≤ maxLen) (hg : Gl w) :
    Calls Tryd.prog 3 #[.string s] w fun e w' => e = .returned (.bool true) ∧ Below w.heap.size w w' := by
  have HG := hide hg
  clear hg
  unfold maxLen at hs
  go_enter Tryd.func3, Tryd.ntmps3
  go_wp2_with fail
  refine Calls.mono (wakes_any _ HG.out) ?_
  rintro e w1 ⟨rfl, hb1⟩
  have HB1 := hide hb1
  clear hb1
  obtain ⟨M, hM⟩ : ∃ M, M = min s.size 400 := ⟨_, rfl⟩
  have f1 : (if (400 : Int) < (s.size : Int) then (400 : Int) else (s.size : Int)) = (M : Int) := by split <;> omega
  have f3 : (0 : Int) ≤ (M : Int) := by omega
  have f4 : (M : Int) ≤ (s.size : Int) := by omega
  have hS := str_take s M
  have hL : (s.data.toList.take M).length = M := by
    rw [List.length_take, hM, Array.length_toList]; show min _ s.size = _; omega
  have hM2 : M ≤ 400 := by omega
  clear hM
  obtain ⟨S, hSS⟩ : ∃ S, S = s.extract 0 M := ⟨_, rfl⟩
  have HCUT := hide hSS
  rw [← hSS] at hS
  generalize s.data.toList.take M = L at *
  have HS := hide hS
  have HL := hide hL
  clear hS hL hSS
  go_wp2_with fail
  rw [← HCUT.out, HS.out]
  refine Calls.mono (Print_any L _ (by rw [HL.out]; omega) (HG.out.on HB1.out)) ?_
  rintro e w2 ⟨rfl, hb2⟩
  have HB2 := hide (below_then HB1.out hb2)
  obtain ⟨cB, w3, hconv, hrb, hb3, hcB, hmB⟩ := conv_bytes (P := Tryd.prog) w2 9 29 5 (str L) L rfl M HL.out (by omega) (by kernel_rfl) (by kernel_rfl) (by kernel_rfl)
  have HB3 := hide (below_then HB2.out hb3)
  have HRB := hide hrb
  have HZ := hide (sizePrint_any L)
  have HCP := hide (Utf.scan_all L).1
  have HPL := hide (show (Utf.scan L).1.length ≤ 400 by have := scan_len L; rw [HL.out] at this; omega)
  clear hb2 hb3 hrb hmB f1 f3 f4 hs HCUT
  by_cases hyes : (Utf.scan L).2 = L.length
  · rw [show printV L = .tuple #[.string (str (quoted (Utf.scan L).1)), .int .i64 0] by unfold printV; rw [if_pos hyes]]
    have HY := hide hyes
    have HSZ := hide (show sizeP L = (str (quoted (Utf.scan L).1)).size by unfold sizeP; rw [if_pos hyes, str_size])
    obtain ⟨Z, hZ⟩ : ∃ Z, Z = str L := ⟨_, rfl⟩
    have HZZ := hide hZ
    rw [← hZ] at hconv ⊢
    clear hyes hZ
    go_wp2_with fail
    refine Calls.mono (rPoints_any _ M cB L _ HRB.out hcB (by omega)) ?_
    rintro e w4 ⟨hb4, he⟩
    rw [if_pos HY.out] at he
    obtain ⟨A4, c4, rfl, hr4, _, _⟩ := he
    have HB4 := hide (below_then HB3.out hb4)
    have HR4 := hide hr4
    clear hb4 hr4 hconv
    go_wp2_with fail
    refine Calls.mono (rPrintQ_any A4 _ c4 (Utf.scan L).1 _ HR4.out HCP.out (by have := HPL.out; omega)) ?_
    rintro e w5 ⟨rfl, hb5⟩
    have HB5 := hide (below_then HB4.out hb5)
    obtain ⟨T, hT⟩ : ∃ T, T = str (quoted (Utf.scan L).1) := ⟨_, rfl⟩
    rw [← hT] at HSZ ⊢
    have hTT : (T.toList == T.toList) = true := by simp
    have hzz : ((T.size : Int) == (T.size : Int)) = true := by simp
    clear hb5 hT
    go_wp2_with fail
    rw [HZZ.out]
    refine Calls.mono (HZ.out _ (by rw [HL.out]; omega) (HG.out.on HB5.out)) ?_
    rintro e w6 ⟨rfl, hb6⟩
    rw [HSZ.out]
    go_wp2_with fail
    go_ret
    exact ⟨by first | rfl | simp, below_then HB5.out hb6⟩
  · rw [show printV L = .tuple #[.string (ByteArray.mk #[]), .int .i64 110] by unfold printV; rw [if_neg hyes]]
    have HY := hide hyes
    have HSZ := hide (show sizeP L = 0 by unfold sizeP; rw [if_neg hyes])
    obtain ⟨Z, hZ⟩ : ∃ Z, Z = str L := ⟨_, rfl⟩
    have HZZ := hide hZ
    rw [← hZ] at hconv ⊢
    clear hyes hZ
    go_wp2_with fail
    refine Calls.mono (rPoints_any _ M cB L _ HRB.out hcB (by omega)) ?_
    rintro e w4 ⟨hb4, he⟩
    rw [if_neg HY.out] at he
    subst he
    have HB4 := hide (below_then HB3.out hb4)
    clear hb4 hconv
    go_wp2_with fail
    rw [HZZ.out]
    refine Calls.mono (HZ.out _ (by rw [HL.out]; omega) (HG.out.on HB4.out)) ?_
    rintro e w6 ⟨rfl, hb6⟩
    rw [HSZ.out]
    go_wp2_with fail
    go_ret
    exact ⟨by first | rfl | simp, below_then HB4.out hb6⟩
/-! ### the row's step, written by program after the guide's skeleton -/
theorem own : ownKnob Tryd.prog.godebug = none := by kernel_rfl
theorem laidOut : laidOutB Tryd.prog = true := by kernel_rfl
set_option maxRecDepth 100000 in
theorem lifted (os : Os) (started : os.Started) (H : Type) (enc : TypeId × Value → H) :
    ReturnsInHanded {} Tryd.checked os 3 .any (fun w args => (Rows.quotePrintsSpec.pre enc Tryd.prog Tryd.f3 [] false w args ∧ laidMetH Tryd.prog laidL w) ∧ sizedMet enc Tryd.prog Tryd.f3 (OpenSpec.ofChange Rows.quotePrintsSpec) false w args) (Rows.quotePrintsSpec.post enc Tryd.prog Tryd.f3 false true false false) := by
  refine returnsInHanded_of_change_and (C := Tryd.checked) (X := fun w _ => laidMetH Tryd.prog laidL w) (fun _ _ _ hh h => h.of_heap hh) own started (by kernel_rfl) Tryd.func3
    (ChangeSpec.witness_shaped (enc := enc) (C := Tryd.checked) (os := os) (X := fun w _ => laidMetH Tryd.prog laidL w) false (World.doorLaid Tryd.prog 400 os) #[.string ByteArray.empty] 8 rfl (World.shaped_of_RefB (by kernel_rfl) (by kernel_rfl)) (by kernel_rfl) (by kernel_rfl) (by kernel_rfl) (door_met os _)) ?_
  intro W base args ds gs before hval0 hW _ _ hL _
  have hGl := gl_of_laid hL
  have hval : ∀ (j : Nat) t v, Tryd.f3.params[j]? = some t → args[j]? = some v → Value.okWide Tryd.prog W .any base t v := hval0
  have hW' := hW
  obtain ⟨p, q, hA0, hV, rfl, hfz, hnd⟩ := hW
  have hA : DataW.TrodAll enc Tryd.prog W 0 (fun _ => true) true Tryd.f3.params.toList args.toList ds p := hA0
  rw [Tryd.params3] at hA hval
  obtain ⟨v0, vs0, d0, ds0, p0, q0, hargs, rfl, rfl, h0, r0⟩ := trodAll_cons hA
  obtain ⟨rfl, rfl, rfl⟩ := trodAll_nil r0
  obtain rfl : args = #[v0] := by cases args; simp_all
  obtain ⟨rfl, rfl⟩ := trodVars_none hV
  obtain ⟨a0, rfl, rfl, rfl, w0⟩ := open_string Tryd.underlying9 (hval 0 9 v0 rfl rfl) h0
  clear hA0 hval0
  refine (walk a0 W w0 hGl).mono fun e W' ⟨he, bel⟩ => ?_
  subst he
  exact ⟨_, rfl, _, _, _, [], _, [], hW', trodAll_mk1 (shut_bool Tryd.underlying4 _), (trodAll_cons_mk (shut_string Tryd.underlying9 w0) trodAll_mk0), rfl, bel.frame _, fun h => by cases h⟩

theorem over : Rows.quotePrintsRow.holds Tryd.pinned (OpenSpec.ofChange Rows.quotePrintsSpec) :=
  OpenClaim.holds_of_wide 3 Tryd.f3 rfl rfl rfl rfl rfl rfl rfl ⟨rfl, rfl, rfl, rfl, rfl⟩ rfl rfl rfl rfl rfl (by kernel_rfl) Tryd.func3 (by kernel_rfl)
    (of_decide_eq_true (by kernel_rfl)) (by unfold Func.isWrapper; first | (rw [if_pos (by decide +kernel)]; kernel_rfl) | (rw [if_neg (by decide +kernel)]; exact ⟨rfl, rfl⟩))
    (fun os started H enc _ => lifted os started H enc)

/-- the tied card, closed by the builder -/
theorem proved : Rows.QuotePrintsCardSaid :=
  Claim7.holds_tied_plain_at .later [] [.data] true (true, "29c9f16f4bc01fd59de145b946254e99b4688103a1f01d14b61d294ae7025dbc") false
    over (fun _ h => by cases h) (by kernel_rfl) (fun _ h => by cases h) quotePrints_row_tie rfl ⟨rfl, rfl⟩ (by kernel_rfl) rfl
    (fun f fn hf hfn => by
      obtain rfl : f = 3 := Option.some.inj ((show Tryd.prog.funcNamed "davenport/davenportlaw02.QuotePrints" = some 3 by kernel_rfl).symm.trans hf) |>.symm
      obtain rfl : fn = Tryd.f3 := (Option.some.inj (Tryd.func3.symm.trans hfn)).symm
      exact ⟨by kernel_rfl, fun j t ht => by
        rw [Tryd.params3] at ht
        rcases j with _ | j
        · obtain rfl : 9 = t := by simpa using ht
          exact (show Tryd.prog.wantsStandIn 9 = false by kernel_rfl)
        · simp at ht⟩)
    (by kernel_rfl)
end Go.Proofs.YtbnibiealnogdaaDoor.LawQuotePrints
