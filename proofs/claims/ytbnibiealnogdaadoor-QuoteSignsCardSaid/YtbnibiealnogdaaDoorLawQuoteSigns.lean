/- Proved: davenportlaw02.QuoteSigns returns true for every input: Sign returns the defined character, offset and error for every input and offset. The card ties the package variable that the walk reads to the program's text. -/
import Derived.Test.YtbnibiealnogdaaDoorRows
import Derived.Test.YtbnibiealnogdaaDoorCards
import Derived.Test.YtbnibiealnogdaaDoorTie
import Derived.Test.YtbnibiealnogdaaDoorOpen
import Derived.Test.YtbnibiealnogdaaDoorFew
import Derived.Test.YtbnibiealnogdaaDoorUtfLaid
import Derived.Test.YtbnibiealnogdaaDoorQuoWakes
import Derived.Test.YtbnibiealnogdaaDoorQuoRefRead
import Derived.SevenTiedAt
namespace Go.Proofs.YtbnibiealnogdaaDoor.LawQuoteSigns
open Go.ChangeShapes Go.WideShapes Go.ChangeAt Go.RowKit
open Go.ChangeMaps (open_string shut_string)

set_option maxRecDepth 100000 in
set_option maxHeartbeats 8000000 in
theorem walk (A : Option Addr) (n c : Nat) (l : List UInt8) (at_ : Int) (w : World) (hA : Arg w A n c l) (_w1 : (Lit.int .i64 at_).wf = true) (hg : Gl w) :
    Calls Tryd.prog 6 #[.slice A n c, .int .i64 at_] w fun e w' => e = .returned (.bool true) ∧ Below w.heap.size w w' := by
  obtain ⟨hr, hnc, hc⟩ := hA
  have HR := hide hr
  have HG := hide hg
  have HC := hide (And.intro hnc hc)
  clear hr hnc hc hg _w1
  go_enter Tryd.func6, Tryd.ntmps6
  go_wp2_with fail
  refine Calls.mono (wakes_any _ HG.out) ?_
  rintro e w1 ⟨rfl, hb1⟩
  have HB1 := hide hb1
  clear hb1
  go_wp2_with fail
  refine Calls.mono (few_rb A n c l _ (HR.out.on HB1.out) HC.out.1 HC.out.2) ?_
  rintro e w2 ⟨A2, n2, c2, rfl, hr2, hn2, hc2, hm2, hb2⟩
  generalize hL : l.take FEW = L at *
  have HL := hide hL
  have HB2 := hide (below_then HB1.out hb2)
  have HR2 := hide hr2
  have HN2 := hide (And.intro hn2 (And.intro hc2 hm2))
  have HLN := hide hr2.len
  clear hL hb2 hr2 hn2 hc2 hm2 HB1
  go_wp2_with fail
  refine Calls.mono (Sign_any A2 n2 c2 L at_ _ HR2.out HN2.out.2.1 (by have := HN2.out.1; omega) (HG.out.on HB2.out)) ?_
  rintro e w3 ⟨rfl, hb3⟩
  have HB3 := hide (below_then HB2.out hb3)
  have HR3 := hide (HR2.out.on hb3)
  clear hb3 HB2 HR2
  by_cases h0 : at_ < 0
  · rw [show quoV L at_ = .tuple #[.int .i64 0, .int .i64 0, .int .i64 2] by unfold quoV; rw [if_pos (Or.inl h0)]]
    go_wp2_with fail
    refine Calls.mono (few_rb A n c l _ (HR.out.on HB3.out) HC.out.1 HC.out.2) ?_
    rintro e w10 ⟨A10, n10, c10, rfl, hr10, hn10, hc10, hm10, hb10⟩
    rw [HL.out] at hr10
    have HR10 := hide hr10
    have HB10 := hide (below_then HB3.out hb10)
    have HRR := hide (HR3.out.on hb10)
    have HN10 := hide hn10
    clear hb10 hr10 hn10 hc10 hm10
    go_wp2_with fail
    refine Calls.mono (equal_b A2 A10 n2 n10 c2 c10 L L _ HRR.out HR10.out (by have := HN2.out.1; omega) (by have := HN10.out; omega)) ?_
    rintro e w11 ⟨rfl, hb11⟩
    rw [decide_eq_true rfl]
    have HB11 := hide (below_then HB10.out hb11)
    have HR11 := hide (HRR.out.on hb11)
    clear hb11 HB10 HRR HR10 HN10
    go_wp2_with fail
    go_ret
    exact ⟨by first | rfl | simp, HB11.out⟩
  · by_cases h1 : (n2 : Int) < at_
    · rw [show quoV L at_ = .tuple #[.int .i64 0, .int .i64 0, .int .i64 2] by unfold quoV; rw [if_pos (Or.inr (by rw [HLN.out]; omega))]]
      go_wp2_with fail
      refine Calls.mono (few_rb A n c l _ (HR.out.on HB3.out) HC.out.1 HC.out.2) ?_
      rintro e w10 ⟨A10, n10, c10, rfl, hr10, hn10, hc10, hm10, hb10⟩
      rw [HL.out] at hr10
      have HR10 := hide hr10
      have HB10 := hide (below_then HB3.out hb10)
      have HRR := hide (HR3.out.on hb10)
      have HN10 := hide hn10
      clear hb10 hr10 hn10 hc10 hm10
      go_wp2_with fail
      refine Calls.mono (equal_b A2 A10 n2 n10 c2 c10 L L _ HRR.out HR10.out (by have := HN2.out.1; omega) (by have := HN10.out; omega)) ?_
      rintro e w11 ⟨rfl, hb11⟩
      rw [decide_eq_true rfl]
      have HB11 := hide (below_then HB10.out hb11)
      have HR11 := hide (HRR.out.on hb11)
      clear hb11 HB10 HRR HR10 HN10
      go_wp2_with fail
      go_ret
      exact ⟨by first | rfl | simp, HB11.out⟩
    · by_cases h2 : at_ = (n2 : Int)
      · rw [show quoV L at_ = .tuple #[.int .i64 0, .int .i64 0, .int .i64 6] by unfold quoV; rw [if_neg (by rw [HLN.out]; omega), if_pos (by rw [HLN.out]; omega)]]
        have ht : (at_ == (n2 : Int)) = true := by rw [beq_iff_eq]; exact h2
        clear h2
        go_wp2_with fail
        refine Calls.mono (few_rb A n c l _ (HR.out.on HB3.out) HC.out.1 HC.out.2) ?_
        rintro e w10 ⟨A10, n10, c10, rfl, hr10, hn10, hc10, hm10, hb10⟩
        rw [HL.out] at hr10
        have HR10 := hide hr10
        have HB10 := hide (below_then HB3.out hb10)
        have HRR := hide (HR3.out.on hb10)
        have HN10 := hide hn10
        clear hb10 hr10 hn10 hc10 hm10
        go_wp2_with fail
        refine Calls.mono (equal_b A2 A10 n2 n10 c2 c10 L L _ HRR.out HR10.out (by have := HN2.out.1; omega) (by have := HN10.out; omega)) ?_
        rintro e w11 ⟨rfl, hb11⟩
        rw [decide_eq_true rfl]
        have HB11 := hide (below_then HB10.out hb11)
        have HR11 := hide (HRR.out.on hb11)
        clear hb11 HB10 HRR HR10 HN10
        go_wp2_with fail
        go_ret
        exact ⟨by first | rfl | simp, HB11.out⟩
      · obtain ⟨k, rfl⟩ : ∃ k : Nat, at_ = (k : Int) := ⟨at_.toNat, by omega⟩
        have ht : ((k : Int) == (n2 : Int)) = false := by rw [beq_eq_false_iff_ne]; exact h2
        have hk : k < n2 := by omega
        have HK := hide hk
        rw [quoV_at (by rw [HLN.out]; exact hk)]
        have HE := hide (show n2 ≤ 400 from HN2.out.1)
        clear h0 h1 h2
        have hk0 : (0 : Int) ≤ (k : Int) := by omega
        have hkn : ¬ (n2 : Int) < (k : Int) := by omega
        rcases signV_cases k (L.drop k) with ⟨hv, hz⟩ | ⟨p, m, hs, hm, hv⟩
        · rw [hv]
          have HZ := hide hz
          clear hv hz hk
          go_wp2_with fail
          refine Calls.mono (few_rb A n c l _ (HR.out.on HB3.out) HC.out.1 HC.out.2) ?_
          rintro e w10 ⟨A10, n10, c10, rfl, hr10, hn10, hc10, hm10, hb10⟩
          rw [HL.out] at hr10
          have HR10 := hide hr10
          have HB10 := hide (below_then HB3.out hb10)
          have HRR := hide (HR3.out.on hb10)
          have HN10 := hide hn10
          clear hb10 hr10 hn10 hc10 hm10
          go_wp2_with fail
          refine Calls.mono (equal_b A2 A10 n2 n10 c2 c10 L L _ HRR.out HR10.out (by have := HN2.out.1; omega) (by have := HN10.out; omega)) ?_
          rintro e w11 ⟨rfl, hb11⟩
          rw [decide_eq_true rfl]
          have HB11 := hide (below_then HB10.out hb11)
          have HR11 := hide (HRR.out.on hb11)
          clear hb11 HB10 HRR HR10 HN10
          obtain ⟨A6, hcut, hr6⟩ := cut_from (k := k) HR11.out (by have := HK.out; omega) HN2.out.2.1
          have HR6 := hide hr6
          clear hr6
          generalize hwe : wrongE (L.drop k) = we at *
          have HWE := hide hwe
          have hww : (we == we) = true := by simp
          clear hwe
          go_wp2_with fail
          refine Calls.mono (rBeginQ_any A6 (n2 - k) (c2 - k) (L.drop k) _ HR6.out (by have := HN2.out.2.1; omega) (by have := HE.out; omega)) ?_
          rintro e w4 ⟨rfl, hb4⟩
          have HB4 := hide (below_then HB11.out hb4)
          have HR4 := hide (HR11.out.on hb4)
          unfold decV
          dsimp only
          rw [HZ.out]
          clear hb4 hcut
          go_wp2_with fail
          refine Calls.mono (rWrong_any A2 n2 c2 k L _ HR4.out (by have := HK.out; omega)) ?_
          rintro e w5 ⟨rfl, rfl⟩
          rw [HWE.out]
          go_wp2_with fail
          go_ret
          exact ⟨by first | rfl | simp, HB4.out⟩
        · rw [hv]
          have HS := hide hs
          have t1 : ((m : Int) == 0) = false := by rw [beq_eq_false_iff_ne]; omega
          have hpp : ((p : Int) == (p : Int)) = true := by simp
          have hjm := (Quo.sign_stable hs hm).2.1
          rw [List.length_drop, HLN.out] at hjm
          have hkm : (k : Int) + (m : Int) ≤ 400 := by have := HE.out; omega
          have hkk : ((k : Int) + (m : Int) == (k : Int) + (m : Int)) = true := by simp
          clear hv hs hm hk hjm
          go_wp2_with fail
          refine Calls.mono (few_rb A n c l _ (HR.out.on HB3.out) HC.out.1 HC.out.2) ?_
          rintro e w10 ⟨A10, n10, c10, rfl, hr10, hn10, hc10, hm10, hb10⟩
          rw [HL.out] at hr10
          have HR10 := hide hr10
          have HB10 := hide (below_then HB3.out hb10)
          have HRR := hide (HR3.out.on hb10)
          have HN10 := hide hn10
          clear hb10 hr10 hn10 hc10 hm10
          go_wp2_with fail
          refine Calls.mono (equal_b A2 A10 n2 n10 c2 c10 L L _ HRR.out HR10.out (by have := HN2.out.1; omega) (by have := HN10.out; omega)) ?_
          rintro e w11 ⟨rfl, hb11⟩
          rw [decide_eq_true rfl]
          have HB11 := hide (below_then HB10.out hb11)
          have HR11 := hide (HRR.out.on hb11)
          clear hb11 HB10 HRR HR10 HN10
          obtain ⟨A6, hcut, hr6⟩ := cut_from (k := k) HR11.out (by have := HK.out; omega) HN2.out.2.1
          have HR6 := hide hr6
          clear hr6
          go_wp2_with fail
          refine Calls.mono (rBeginQ_any A6 (n2 - k) (c2 - k) (L.drop k) _ HR6.out (by have := HN2.out.2.1; omega) (by have := HE.out; omega)) ?_
          rintro e w4 ⟨rfl, hb4⟩
          have HB4 := hide (below_then HB11.out hb4)
          rw [HS.out]
          unfold decV
          dsimp only
          clear hb4 hcut
          go_wp2_with fail
          go_ret
          exact ⟨by first | rfl | simp, HB4.out⟩
/-! ### the row's step, written by program after the guide's skeleton -/
theorem own : ownKnob Tryd.prog.godebug = none := by kernel_rfl
theorem laidOut : laidOutB Tryd.prog = true := by kernel_rfl
set_option maxRecDepth 100000 in
theorem lifted (os : Os) (started : os.Started) (H : Type) (enc : TypeId × Value → H) :
    ReturnsInHanded {} Tryd.checked os 6 .any (fun w args => (Rows.quoteSignsSpec.pre enc Tryd.prog Tryd.f6 [] false w args ∧ laidMetH Tryd.prog laidL w) ∧ sizedMet enc Tryd.prog Tryd.f6 (OpenSpec.ofChange Rows.quoteSignsSpec) false w args) (Rows.quoteSignsSpec.post enc Tryd.prog Tryd.f6 false true false false) := by
  refine returnsInHanded_of_change_and (C := Tryd.checked) (X := fun w _ => laidMetH Tryd.prog laidL w) (fun _ _ _ hh h => h.of_heap hh) own started (by kernel_rfl) Tryd.func6
    (ChangeSpec.witness_shaped (enc := enc) (C := Tryd.checked) (os := os) (X := fun w _ => laidMetH Tryd.prog laidL w) false (World.doorLaid Tryd.prog 400 os) #[.slice none 0 0, .int .i64 0] 8 rfl (World.shaped_of_RefB (by kernel_rfl) (by kernel_rfl)) (by kernel_rfl) (by kernel_rfl) (by kernel_rfl) (door_met os _)) ?_
  intro W base args ds gs before hval0 hW _ _ hL _
  have hGl := gl_of_laid hL
  have hval : ∀ (j : Nat) t v, Tryd.f6.params[j]? = some t → args[j]? = some v → Value.okWide Tryd.prog W .any base t v := hval0
  have hW' := hW
  obtain ⟨p, q, hA0, hV, rfl, hfz, hnd⟩ := hW
  have hA : DataW.TrodAll enc Tryd.prog W 0 (fun _ => true) true Tryd.f6.params.toList args.toList ds p := hA0
  rw [Tryd.params6] at hA hval
  obtain ⟨v0, vs0, d0, ds0, p0, q0, hargs, rfl, rfl, h0, r0⟩ := trodAll_cons hA
  obtain ⟨v1, vs1, d1, ds1, p1, q1, rfl, rfl, rfl, h1, r1⟩ := trodAll_cons r0
  obtain ⟨rfl, rfl, rfl⟩ := trodAll_nil r1
  obtain rfl : args = #[v0, v1] := by cases args; simp_all
  obtain ⟨rfl, rfl⟩ := trodVars_none hV
  have k0 := h0
  have lt0 := trod_lt' k0
  obtain ⟨a0, n0, c0, l0, rfl, w0⟩ := arg_bytes Tryd.underlying29 Tryd.underlying5 (by kernel_rfl) (hval 0 29 v0 rfl rfl) h0
  obtain ⟨a1, rfl, rfl, rfl, w1⟩ := open_int Tryd.underlying3 (hval 1 3 v1 rfl rfl) h1
  clear hA0 hval0
  refine (walk a0 n0 c0 l0 a1 W w0 w1 hGl).mono fun e W' ⟨he, bel⟩ => ?_
  subst he
  exact ⟨_, rfl, _, _, _, [], _, [], hW', trodAll_mk1 (shut_bool Tryd.underlying4 _), (trodAll_cons_mk (Below.trod laidOut (by kernel_rfl) (of_decide_eq_true (by kernel_rfl)) k0 bel lt0) (trodAll_cons_mk (shut_int Tryd.underlying3 w1) trodAll_mk0)), rfl, bel.frame _, fun h => by cases h⟩

theorem over : Rows.quoteSignsRow.holds Tryd.pinned (OpenSpec.ofChange Rows.quoteSignsSpec) :=
  OpenClaim.holds_of_wide 6 Tryd.f6 rfl rfl rfl rfl rfl rfl rfl ⟨rfl, rfl, rfl, rfl, rfl⟩ rfl rfl rfl rfl rfl (by kernel_rfl) Tryd.func6 (by kernel_rfl)
    (of_decide_eq_true (by kernel_rfl)) (by unfold Func.isWrapper; first | (rw [if_pos (by decide +kernel)]; kernel_rfl) | (rw [if_neg (by decide +kernel)]; exact ⟨rfl, rfl⟩))
    (fun os started H enc _ => lifted os started H enc)

/-- the tied card, closed by the builder -/
theorem proved : Rows.QuoteSignsCardSaid :=
  Claim7.holds_tied_plain_at .later [] [.data] true (true, "29c9f16f4bc01fd59de145b946254e99b4688103a1f01d14b61d294ae7025dbc") false
    over (fun _ h => by cases h) (by kernel_rfl) (fun _ h => by cases h) quoteSigns_row_tie rfl ⟨rfl, rfl⟩ (by kernel_rfl) rfl
    (fun f fn hf hfn => by
      obtain rfl : f = 6 := Option.some.inj ((show Tryd.prog.funcNamed "davenport/davenportlaw02.QuoteSigns" = some 6 by kernel_rfl).symm.trans hf) |>.symm
      obtain rfl : fn = Tryd.f6 := (Option.some.inj (Tryd.func6.symm.trans hfn)).symm
      exact ⟨by kernel_rfl, fun j t ht => by
        rw [Tryd.params6] at ht
        rcases j with _ | j
        · obtain rfl : 29 = t := by simpa using ht
          exact (show Tryd.prog.wantsStandIn 29 = false by kernel_rfl)
        rcases j with _ | j
        · obtain rfl : 3 = t := by simpa using ht
          exact (show Tryd.prog.wantsStandIn 3 = false by kernel_rfl)
        · simp at ht⟩)
    (by kernel_rfl)
end Go.Proofs.YtbnibiealnogdaaDoor.LawQuoteSigns
