/- Proved: davenportlaw02.QuoteReads returns true for every input: Read returns the defined string, offset and error for every input and offset. The card ties the package variable that the walk reads to the program's text. -/
import Derived.Test.YtbnibiealnogdaaDoorRows
import Derived.Test.YtbnibiealnogdaaDoorCards
import Derived.Test.YtbnibiealnogdaaDoorTie
import Derived.Test.YtbnibiealnogdaaDoorOpen
import Derived.Test.YtbnibiealnogdaaDoorFew
import Derived.Test.YtbnibiealnogdaaDoorUtfLaid
import Derived.Test.YtbnibiealnogdaaDoorQuoWakes
import Derived.Test.YtbnibiealnogdaaDoorQuoRefRead
import Derived.SevenTiedAt
namespace Go.Proofs.YtbnibiealnogdaaDoor.LawQuoteReads
open Go.ChangeShapes Go.WideShapes Go.ChangeAt Go.RowKit
open Go.ChangeMaps (open_string shut_string)

theorem readR_facts (l : List UInt8) (z : Int) : Utf.allCp (readR l z).1 ∧ (readR l z).1.length ≤ l.length := by
  have hnil : Utf.allCp ([] : List Nat) ∧ ([] : List Nat).length ≤ l.length := ⟨fun p hp => absurd hp (by simp), Nat.zero_le _⟩
  unfold readR
  split
  · exact hnil
  · split
    · exact hnil
    · split
      · unfold readAt
        split
        · obtain ⟨h1, h2, _, h4, _⟩ := Quo.qscan_all (l.drop (z.toNat + 1))
          rw [List.length_drop] at h2
          exact ⟨h1, by simp only; omega⟩
        · exact hnil
      · exact hnil
set_option maxRecDepth 100000 in
set_option maxHeartbeats 8000000 in
theorem walk (A : Option Addr) (n c : Nat) (l : List UInt8) (at_ : Int) (w : World) (hA : Arg w A n c l) (_w1 : (Lit.int .i64 at_).wf = true) (hg : Gl w) :
    Calls Tryd.prog 7 #[.slice A n c, .int .i64 at_] w fun e w' => e = .returned (.bool true) ∧ Below w.heap.size w w' := by
  obtain ⟨hr, hnc, hc⟩ := hA
  have HR := hide hr
  have HG := hide hg
  have HC := hide (And.intro hnc hc)
  clear hr hnc hc hg _w1
  go_enter Tryd.func7, Tryd.ntmps7
  go_wp2_with fail
  refine Calls.mono (wakes_any _ HG.out) ?_
  rintro e w1 ⟨rfl, hb1⟩
  have HB1 := hide hb1
  clear hb1
  go_wp2_with fail
  refine Calls.mono (few_rb A n c l _ (HR.out.on HB1.out) HC.out.1 HC.out.2) ?_
  rintro e w2 ⟨A2, n2, c2, rfl, hr2, hn2, hc2, hm2, hb2⟩
  generalize hL : l.take FEW = L at *
  have HL := hide hL
  have HB2 := hide (below_then HB1.out hb2)
  have HR2 := hide hr2
  have HN2 := hide (And.intro hn2 (And.intro hc2 hm2))
  have HLN := hide hr2.len
  clear hL hb2 hr2 hn2 hc2 hm2 HB1
  go_wp2_with fail
  refine Calls.mono (Read_any A2 n2 c2 L at_ _ HR2.out HN2.out.2.1 (by have := HN2.out.1; omega) (HG.out.on HB2.out)) ?_
  rintro e w3 ⟨rfl, hb3⟩
  have HB3 := hide (below_then HB2.out hb3)
  have HR3 := hide (HR2.out.on hb3)
  clear hb3 HB2 HR2
  by_cases h0 : at_ < 0
  · rw [show readR L at_ = ([], 0, 2) by unfold readR; rw [if_pos (Or.inl h0)], readV_none]
    go_wp2_with fail
    go_ret
    exact ⟨by first | rfl | simp, HB3.out⟩
  · by_cases h1 : (n2 : Int) < at_
    · rw [show readR L at_ = ([], 0, 2) by unfold readR; rw [if_pos (Or.inr (by rw [HLN.out]; omega))], readV_none]
      go_wp2_with fail
      go_ret
      exact ⟨by first | rfl | simp, HB3.out⟩
    · obtain ⟨k, rfl⟩ : ∃ k : Nat, at_ = (k : Int) := ⟨at_.toNat, by omega⟩
      have HK := hide (show k ≤ n2 by omega)
      have HE := hide (show n2 ≤ 400 from HN2.out.1)
      obtain ⟨hcp, hlen⟩ := readR_facts L (k : Int)
      rw [HLN.out] at hlen
      have HRD := hide (rReadQ_any A2 n2 c2 k L w3 HR3.out HN2.out.2.1 (by have := HE.out; omega) HK.out)
      unfold RReadAs at HRD
      generalize readR L (k : Int) = r at *
      obtain ⟨ps, P, E⟩ := r
      dsimp only at hcp hlen HRD
      have HCP := hide hcp
      have HLE := hide hlen
      have hPP : (P == P) = true := by simp
      have hEE : (E == E) = true := by simp
      obtain ⟨S, hS⟩ : ∃ S, S = str (Utf.encs ps) := ⟨_, rfl⟩
      have HSS := hide hS
      have hSS : (S.toList == S.toList) = true := by simp
      unfold readV
      dsimp only
      rw [← hS]
      clear hcp hlen hS
      go_wp2_with fail
      refine Calls.mono HRD.out ?_
      rintro e w4 ⟨A4, c4, rfl, hr4, hb4⟩
      have HB4 := hide (below_then HB3.out hb4)
      have HR4 := hide (HR3.out.on hb4)
      have HI4 := hide hr4
      clear hb4 hr4 HRD
      go_wp2_with fail
      refine Calls.mono (rText_any A4 ps.length c4 (zs ps) _ HI4.out (by have := HLE.out; have := HE.out; omega)) ?_
      rintro e w5 ⟨rfl, hb5⟩
      rw [rtext_yes rfl HCP.out, ← HSS.out]
      have HB5 := hide (below_then HB4.out hb5)
      have HR5 := hide (HR4.out.on hb5)
      clear hb5
      go_wp2_with fail
      refine Calls.mono (few_rb A n c l _ (HR.out.on HB5.out) HC.out.1 HC.out.2) ?_
      rintro e w10 ⟨A10, n10, c10, rfl, hr10, hn10, hc10, hm10, hb10⟩
      rw [HL.out] at hr10
      have HR10 := hide hr10
      have HB10 := hide (below_then HB5.out hb10)
      have HRR := hide (HR5.out.on hb10)
      have HN10 := hide hn10
      clear hb10 hr10 hn10 hc10 hm10
      go_wp2_with fail
      refine Calls.mono (equal_b A2 A10 n2 n10 c2 c10 L L _ HRR.out HR10.out (by have := HE.out; omega) (by have := HN10.out; omega)) ?_
      rintro e w11 ⟨rfl, hb11⟩
      rw [decide_eq_true rfl]
      go_wp2_with fail
      go_ret
      exact ⟨by first | rfl | simp, below_then HB10.out hb11⟩
/-! ### the row's step, written by program after the guide's skeleton -/
theorem own : ownKnob Tryd.prog.godebug = none := by kernel_rfl
theorem laidOut : laidOutB Tryd.prog = true := by kernel_rfl
set_option maxRecDepth 100000 in
theorem lifted (os : Os) (started : os.Started) (H : Type) (enc : TypeId × Value → H) :
    ReturnsInHanded {} Tryd.checked os 7 .any (fun w args => (Rows.quoteReadsSpec.pre enc Tryd.prog Tryd.f7 [] false w args ∧ laidMetH Tryd.prog laidL w) ∧ sizedMet enc Tryd.prog Tryd.f7 (OpenSpec.ofChange Rows.quoteReadsSpec) false w args) (Rows.quoteReadsSpec.post enc Tryd.prog Tryd.f7 false true false false) := by
  refine returnsInHanded_of_change_and (C := Tryd.checked) (X := fun w _ => laidMetH Tryd.prog laidL w) (fun _ _ _ hh h => h.of_heap hh) own started (by kernel_rfl) Tryd.func7
    (ChangeSpec.witness_shaped (enc := enc) (C := Tryd.checked) (os := os) (X := fun w _ => laidMetH Tryd.prog laidL w) false (World.doorLaid Tryd.prog 400 os) #[.slice none 0 0, .int .i64 0] 8 rfl (World.shaped_of_RefB (by kernel_rfl) (by kernel_rfl)) (by kernel_rfl) (by kernel_rfl) (by kernel_rfl) (door_met os _)) ?_
  intro W base args ds gs before hval0 hW _ _ hL _
  have hGl := gl_of_laid hL
  have hval : ∀ (j : Nat) t v, Tryd.f7.params[j]? = some t → args[j]? = some v → Value.okWide Tryd.prog W .any base t v := hval0
  have hW' := hW
  obtain ⟨p, q, hA0, hV, rfl, hfz, hnd⟩ := hW
  have hA : DataW.TrodAll enc Tryd.prog W 0 (fun _ => true) true Tryd.f7.params.toList args.toList ds p := hA0
  rw [Tryd.params7] at hA hval
  obtain ⟨v0, vs0, d0, ds0, p0, q0, hargs, rfl, rfl, h0, r0⟩ := trodAll_cons hA
  obtain ⟨v1, vs1, d1, ds1, p1, q1, rfl, rfl, rfl, h1, r1⟩ := trodAll_cons r0
  obtain ⟨rfl, rfl, rfl⟩ := trodAll_nil r1
  obtain rfl : args = #[v0, v1] := by cases args; simp_all
  obtain ⟨rfl, rfl⟩ := trodVars_none hV
  have k0 := h0
  have lt0 := trod_lt' k0
  obtain ⟨a0, n0, c0, l0, rfl, w0⟩ := arg_bytes Tryd.underlying29 Tryd.underlying5 (by kernel_rfl) (hval 0 29 v0 rfl rfl) h0
  obtain ⟨a1, rfl, rfl, rfl, w1⟩ := open_int Tryd.underlying3 (hval 1 3 v1 rfl rfl) h1
  clear hA0 hval0
  refine (walk a0 n0 c0 l0 a1 W w0 w1 hGl).mono fun e W' ⟨he, bel⟩ => ?_
  subst he
  exact ⟨_, rfl, _, _, _, [], _, [], hW', trodAll_mk1 (shut_bool Tryd.underlying4 _), (trodAll_cons_mk (Below.trod laidOut (by kernel_rfl) (of_decide_eq_true (by kernel_rfl)) k0 bel lt0) (trodAll_cons_mk (shut_int Tryd.underlying3 w1) trodAll_mk0)), rfl, bel.frame _, fun h => by cases h⟩

theorem over : Rows.quoteReadsRow.holds Tryd.pinned (OpenSpec.ofChange Rows.quoteReadsSpec) :=
  OpenClaim.holds_of_wide 7 Tryd.f7 rfl rfl rfl rfl rfl rfl rfl ⟨rfl, rfl, rfl, rfl, rfl⟩ rfl rfl rfl rfl rfl (by kernel_rfl) Tryd.func7 (by kernel_rfl)
    (of_decide_eq_true (by kernel_rfl)) (by unfold Func.isWrapper; first | (rw [if_pos (by decide +kernel)]; kernel_rfl) | (rw [if_neg (by decide +kernel)]; exact ⟨rfl, rfl⟩))
    (fun os started H enc _ => lifted os started H enc)

/-- the tied card, closed by the builder -/
theorem proved : Rows.QuoteReadsCardSaid :=
  Claim7.holds_tied_plain_at .later [] [.data] true (true, "29c9f16f4bc01fd59de145b946254e99b4688103a1f01d14b61d294ae7025dbc") false
    over (fun _ h => by cases h) (by kernel_rfl) (fun _ h => by cases h) quoteReads_row_tie rfl ⟨rfl, rfl⟩ (by kernel_rfl) rfl
    (fun f fn hf hfn => by
      obtain rfl : f = 7 := Option.some.inj ((show Tryd.prog.funcNamed "davenport/davenportlaw02.QuoteReads" = some 7 by kernel_rfl).symm.trans hf) |>.symm
      obtain rfl : fn = Tryd.f7 := (Option.some.inj (Tryd.func7.symm.trans hfn)).symm
      exact ⟨by kernel_rfl, fun j t ht => by
        rw [Tryd.params7] at ht
        rcases j with _ | j
        · obtain rfl : 29 = t := by simpa using ht
          exact (show Tryd.prog.wantsStandIn 29 = false by kernel_rfl)
        rcases j with _ | j
        · obtain rfl : 3 = t := by simpa using ht
          exact (show Tryd.prog.wantsStandIn 3 = false by kernel_rfl)
        · simp at ht⟩)
    (by kernel_rfl)
end Go.Proofs.YtbnibiealnogdaaDoor.LawQuoteReads
