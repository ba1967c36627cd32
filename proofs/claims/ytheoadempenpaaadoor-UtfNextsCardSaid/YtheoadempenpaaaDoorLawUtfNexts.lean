/- Proved: davenportlaw01.UtfNexts returns true for every input: Next decodes at any offset of any bytes, or returns the documented error. The card ties the package variable that the walk reads to the program's text. -/
import Derived.Test.YtheoadempenpaaaDoorRows
import Derived.Test.YtheoadempenpaaaDoorCards
import Derived.Test.YtheoadempenpaaaDoorTie
import Derived.Test.YtheoadempenpaaaDoorOpen
import Derived.Test.YtheoadempenpaaaDoorFew
import Derived.Test.YtheoadempenpaaaDoorUtfLaid
import Derived.Test.YtheoadempenpaaaDoorUtfWakes
import Derived.Test.YtheoadempenpaaaDoorUtfBegin
import Derived.SevenTiedAt
namespace Go.Proofs.YtheoadempenpaaaDoor.LawUtfNexts
open Go.ChangeShapes Go.WideShapes Go.ChangeAt Go.RowKit
open Go.ChangeMaps (open_string shut_string)

set_option maxHeartbeats 8000000 in
theorem walk (A : Option Addr) (n c : Nat) (l : List UInt8) (at_ : Int) (w : World) (hA : Arg w A n c l) (w1 : (Lit.int .i64 at_).wf = true) (hg : Gl w) :
    Calls Tryd.prog 5 #[.slice A n c, .int .i64 at_] w fun e w' => e = .returned (.bool true) ∧ Below w.heap.size w w' := by
  obtain ⟨hr, hnc, hc⟩ := hA
  have HR := hide hr
  have HG := hide hg
  have HC := hide (And.intro hnc hc)
  have HW := hide (wf_i64 w1)
  clear hr hnc hc hg w1
  go_enter Tryd.func5, Tryd.ntmps5
  go_wp2_with fail
  refine Calls.mono (wakes_any _ HG.out) ?_
  rintro e w1 ⟨rfl, hb1⟩
  have HB1 := hide hb1
  clear hb1
  go_wp2_with fail
  refine Calls.mono (few_rb A n c l _ (HR.out.on HB1.out) HC.out.1 HC.out.2) ?_
  rintro e w2 ⟨A2, n2, c2, rfl, hr2, hn2, hc2, hm2, hb2⟩
  generalize hL : l.take FEW = L at *
  have HL := hide hL
  have HB2 := hide (below_then HB1.out hb2)
  have HR2 := hide hr2
  have HN2 := hide (And.intro hn2 (And.intro hc2 hm2))
  have HLN := hide hr2.len
  clear hL hb2 hr2 hn2 hc2 hm2 HB1
  go_wp2_with fail
  refine Calls.mono (Next_any A2 n2 c2 L at_ _ HR2.out HN2.out.2.1 (by have := HN2.out.1; omega) (HG.out.on HB2.out)) ?_
  rintro e w3 ⟨rfl, hb3⟩
  have HB3 := hide (below_then HB2.out hb3)
  have HR3 := hide (HR2.out.on hb3)
  clear hb3 HB2 HR2
  by_cases h0 : at_ < 0
  · have HF := hide (show nextAt L at_ = (0, 0, 2) by unfold nextAt; rw [if_pos (Or.inl h0)])
    rw [HF.out]
    unfold nextAtV
    dsimp only
    go_wp2_with fail
    go_ret
    exact ⟨rfl, HB3.out⟩
  · by_cases h1 : (n2 : Int) < at_
    · have HF := hide (show nextAt L at_ = (0, 0, 2) by unfold nextAt; rw [if_pos (Or.inr (by rw [HLN.out]; omega))])
      rw [HF.out]
      unfold nextAtV
      dsimp only
      go_wp2_with fail
      go_ret
      exact ⟨rfl, HB3.out⟩
    · by_cases h2 : at_ = (n2 : Int)
      · have HF := hide (show nextAt L at_ = (0, 0, 6) by unfold nextAt; rw [if_neg (by rw [HLN.out]; omega), if_pos (by rw [HLN.out]; omega)])
        have ht : (at_ == (n2 : Int)) = true := by rw [beq_iff_eq]; exact h2
        clear h2
        rw [HF.out]
        unfold nextAtV
        dsimp only
        go_wp2_with fail
        go_ret
        exact ⟨rfl, HB3.out⟩
      · obtain ⟨k, rfl⟩ : ∃ k : Nat, at_ = (k : Int) := ⟨at_.toNat, by omega⟩
        have ht : ((k : Int) == (n2 : Int)) = false := by rw [beq_eq_false_iff_ne]; exact h2
        have hk : k < n2 := by omega
        have HD := hide (show nextAt L (k : Int) = if (Utf.dec (L.drop k)).2 = 0 then (0, 0, 110) else (((Utf.dec (L.drop k)).1 : Int), (k : Int) + ((Utf.dec (L.drop k)).2 : Int), 0) by
          unfold nextAt; rw [HLN.out, if_neg (by omega), if_neg (by omega), Int.toNat_natCast])
        obtain ⟨b, o, rfl, hbl, hcx⟩ := HR3.out.cell (k := k) (by rw [HLN.out]; omega)
        clear hcx
        have HRK := hide (HR3.out.behind hk)
        have hc2 := HN2.out.2.1
        have hck : ¬ c2 = k := by omega
        have hkn : (k : Int) ≤ (n2 : Int) := by omega
        have HSZ := hide (dec_size (L.drop k))
        have HK := hide hk
        have HE := hide (show n2 ≤ 300 from HN2.out.1)
        clear h0 h1 h2 hk hbl hc2
        cases hd : Utf.dec (L.drop k) with
        | mk p m =>
          rw [hd] at HD HSZ
          have HDD := hide hd
          by_cases hm : m = 0
          · subst hm
            rw [show nextAt L (k : Int) = (0, 0, 110) by rw [HD.out, if_pos rfl]]
            clear hd
            unfold nextAtV
            dsimp only
            go_wp2_with fail
            refine Calls.mono (rBegin_any (some ⟨b, o + k, none⟩) (n2 - k) (c2 - k) (L.drop k) _ HRK.out (by have := HE.out; omega) (by have := HK.out; omega)) ?_
            rintro e w4 ⟨rfl, hb4⟩
            rw [HDD.out]
            unfold decV
            dsimp only
            go_wp2_with fail
            go_ret
            exact ⟨rfl, below_then HB3.out hb4⟩
          · rw [show nextAt L (k : Int) = ((p : Int), (k : Int) + (m : Int), 0) by rw [HD.out, if_neg hm]]
            have hne : ((m : Int) == 0) = false := by rw [beq_eq_false_iff_ne]; omega
            have hw : wrap64 ((k : Int) + (m : Int)) = (k : Int) + (m : Int) := by have := HSZ.out; simp only at this; have := HK.out; have := HE.out; unfold wrap64; omega
            have hpp : ((p : Int) == (p : Int)) = true := by simp
            have hkk : ((k : Int) + (m : Int) == (k : Int) + (m : Int)) = true := by simp
            clear hd hm
            unfold nextAtV
            dsimp only
            go_wp2_with fail
            refine Calls.mono (rBegin_any (some ⟨b, o + k, none⟩) (n2 - k) (c2 - k) (L.drop k) _ HRK.out (by have := HE.out; omega) (by have := HK.out; omega)) ?_
            rintro e w4 ⟨rfl, hb4⟩
            rw [HDD.out]
            unfold decV
            dsimp only
            have HB4 := hide (below_then HB3.out hb4)
            have HR4 := hide (HR3.out.on hb4)
            clear hb4 HB3 HR3
            go_wp2_with fail
            refine Calls.mono (few_rb A n c l _ (HR.out.on HB4.out) HC.out.1 HC.out.2) ?_
            rintro e w10 ⟨A10, n10, c10, rfl, hr10, hn10, hc10, hm10, hb10⟩
            rw [HL.out] at hr10
            have HR10 := hide hr10
            have HB10 := hide (below_then HB4.out hb10)
            have HRR := hide (HR4.out.on hb10)
            have HN10 := hide hn10
            clear hb10 hr10 hn10 hc10 hm10 HB4 HR4
            go_wp2_with fail
            refine Calls.mono (equal_b (some ⟨b, o, none⟩) A10 n2 n10 c2 c10 L L _ HRR.out HR10.out (by have := HE.out; omega) (by have := HN10.out; omega)) ?_
            rintro e w11 ⟨rfl, hb11⟩
            rw [decide_eq_true rfl]
            go_wp2_with fail
            go_ret
            exact ⟨rfl, below_then HB10.out hb11⟩
/-! ### the row's step, written by program after the guide's skeleton -/
theorem own : ownKnob Tryd.prog.godebug = none := by kernel_rfl
theorem laidOut : laidOutB Tryd.prog = true := by kernel_rfl
set_option maxRecDepth 100000 in
theorem lifted (os : Os) (started : os.Started) (H : Type) (enc : TypeId × Value → H) :
    ReturnsInHanded {} Tryd.checked os 5 .any (fun w args => (Rows.utfNextsSpec.pre enc Tryd.prog Tryd.f5 [] false w args ∧ laidMetH Tryd.prog laidL w) ∧ sizedMet enc Tryd.prog Tryd.f5 (OpenSpec.ofChange Rows.utfNextsSpec) false w args) (Rows.utfNextsSpec.post enc Tryd.prog Tryd.f5 false true false false) := by
  refine returnsInHanded_of_change_and (C := Tryd.checked) (X := fun w _ => laidMetH Tryd.prog laidL w) (fun _ _ _ hh h => h.of_heap hh) own started (by kernel_rfl) Tryd.func5
    (ChangeSpec.witness_shaped (enc := enc) (C := Tryd.checked) (os := os) (X := fun w _ => laidMetH Tryd.prog laidL w) false (World.doorLaid Tryd.prog 400 os) #[.slice none 0 0, .int .i64 0] 8 rfl (World.shaped_of_RefB (by kernel_rfl) (by kernel_rfl)) (by kernel_rfl) (by kernel_rfl) (by kernel_rfl) (door_met os _)) ?_
  intro W base args ds gs before hval0 hW _ _ hL _
  have hGl := gl_of_laid hL
  have hval : ∀ (j : Nat) t v, Tryd.f5.params[j]? = some t → args[j]? = some v → Value.okWide Tryd.prog W .any base t v := hval0
  have hW' := hW
  obtain ⟨p, q, hA0, hV, rfl, hfz, hnd⟩ := hW
  have hA : DataW.TrodAll enc Tryd.prog W 0 (fun _ => true) true Tryd.f5.params.toList args.toList ds p := hA0
  rw [Tryd.params5] at hA hval
  obtain ⟨v0, vs0, d0, ds0, p0, q0, hargs, rfl, rfl, h0, r0⟩ := trodAll_cons hA
  obtain ⟨v1, vs1, d1, ds1, p1, q1, rfl, rfl, rfl, h1, r1⟩ := trodAll_cons r0
  obtain ⟨rfl, rfl, rfl⟩ := trodAll_nil r1
  obtain rfl : args = #[v0, v1] := by cases args; simp_all
  obtain ⟨rfl, rfl⟩ := trodVars_none hV
  have k0 := h0
  have lt0 := trod_lt' k0
  obtain ⟨a0, n0, c0, l0, rfl, w0⟩ := arg_bytes Tryd.underlying24 Tryd.underlying5 (by kernel_rfl) (hval 0 24 v0 rfl rfl) h0
  obtain ⟨a1, rfl, rfl, rfl, w1⟩ := open_int Tryd.underlying3 (hval 1 3 v1 rfl rfl) h1
  clear hA0 hval0
  refine (walk a0 n0 c0 l0 a1 W w0 w1 hGl).mono fun e W' ⟨he, bel⟩ => ?_
  subst he
  exact ⟨_, rfl, _, _, _, [], _, [], hW', trodAll_mk1 (shut_bool Tryd.underlying4 _), (trodAll_cons_mk (Below.trod laidOut (by kernel_rfl) (of_decide_eq_true (by kernel_rfl)) k0 bel lt0) (trodAll_cons_mk (shut_int Tryd.underlying3 w1) trodAll_mk0)), rfl, bel.frame _, fun h => by cases h⟩

theorem over : Rows.utfNextsRow.holds Tryd.pinned (OpenSpec.ofChange Rows.utfNextsSpec) :=
  OpenClaim.holds_of_wide 5 Tryd.f5 rfl rfl rfl rfl rfl rfl rfl ⟨rfl, rfl, rfl, rfl, rfl⟩ rfl rfl rfl rfl rfl (by kernel_rfl) Tryd.func5 (by kernel_rfl)
    (of_decide_eq_true (by kernel_rfl)) (by unfold Func.isWrapper; first | (rw [if_pos (by decide +kernel)]; kernel_rfl) | (rw [if_neg (by decide +kernel)]; exact ⟨rfl, rfl⟩))
    (fun os started H enc _ => lifted os started H enc)

/-- the tied card, closed by the builder -/
theorem proved : Rows.UtfNextsCardSaid :=
  Claim7.holds_tied_plain_at .later [] [.data] true (true, "5db38756cb098dae97c1566c1026846fa7771e753dcd2c8b6f1b86bf2868e610") false
    over (fun _ h => by cases h) (by kernel_rfl) (fun _ h => by cases h) utfNexts_row_tie rfl ⟨rfl, rfl⟩ (by kernel_rfl) rfl
    (fun f fn hf hfn => by
      obtain rfl : f = 5 := Option.some.inj ((show Tryd.prog.funcNamed "davenport/davenportlaw01.UtfNexts" = some 5 by kernel_rfl).symm.trans hf) |>.symm
      obtain rfl : fn = Tryd.f5 := (Option.some.inj (Tryd.func5.symm.trans hfn)).symm
      exact ⟨by kernel_rfl, fun j t ht => by
        rw [Tryd.params5] at ht
        rcases j with _ | j
        · obtain rfl : 24 = t := by simpa using ht
          exact (show Tryd.prog.wantsStandIn 24 = false by kernel_rfl)
        rcases j with _ | j
        · obtain rfl : 3 = t := by simpa using ht
          exact (show Tryd.prog.wantsStandIn 3 = false by kernel_rfl)
        · simp at ht⟩)
    (by kernel_rfl)
end Go.Proofs.YtheoadempenpaaaDoor.LawUtfNexts
