/- Proved: davenportlaw02.QuoteLeast returns true for every input: no literal of a string is shorter than the canonical one, which is read as that string. The card ties the package variable that the walk reads to the program's text. -/
import Derived.Test.YtbnibiealnogdaaDoorRows
import Derived.Test.YtbnibiealnogdaaDoorCards
import Derived.Test.YtbnibiealnogdaaDoorTie
import Derived.Test.YtbnibiealnogdaaDoorOpen
import Derived.Test.YtbnibiealnogdaaDoorFew
import Derived.Test.YtbnibiealnogdaaDoorUtfLaid
import Derived.Test.YtbnibiealnogdaaDoorQuoWakes
import Derived.Test.YtbnibiealnogdaaDoorQuoReadMath
import Derived.SevenTiedAt
namespace Go.Proofs.YtbnibiealnogdaaDoor.LawQuoteLeast
open Go.ChangeShapes Go.WideShapes Go.ChangeAt Go.RowKit
open Go.ChangeMaps (open_string shut_string)

set_option maxRecDepth 100000 in
set_option maxHeartbeats 8000000 in
theorem walk (A : Option Addr) (n c : Nat) (l : List UInt8) (w : World) (hA : Arg w A n c l) (hg : Gl w) :
    Calls Tryd.prog 5 #[.slice A n c] w fun e w' => e = .returned (.bool true) ∧ Below w.heap.size w w' := by
  obtain ⟨hr, hnc, hc⟩ := hA
  have HR := hide hr
  have HG := hide hg
  have HC := hide (And.intro hnc hc)
  clear hr hnc hc hg
  go_enter Tryd.func5, Tryd.ntmps5
  go_wp2_with fail
  refine Calls.mono (wakes_any _ HG.out) ?_
  rintro e w1 ⟨rfl, hb1⟩
  have HB1 := hide hb1
  clear hb1
  go_wp2_with fail
  refine Calls.mono (few_rb A n c l _ (HR.out.on HB1.out) HC.out.1 HC.out.2) ?_
  rintro e w2 ⟨A2, n2, c2, rfl, hr2, hn2, hc2, hm2, hb2⟩
  generalize l.take FEW = L at *
  have HB2 := hide (below_then HB1.out hb2)
  have HR2 := hide hr2
  have HN2 := hide (And.intro hn2 (And.intro hc2 hm2))
  have HLN := hide hr2.len
  clear hb2 hr2 hn2 hc2 hm2 HB1
  go_wp2_with fail
  refine Calls.mono (Read_any A2 n2 c2 L 0 _ HR2.out HN2.out.2.1 (by have := HN2.out.1; omega) (HG.out.on HB2.out)) ?_
  rintro e w3 ⟨rfl, hb3⟩
  have HB3 := hide (below_then HB2.out hb3)
  clear hb3 HB2 HR2
  rcases read_cases L with ⟨k, h0, h1, hk, hx⟩ | ⟨q, e, hq, he, hx⟩
  · rw [hx]
    obtain ⟨hcp, hle, hkl⟩ := read_least h0 h1 hk
    rw [HLN.out] at hkl
    obtain ⟨q, hqk⟩ : ∃ q, q = k + 2 := ⟨_, rfl⟩
    rw [← hqk] at hle hkl ⊢
    obtain ⟨ps, hps⟩ : ∃ ps, ps = (Quo.qscan (L.drop 1)).1 := ⟨_, rfl⟩
    rw [← hps] at hcp hle ⊢
    have HPV := hide (printV_text hcp)
    have hel := (encs_le ps hcp)
    have HPL := hide (show (Utf.encs ps).length ≤ 10000 by
      have h1 := (Quo.qscan_all (L.drop 1)).2.2.2.1
      rw [← hps, hk] at h1
      have h2 := HN2.out.1
      omega)
    have hRB := read_back [] [] hcp
    rw [List.append_nil, List.nil_append, show ((([] : List UInt8).length : Nat) : Int) = 0 from rfl, show ([] : List UInt8).length = 0 from rfl, Nat.zero_add] at hRB
    have HRB := hide hRB
    have HCP := hide hcp
    obtain ⟨P, hP⟩ : ∃ P, P = quoted ps := ⟨_, rfl⟩
    rw [← hP] at HPV HRB hle
    have HLE := hide (show P.length ≤ q ∧ q ≤ 400 by have := HN2.out.1; omega)
    have f1 : (P.length : Int) ≤ (q : Int) := by omega
    clear h0 h1 hk hx hqk hle hkl hcp hps hel hRB hP
    unfold readV
    dsimp only
    go_wp2_with fail
    refine Calls.mono (Print_any (Utf.encs ps) _ HPL.out (HG.out.on HB3.out)) ?_
    rintro e w4 ⟨rfl, hb4⟩
    rw [HPV.out]
    have HB4 := hide (below_then HB3.out hb4)
    clear hb4
    obtain ⟨cB, w5, hconv, hrb5, hb5, hcB, hmB⟩ := conv_bytes (P := Tryd.prog) w4 9 29 5 (str P) P rfl P.length rfl (by have := HLE.out; omega) (by kernel_rfl) (by kernel_rfl) (by kernel_rfl)
    have HR5 := hide hrb5
    have HB5 := hide (below_then HB4.out hb5)
    have hsz := str_size P
    have HEN := hide (And.intro hcB hmB)
    have HPS := hide (rfl : str P = str P)
    obtain ⟨S, hS⟩ : ∃ S, S = str P := ⟨_, rfl⟩
    rw [← hS] at hconv hsz ⊢
    obtain ⟨T, hT⟩ : ∃ T, T = str (Utf.encs ps) := ⟨_, rfl⟩
    have HTT := hide hT
    rw [← hT]
    have hTT : (T.toList == T.toList) = true := by simp
    have hpp : ((P.length : Int) == (P.length : Int)) = true := by simp
    clear hb5 hrb5 hcB hmB hS hT
    obtain ⟨m, hm⟩ : ∃ m, m = P.length := ⟨_, rfl⟩
    rw [← hm] at HR5 HRB HLE HEN hconv hsz f1 hpp
    have HM := hide hm
    clear hm
    go_wp2_with fail
    refine Calls.mono (Read_any _ m cB P 0 _ HR5.out HEN.out.1 (by have := HLE.out; omega) (HG.out.on HB5.out)) ?_
    rintro e w6 ⟨rfl, hb6⟩
    rw [HRB.out]
    have HB6 := hide (below_then HB5.out hb6)
    clear hb6 hconv
    unfold readV
    dsimp only
    rw [← HTT.out]
    go_wp2_with fail
    go_ret
    exact ⟨by first | rfl | simp, HB6.out⟩
  · rw [hx, readV_none]
    have hne : (e != 0) = true := by rw [bne_iff_ne]; exact he
    have f1 : (q : Int) ≤ (n2 : Int) := by rw [HLN.out] at hq; omega
    clear he hx hq
    go_wp2_with fail
    go_ret
    exact ⟨by first | rfl | simp, HB3.out⟩
/-! ### the row's step, written by program after the guide's skeleton -/
theorem own : ownKnob Tryd.prog.godebug = none := by kernel_rfl
theorem laidOut : laidOutB Tryd.prog = true := by kernel_rfl
set_option maxRecDepth 100000 in
theorem lifted (os : Os) (started : os.Started) (H : Type) (enc : TypeId × Value → H) :
    ReturnsInHanded {} Tryd.checked os 5 .any (fun w args => (Rows.quoteLeastSpec.pre enc Tryd.prog Tryd.f5 [] false w args ∧ laidMetH Tryd.prog laidL w) ∧ sizedMet enc Tryd.prog Tryd.f5 (OpenSpec.ofChange Rows.quoteLeastSpec) false w args) (Rows.quoteLeastSpec.post enc Tryd.prog Tryd.f5 false true false false) := by
  refine returnsInHanded_of_change_and (C := Tryd.checked) (X := fun w _ => laidMetH Tryd.prog laidL w) (fun _ _ _ hh h => h.of_heap hh) own started (by kernel_rfl) Tryd.func5
    (ChangeSpec.witness_shaped (enc := enc) (C := Tryd.checked) (os := os) (X := fun w _ => laidMetH Tryd.prog laidL w) false (World.doorLaid Tryd.prog 400 os) #[.slice none 0 0] 8 rfl (World.shaped_of_RefB (by kernel_rfl) (by kernel_rfl)) (by kernel_rfl) (by kernel_rfl) (by kernel_rfl) (door_met os _)) ?_
  intro W base args ds gs before hval0 hW _ _ hL _
  have hGl := gl_of_laid hL
  have hval : ∀ (j : Nat) t v, Tryd.f5.params[j]? = some t → args[j]? = some v → Value.okWide Tryd.prog W .any base t v := hval0
  have hW' := hW
  obtain ⟨p, q, hA0, hV, rfl, hfz, hnd⟩ := hW
  have hA : DataW.TrodAll enc Tryd.prog W 0 (fun _ => true) true Tryd.f5.params.toList args.toList ds p := hA0
  rw [Tryd.params5] at hA hval
  obtain ⟨v0, vs0, d0, ds0, p0, q0, hargs, rfl, rfl, h0, r0⟩ := trodAll_cons hA
  obtain ⟨rfl, rfl, rfl⟩ := trodAll_nil r0
  obtain rfl : args = #[v0] := by cases args; simp_all
  obtain ⟨rfl, rfl⟩ := trodVars_none hV
  have k0 := h0
  have lt0 := trod_lt' k0
  obtain ⟨a0, n0, c0, l0, rfl, w0⟩ := arg_bytes Tryd.underlying29 Tryd.underlying5 (by kernel_rfl) (hval 0 29 v0 rfl rfl) h0
  clear hA0 hval0
  refine (walk a0 n0 c0 l0 W w0 hGl).mono fun e W' ⟨he, bel⟩ => ?_
  subst he
  exact ⟨_, rfl, _, _, _, [], _, [], hW', trodAll_mk1 (shut_bool Tryd.underlying4 _), (trodAll_cons_mk (Below.trod laidOut (by kernel_rfl) (of_decide_eq_true (by kernel_rfl)) k0 bel lt0) trodAll_mk0), rfl, bel.frame _, fun h => by cases h⟩

theorem over : Rows.quoteLeastRow.holds Tryd.pinned (OpenSpec.ofChange Rows.quoteLeastSpec) :=
  OpenClaim.holds_of_wide 5 Tryd.f5 rfl rfl rfl rfl rfl rfl rfl ⟨rfl, rfl, rfl, rfl, rfl⟩ rfl rfl rfl rfl rfl (by kernel_rfl) Tryd.func5 (by kernel_rfl)
    (of_decide_eq_true (by kernel_rfl)) (by unfold Func.isWrapper; first | (rw [if_pos (by decide +kernel)]; kernel_rfl) | (rw [if_neg (by decide +kernel)]; exact ⟨rfl, rfl⟩))
    (fun os started H enc _ => lifted os started H enc)

/-- the tied card, closed by the builder -/
theorem proved : Rows.QuoteLeastCardSaid :=
  Claim7.holds_tied_plain_at .later [] [.data] true (true, "29c9f16f4bc01fd59de145b946254e99b4688103a1f01d14b61d294ae7025dbc") false
    over (fun _ h => by cases h) (by kernel_rfl) (fun _ h => by cases h) quoteLeast_row_tie rfl ⟨rfl, rfl⟩ (by kernel_rfl) rfl
    (fun f fn hf hfn => by
      obtain rfl : f = 5 := Option.some.inj ((show Tryd.prog.funcNamed "davenport/davenportlaw02.QuoteLeast" = some 5 by kernel_rfl).symm.trans hf) |>.symm
      obtain rfl : fn = Tryd.f5 := (Option.some.inj (Tryd.func5.symm.trans hfn)).symm
      exact ⟨by kernel_rfl, fun j t ht => by
        rw [Tryd.params5] at ht
        rcases j with _ | j
        · obtain rfl : 29 = t := by simpa using ht
          exact (show Tryd.prog.wantsStandIn 29 = false by kernel_rfl)
        · simp at ht⟩)
    (by kernel_rfl)
end Go.Proofs.YtbnibiealnogdaaDoor.LawQuoteLeast
