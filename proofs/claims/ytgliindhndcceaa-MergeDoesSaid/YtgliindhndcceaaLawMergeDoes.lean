/- Proved: davenportlaw15.MergeDoes returns true for every input: Done applies any list of edits to any items, or returns ErrEdits. -/
import Derived.Test.YtgliindhndcceaaRows
import Derived.Test.YtgliindhndcceaaMgOpen
import Derived.Test.YtgliindhndcceaaMgLast
import Derived.Test.YtgliindhndcceaaMgRefDone
import Derived.Test.YtgliindhndcceaaMgRight
import Derived.Test.YtgliindhndcceaaMgRise
import Derived.Test.YtgliindhndcceaaMgSameI
import Derived.Test.YtgliindhndcceaaMgWakes
namespace Go.Proofs.Ytgliindhndcceaa.LawMergeDoes
open Go.ChangeShapes Go.WideShapes Go.ChangeAt Go.RowKit

set_option maxRecDepth 100000 in
set_option maxHeartbeats 8000000 in
theorem walk (A : Option Addr) (n c : Nat) (l : List Ed) (B : Option Addr) (m d : Nat) (k : List Ed) (w : World) (hA : Row w w.heap.size A n c l) (hB : Row w w.heap.size B m d k) :
    Calls Try.prog 6 #[.slice A n c, .slice B m d] w fun e w' => e = .returned (.bool true) ∧ Below w.heap.size w w' := by
  have HA := hide hA
  have HB := hide hB
  clear hA hB
  go_enter Try.func6, Try.ntmps6
  go_wp2_with fail
  refine Calls.mono (wakes_any _) ?_
  rintro e w1 ⟨rfl, hb1⟩
  have HB1 := hide hb1
  clear hb1
  go_wp2_with fail
  refine Calls.mono (few_any A n c 60 _ l _ (HA.out.on HB1.out) rfl (by omega)) ?_
  rintro e w2 ⟨A2, c2, es, rfl, hown, hok, hnr, hb2⟩
  have HNR := hide hnr
  have HR := hide (Row.of_few hown hok)
  have HB2 := hide (below_then HB1.out hb2)
  have hN := (cut_min (n := n) (N := if 60 < n then 60 else n) (M := 60) rfl).2.1
  have HKN := hide (few_kn hnr HR.out.ok)
  clear hown hok hb2 HB1 hnr
  generalize (if 60 < n then 60 else n) = N at *
  go_wp2_with fail
  refine Calls.mono (items_any A2 N c2 es _ HR.out (by omega)) ?_
  rintro e w3 ⟨A3, q, c3, rfl, hq, hi3, hb3⟩
  have HI := hide hi3
  have HB3 := hide (below_then HB2.out hb3)
  have HKI := hide (fun e (he : e ∈ es.filter Ed.put) => HKN.out e (List.mem_filter.1 he).1)
  obtain ⟨its, hits⟩ : ∃ its, its = es.filter Ed.put := ⟨_, rfl⟩
  rw [← hits] at HI HKI
  have HIT := hide hits
  have HC3 := hide (HB.out.on HB3.out)
  clear hits hi3 hb3 HB2 HR HKN
  go_wp2_with fail
  refine Calls.mono (few_any B m d 60 _ k _ HC3.out rfl (by omega)) ?_
  rintro e w4 ⟨A4, c4, ds, rfl, hown, hok, hnr, hb4⟩
  have HI4 := hide (HI.out.on hb4)
  have HR4 := hide (Row.of_few hown hok)
  have HB4 := hide (below_then HB3.out hb4)
  have hM := (cut_min (n := m) (N := if 60 < m then 60 else m) (M := 60) rfl).2.1
  clear hown hok hb4 HB3 hnr HI HC3
  generalize (if 60 < m then 60 else m) = M at *
  go_wp2_with fail
  refine Calls.mono (done_any A3 q c3 its A4 M c4 ds _ HI4.out HR4.out HKI.out (by omega) (by omega)) ?_
  intro e w5 hD
  by_cases h : right ds = true ∧ riseI its = true
  · obtain ⟨h1, h2⟩ := h
    obtain ⟨A5, r, c5, T, rfl, hT, -, hi5, hb5⟩ := hD.go h1 (riseI_up h2) HI4.out.ok HR4.out.ok
    have HT := hide (show doneR its ds = T by rw [hT, doneR_eq (riseI_up h2) (right_up h1)])
    have HG5 := hide hi5
    have HI5 := hide (HI4.out.on hb5)
    have HR5 := hide (HR4.out.on hb5)
    have HB5 := hide (below_then HB4.out hb5)
    have HD1 := hide h1
    have HD2 := hide h2
    clear hD hT h1 h2 hi5 hb5 HI4 HR4 HB4
    go_wp2_with fail
    refine Calls.mono (right_any A4 M c4 ds _ HR5.out) ?_
    rintro e w6 ⟨rfl, hb6⟩
    rw [HD1.out]
    have HG6 := hide (HG5.out.on hb6)
    have HI6 := hide (HI5.out.on hb6)
    have HR6 := hide (HR5.out.on hb6)
    have HB6 := hide (below_then HB5.out hb6)
    clear hb6 HG5 HI5 HR5 HB5
    go_wp2_with fail
    refine Calls.mono (rise_any A3 q c3 its _ HI6.out) ?_
    rintro e w7 ⟨rfl, hb7⟩
    rw [HD2.out]
    have HG7 := hide (HG6.out.on hb7)
    have HI7 := hide (HI6.out.on hb7)
    have HR7 := hide (HR6.out.on hb7)
    have HB7 := hide (below_then HB6.out hb7)
    clear hb7 HG6 HI6 HR6 HB6
    go_wp2_with fail
    refine Calls.mono (rdone_any A3 q c3 its A4 M c4 ds _ HI7.out HR7.out (by omega) (by omega)) ?_
    rintro e w8 ⟨A8, q8, c8, rfl, hr8, hb8⟩
    rw [HT.out] at hr8
    have HW8 := hide hr8
    have HG8 := hide (HG7.out.on hb8)
    have HI8 := hide (HI7.out.on hb8)
    have HB8 := hide (below_then HB7.out hb8)
    clear hb8 hr8 HG7 HI7 HR7 HB7
    go_wp2_with fail
    refine Calls.mono (sameI_any A5 A8 r c5 q8 c8 T T _ HG8.out HW8.out) ?_
    rintro e w9 ⟨rfl, hb9⟩
    rw [(sameI_iff T T).2 rfl]
    have HI9 := hide (HI8.out.on hb9)
    have HB9 := hide (below_then HB8.out hb9)
    clear hb9 HW8 HG8 HI8 HB8
    have HA9 := hide (HA.out.on HB9.out)
    go_wp2_with fail
    refine Calls.mono (few_any A n c 60 _ l _ HA9.out rfl (by omega)) ?_
    rintro e w10 ⟨A10, c10, es2, rfl, hown, hok, hnr, hb10⟩
    have HNR2 := hide (HNR.out.trans hnr.symm)
    have HI10 := hide (HI9.out.on hb10)
    have HR10 := hide (Row.of_few hown hok)
    have HB10 := hide (below_then HB9.out hb10)
    have hN2 := (cut_min (n := n) (N := if 60 < n then 60 else n) (M := 60) rfl).2.1
    clear hown hok hnr hb10 HI9 HB9 HA9
    generalize (if 60 < n then 60 else n) = N2 at *
    go_wp2_with fail
    refine Calls.mono (items_any A10 N2 c10 es2 _ HR10.out (by omega)) ?_
    rintro e w11 ⟨A11, q11, c11, rfl, hq11, hi11, hb11⟩
    have HJ11 := hide hi11
    have HI11 := hide (HI10.out.on hb11)
    have HB11 := hide (below_then HB10.out hb11)
    have HSM := hide (show sameI its (es2.filter Ed.put) = true from nrms_sameI (by rw [HIT.out, filter_nrm, filter_nrm, HNR2.out]))
    clear hi11 hb11 HI10 HB10 HR10
    go_wp2_with fail
    refine Calls.mono (sameI_any A3 A11 q c3 q11 c11 its _ _ HI11.out HJ11.out) ?_
    rintro e w12 ⟨rfl, hb12⟩
    rw [HSM.out]
    have HB12 := hide (below_then HB11.out hb12)
    clear hb12 HI11 HJ11 HB11
    go_wp2_with fail
    go_ret
    exact ⟨rfl, HB12.out⟩
  · obtain ⟨rfl, hb5⟩ := hD.no h
    have HI5 := hide (HI4.out.on hb5)
    have HR5 := hide (HR4.out.on hb5)
    have HB5 := hide (below_then HB4.out hb5)
    have HNO := hide h
    clear hD h hb5 HI4 HR4 HB4
    go_wp2_with fail
    refine Calls.mono (right_any A4 M c4 ds _ HR5.out) ?_
    rintro e w6 ⟨rfl, hb6⟩
    have HI6 := hide (HI5.out.on hb6)
    have HB6 := hide (below_then HB5.out hb6)
    clear hb6 HI5 HR5 HB5
    cases hr : right ds with
    | false =>
      clear hr
      go_wp2_with fail
      go_ret
      exact ⟨rfl, HB6.out⟩
    | true =>
      have HRI := hide (show riseI its = false by
        cases hx : riseI its with
        | false => rfl
        | true => exact absurd ⟨hr, hx⟩ HNO.out)
      clear hr
      go_wp2_with fail
      refine Calls.mono (rise_any A3 q c3 its _ HI6.out) ?_
      rintro e w7 ⟨rfl, hb7⟩
      rw [HRI.out]
      have HB7 := hide (below_then HB6.out hb7)
      clear hb7 HI6 HB6
      go_wp2_with fail
      go_ret
      exact ⟨rfl, HB7.out⟩
/-! ### the row's step, written by program after the guide's skeleton -/
theorem own : ownKnob Try.prog.godebug = none := by kernel_rfl
theorem laidOut : laidOutB Try.prog = true := by kernel_rfl
set_option maxRecDepth 100000 in
theorem lifted (os : Os) (started : os.Started) (H : Type) (enc : TypeId × Value → H) :
    ReturnsInHanded {} Try.checked os 6 .any (Rows.mergeDoesSpec.pre6 enc Try.prog Try.f6 Rows.mergeDoesRow.domain false) (Rows.mergeDoesSpec.post enc Try.prog Try.f6 false true false false) := by
  refine returnsInHanded_of_change (C := Try.checked) own started (by kernel_rfl) Try.func6
    (ChangeSpec.witness6 (enc := enc) (C := Try.checked) false ⟨#[], #[.slice none 0 0, .slice none 0 0], []⟩ 8 (by kernel_rfl) (by kernel_rfl) (by kernel_rfl) (by kernel_rfl)) ?_
  intro W base args ds gs before hval0 hW hcnd _
  have hval : ∀ (j : Nat) t v, Try.f6.params[j]? = some t → args[j]? = some v → Value.okWide Try.prog W .any base t v := hval0
  have hW' := hW
  obtain ⟨p, q, hA0, hV, rfl, hfz, hnd⟩ := hW
  have hA : DataW.TrodAll enc Try.prog W 0 (fun _ => true) true Try.f6.params.toList args.toList ds p := hA0
  rw [Try.params6] at hA hval
  obtain ⟨v0, vs0, d0, ds0, p0, q0, hargs, rfl, rfl, h0, r0⟩ := trodAll_cons hA
  obtain ⟨v1, vs1, d1, ds1, p1, q1, rfl, rfl, rfl, h1, r1⟩ := trodAll_cons r0
  obtain ⟨rfl, rfl, rfl⟩ := trodAll_nil r1
  obtain rfl : args = #[v0, v1] := by cases args; simp_all
  obtain ⟨rfl, rfl⟩ := trodVars_none hV
  have k0 := h0
  have lt0 := trod_lt' k0
  obtain ⟨a0, n0, c0, l0, rfl, w0⟩ := arg_edits rfl (hval 0 22 v0 rfl rfl) h0
  have k1 := h1
  have lt1 := trod_lt' k1
  obtain ⟨a1, n1, c1, l1, rfl, w1⟩ := arg_edits rfl (hval 1 22 v1 rfl rfl) h1
  clear hA0 hval0
  refine (walk a0 n0 c0 l0 a1 n1 c1 l1 W w0 w1).mono fun e W' ⟨he, bel⟩ => ?_
  subst he
  exact ⟨_, rfl, _, _, _, [], _, [], hW', trodAll_mk1 (shut_bool Try.underlying4 _), (trodAll_cons_mk (Below.trod laidOut (by kernel_rfl) (of_decide_eq_true (by kernel_rfl)) k0 bel lt0) (trodAll_cons_mk (Below.trod laidOut (by kernel_rfl) (of_decide_eq_true (by kernel_rfl)) k1 bel lt1) trodAll_mk0)), rfl, bel.frame _, fun h => by cases h⟩

theorem over : Rows.mergeDoesRow.holds Try.pinned (OpenSpec.ofChange Rows.mergeDoesSpec) :=
  OpenClaim.holds_of_wide 6 Try.f6 rfl rfl rfl rfl rfl rfl rfl ⟨rfl, rfl, rfl, rfl, rfl⟩ rfl rfl rfl rfl rfl (by kernel_rfl) Try.func6 (by kernel_rfl)
    (of_decide_eq_true (by kernel_rfl)) (by unfold Func.isWrapper; first | (rw [if_pos (by decide +kernel)]; kernel_rfl) | (rw [if_neg (by decide +kernel)]; exact ⟨rfl, rfl⟩))
    (fun os started H enc _ => lifted os started H enc)

theorem proved : Rows.MergeDoesSaid := over
end Go.Proofs.Ytgliindhndcceaa.LawMergeDoes
