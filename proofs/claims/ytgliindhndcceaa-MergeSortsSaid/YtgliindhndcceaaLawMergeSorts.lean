/- Proved: davenportlaw15.MergeSorts returns true for every input: Sort returns the list of the last edits of any edits, or the documented error. -/
import Derived.Test.YtgliindhndcceaaRows
import Derived.Test.YtgliindhndcceaaMgOpen
import Derived.Test.YtgliindhndcceaaMgFew
import Derived.Test.YtgliindhndcceaaMgRight
import Derived.Test.YtgliindhndcceaaMgWith
import Derived.Test.YtgliindhndcceaaMgWakes
namespace Go.Proofs.Ytgliindhndcceaa.LawMergeSorts
open Go.ChangeShapes Go.WideShapes Go.ChangeAt Go.RowKit

set_option maxRecDepth 100000 in
set_option maxHeartbeats 8000000 in
theorem walk (A : Option Addr) (n c : Nat) (l : List Ed) (w : World) (hA : Row w w.heap.size A n c l) :
    Calls Try.prog 4 #[.slice A n c] w fun e w' => e = .returned (.bool true) ∧ Below w.heap.size w w' := by
  have HA := hide hA
  clear hA
  go_enter Try.func4, Try.ntmps4
  go_wp2_with fail
  refine Calls.mono (wakes_any _) ?_
  rintro e w1 ⟨rfl, hb1⟩
  have HB1 := hide hb1
  clear hb1
  go_wp2_with fail
  refine Calls.mono (few_any A n c 600 _ l _ (HA.out.on HB1.out) rfl (by omega)) ?_
  rintro e w2 ⟨A', c', es, rfl, hown, hok, hnr, hb2⟩
  have HNR := hide hnr
  have HR := hide (Row.of_few hown hok)
  have HB2 := hide (below_then HB1.out hb2)
  have hN := (cut_min (n := n) (N := if 600 < n then 600 else n) (M := 600) rfl).2.1
  clear hown hok hb2 HB1 hnr
  generalize (if 600 < n then 600 else n) = N at *
  go_wp2_with fail
  have HS := hide (sort_any A' N c' es _ HR.out (by omega))
  have HSO := hide (HR.out.srt_ok)
  have HWR := hide (rsort_any A' N c' es)
  have HLE := hide (srt_len es)
  obtain ⟨T, hT⟩ : ∃ T, T = srt es := ⟨_, rfl⟩
  rw [← hT] at HS HSO HWR HLE
  clear hT
  cases hall : es.all Ed.may with
  | false =>
    rw [hall] at HS
    have HALL := hide hall
    clear hall
    refine Calls.mono HS.out ?_
    rintro e w3 hm
    obtain ⟨rfl, hb3⟩ := hm.no
    have HR3 := hide (HR.out.on hb3)
    have HB3 := hide (below_then HB2.out hb3)
    clear hm hb3 HR HB2 HS
    go_wp2_with fail
    refine Calls.mono (all_any A' N c' es _ HR3.out) ?_
    rintro e w4 ⟨rfl, hb4⟩
    have HB4 := hide (below_then HB3.out hb4)
    rw [HALL.out]
    clear hb4
    go_wp2_with fail
    go_ret
    exact ⟨rfl, HB4.out⟩
  | true =>
    rw [hall] at HS
    have HALL := hide hall
    clear hall
    obtain ⟨m, hm⟩ : ∃ m, m = T.length := ⟨_, rfl⟩
    by_cases hl : m ≤ 512
    · refine Calls.mono HS.out ?_
      rintro e w3 hM
      obtain ⟨A3, c3, rfl, hr3, hb3⟩ := hM.row (by omega) HSO.out
      rw [← hm] at hr3 HWR ⊢
      have HG3 := hide hr3
      have HR3 := hide (HR.out.on hb3)
      have HB3 := hide (below_then HB2.out hb3)
      clear hM hb3 HR HB2 HS hr3 hm
      go_wp2_with fail
      refine Calls.mono (all_any A' N c' es _ HR3.out) ?_
      rintro e w4 ⟨rfl, hb4⟩
      have HB4 := hide (below_then HB3.out hb4)
      have HR4 := hide (HR3.out.on hb4)
      have HG4 := hide (HG3.out.on hb4)
      rw [HALL.out]
      clear hb4 HR3 HG3 HB3
      go_wp2_with fail
      refine Calls.mono (HWR.out _ HR4.out (by omega)) ?_
      rintro e w5 ⟨A5, c5, rfl, hr5, hb5⟩
      have HB5 := hide (below_then HB4.out hb5)
      have HR5 := hide (HR4.out.on hb5)
      have HG5 := hide (HG4.out.on hb5)
      have HW5 := hide hr5
      clear hb5 HR4 HG4 HB4 hr5
      go_wp2_with fail
      refine Calls.mono (same_any A3 A5 m c3 m c5 T T _ HG5.out HW5.out) ?_
      rintro e w6 ⟨rfl, hb6⟩
      rw [same_refl]
      have HB6 := hide (below_then HB5.out hb6)
      have HR6 := hide (HR5.out.on hb6)
      clear hb6 HR5 HB5 HG5 HW5
      go_wp2_with fail
      refine Calls.mono (few_any A n c 600 _ l _ (HA.out.on HB6.out) rfl (by omega)) ?_
      rintro e w7 ⟨A7, c7, es7, rfl, hown7, hok7, hnr7, hb7⟩
      have HR7 := hide (Row.of_few hown7 hok7)
      have HSM := hide (nrms_same (HNR.out.trans hnr7.symm))
      have HB7 := hide (below_then HB6.out hb7)
      have HRR := hide (HR6.out.on hb7)
      clear hown7 hok7 hb7 hnr7 HB6 HR6
      generalize (if 600 < n then 600 else n) = N7 at *
      go_wp2_with fail
      refine Calls.mono (same_any A' A7 N c' N7 c7 es es7 _ HRR.out HR7.out) ?_
      rintro e w8 ⟨rfl, hb8⟩
      rw [HSM.out]
      have HB8 := hide (below_then HB7.out hb8)
      clear hb8
      go_wp2_with fail
      go_ret
      exact ⟨rfl, HB8.out⟩
    · refine Calls.mono HS.out ?_
      rintro e w3 hM
      obtain ⟨rfl, hb3⟩ := hM.long (by omega)
      rw [← hm] at HWR HLE
      have hLE : m ≤ N := by have := HLE.out; have := HR.out.len; omega
      have HR3 := hide (HR.out.on hb3)
      have HB3 := hide (below_then HB2.out hb3)
      clear hM hb3 HR HB2 HS hm
      go_wp2_with fail
      refine Calls.mono (all_any A' N c' es _ HR3.out) ?_
      rintro e w4 ⟨rfl, hb4⟩
      have HB4 := hide (below_then HB3.out hb4)
      have HR4 := hide (HR3.out.on hb4)
      rw [HALL.out]
      clear hb4 HR3 HB3
      go_wp2_with fail
      refine Calls.mono (HWR.out _ HR4.out (by omega)) ?_
      rintro e w5 ⟨A5, c5, rfl, hr5, hb5⟩
      have HB5 := hide (below_then HB4.out hb5)
      clear hb5 HR4 HB4 hr5
      go_wp2_with fail
      go_ret
      exact ⟨rfl, HB5.out⟩
/-! ### the row's step, written by program after the guide's skeleton -/
theorem own : ownKnob Try.prog.godebug = none := by kernel_rfl
theorem laidOut : laidOutB Try.prog = true := by kernel_rfl
set_option maxRecDepth 100000 in
theorem lifted (os : Os) (started : os.Started) (H : Type) (enc : TypeId × Value → H) :
    ReturnsInHanded {} Try.checked os 4 .any (Rows.mergeSortsSpec.pre6 enc Try.prog Try.f4 Rows.mergeSortsRow.domain false) (Rows.mergeSortsSpec.post enc Try.prog Try.f4 false true false false) := by
  refine returnsInHanded_of_change (C := Try.checked) own started (by kernel_rfl) Try.func4
    (ChangeSpec.witness6 (enc := enc) (C := Try.checked) false ⟨#[], #[.slice none 0 0], []⟩ 8 (by kernel_rfl) (by kernel_rfl) (by kernel_rfl) (by kernel_rfl)) ?_
  intro W base args ds gs before hval0 hW hcnd _
  have hval : ∀ (j : Nat) t v, Try.f4.params[j]? = some t → args[j]? = some v → Value.okWide Try.prog W .any base t v := hval0
  have hW' := hW
  obtain ⟨p, q, hA0, hV, rfl, hfz, hnd⟩ := hW
  have hA : DataW.TrodAll enc Try.prog W 0 (fun _ => true) true Try.f4.params.toList args.toList ds p := hA0
  rw [Try.params4] at hA hval
  obtain ⟨v0, vs0, d0, ds0, p0, q0, hargs, rfl, rfl, h0, r0⟩ := trodAll_cons hA
  obtain ⟨rfl, rfl, rfl⟩ := trodAll_nil r0
  obtain rfl : args = #[v0] := by cases args; simp_all
  obtain ⟨rfl, rfl⟩ := trodVars_none hV
  have k0 := h0
  have lt0 := trod_lt' k0
  obtain ⟨a0, n0, c0, l0, rfl, w0⟩ := arg_edits rfl (hval 0 22 v0 rfl rfl) h0
  clear hA0 hval0
  refine (walk a0 n0 c0 l0 W w0).mono fun e W' ⟨he, bel⟩ => ?_
  subst he
  exact ⟨_, rfl, _, _, _, [], _, [], hW', trodAll_mk1 (shut_bool Try.underlying4 _), (trodAll_cons_mk (Below.trod laidOut (by kernel_rfl) (of_decide_eq_true (by kernel_rfl)) k0 bel lt0) trodAll_mk0), rfl, bel.frame _, fun h => by cases h⟩

theorem over : Rows.mergeSortsRow.holds Try.pinned (OpenSpec.ofChange Rows.mergeSortsSpec) :=
  OpenClaim.holds_of_wide 4 Try.f4 rfl rfl rfl rfl rfl rfl rfl ⟨rfl, rfl, rfl, rfl, rfl⟩ rfl rfl rfl rfl rfl (by kernel_rfl) Try.func4 (by kernel_rfl)
    (of_decide_eq_true (by kernel_rfl)) (by unfold Func.isWrapper; first | (rw [if_pos (by decide +kernel)]; kernel_rfl) | (rw [if_neg (by decide +kernel)]; exact ⟨rfl, rfl⟩))
    (fun os started H enc _ => lifted os started H enc)

theorem proved : Rows.MergeSortsSaid := over
end Go.Proofs.Ytgliindhndcceaa.LawMergeSorts
