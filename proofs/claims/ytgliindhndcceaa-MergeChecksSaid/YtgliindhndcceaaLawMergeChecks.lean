/- Proved: davenportlaw15.MergeChecks returns true for every input: Check accepts exactly the valid lists, and Less compares any two keys. -/
import Derived.Test.YtgliindhndcceaaRows
import Derived.Test.YtgliindhndcceaaMgOpen
import Derived.Test.YtgliindhndcceaaMgFew
import Derived.Test.YtgliindhndcceaaMgRight
import Derived.Test.YtgliindhndcceaaMgWakes
namespace Go.Proofs.Ytgliindhndcceaa.LawMergeChecks
open Go.ChangeShapes Go.WideShapes Go.ChangeAt Go.RowKit

set_option maxRecDepth 100000 in
set_option maxHeartbeats 8000000 in
theorem walk (A : Option Addr) (n c : Nat) (l : List Ed) (A1 : Option Addr) (n1 c1 : Nat) (a : List UInt8) (A2 : Option Addr) (n2 c2 : Nat) (b : List UInt8) (w : World) (hA : Row w w.heap.size A n c l) (h1 : Arg w A1 n1 c1 a) (h2 : Arg w A2 n2 c2 b) :
    Calls Try.prog 3 #[.slice A n c, .slice A1 n1 c1, .slice A2 n2 c2] w fun e w' => e = .returned (.bool true) ∧ Below w.heap.size w w' := by
  have HA := hide hA
  have HK1 := hide h1
  have HK2 := hide h2
  clear hA h1 h2
  go_enter Try.func3, Try.ntmps3
  go_wp2_with fail
  refine Calls.mono (wakes_any _) ?_
  rintro e w1 ⟨rfl, hb1⟩
  have HB1 := hide hb1
  clear hb1
  go_wp2_with fail
  refine Calls.mono (few_any A n c 80 _ l _ (HA.out.on HB1.out) rfl (by omega)) ?_
  rintro e w2 ⟨A', c', es, rfl, hown, hok, _, hb2⟩
  have HR := hide (Row.of_few hown hok)
  have HB2 := hide (below_then HB1.out hb2)
  clear hown hok hb2 HB1
  generalize (if 80 < n then 80 else n) = N at *
  go_wp2_with fail
  refine Calls.mono (right_any A' N c' es _ HR.out) ?_
  rintro e w3 ⟨rfl, hb3⟩
  have HR3 := hide (HR.out.on hb3)
  have HB3 := hide (below_then HB2.out hb3)
  clear hb3 HR HB2
  have HLT := hide (Mg.lt_irrefl a)
  have hx : ∀ x : Bool, (x == x) = true := fun x => by simp
  have HK1b := hide (HK1.out.1.on HB3.out)
  have HK2b := hide (HK2.out.1.on HB3.out)
  have HCH := hide (check_any A' N c' es w3 HR3.out)
  obtain ⟨z, hz⟩ : ∃ z, rightE es = z := ⟨_, rfl⟩
  rw [hz] at HCH
  have HE := hide (show z = if right es = true then 0 else 250 from hz.symm)
  clear hz
  generalize right es = r at *
  cases r with
  | false =>
    obtain rfl : z = 250 := HE.out
    go_wp2_with fail
    refine Calls.mono HCH.out ?_
    rintro e w4 ⟨rfl, hb4⟩
    have HB4 := hide hb4
    clear hb4
    go_wp2_with fail
    refine Calls.mono (less_any A1 A2 n1 n2 c1 c2 a b _ (HK1b.out.on HB4.out) (HK2b.out.on HB4.out) (Nat.le_trans HK1.out.2.1 HK1.out.2.2)) ?_
    rintro e w5 ⟨rfl, rfl⟩
    go_wp2_with fail
    refine Calls.mono (ahead_any A1 A2 n1 n2 c1 c2 a b _ (HK1b.out.on HB4.out) (HK2b.out.on HB4.out)) ?_
    rintro e w6 ⟨rfl, rfl⟩
    generalize Mg.lt a b = x at *
    go_wp2_with fail
    refine Calls.mono (less_any A1 A1 n1 n1 c1 c1 a a _ (HK1b.out.on HB4.out) (HK1b.out.on HB4.out) (Nat.le_trans HK1.out.2.1 HK1.out.2.2)) ?_
    rintro e w7 ⟨rfl, rfl⟩
    rw [HLT.out]
    go_wp2_with fail
    go_ret
    exact ⟨rfl, below_then HB3.out HB4.out⟩
  | true =>
    obtain rfl : z = 0 := HE.out
    go_wp2_with fail
    refine Calls.mono HCH.out ?_
    rintro e w4 ⟨rfl, hb4⟩
    have HB4 := hide hb4
    clear hb4
    go_wp2_with fail
    refine Calls.mono (less_any A1 A2 n1 n2 c1 c2 a b _ (HK1b.out.on HB4.out) (HK2b.out.on HB4.out) (Nat.le_trans HK1.out.2.1 HK1.out.2.2)) ?_
    rintro e w5 ⟨rfl, rfl⟩
    go_wp2_with fail
    refine Calls.mono (ahead_any A1 A2 n1 n2 c1 c2 a b _ (HK1b.out.on HB4.out) (HK2b.out.on HB4.out)) ?_
    rintro e w6 ⟨rfl, rfl⟩
    generalize Mg.lt a b = x at *
    go_wp2_with fail
    refine Calls.mono (less_any A1 A1 n1 n1 c1 c1 a a _ (HK1b.out.on HB4.out) (HK1b.out.on HB4.out) (Nat.le_trans HK1.out.2.1 HK1.out.2.2)) ?_
    rintro e w7 ⟨rfl, rfl⟩
    rw [HLT.out]
    go_wp2_with fail
    go_ret
    exact ⟨rfl, below_then HB3.out HB4.out⟩
/-! ### the row's step, written by program after the guide's skeleton -/
theorem own : ownKnob Try.prog.godebug = none := by kernel_rfl
theorem laidOut : laidOutB Try.prog = true := by kernel_rfl
set_option maxRecDepth 100000 in
theorem lifted (os : Os) (started : os.Started) (H : Type) (enc : TypeId × Value → H) :
    ReturnsInHanded {} Try.checked os 3 .any (Rows.mergeChecksSpec.pre6 enc Try.prog Try.f3 Rows.mergeChecksRow.domain false) (Rows.mergeChecksSpec.post enc Try.prog Try.f3 false true false false) := by
  refine returnsInHanded_of_change (C := Try.checked) own started (by kernel_rfl) Try.func3
    (ChangeSpec.witness6 (enc := enc) (C := Try.checked) false ⟨#[], #[.slice none 0 0, .slice none 0 0, .slice none 0 0], []⟩ 8 (by kernel_rfl) (by kernel_rfl) (by kernel_rfl) (by kernel_rfl)) ?_
  intro W base args ds gs before hval0 hW hcnd _
  have hval : ∀ (j : Nat) t v, Try.f3.params[j]? = some t → args[j]? = some v → Value.okWide Try.prog W .any base t v := hval0
  have hW' := hW
  obtain ⟨p, q, hA0, hV, rfl, hfz, hnd⟩ := hW
  have hA : DataW.TrodAll enc Try.prog W 0 (fun _ => true) true Try.f3.params.toList args.toList ds p := hA0
  rw [Try.params3] at hA hval
  obtain ⟨v0, vs0, d0, ds0, p0, q0, hargs, rfl, rfl, h0, r0⟩ := trodAll_cons hA
  obtain ⟨v1, vs1, d1, ds1, p1, q1, rfl, rfl, rfl, h1, r1⟩ := trodAll_cons r0
  obtain ⟨v2, vs2, d2, ds2, p2, q2, rfl, rfl, rfl, h2, r2⟩ := trodAll_cons r1
  obtain ⟨rfl, rfl, rfl⟩ := trodAll_nil r2
  obtain rfl : args = #[v0, v1, v2] := by cases args; simp_all
  obtain ⟨rfl, rfl⟩ := trodVars_none hV
  have k0 := h0
  have lt0 := trod_lt' k0
  obtain ⟨a0, n0, c0, l0, rfl, w0⟩ := arg_edits rfl (hval 0 22 v0 rfl rfl) h0
  have k1 := h1
  have lt1 := trod_lt' k1
  obtain ⟨a1, n1, c1, l1, rfl, w1⟩ := arg_bytes Try.underlying23 Try.underlying5 (by kernel_rfl) (hval 1 23 v1 rfl rfl) h1
  have k2 := h2
  have lt2 := trod_lt' k2
  obtain ⟨a2, n2, c2, l2, rfl, w2⟩ := arg_bytes Try.underlying23 Try.underlying5 (by kernel_rfl) (hval 2 23 v2 rfl rfl) h2
  clear hA0 hval0
  refine (walk a0 n0 c0 l0 a1 n1 c1 l1 a2 n2 c2 l2 W w0 w1 w2).mono fun e W' ⟨he, bel⟩ => ?_
  subst he
  exact ⟨_, rfl, _, _, _, [], _, [], hW', trodAll_mk1 (shut_bool Try.underlying4 _), (trodAll_cons_mk (Below.trod laidOut (by kernel_rfl) (of_decide_eq_true (by kernel_rfl)) k0 bel lt0) (trodAll_cons_mk (Below.trod laidOut (by kernel_rfl) (of_decide_eq_true (by kernel_rfl)) k1 bel lt1) (trodAll_cons_mk (Below.trod laidOut (by kernel_rfl) (of_decide_eq_true (by kernel_rfl)) k2 bel lt2) trodAll_mk0))), rfl, bel.frame _, fun h => by cases h⟩

theorem over : Rows.mergeChecksRow.holds Try.pinned (OpenSpec.ofChange Rows.mergeChecksSpec) :=
  OpenClaim.holds_of_wide 3 Try.f3 rfl rfl rfl rfl rfl rfl rfl ⟨rfl, rfl, rfl, rfl, rfl⟩ rfl rfl rfl rfl rfl (by kernel_rfl) Try.func3 (by kernel_rfl)
    (of_decide_eq_true (by kernel_rfl)) (by unfold Func.isWrapper; first | (rw [if_pos (by decide +kernel)]; kernel_rfl) | (rw [if_neg (by decide +kernel)]; exact ⟨rfl, rfl⟩))
    (fun os started H enc _ => lifted os started H enc)

theorem proved : Rows.MergeChecksSaid := over
end Go.Proofs.Ytgliindhndcceaa.LawMergeChecks
