/- Proved: davenportlaw03.NumeralReads returns true for every input: numeral.Read returns the value of the numeral at any offset of any bytes, or the documented error and offset. No condition. -/
import Derived.Test.YtciakpfnmkoghaaRows
import Derived.Test.YtciakpfnmkoghaaOpen
import Derived.Test.YtciakpfnmkoghaaNumWakes
import Derived.Test.YtciakpfnmkoghaaNumReadsMath
import Derived.Test.YtciakpfnmkoghaaCut
namespace Go.Proofs.Ytciakpfnmkoghaa.LawNumeralReads
open Go.ChangeShapes Go.WideShapes Go.ChangeAt Go.RowKit
open Go.ChangeMaps (open_string shut_string)

theorem walk (A : Option Addr) (n c : Nat) (l : List UInt8) (i : Int) (w : World) (w0 : Arg w A n c l) (w1 : (Lit.int .i64 i).wf = true) :
    Calls Try.prog 7 #[.slice A n c, .int .i64 i] w fun e w' => e = .returned (.bool true) ∧ Below w.heap.size w w' := by
  obtain ⟨hr, hc, hm⟩ := w0
  obtain ⟨h0, h1⟩ := wf_i64 w1
  clear w1
  go_enter Try.func7, Try.ntmps7
  go_wp2_with fail
  refine Calls.mono (wakes_any _) ?_
  rintro e w1 ⟨rfl, hb1⟩
  have hr1 := hr.on hb1
  go_wp2_with fail
  refine Calls.mono (few_rb _ _ _ _ _ hr1 hc hm) ?_
  rintro e w2 ⟨A2, n2, c2, rfl, hr2, hn2, hc2, hm2, hb2⟩
  have hx2 := hr1.on hb2
  have hb2' := below_then hb1 hb2
  clear hb1 hb2 hr1 hr
  obtain ⟨b, hbe⟩ : ∃ b, b = l.take FEW := ⟨_, rfl⟩
  rw [← hbe] at hr2
  have HBE := hide hbe
  clear hbe
  go_wp2_with fail
  refine Calls.mono (read_any _ _ _ b i _ hr2 (by omega) hc2 h0 h1) ?_
  rintro e w3 ⟨rfl, hb3⟩
  have hr3 := hr2.on hb3
  have HX := hide (hx2.on hb3)
  have HB := hide (below_then hb2' hb3)
  have HL := hide hr3.len
  have HR := hide hr3
  clear hr2 hb2' hb3 hr3 hx2
  by_cases hneg : i < 0
  · rw [show Num.read b i = (0, 0, 2) by unfold Num.read; rw [if_pos (Or.inl hneg)]]
    go_wp2_with fail
    go_ret
    exact ⟨by simp, HB.out⟩
  by_cases hbig : (n2 : Int) < i
  · rw [show Num.read b i = (0, 0, 2) by unfold Num.read; rw [if_pos (Or.inr (by rw [HL.out]; exact hbig))]]
    go_wp2_with fail
    go_ret
    exact ⟨by simp, HB.out⟩
  obtain ⟨k, rfl⟩ : ∃ k : Nat, i = (k : Int) := ⟨i.toNat, by omega⟩
  have hk : k ≤ n2 := by omega
  have hread : Num.read b (k : Int) = match Num.reads b k with
    | .error j => (0, (j : Int), 7)
    | .ok st => if st.part = true ∨ Num.most st.minus < st.V then (0, (k : Int), 130) else (if st.minus then -(st.V : Int) else st.V, st.at_, 0) := by
    unfold Num.read; rw [if_neg (by rw [HL.out]; omega)]; rfl
  have hend := end_ref b k
  rw [hread]
  have hnr := fun st (h : Num.reads b k = .ok st) => @number_ref b k st h
  clear hread hneg hbig h0
  cases hrr : Num.reads b k with
  | error j =>
    rw [hrr] at hend
    have HE := hide hend
    clear hend hnr hrr
    go_wp2_with fail
    refine Calls.mono (end_any _ _ _ b k _ HR.out (by omega) hk) ?_
    rintro e w4 ⟨rfl, q, rfl⟩
    rw [HE.out]
    simp only [toRef]
    go_wp2_with fail
    go_ret
    exact ⟨by simp, HB.out.trans ((below_drewN _ _).mono HB.out.size)⟩
  | ok st =>
    rw [hrr] at hend
    have HE := hide hend
    have hnr := hnr st hrr
    clear hend hrr
    simp only
    by_cases hp : st.part = true
    · rw [if_pos (Or.inl hp)]
      clear hnr
      have HP := hide hp
      clear hp
      go_wp2_with fail
      refine Calls.mono (end_any _ _ _ b k _ HR.out (by omega) hk) ?_
      rintro e w4 ⟨rfl, q, rfl⟩
      rw [HE.out]
      simp only [toRef, HP.out, Bool.not_true]
      go_wp2_with fail
      go_ret
      exact ⟨by simp, HB.out.trans ((below_drewN _ _).mono HB.out.size)⟩
    · have HP := hide (Bool.eq_false_iff.2 hp)
      obtain ⟨g1, g2, g3, g4⟩ := hnr HP.out
      rw [HL.out] at g2
      obtain ⟨A', hcut, hrb⟩ := cut_any HR.out (lo := k) (hi := st.at_) (by omega) g2 hc2
      have G3 := hide g3
      have G4 := hide g4
      have HRB := hide hrb
      clear g3 g4 hnr hrb
      by_cases hv : Num.most st.minus < st.V
      · rw [if_pos (Or.inr hv)]
        have HV := hide hv
        clear hp hv
        go_wp2_with fail
        refine Calls.mono (end_any _ _ _ b k _ HR.out (by omega) hk) ?_
        rintro e w4 ⟨rfl, q, rfl⟩
        rw [HE.out]
        simp only [toRef, HP.out, Bool.not_false]
        go_wp2_with fail
        refine Calls.mono (number_any _ _ _ _ _ HRB.out (by omega) (by omega) G4.out) ?_
        rintro e w5 ⟨rfl, rfl⟩
        rw [G3.out, if_neg (by have := HV.out; omega)]
        go_wp2_with fail
        go_ret
        exact ⟨by simp, HB.out.trans ((below_drewN _ _).mono HB.out.size)⟩
      · rw [if_neg (by rintro (h | h); exact hp h; exact hv h)]
        have HV := hide hv
        clear hp hv
        generalize (if st.minus = true then -(st.V : Int) else (st.V : Int)) = N at *
        go_wp2_with fail
        refine Calls.mono (end_any _ _ _ b k _ HR.out (by omega) hk) ?_
        rintro e w4 ⟨rfl, q, rfl⟩
        rw [HE.out]
        simp only [toRef, HP.out, Bool.not_false]
        go_wp2_with fail
        refine Calls.mono (number_any _ _ _ _ _ HRB.out (by omega) (by omega) G4.out) ?_
        rintro e w5 ⟨rfl, rfl⟩
        rw [G3.out, if_pos (by have := HV.out; omega)]
        go_wp2_with fail
        refine Calls.mono (few_rb _ _ _ _ _ (HX.out.on (below_drewN _ _)) hc hm) ?_
        rintro e w6 ⟨A6, n6, c6, rfl, hr6, hn6, hc6, hm6, hb6⟩
        have hr46 := (HR.out.on (below_drewN _ q)).on hb6
        go_wp2_with fail
        refine Calls.mono (equal_b _ _ _ _ _ _ _ _ _ hr46 hr6 (by omega) (by omega)) ?_
        rintro e w7 ⟨rfl, hb7⟩
        go_wp2_with fail
        go_ret
        exact ⟨by rw [HBE.out]; simp, below_then (below_then (below_then HB.out (below_drewN _ _)) hb6) hb7⟩
/-! ### the row's step, written by program after the guide's skeleton -/
theorem own : ownKnob Try.prog.godebug = none := by kernel_rfl
theorem laidOut : laidOutB Try.prog = true := by kernel_rfl
set_option maxRecDepth 100000 in
theorem lifted (os : Os) (started : os.Started) (H : Type) (enc : TypeId × Value → H) :
    ReturnsInHanded {} Try.checked os 7 .any (Rows.numeralReadsSpec.pre6 enc Try.prog Try.f7 Rows.numeralReadsRow.domain false) (Rows.numeralReadsSpec.post enc Try.prog Try.f7 false true false false) := by
  refine returnsInHanded_of_change (C := Try.checked) own started (by kernel_rfl) Try.func7
    (ChangeSpec.witness6 (enc := enc) (C := Try.checked) false ⟨#[], #[.slice none 0 0, .int .i64 0], []⟩ 8 (by kernel_rfl) (by kernel_rfl) (by kernel_rfl) (by kernel_rfl)) ?_
  intro W base args ds gs before hval0 hW hcnd _
  have hval : ∀ (j : Nat) t v, Try.f7.params[j]? = some t → args[j]? = some v → Value.okWide Try.prog W .any base t v := hval0
  have hW' := hW
  obtain ⟨p, q, hA0, hV, rfl, hfz, hnd⟩ := hW
  have hA : DataW.TrodAll enc Try.prog W 0 (fun _ => true) true Try.f7.params.toList args.toList ds p := hA0
  rw [Try.params7] at hA hval
  obtain ⟨v0, vs0, d0, ds0, p0, q0, hargs, rfl, rfl, h0, r0⟩ := trodAll_cons hA
  obtain ⟨v1, vs1, d1, ds1, p1, q1, rfl, rfl, rfl, h1, r1⟩ := trodAll_cons r0
  obtain ⟨rfl, rfl, rfl⟩ := trodAll_nil r1
  obtain rfl : args = #[v0, v1] := by cases args; simp_all
  obtain ⟨rfl, rfl⟩ := trodVars_none hV
  have k0 := h0
  have lt0 := trod_lt' k0
  obtain ⟨a0, n0, c0, l0, rfl, w0⟩ := arg_bytes Try.underlying32 Try.underlying5 (by kernel_rfl) (hval 0 32 v0 rfl rfl) h0
  obtain ⟨a1, rfl, rfl, rfl, w1⟩ := open_int Try.underlying3 (hval 1 3 v1 rfl rfl) h1
  clear hA0 hval0
  refine (walk a0 n0 c0 l0 a1 W w0 w1).mono fun e W' ⟨he, bel⟩ => ?_
  subst he
  exact ⟨_, rfl, _, _, _, [], _, [], hW', trodAll_mk1 (shut_bool Try.underlying4 _), (trodAll_cons_mk (Below.trod laidOut (by kernel_rfl) (of_decide_eq_true (by kernel_rfl)) k0 bel lt0) (trodAll_cons_mk (shut_int Try.underlying3 w1) trodAll_mk0)), rfl, bel.frame _, fun h => by cases h⟩

theorem over : Rows.numeralReadsRow.holds Try.pinned (OpenSpec.ofChange Rows.numeralReadsSpec) :=
  OpenClaim.holds_of_wide 7 Try.f7 rfl rfl rfl rfl rfl rfl rfl ⟨rfl, rfl, rfl, rfl, rfl⟩ rfl rfl rfl rfl rfl (by kernel_rfl) Try.func7 (by kernel_rfl)
    (of_decide_eq_true (by kernel_rfl)) (by unfold Func.isWrapper; first | (rw [if_pos (by decide +kernel)]; kernel_rfl) | (rw [if_neg (by decide +kernel)]; exact ⟨rfl, rfl⟩))
    (fun os started H enc _ => lifted os started H enc)

theorem proved : Rows.NumeralReadsSaid := over
end Go.Proofs.Ytciakpfnmkoghaa.LawNumeralReads
