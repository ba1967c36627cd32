/- Proved: davenportlaw03.NumeralAlone returns true for every input: an integer numeral that was read equals Print of its value, except for -0, and a digit follows it only if it is 0. No condition. -/
import Derived.Test.YtciakpfnmkoghaaRows
import Derived.Test.YtciakpfnmkoghaaOpen
import Derived.Test.YtciakpfnmkoghaaNumWakes
import Derived.Test.YtciakpfnmkoghaaNumRefPrint
import Derived.Test.YtciakpfnmkoghaaNumAloneMath
import Derived.Test.YtciakpfnmkoghaaCut
namespace Go.Proofs.Ytciakpfnmkoghaa.LawNumeralAlone
open Go.ChangeShapes Go.WideShapes Go.ChangeAt Go.RowKit
open Go.ChangeMaps (open_string shut_string)

theorem walk (A : Option Addr) (n c : Nat) (l : List UInt8) (i : Int) (w : World) (w0 : Arg w A n c l) (w1 : (Lit.int .i64 i).wf = true) :
    Calls Try.prog 6 #[.slice A n c, .int .i64 i] w fun e w' => e = .returned (.bool true) ∧ Below w.heap.size w w' := by
  obtain ⟨hr, hc, hm⟩ := w0
  obtain ⟨h0, h1⟩ := wf_i64 w1
  clear w1
  go_enter Try.func6, Try.ntmps6
  go_wp2_with fail
  refine Calls.mono (wakes_any _) ?_
  rintro e w1 ⟨rfl, hb1⟩
  have hr1 := hr.on hb1
  go_wp2_with fail
  refine Calls.mono (few_rb _ _ _ _ _ hr1 hc hm) ?_
  rintro e w2 ⟨A2, n2, c2, rfl, hr2, hn2, hc2, hm2, hb2⟩
  generalize l.take FEW = b at *
  have hb2' := below_then hb1 hb2
  clear hb1 hb2 hr1 hr hc hm
  go_wp2_with fail
  refine Calls.mono (read_any _ _ _ b i _ hr2 (by omega) hc2 h0 h1) ?_
  rintro e w3 ⟨rfl, hb3⟩
  have hr3 := hr2.on hb3
  have HB := hide (below_then hb2' hb3)
  have HL := hide hr3.len
  have HR := hide hr3
  clear hr2 hb2' hb3 hr3
  generalize hx : Num.read b i = r
  obtain ⟨N, E, e⟩ := r
  by_cases he : e = 0
  · subst he
    obtain ⟨k, rfl, gk⟩ := Num.read_place hx
    obtain ⟨E, rfl, g1, g2, g3, g4⟩ := Num.read_own hx
    obtain ⟨hN0, hN1⟩ := Num.read_range hx
    rw [HL.out] at g2 gk
    clear hx
    obtain ⟨A', hcut, hrb⟩ := cut_any HR.out (lo := k) (hi := E) (by omega) g2 hc2
    have hconv := run_str (P := Try.prog) w3 32 9 5 A' (E - k) (c2 - k) _ hrb (by kernel_rfl) (by kernel_rfl) (by kernel_rfl)
    clear hrb
    generalize (b.drop k).take (E - k) = own at *
    rcases g3 with ⟨rfl, rfl⟩ | ⟨ho, rfl⟩
    · have ht : ((str [45, 48]).toList == [45, 48]) = true := by rw [str_toList]; rfl
      clear g4
      go_wp2_with fail
      go_ret
      exact ⟨rfl, HB.out⟩
    · have ht : ((str (Num.print N)).toList == [45, 48]) = false := by rw [str_toList, beq_eq_false_iff_ne]; exact ho
      have HO := hide ho
      clear ho
      by_cases hE : E < n2
      · have hEl : E < b.length := by rw [HL.out]; exact hE
        have hdig := Num.isAt_get (S := Num.DIGITS) hEl
        rw [Num.digits_has] at hdig
        rw [hdig] at g4
        obtain ⟨bk, o, rfl, _, hc⟩ := HR.out.cell hEl
        have hE0 : (0 : Int) ≤ (E : Int) := by omega
        have hE1 : (E : Int) < (n2 : Int) := by omega
        clear hdig
        generalize b[E] = x at *
        by_cases hx : 48 ≤ x.toNat ∧ x.toNat ≤ 57
        · obtain rfl := g4 (by simpa [Num.isDig] using hx)
          obtain ⟨x1, x2⟩ := hx
          clear g4
          go_wp2_with fail
          refine Calls.mono (print_any 0 _ (by omega) (by omega)) ?_
          rintro e w4 ⟨rfl, hb4⟩
          go_wp2_with fail
          go_ret
          exact ⟨by simp, below_then HB.out hb4⟩
        · clear g4
          have HX := hide hx
          clear hx
          by_cases x1 : 48 ≤ x.toNat
          · have x2 : ¬ (x.toNat ≤ 57) := fun h => HX.out ⟨x1, h⟩
            go_wp2_with fail
            refine Calls.mono (print_any N _ hN0 hN1) ?_
            rintro e w4 ⟨rfl, hb4⟩
            go_wp2_with fail
            go_ret
            exact ⟨by simp, below_then HB.out hb4⟩
          · go_wp2_with fail
            refine Calls.mono (print_any N _ hN0 hN1) ?_
            rintro e w4 ⟨rfl, hb4⟩
            go_wp2_with fail
            go_ret
            exact ⟨by simp, below_then HB.out hb4⟩
      · clear g4
        go_wp2_with fail
        refine Calls.mono (print_any N _ hN0 hN1) ?_
        rintro e w4 ⟨rfl, hb4⟩
        go_wp2_with fail
        go_ret
        exact ⟨by simp, below_then HB.out hb4⟩
  · obtain ⟨rfl, hq⟩ := Num.read_not hx he
    clear hx
    rw [HL.out] at hq
    rcases hq with ⟨rfl, rfl⟩ | ⟨rfl | rfl, hq1, hq2⟩
    all_goals
      go_wp2_with fail
      go_ret
      exact ⟨by simp, HB.out⟩
/-! ### the row's step, written by program after the guide's skeleton -/
theorem own : ownKnob Try.prog.godebug = none := by kernel_rfl
theorem laidOut : laidOutB Try.prog = true := by kernel_rfl
set_option maxRecDepth 100000 in
theorem lifted (os : Os) (started : os.Started) (H : Type) (enc : TypeId × Value → H) :
    ReturnsInHanded {} Try.checked os 6 .any (Rows.numeralAloneSpec.pre6 enc Try.prog Try.f6 Rows.numeralAloneRow.domain false) (Rows.numeralAloneSpec.post enc Try.prog Try.f6 false true false false) := by
  refine returnsInHanded_of_change (C := Try.checked) own started (by kernel_rfl) Try.func6
    (ChangeSpec.witness6 (enc := enc) (C := Try.checked) false ⟨#[], #[.slice none 0 0, .int .i64 0], []⟩ 8 (by kernel_rfl) (by kernel_rfl) (by kernel_rfl) (by kernel_rfl)) ?_
  intro W base args ds gs before hval0 hW hcnd _
  have hval : ∀ (j : Nat) t v, Try.f6.params[j]? = some t → args[j]? = some v → Value.okWide Try.prog W .any base t v := hval0
  have hW' := hW
  obtain ⟨p, q, hA0, hV, rfl, hfz, hnd⟩ := hW
  have hA : DataW.TrodAll enc Try.prog W 0 (fun _ => true) true Try.f6.params.toList args.toList ds p := hA0
  rw [Try.params6] at hA hval
  obtain ⟨v0, vs0, d0, ds0, p0, q0, hargs, rfl, rfl, h0, r0⟩ := trodAll_cons hA
  obtain ⟨v1, vs1, d1, ds1, p1, q1, rfl, rfl, rfl, h1, r1⟩ := trodAll_cons r0
  obtain ⟨rfl, rfl, rfl⟩ := trodAll_nil r1
  obtain rfl : args = #[v0, v1] := by cases args; simp_all
  obtain ⟨rfl, rfl⟩ := trodVars_none hV
  have k0 := h0
  have lt0 := trod_lt' k0
  obtain ⟨a0, n0, c0, l0, rfl, w0⟩ := arg_bytes Try.underlying32 Try.underlying5 (by kernel_rfl) (hval 0 32 v0 rfl rfl) h0
  obtain ⟨a1, rfl, rfl, rfl, w1⟩ := open_int Try.underlying3 (hval 1 3 v1 rfl rfl) h1
  clear hA0 hval0
  refine (walk a0 n0 c0 l0 a1 W w0 w1).mono fun e W' ⟨he, bel⟩ => ?_
  subst he
  exact ⟨_, rfl, _, _, _, [], _, [], hW', trodAll_mk1 (shut_bool Try.underlying4 _), (trodAll_cons_mk (Below.trod laidOut (by kernel_rfl) (of_decide_eq_true (by kernel_rfl)) k0 bel lt0) (trodAll_cons_mk (shut_int Try.underlying3 w1) trodAll_mk0)), rfl, bel.frame _, fun h => by cases h⟩

theorem over : Rows.numeralAloneRow.holds Try.pinned (OpenSpec.ofChange Rows.numeralAloneSpec) :=
  OpenClaim.holds_of_wide 6 Try.f6 rfl rfl rfl rfl rfl rfl rfl ⟨rfl, rfl, rfl, rfl, rfl⟩ rfl rfl rfl rfl rfl (by kernel_rfl) Try.func6 (by kernel_rfl)
    (of_decide_eq_true (by kernel_rfl)) (by unfold Func.isWrapper; first | (rw [if_pos (by decide +kernel)]; kernel_rfl) | (rw [if_neg (by decide +kernel)]; exact ⟨rfl, rfl⟩))
    (fun os started H enc _ => lifted os started H enc)

theorem proved : Rows.NumeralAloneSaid := over
end Go.Proofs.Ytciakpfnmkoghaa.LawNumeralAlone
