/- Proved: davenportlaw03.NumeralGrows returns true for every input: of two nonnegative numbers the one with more digits is greater, and a negative number has a minus sign more than its opposite. No condition. -/
import Derived.Test.YtciakpfnmkoghaaRows
import Derived.Test.YtciakpfnmkoghaaOpen
import Derived.Test.YtciakpfnmkoghaaNumWakes
import Derived.Test.YtciakpfnmkoghaaNumRefPrint
namespace Go.Proofs.Ytciakpfnmkoghaa.LawNumeralGrows
open Go.ChangeShapes Go.WideShapes Go.ChangeAt Go.RowKit
open Go.ChangeMaps (open_string shut_string)

theorem dig_mono {x y : Nat} (h : x ≤ y) : (Num.dig x).length ≤ (Num.dig y).length := by
  have hp := List.length_pos_iff.2 (Num.dig_ne y)
  obtain ⟨k, hk⟩ : ∃ k, (Num.dig y).length = k + 1 := ⟨(Num.dig y).length - 1, by omega⟩
  have h1 := (Num.dig_len k y).1 (by omega)
  have h2 := (Num.dig_len k x).2 (by omega)
  omega
theorem print_mono {x y : Int} (hx : 0 ≤ x) (h : x ≤ y) : (Num.print x).length ≤ (Num.print y).length := by
  unfold Num.print
  rw [if_neg (by omega), if_neg (by omega)]
  exact dig_mono (by omega)
theorem print_neg {x : Int} (hx : 0 < x) : Num.print (-x) = 45 :: Num.print x := by
  unfold Num.print
  rw [if_pos (by omega), if_neg (by omega), Int.natAbs_neg]

theorem neg_len {a : Int} (h : 0 < a) : (Num.print (-a)).length = (Num.print a).length + 1 := by rw [print_neg h]; rfl
theorem neg_str {a : Int} (h : 0 < a) : str [45] ++ str (Num.print a) = str (Num.print (-a)) := by rw [str_append, print_neg h]; rfl

theorem walk (a b : Int) (w : World) (w0 : (Lit.int .i64 a).wf = true) (w1 : (Lit.int .i64 b).wf = true) :
    Calls Try.prog 4 #[.int .i64 a, .int .i64 b] w fun e w' => e = .returned (.bool true) ∧ Below w.heap.size w w' := by
  obtain ⟨h0, h1⟩ := wf_i64 w0
  obtain ⟨h2, h3⟩ := wf_i64 w1
  clear w0 w1
  rcases Int.lt_trichotomy a 0 with ha | ha | ha
  · rcases Int.lt_or_le b 0 with hb | hb
    · have hlx := print_len (n := 0) (by omega) (by omega)
      have hly := print_len (n := 0) (by omega) (by omega)
      have HM := hide (print_mono (x := 0) (y := 0) (by omega))
      go_enter Try.func4, Try.ntmps4
      go_wp2_with fail
      refine Calls.mono (wakes_any _) ?_
      rintro e w1 ⟨rfl, hb1⟩
      go_wp2_with fail
      refine Calls.mono (size_any 0 _ (by omega) (by omega)) ?_
      rintro e w2 ⟨rfl, hb2⟩
      have hb12 := below_then hb1 hb2
      go_wp2_with fail
      refine Calls.mono (size_any 0 _ (by omega) (by omega)) ?_
      rintro e w3 ⟨rfl, hb3⟩
      have hb13 := below_then hb12 hb3
      clear hb1 hb2 hb12 hb3
      have hle := HM.out (by omega)
      go_wp2_with fail
      go_ret
      exact ⟨rfl, hb13⟩
    · have hlx := print_len (n := 0) (by omega) (by omega)
      have hly := print_len (n := b) (by omega) (by omega)
      have HM := hide (print_mono (x := 0) (y := b) (by omega))
      go_enter Try.func4, Try.ntmps4
      go_wp2_with fail
      refine Calls.mono (wakes_any _) ?_
      rintro e w1 ⟨rfl, hb1⟩
      go_wp2_with fail
      refine Calls.mono (size_any 0 _ (by omega) (by omega)) ?_
      rintro e w2 ⟨rfl, hb2⟩
      have hb12 := below_then hb1 hb2
      go_wp2_with fail
      refine Calls.mono (size_any b _ (by omega) (by omega)) ?_
      rintro e w3 ⟨rfl, hb3⟩
      have hb13 := below_then hb12 hb3
      clear hb1 hb2 hb12 hb3
      have hle := HM.out (by omega)
      go_wp2_with fail
      go_ret
      exact ⟨rfl, hb13⟩
  · subst ha
    rcases Int.lt_or_le b 0 with hb | hb
    · have hlx := print_len (n := 0) (by omega) (by omega)
      have hly := print_len (n := 0) (by omega) (by omega)
      have HM := hide (print_mono (x := 0) (y := 0) (by omega))
      go_enter Try.func4, Try.ntmps4
      go_wp2_with fail
      refine Calls.mono (wakes_any _) ?_
      rintro e w1 ⟨rfl, hb1⟩
      go_wp2_with fail
      refine Calls.mono (size_any 0 _ (by omega) (by omega)) ?_
      rintro e w2 ⟨rfl, hb2⟩
      have hb12 := below_then hb1 hb2
      go_wp2_with fail
      refine Calls.mono (size_any 0 _ (by omega) (by omega)) ?_
      rintro e w3 ⟨rfl, hb3⟩
      have hb13 := below_then hb12 hb3
      clear hb1 hb2 hb12 hb3
      have hle := HM.out (by omega)
      go_wp2_with fail
      go_ret
      exact ⟨rfl, hb13⟩
    · have hlx := print_len (n := 0) (by omega) (by omega)
      have hly := print_len (n := b) (by omega) (by omega)
      have HM := hide (print_mono (x := 0) (y := b) (by omega))
      go_enter Try.func4, Try.ntmps4
      go_wp2_with fail
      refine Calls.mono (wakes_any _) ?_
      rintro e w1 ⟨rfl, hb1⟩
      go_wp2_with fail
      refine Calls.mono (size_any 0 _ (by omega) (by omega)) ?_
      rintro e w2 ⟨rfl, hb2⟩
      have hb12 := below_then hb1 hb2
      go_wp2_with fail
      refine Calls.mono (size_any b _ (by omega) (by omega)) ?_
      rintro e w3 ⟨rfl, hb3⟩
      have hb13 := below_then hb12 hb3
      clear hb1 hb2 hb12 hb3
      have hle := HM.out (by omega)
      go_wp2_with fail
      go_ret
      exact ⟨rfl, hb13⟩
  · rcases Int.lt_or_le b 0 with hb | hb
    · have HL := hide (neg_len ha)
      have HS := hide (neg_str ha)
      have hz : (a == 0) = false := by rw [beq_eq_false_iff_ne]; omega
      have hs1 := print_size (n := a) (by omega) (by omega)
      have hlx := print_len (n := a) (by omega) (by omega)
      have hly := print_len (n := 0) (by omega) (by omega)
      have hln := print_len (n := -a) (by omega) (by omega)
      have HM := hide (print_mono (x := a) (y := 0) (by omega))
      go_enter Try.func4, Try.ntmps4
      go_wp2_with fail
      refine Calls.mono (wakes_any _) ?_
      rintro e w1 ⟨rfl, hb1⟩
      go_wp2_with fail
      refine Calls.mono (size_any a _ (by omega) (by omega)) ?_
      rintro e w2 ⟨rfl, hb2⟩
      have hb12 := below_then hb1 hb2
      go_wp2_with fail
      refine Calls.mono (size_any 0 _ (by omega) (by omega)) ?_
      rintro e w3 ⟨rfl, hb3⟩
      have hb13 := below_then hb12 hb3
      clear hb1 hb2 hb12 hb3
      by_cases hle : (Num.print 0).length < (Num.print a).length
      · have hgt : 0 < a := Int.not_le.1 fun h => by have := HM.out h; omega
        have hd : decide ((Num.print 0).length < (Num.print a).length) = true := by rw [decide_eq_true_eq]; exact hle
        clear hle
        go_wp2_with fail
        refine Calls.mono (size_any (-a) _ (by omega) (by omega)) ?_
        rintro e w4 ⟨rfl, hb4⟩
        have hb14 := below_then hb13 hb4
        go_wp2_with fail
        refine Calls.mono (size_any a _ (by omega) (by omega)) ?_
        rintro e w5 ⟨rfl, hb5⟩
        have hb15 := below_then hb14 hb5
        have hll : ((Num.print (-a)).length : Int) = ((Num.print a).length : Int) + 1 := by have := HL.out; omega
        have HLL := hide hll
        rw [hll]
        clear hll
        go_wp2_with fail
        refine Calls.mono (print_any (-a) _ (by omega) (by omega)) ?_
        rintro e w6 ⟨rfl, hb6⟩
        have hb16 := below_then hb15 hb6
        go_wp2_with fail
        refine Calls.mono (print_any a _ (by omega) (by omega)) ?_
        rintro e w7 ⟨rfl, hb7⟩
        have hb17 := below_then hb16 hb7
        clear hb13 hb14 hb15 hb16 hb4 hb5 hb6 hb7
        rw [← HS.out]
        go_wp2_with fail
        go_ret
        exact ⟨by simp <;> rfl, hb17⟩
      · have hle2 : (Num.print a).length ≤ (Num.print 0).length := by omega
        have hd : decide ((Num.print 0).length < (Num.print a).length) = false := by rw [decide_eq_false_iff_not]; exact hle
        clear hle
        go_wp2_with fail
        refine Calls.mono (size_any (-a) _ (by omega) (by omega)) ?_
        rintro e w4 ⟨rfl, hb4⟩
        have hb14 := below_then hb13 hb4
        go_wp2_with fail
        refine Calls.mono (size_any a _ (by omega) (by omega)) ?_
        rintro e w5 ⟨rfl, hb5⟩
        have hb15 := below_then hb14 hb5
        have hll : ((Num.print (-a)).length : Int) = ((Num.print a).length : Int) + 1 := by have := HL.out; omega
        have HLL := hide hll
        rw [hll]
        clear hll
        go_wp2_with fail
        refine Calls.mono (print_any (-a) _ (by omega) (by omega)) ?_
        rintro e w6 ⟨rfl, hb6⟩
        have hb16 := below_then hb15 hb6
        go_wp2_with fail
        refine Calls.mono (print_any a _ (by omega) (by omega)) ?_
        rintro e w7 ⟨rfl, hb7⟩
        have hb17 := below_then hb16 hb7
        clear hb13 hb14 hb15 hb16 hb4 hb5 hb6 hb7
        rw [← HS.out]
        go_wp2_with fail
        go_ret
        exact ⟨by simp <;> rfl, hb17⟩
    · have HL := hide (neg_len ha)
      have HS := hide (neg_str ha)
      have hz : (a == 0) = false := by rw [beq_eq_false_iff_ne]; omega
      have hs1 := print_size (n := a) (by omega) (by omega)
      have hlx := print_len (n := a) (by omega) (by omega)
      have hly := print_len (n := b) (by omega) (by omega)
      have hln := print_len (n := -a) (by omega) (by omega)
      have HM := hide (print_mono (x := a) (y := b) (by omega))
      go_enter Try.func4, Try.ntmps4
      go_wp2_with fail
      refine Calls.mono (wakes_any _) ?_
      rintro e w1 ⟨rfl, hb1⟩
      go_wp2_with fail
      refine Calls.mono (size_any a _ (by omega) (by omega)) ?_
      rintro e w2 ⟨rfl, hb2⟩
      have hb12 := below_then hb1 hb2
      go_wp2_with fail
      refine Calls.mono (size_any b _ (by omega) (by omega)) ?_
      rintro e w3 ⟨rfl, hb3⟩
      have hb13 := below_then hb12 hb3
      clear hb1 hb2 hb12 hb3
      by_cases hle : (Num.print b).length < (Num.print a).length
      · have hgt : b < a := Int.not_le.1 fun h => by have := HM.out h; omega
        have hd : decide ((Num.print b).length < (Num.print a).length) = true := by rw [decide_eq_true_eq]; exact hle
        clear hle
        go_wp2_with fail
        refine Calls.mono (size_any (-a) _ (by omega) (by omega)) ?_
        rintro e w4 ⟨rfl, hb4⟩
        have hb14 := below_then hb13 hb4
        go_wp2_with fail
        refine Calls.mono (size_any a _ (by omega) (by omega)) ?_
        rintro e w5 ⟨rfl, hb5⟩
        have hb15 := below_then hb14 hb5
        have hll : ((Num.print (-a)).length : Int) = ((Num.print a).length : Int) + 1 := by have := HL.out; omega
        have HLL := hide hll
        rw [hll]
        clear hll
        go_wp2_with fail
        refine Calls.mono (print_any (-a) _ (by omega) (by omega)) ?_
        rintro e w6 ⟨rfl, hb6⟩
        have hb16 := below_then hb15 hb6
        go_wp2_with fail
        refine Calls.mono (print_any a _ (by omega) (by omega)) ?_
        rintro e w7 ⟨rfl, hb7⟩
        have hb17 := below_then hb16 hb7
        clear hb13 hb14 hb15 hb16 hb4 hb5 hb6 hb7
        rw [← HS.out]
        go_wp2_with fail
        go_ret
        exact ⟨by simp <;> rfl, hb17⟩
      · have hle2 : (Num.print a).length ≤ (Num.print b).length := by omega
        have hd : decide ((Num.print b).length < (Num.print a).length) = false := by rw [decide_eq_false_iff_not]; exact hle
        clear hle
        go_wp2_with fail
        refine Calls.mono (size_any (-a) _ (by omega) (by omega)) ?_
        rintro e w4 ⟨rfl, hb4⟩
        have hb14 := below_then hb13 hb4
        go_wp2_with fail
        refine Calls.mono (size_any a _ (by omega) (by omega)) ?_
        rintro e w5 ⟨rfl, hb5⟩
        have hb15 := below_then hb14 hb5
        have hll : ((Num.print (-a)).length : Int) = ((Num.print a).length : Int) + 1 := by have := HL.out; omega
        have HLL := hide hll
        rw [hll]
        clear hll
        go_wp2_with fail
        refine Calls.mono (print_any (-a) _ (by omega) (by omega)) ?_
        rintro e w6 ⟨rfl, hb6⟩
        have hb16 := below_then hb15 hb6
        go_wp2_with fail
        refine Calls.mono (print_any a _ (by omega) (by omega)) ?_
        rintro e w7 ⟨rfl, hb7⟩
        have hb17 := below_then hb16 hb7
        clear hb13 hb14 hb15 hb16 hb4 hb5 hb6 hb7
        rw [← HS.out]
        go_wp2_with fail
        go_ret
        exact ⟨by simp <;> rfl, hb17⟩

/-! ### the row's step, written by program after the guide's skeleton -/
theorem own : ownKnob Try.prog.godebug = none := by kernel_rfl
theorem laidOut : laidOutB Try.prog = true := by kernel_rfl
set_option maxRecDepth 100000 in
theorem lifted (os : Os) (started : os.Started) (H : Type) (enc : TypeId × Value → H) :
    ReturnsInHanded {} Try.checked os 4 .any (Rows.numeralGrowsSpec.pre6 enc Try.prog Try.f4 Rows.numeralGrowsRow.domain false) (Rows.numeralGrowsSpec.post enc Try.prog Try.f4 false true false false) := by
  refine returnsInHanded_of_change (C := Try.checked) own started (by kernel_rfl) Try.func4
    (ChangeSpec.witness6 (enc := enc) (C := Try.checked) false ⟨#[], #[.int .i64 0, .int .i64 0], []⟩ 8 (by kernel_rfl) (by kernel_rfl) (by kernel_rfl) (by kernel_rfl)) ?_
  intro W base args ds gs before hval0 hW hcnd _
  have hval : ∀ (j : Nat) t v, Try.f4.params[j]? = some t → args[j]? = some v → Value.okWide Try.prog W .any base t v := hval0
  have hW' := hW
  obtain ⟨p, q, hA0, hV, rfl, hfz, hnd⟩ := hW
  have hA : DataW.TrodAll enc Try.prog W 0 (fun _ => true) true Try.f4.params.toList args.toList ds p := hA0
  rw [Try.params4] at hA hval
  obtain ⟨v0, vs0, d0, ds0, p0, q0, hargs, rfl, rfl, h0, r0⟩ := trodAll_cons hA
  obtain ⟨v1, vs1, d1, ds1, p1, q1, rfl, rfl, rfl, h1, r1⟩ := trodAll_cons r0
  obtain ⟨rfl, rfl, rfl⟩ := trodAll_nil r1
  obtain rfl : args = #[v0, v1] := by cases args; simp_all
  obtain ⟨rfl, rfl⟩ := trodVars_none hV
  obtain ⟨a0, rfl, rfl, rfl, w0⟩ := open_int Try.underlying2 (hval 0 2 v0 rfl rfl) h0
  obtain ⟨a1, rfl, rfl, rfl, w1⟩ := open_int Try.underlying2 (hval 1 2 v1 rfl rfl) h1
  clear hA0 hval0
  refine (walk a0 a1 W w0 w1).mono fun e W' ⟨he, bel⟩ => ?_
  subst he
  exact ⟨_, rfl, _, _, _, [], _, [], hW', trodAll_mk1 (shut_bool Try.underlying4 _), (trodAll_cons_mk (shut_int Try.underlying2 w0) (trodAll_cons_mk (shut_int Try.underlying2 w1) trodAll_mk0)), rfl, bel.frame _, fun h => by cases h⟩

theorem over : Rows.numeralGrowsRow.holds Try.pinned (OpenSpec.ofChange Rows.numeralGrowsSpec) :=
  OpenClaim.holds_of_wide 4 Try.f4 rfl rfl rfl rfl rfl rfl rfl ⟨rfl, rfl, rfl, rfl, rfl⟩ rfl rfl rfl rfl rfl (by kernel_rfl) Try.func4 (by kernel_rfl)
    (of_decide_eq_true (by kernel_rfl)) (by unfold Func.isWrapper; first | (rw [if_pos (by decide +kernel)]; kernel_rfl) | (rw [if_neg (by decide +kernel)]; exact ⟨rfl, rfl⟩))
    (fun os started H enc _ => lifted os started H enc)

theorem proved : Rows.NumeralGrowsSaid := over
end Go.Proofs.Ytciakpfnmkoghaa.LawNumeralGrows
