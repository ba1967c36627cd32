/- Proved: davenportlaw03.NumeralParts returns true for every input: a numeral with a fraction or an exponent is never an integer, and an incomplete one is a syntax error at its end. No condition. -/
import Derived.Test.YtciakpfnmkoghaaRows
import Derived.Test.YtciakpfnmkoghaaOpen
import Derived.Test.YtciakpfnmkoghaaNumWakes
import Derived.Test.YtciakpfnmkoghaaNumRefPrint
import Derived.Test.YtciakpfnmkoghaaNumPartsMath
import Derived.Test.YtciakpfnmkoghaaConv
namespace Go.Proofs.Ytciakpfnmkoghaa.LawNumeralParts
open Go.ChangeShapes Go.WideShapes Go.ChangeAt Go.RowKit
open Go.ChangeMaps (open_string shut_string)

theorem tmod_nat (t : Int) (m : Nat) (hm : 0 < m) : ∃ k : Nat, k < m ∧ (IntKind.u64.wrap t).tmod m = (k : Int) := by
  have h : 0 ≤ IntKind.u64.wrap t := by unfold IntKind.wrap; simp [IntKind.signed, IntKind.bits]; omega
  refine ⟨((IntKind.u64.wrap t).tmod m).toNat, ?_, ?_⟩
  · rw [Int.tmod_eq_emod_of_nonneg h]
    have h1 := Int.emod_nonneg (IntKind.u64.wrap t) (b := (m : Int)) (by omega)
    have h2 := Int.emod_lt_of_pos (IntKind.u64.wrap t) (b := (m : Int)) (by omega)
    omega
  · rw [Int.tmod_eq_emod_of_nonneg h]
    have h1 := Int.emod_nonneg (IntKind.u64.wrap t) (b := (m : Int)) (by omega)
    omega
theorem part_len {k : Nat} (hk : k < 6) : (Num.partAt k).length ≤ 3 := by
  match k, hk with
  | 0, _ => decide
  | 1, _ => decide
  | 2, _ => decide
  | 3, _ => decide
  | 4, _ => decide
  | 5, _ => decide
theorem part_index {k : Nat} (hk : k < 6) (W : World) : (Instr.index 27 (.agg #[.string (ByteArray.mk #[46]), .string (ByteArray.mk #[101]), .string (ByteArray.mk #[69]), .string (ByteArray.mk #[101, 43]), .string (ByteArray.mk #[69, 45]), .string (ByteArray.mk #[46, 48, 101])]) (.int .u64 (k : Int))).run Try.prog W = .ok (.string (str (Num.partAt k))) W := by
  have h : k = 0 ∨ k = 1 ∨ k = 2 ∨ k = 3 ∨ k = 4 ∨ k = 5 := by omega
  rcases h with rfl | rfl | rfl | rfl | rfl | rfl <;> (show _ = _; kernel_rfl)

theorem walk (n t d : Int) (w : World) (w0 : (Lit.int .i64 n).wf = true) (_w1 : (Lit.int .i64 t).wf = true) (_w2 : (Lit.int .i64 d).wf = true) :
    Calls Try.prog 5 #[.int .i64 n, .int .i64 t, .int .i64 d] w fun e w' => e = .returned (.bool true) ∧ Below w.heap.size w w' := by
  obtain ⟨h0, h1⟩ := wf_i64 w0
  clear w0
  obtain ⟨k, hk, hkt⟩ := tmod_nat t 6 (by omega)
  obtain ⟨D, hD, hDd⟩ := tmod_nat d 1000 (by omega)
  have hix := part_index hk
  have hl := print_len h0 h1
  have hpl := part_len hk
  have hz1 := str_size (Num.print n)
  have hz2 := str_size (Num.partAt k)
  have HP1 := hide (Num.parts_one n hk)
  have HP2 := hide (Num.parts_two n hk)
  have HP3 := hide (Num.parts_three n hk D)
  have hDl : (Num.print (D : Int)).length ≤ 20 := print_len (by omega) (by omega)
  have hDw : IntKind.i64.wrap (D : Int) = D := by rw [IntKind.wrap_i64]; omega
  have hz3 := str_size (Num.print (D : Int))
  have HD := hide (show Num.print (D : Int) = Num.dig D by rw [Num.print_nonneg (by omega), Int.natAbs_natCast])
  simp only [Int.cast_ofNat_Int] at hkt hDd
  go_enter Try.func5, Try.ntmps5
  go_wp2_with fail
  refine Calls.mono (wakes_any _) ?_
  rintro e w1 ⟨rfl, hb1⟩
  go_wp2_with fail
  refine Calls.mono (print_any n _ h0 h1) ?_
  rintro e w2 ⟨rfl, hb2⟩
  have hb2' := hide (below_then hb1 hb2)
  clear hb1 hb2
  obtain ⟨c1, W1, hc1, hr1, hbc1, hle1, hm1⟩ := conv_bytes (P := Try.prog) w2 9 32 5 (str (Num.print n) ++ str (Num.partAt k)) _ (str_cat _ _) ((Num.print n).length + (Num.partAt k).length) (by rw [List.length_append]) (by omega) (by kernel_rfl) (by kernel_rfl) (by kernel_rfl)
  have HR1 := hide hr1
  have hb3 := hide (below_then hb2'.out hbc1)
  clear hr1 hbc1
  go_wp2_with fail
  refine Calls.mono (read_any _ _ _ _ 0 _ HR1.out (by omega) hle1 (by omega) (by omega)) ?_
  rintro e w3 ⟨rfl, hb4⟩
  rw [HP1.out]
  have hb5 := hide (below_then hb3.out hb4)
  have hsz3 : (str (Num.print n) ++ str (Num.partAt k)).size ≤ 23 := by rw [str_cat, str_size, List.length_append]; omega
  obtain ⟨c2, W2, hc2, hr2, hbc2, hle2, hm2⟩ := conv_bytes (P := Try.prog) w3 9 32 5 (str (Num.print n) ++ str (Num.partAt k) ++ ByteArray.mk #[120]) (Num.print n ++ (Num.partAt k ++ [120])) (by rw [← List.append_assoc, ← str_cat, ← str_cat]; rfl) ((Num.print n).length + (Num.partAt k).length + 1) (by simp only [List.length_append, List.length_cons, List.length_nil]; omega) (by omega) (by kernel_rfl) (by kernel_rfl) (by kernel_rfl)
  have HR2 := hide hr2
  have hb6 := hide (below_then hb5.out hbc2)
  clear hr2 hbc2 hb4
  go_wp2_with fail
  refine Calls.mono (read_any _ _ _ _ 0 _ HR2.out (by omega) hle2 (by omega) (by omega)) ?_
  rintro e w4 ⟨rfl, hb7⟩
  rw [HP2.out]
  have hb8 := hide (below_then hb6.out hb7)
  go_wp2_with fail
  refine Calls.mono (print_any (D : Int) _ (by omega) (by omega)) ?_
  rintro e w5 ⟨rfl, hb9⟩
  have hb10 := hide (below_then hb8.out hb9)
  clear hb7 hb9
  obtain ⟨c3, W3, hc3, hr3, hbc3, hle3, hm3⟩ := conv_bytes (P := Try.prog) w5 9 32 5 (str (Num.print n) ++ str (Num.partAt k) ++ str (Num.print (D : Int)) ++ ByteArray.mk #[120]) (Num.print n ++ (Num.partAt k ++ (Num.dig D ++ [120]))) (by rw [← List.append_assoc, ← List.append_assoc, ← str_cat, ← str_cat, ← str_cat, HD.out]; rfl) ((Num.print n).length + (Num.partAt k).length + (Num.print (D : Int)).length + 1) (by rw [HD.out]; simp only [List.length_append, List.length_cons, List.length_nil]; omega) (by omega) (by kernel_rfl) (by kernel_rfl) (by kernel_rfl)
  have hsz4 : (str (Num.print n) ++ str (Num.partAt k) ++ str (Num.print (D : Int))).size ≤ 43 := by rw [str_cat, str_cat, str_size, List.length_append, List.length_append]; omega
  have HR3 := hide hr3
  have hb11 := hide (below_then hb10.out hbc3)
  clear hr3 hbc3
  go_wp2_with fail
  refine Calls.mono (read_any _ _ _ _ 0 _ HR3.out (by omega) hle3 (by omega) (by omega)) ?_
  rintro e w6 ⟨rfl, hb12⟩
  rw [HP3.out]
  go_wp2_with fail
  go_ret
  exact ⟨rfl, below_then hb11.out hb12⟩
/-! ### the row's step, written by program after the guide's skeleton -/
theorem own : ownKnob Try.prog.godebug = none := by kernel_rfl
theorem laidOut : laidOutB Try.prog = true := by kernel_rfl
set_option maxRecDepth 100000 in
theorem lifted (os : Os) (started : os.Started) (H : Type) (enc : TypeId × Value → H) :
    ReturnsInHanded {} Try.checked os 5 .any (Rows.numeralPartsSpec.pre6 enc Try.prog Try.f5 Rows.numeralPartsRow.domain false) (Rows.numeralPartsSpec.post enc Try.prog Try.f5 false true false false) := by
  refine returnsInHanded_of_change (C := Try.checked) own started (by kernel_rfl) Try.func5
    (ChangeSpec.witness6 (enc := enc) (C := Try.checked) false ⟨#[], #[.int .i64 0, .int .i64 0, .int .i64 0], []⟩ 8 (by kernel_rfl) (by kernel_rfl) (by kernel_rfl) (by kernel_rfl)) ?_
  intro W base args ds gs before hval0 hW hcnd _
  have hval : ∀ (j : Nat) t v, Try.f5.params[j]? = some t → args[j]? = some v → Value.okWide Try.prog W .any base t v := hval0
  have hW' := hW
  obtain ⟨p, q, hA0, hV, rfl, hfz, hnd⟩ := hW
  have hA : DataW.TrodAll enc Try.prog W 0 (fun _ => true) true Try.f5.params.toList args.toList ds p := hA0
  rw [Try.params5] at hA hval
  obtain ⟨v0, vs0, d0, ds0, p0, q0, hargs, rfl, rfl, h0, r0⟩ := trodAll_cons hA
  obtain ⟨v1, vs1, d1, ds1, p1, q1, rfl, rfl, rfl, h1, r1⟩ := trodAll_cons r0
  obtain ⟨v2, vs2, d2, ds2, p2, q2, rfl, rfl, rfl, h2, r2⟩ := trodAll_cons r1
  obtain ⟨rfl, rfl, rfl⟩ := trodAll_nil r2
  obtain rfl : args = #[v0, v1, v2] := by cases args; simp_all
  obtain ⟨rfl, rfl⟩ := trodVars_none hV
  obtain ⟨a0, rfl, rfl, rfl, w0⟩ := open_int Try.underlying2 (hval 0 2 v0 rfl rfl) h0
  obtain ⟨a1, rfl, rfl, rfl, w1⟩ := open_int Try.underlying3 (hval 1 3 v1 rfl rfl) h1
  obtain ⟨a2, rfl, rfl, rfl, w2⟩ := open_int Try.underlying3 (hval 2 3 v2 rfl rfl) h2
  clear hA0 hval0
  refine (walk a0 a1 a2 W w0 w1 w2).mono fun e W' ⟨he, bel⟩ => ?_
  subst he
  exact ⟨_, rfl, _, _, _, [], _, [], hW', trodAll_mk1 (shut_bool Try.underlying4 _), (trodAll_cons_mk (shut_int Try.underlying2 w0) (trodAll_cons_mk (shut_int Try.underlying3 w1) (trodAll_cons_mk (shut_int Try.underlying3 w2) trodAll_mk0))), rfl, bel.frame _, fun h => by cases h⟩

theorem over : Rows.numeralPartsRow.holds Try.pinned (OpenSpec.ofChange Rows.numeralPartsSpec) :=
  OpenClaim.holds_of_wide 5 Try.f5 rfl rfl rfl rfl rfl rfl rfl ⟨rfl, rfl, rfl, rfl, rfl⟩ rfl rfl rfl rfl rfl (by kernel_rfl) Try.func5 (by kernel_rfl)
    (of_decide_eq_true (by kernel_rfl)) (by unfold Func.isWrapper; first | (rw [if_pos (by decide +kernel)]; kernel_rfl) | (rw [if_neg (by decide +kernel)]; exact ⟨rfl, rfl⟩))
    (fun os started H enc _ => lifted os started H enc)

theorem proved : Rows.NumeralPartsSaid := over
end Go.Proofs.Ytciakpfnmkoghaa.LawNumeralParts
