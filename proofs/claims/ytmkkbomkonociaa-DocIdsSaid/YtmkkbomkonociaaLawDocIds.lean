/- Proved: davenportlaw19.DocIds returns true for every string: Check accepts exactly the ids. No condition. -/
import Derived.Test.YtmkkbomkonociaaRows
import Derived.Test.YtmkkbomkonociaaOpen
import Derived.Test.YtmkkbomkonociaaDocWakes
namespace Go.Proofs.Ytmkkbomkonociaa.LawDocIds
open Go.ChangeShapes Go.WideShapes Go.ChangeAt Go.RowKit
open Go.ChangeMaps (open_string shut_string)

theorem ext_size (s : ByteArray) (n : Nat) : (s.extract 0 n).size ≤ n := by
  rw [ByteArray.size_extract]; omega

theorem walk (s : ByteArray) (w : World) (w0 : s.size ≤ maxLen) :
    Calls Try.prog 3 #[.string s] w fun e w' => e = .returned (.bool true) ∧ Below w.heap.size w w' := by
  go_enter Try.func3, Try.ntmps3
  go_wp2_with fail
  refine Calls.mono (wakes_any w) ?_
  rintro e w1 ⟨rfl, hb1⟩
  go_wp2_with fail
  case inr h =>
    have hsz : s.size ≤ 1048576 := by omega
    clear w0 h
    refine Calls.mono (id_any _ _ hsz) ?_
    rintro e w2 ⟨rfl, rfl⟩
    cases hb : isId s.data.toList with
    | true =>
      have HE : idErr s.data.toList = 0 := by unfold idErr; rw [if_pos hb]
      go_wp2_with fail
      refine Calls.mono (check_any _ _ hsz) ?_
      rintro e w3 ⟨rfl, rfl⟩
      rw [HE]
      go_wp2_with fail
      go_ret
      exact ⟨rfl, hb1⟩
    | false =>
      have HE : idErr s.data.toList = 290 := by unfold idErr; rw [if_neg (by rw [hb]; simp)]
      go_wp2_with fail
      refine Calls.mono (check_any _ _ hsz) ?_
      rintro e w3 ⟨rfl, rfl⟩
      rw [HE]
      go_wp2_with fail
      go_ret
      exact ⟨rfl, hb1⟩
  case inl h =>
    have hsz : (s.extract 0 100).size ≤ 1048576 := by have := ext_size s 100; omega
    clear w0 h
    generalize s.extract 0 100 = s at *
    refine Calls.mono (id_any _ _ hsz) ?_
    rintro e w2 ⟨rfl, rfl⟩
    cases hb : isId s.data.toList with
    | true =>
      have HE : idErr s.data.toList = 0 := by unfold idErr; rw [if_pos hb]
      go_wp2_with fail
      refine Calls.mono (check_any _ _ hsz) ?_
      rintro e w3 ⟨rfl, rfl⟩
      rw [HE]
      go_wp2_with fail
      go_ret
      exact ⟨rfl, hb1⟩
    | false =>
      have HE : idErr s.data.toList = 290 := by unfold idErr; rw [if_neg (by rw [hb]; simp)]
      go_wp2_with fail
      refine Calls.mono (check_any _ _ hsz) ?_
      rintro e w3 ⟨rfl, rfl⟩
      rw [HE]
      go_wp2_with fail
      go_ret
      exact ⟨rfl, hb1⟩
/-! ### the row's step, written by program after the guide's skeleton -/
theorem own : ownKnob Try.prog.godebug = none := by kernel_rfl
theorem laidOut : laidOutB Try.prog = true := by kernel_rfl
set_option maxRecDepth 100000 in
theorem lifted (os : Os) (started : os.Started) (H : Type) (enc : TypeId × Value → H) :
    ReturnsInHanded {} Try.checked os 3 .any (Rows.docIdsSpec.pre6 enc Try.prog Try.f3 Rows.docIdsRow.domain false) (Rows.docIdsSpec.post enc Try.prog Try.f3 false true false false) := by
  refine returnsInHanded_of_change (C := Try.checked) own started (by kernel_rfl) Try.func3
    (ChangeSpec.witness6 (enc := enc) (C := Try.checked) false ⟨#[], #[.string ByteArray.empty], []⟩ 8 (by kernel_rfl) (by kernel_rfl) (by kernel_rfl) (by kernel_rfl)) ?_
  intro W base args ds gs before hval0 hW hcnd _
  have hval : ∀ (j : Nat) t v, Try.f3.params[j]? = some t → args[j]? = some v → Value.okWide Try.prog W .any base t v := hval0
  have hW' := hW
  obtain ⟨p, q, hA0, hV, rfl, hfz, hnd⟩ := hW
  have hA : DataW.TrodAll enc Try.prog W 0 (fun _ => true) true Try.f3.params.toList args.toList ds p := hA0
  rw [Try.params3] at hA hval
  obtain ⟨v0, vs0, d0, ds0, p0, q0, hargs, rfl, rfl, h0, r0⟩ := trodAll_cons hA
  obtain ⟨rfl, rfl, rfl⟩ := trodAll_nil r0
  obtain rfl : args = #[v0] := by cases args; simp_all
  obtain ⟨rfl, rfl⟩ := trodVars_none hV
  obtain ⟨a0, rfl, rfl, rfl, w0⟩ := open_string Try.underlying9 (hval 0 9 v0 rfl rfl) h0
  clear hA0 hval0
  refine (walk a0 W w0).mono fun e W' ⟨he, bel⟩ => ?_
  subst he
  exact ⟨_, rfl, _, _, _, [], _, [], hW', trodAll_mk1 (shut_bool Try.underlying4 _), (trodAll_cons_mk (shut_string Try.underlying9 w0) trodAll_mk0), rfl, bel.frame _, fun h => by cases h⟩

theorem over : Rows.docIdsRow.holds Try.pinned (OpenSpec.ofChange Rows.docIdsSpec) :=
  OpenClaim.holds_of_wide 3 Try.f3 rfl rfl rfl rfl rfl rfl rfl ⟨rfl, rfl, rfl, rfl, rfl⟩ rfl rfl rfl rfl rfl (by kernel_rfl) Try.func3 (by kernel_rfl)
    (of_decide_eq_true (by kernel_rfl)) (by unfold Func.isWrapper; first | (rw [if_pos (by decide +kernel)]; kernel_rfl) | (rw [if_neg (by decide +kernel)]; exact ⟨rfl, rfl⟩))
    (fun os started H enc _ => lifted os started H enc)

theorem proved : Rows.DocIdsSaid := over
end Go.Proofs.Ytmkkbomkonociaa.LawDocIds
