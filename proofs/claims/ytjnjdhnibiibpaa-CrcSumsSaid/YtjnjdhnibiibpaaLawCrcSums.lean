/- Proved: davenportlaw09.CrcSums returns true for every input: crc.Sum and crc.More compute the reference's checksum of any bytes from any start. No condition. -/
import Derived.Test.YtjnjdhnibiibpaaRows
import Derived.Test.YtjnjdhnibiibpaaOpen
import Derived.Test.YtjnjdhnibiibpaaCrcWakes
import Derived.Test.YtjnjdhnibiibpaaCrcRef
namespace Go.Proofs.Ytjnjdhnibiibpaa.LawCrcSums
open Go.ChangeShapes Go.WideShapes Go.ChangeAt Go.RowKit
open Go.ChangeMaps (open_string shut_string)

theorem walk (s : Int) (A : Option Addr) (n c : Nat) (l : List UInt8) (w : World) (w0 : (Lit.int .u32 s).wf = true) (h1 : Arg w A n c l) :
    Calls Try.prog 5 #[.int .u32 s, .slice A n c] w fun e w' => e = .returned (.bool true) ∧ Below w.heap.size w w' := by
  obtain ⟨hr, hc, hm⟩ := h1
  obtain ⟨hs0, hs1⟩ := wf_u32 w0
  have HS := hide hs1
  clear w0 hs1
  go_enter Try.func5, Try.ntmps5
  go_wp2_with fail
  refine Calls.mono (wakes_any _) ?_
  rintro e w1 ⟨rfl, hb1⟩
  have hr1 := hr.on hb1
  go_wp2_with fail
  refine Calls.mono (few_rb _ _ _ _ _ hr1 hc hm) ?_
  rintro e w2 ⟨A2, n2, c2, rfl, hr2, hn2, hc2, hm2, hb2⟩
  have hb2' := below_then hb1 hb2
  have hx2 := hr1.on hb2
  go_wp2_with fail
  refine Calls.mono (sum_any _ _ _ _ _ hr2 (by omega)) ?_
  rintro e w3 ⟨rfl, hb3⟩
  have hr3 := hr2.on hb3
  have hx3 := hx2.on hb3
  have hb3' := below_then hb2' hb3
  go_wp2_with fail
  refine Calls.mono (rMore_any _ _ _ _ _ _ (by omega) (by omega) hr3 (by omega)) ?_
  rintro e w' ⟨rfl, rfl⟩
  rw [show (0 : Int).toNat = 0 from rfl]
  go_wp2_with fail
  refine Calls.mono (more_any _ _ _ _ _ _ hs0 HS.out hr3 (by omega)) ?_
  rintro e w4 ⟨rfl, hb4⟩
  have hr4 := hr3.on hb4
  have hx4 := hx3.on hb4
  have hb4' := below_then hb3' hb4
  go_wp2_with fail
  refine Calls.mono (rMore_any _ _ _ _ _ _ hs0 HS.out hr4 (by omega)) ?_
  rintro e w' ⟨rfl, rfl⟩
  go_wp2_with fail
  refine Calls.mono (few_rb _ _ _ _ _ hx4 hc hm) ?_
  rintro e w5 ⟨A5, n5, c5, rfl, hr5, hn5, hc5, hm5, hb5⟩
  have hb5' := below_then hb4' hb5
  have hr45 := hr4.on hb5
  go_wp2_with fail
  refine Calls.mono (equal_b _ _ _ _ _ _ _ _ _ hr45 hr5 (by omega) (by omega)) ?_
  rintro e w6 ⟨rfl, hb6⟩
  go_wp2
  go_ret
  exact ⟨by simp, below_then hb5' hb6⟩

/-! ### the row's step, written by program after the guide's skeleton -/
theorem own : ownKnob Try.prog.godebug = none := by kernel_rfl
theorem laidOut : laidOutB Try.prog = true := by kernel_rfl
set_option maxRecDepth 100000 in
theorem lifted (os : Os) (started : os.Started) (H : Type) (enc : TypeId × Value → H) :
    ReturnsInHanded {} Try.checked os 5 .any (Rows.crcSumsSpec.pre6 enc Try.prog Try.f5 Rows.crcSumsRow.domain false) (Rows.crcSumsSpec.post enc Try.prog Try.f5 false true false false) := by
  refine returnsInHanded_of_change (C := Try.checked) own started (by kernel_rfl) Try.func5
    (ChangeSpec.witness6 (enc := enc) (C := Try.checked) false ⟨#[], #[.int .u32 0, .slice none 0 0], []⟩ 8 (by kernel_rfl) (by kernel_rfl) (by kernel_rfl) (by kernel_rfl)) ?_
  intro W base args ds gs before hval0 hW hcnd _
  have hval : ∀ (j : Nat) t v, Try.f5.params[j]? = some t → args[j]? = some v → Value.okWide Try.prog W .any base t v := hval0
  have hW' := hW
  obtain ⟨p, q, hA0, hV, rfl, hfz, hnd⟩ := hW
  have hA : DataW.TrodAll enc Try.prog W 0 (fun _ => true) true Try.f5.params.toList args.toList ds p := hA0
  rw [Try.params5] at hA hval
  obtain ⟨v0, vs0, d0, ds0, p0, q0, hargs, rfl, rfl, h0, r0⟩ := trodAll_cons hA
  obtain ⟨v1, vs1, d1, ds1, p1, q1, rfl, rfl, rfl, h1, r1⟩ := trodAll_cons r0
  obtain ⟨rfl, rfl, rfl⟩ := trodAll_nil r1
  obtain rfl : args = #[v0, v1] := by cases args; simp_all
  obtain ⟨rfl, rfl⟩ := trodVars_none hV
  obtain ⟨a0, rfl, rfl, rfl, w0⟩ := open_int Try.underlying22 (hval 0 22 v0 rfl rfl) h0
  have k1 := h1
  have lt1 := trod_lt' k1
  obtain ⟨a1, n1, c1, l1, rfl, w1⟩ := arg_bytes Try.underlying26 Try.underlying5 (by kernel_rfl) (hval 1 26 v1 rfl rfl) h1
  clear hA0 hval0
  refine (walk a0 a1 n1 c1 l1 W w0 w1).mono fun e W' ⟨he, bel⟩ => ?_
  subst he
  exact ⟨_, rfl, _, _, _, [], _, [], hW', trodAll_mk1 (shut_bool Try.underlying4 _), (trodAll_cons_mk (shut_int Try.underlying22 w0) (trodAll_cons_mk (Below.trod laidOut (by kernel_rfl) (of_decide_eq_true (by kernel_rfl)) k1 bel lt1) trodAll_mk0)), rfl, bel.frame _, fun h => by cases h⟩

theorem over : Rows.crcSumsRow.holds Try.pinned (OpenSpec.ofChange Rows.crcSumsSpec) :=
  OpenClaim.holds_of_wide 5 Try.f5 rfl rfl rfl rfl rfl rfl rfl ⟨rfl, rfl, rfl, rfl, rfl⟩ rfl rfl rfl rfl rfl (by kernel_rfl) Try.func5 (by kernel_rfl)
    (of_decide_eq_true (by kernel_rfl)) (by unfold Func.isWrapper; first | (rw [if_pos (by decide +kernel)]; kernel_rfl) | (rw [if_neg (by decide +kernel)]; exact ⟨rfl, rfl⟩))
    (fun os started H enc _ => lifted os started H enc)

theorem proved : Rows.CrcSumsSaid := over
end Go.Proofs.Ytjnjdhnibiibpaa.LawCrcSums
