/- Proved: davenportlaw01.UtfOrders returns true for every input: the byte order of two texts is the order of their code point sequences. The card ties the package variable that the walk reads to the program's text. -/
import Derived.Test.YtheoadempenpaaaDoorRows
import Derived.Test.YtheoadempenpaaaDoorCards
import Derived.Test.YtheoadempenpaaaDoorTie
import Derived.Test.YtheoadempenpaaaDoorOpen
import Derived.Test.YtheoadempenpaaaDoorUtfLaid
import Derived.Test.YtheoadempenpaaaDoorUtfWakes
import Derived.Test.YtheoadempenpaaaDoorIntsCmp
import Derived.SevenTiedAt
namespace Go.Proofs.YtheoadempenpaaaDoor.LawUtfOrders
open Go.ChangeShapes Go.WideShapes Go.ChangeAt Go.RowKit
open Go.ChangeMaps (open_string shut_string)

theorem text_cases (x : List Int) : (textV x = .tuple #[.string (ByteArray.mk #[]), .int .i64 110]) ∨ (∃ ps, ps.length = x.length ∧ Utf.allCp ps ∧ textV x = .tuple #[.string (str (Utf.encs ps)), .int .i64 0]) := by
  cases h : x.all Utf.isCp with
  | false => exact .inl (by unfold textV; rw [if_neg (by rw [h]; simp)])
  | true =>
    refine .inr ⟨x.map Int.toNat, List.length_map .., ?_, by unfold textV; rw [if_pos h]⟩
    intro p hp
    obtain ⟨z, hz, rfl⟩ := List.mem_map.1 hp
    have h1 := List.all_eq_true.1 h z hz
    rw [Int.toNat_of_nonneg (Utf.isCp_iff.1 h1).1]
    exact h1
theorem encs_inj {ps qs : List Nat} (hp : Utf.allCp ps) (hq : Utf.allCp qs) (h : Utf.encs ps = Utf.encs qs) : ps = qs := by
  have h1 := Utf.scan_text ps hp
  rw [h, Utf.scan_text qs hq] at h1
  exact (congrArg Prod.fst h1).symm
theorem same_texts {ps qs : List Nat} (hp : Utf.allCp ps) (hq : Utf.allCp qs) : ((str (Utf.encs ps)).toList == (str (Utf.encs qs)).toList) = decide (zs ps = zs qs) := by
  rw [str_beq]
  by_cases h : ps = qs
  · rw [h, decide_eq_true rfl, decide_eq_true rfl]
  · rw [decide_eq_false (fun e => h (encs_inj hp hq e)), decide_eq_false]
    intro e
    have h1 := congrArg (List.map Int.toNat) e
    rw [zs_toNat, zs_toNat] at h1
    exact h h1
set_option maxHeartbeats 8000000 in
theorem walk (A : Option Addr) (n c : Nat) (x : List Int) (B : Option Addr) (m d : Nat) (y : List Int) (w : World) (hA : ArgInts .i64 w A n c x) (hB : ArgInts .i64 w B m d y) (hg : Gl w) :
    Calls Tryd.prog 9 #[.slice A n c, .slice B m d] w fun e w' => e = .returned (.bool true) ∧ Below w.heap.size w w' := by
  obtain ⟨hr, hnc, hc, _⟩ := hA
  obtain ⟨hr', hmd, hd, _⟩ := hB
  have HA : Hid (RI w A n x) := hide hr
  have HB : Hid (RI w B m y) := hide hr'
  have HG := hide hg
  clear hr hr' hg
  unfold maxLen at hc hd
  go_enter Tryd.func9, Tryd.ntmps9
  go_wp2_with fail
  refine Calls.mono (wakes_any _ HG.out) ?_
  rintro e w1 ⟨rfl, hb1⟩
  have HB1 := hide hb1
  clear hb1
  obtain ⟨N, hN⟩ : ∃ N, N = min n 60 := ⟨_, rfl⟩
  obtain ⟨M, hM⟩ : ∃ M, M = min m 60 := ⟨_, rfl⟩
  have f1 : (if (60 : Int) < (n : Int) then (60 : Int) else (n : Int)) = (N : Int) := by split <;> omega
  have f2 : (if (60 : Int) < (m : Int) then (60 : Int) else (m : Int)) = (M : Int) := by split <;> omega
  have f3 : (0 : Int) ≤ (N : Int) := by omega
  have f4 : (N : Int) ≤ (c : Int) := by omega
  have f5 : (0 : Int) ≤ (M : Int) := by omega
  have f6 : (M : Int) ≤ (d : Int) := by omega
  have f7 : N ≤ n := by omega
  have f8 : M ≤ m := by omega
  have f9 : N ≤ 60 := by omega
  have f10 : M ≤ 60 := by omega
  have HXL := hide (show (x.take N).length ≤ 60 by rw [List.length_take]; omega)
  have HYL := hide (show (y.take M).length ≤ 60 by rw [List.length_take]; omega)
  clear hN hM
  go_wp2_with fail
  refine Calls.mono (Text_any A N c (x.take N) _ ((HA.out.on HB1.out).take N f7) (by omega)) ?_
  rintro e w2 ⟨rfl, hb2⟩
  have HB2 := hide (below_then HB1.out hb2)
  clear hb2
  rcases text_cases (x.take N) with hx | ⟨ps, hpl, hps, hx⟩
  · rw [hx]
    clear hx
    go_wp2_with fail
    refine Calls.mono (Text_any B M d (y.take M) _ ((HB.out.on HB2.out).take M f8) (by omega)) ?_
    rintro e w3 ⟨rfl, hb3⟩
    have HB3 := hide (below_then HB2.out hb3)
    clear hb3
    rcases text_cases (y.take M) with hy | ⟨qs, _, _, hy⟩
    · rw [hy]
      clear hy
      go_wp2_with fail
      go_ret
      exact ⟨by first | rfl | simp, HB3.out⟩
    · rw [hy]
      clear hy
      go_wp2_with fail
      go_ret
      exact ⟨by first | rfl | simp, HB3.out⟩
  · rw [hx]
    clear hx
    have HPL := hide (show ps.length ≤ 60 by rw [hpl]; exact HXL.out)
    have HPS := hide hps
    clear hpl hps
    go_wp2_with fail
    refine Calls.mono (Text_any B M d (y.take M) _ ((HB.out.on HB2.out).take M f8) (by omega)) ?_
    rintro e w3 ⟨rfl, hb3⟩
    have HB3 := hide (below_then HB2.out hb3)
    clear hb3
    rcases text_cases (y.take M) with hy | ⟨qs, hql, hqs, hy⟩
    · rw [hy]
      clear hy
      go_wp2_with fail
      go_ret
      exact ⟨by first | rfl | simp, HB3.out⟩
    · rw [hy]
      clear hy
      have HQL := hide (show qs.length ≤ 60 by rw [hql]; exact HYL.out)
      have HQS := hide hqs
      have HPT := hide (Utf.scan_text ps HPS.out)
      have HQT := hide (Utf.scan_text qs HQS.out)
      have HPE := hide (encs_le ps HPS.out)
      have HQE := hide (encs_le qs HQS.out)
      have hlt := less_texts HPS.out HQS.out
      have heq := same_texts HPS.out HQS.out
      have HLT := hide hlt
      have HEQ := hide heq
      clear hql hqs hlt heq
      go_wp2_with fail
      refine Calls.mono (Points_any (Utf.encs ps) _ (by have := HPE.out; have := HPL.out; omega) (HG.out.on HB3.out)) ?_
      rintro e w4 ⟨hb4, he⟩
      rw [HPT.out, if_pos rfl] at he
      obtain ⟨A4, c4, rfl, hr4, _, _⟩ := he
      have HB4 := hide (below_then HB3.out hb4)
      have HR4 := hide hr4
      clear hb4 hr4
      go_wp2_with fail
      refine Calls.mono (Points_any (Utf.encs qs) _ (by have := HQE.out; have := HQL.out; omega) (HG.out.on HB4.out)) ?_
      rintro e w5 ⟨hb5, he⟩
      rw [HQT.out, if_pos rfl] at he
      obtain ⟨A5, c5, rfl, hr5, _, _⟩ := he
      have HB5 := hide (below_then HB4.out hb5)
      have HR5 := hide (HR4.out.on hb5)
      have HS5 := hide hr5
      clear hb5 hr5
      have hlt := HLT.out
      have heq := HEQ.out
      clear HLT HEQ HPT HQT HPE HQE
      generalize str (Utf.encs ps) = S at *
      generalize str (Utf.encs qs) = T at *
      dsimp only
      have HCMP := hide (cmp_ints A4 A5 ps.length qs.length c4 c5 ps qs _ HR5.out HS5.out (by have := HPL.out; omega) (by have := HQL.out; omega))
      have HEQV := hide (equal_ints A4 A5 ps.length qs.length c4 c5 (zs ps) (zs qs) _ HR5.out HS5.out (by have := HPL.out; omega) (by have := HQL.out; omega))
      generalize Utf.ltL ps qs = b at *
      generalize decide (zs ps = zs qs) = f at *
      go_wp2_with fail
      refine Calls.mono HCMP.out ?_
      rintro e w6 ⟨⟨z, rfl, hz⟩, rfl⟩
      go_wp2_with fail
      refine Calls.mono HEQV.out ?_
      rintro e w7 ⟨rfl, hb7⟩
      have HB7 := hide (below_then HB5.out hb7)
      clear hb7
      cases f <;> (
        go_wp2_with fail
        go_ret
        exact ⟨by first | rfl | simp, HB7.out⟩)
/-! ### the row's step, written by program after the guide's skeleton -/
theorem own : ownKnob Tryd.prog.godebug = none := by kernel_rfl
theorem laidOut : laidOutB Tryd.prog = true := by kernel_rfl
set_option maxRecDepth 100000 in
theorem lifted (os : Os) (started : os.Started) (H : Type) (enc : TypeId × Value → H) :
    ReturnsInHanded {} Tryd.checked os 9 .any (fun w args => (Rows.utfOrdersSpec.pre enc Tryd.prog Tryd.f9 [] false w args ∧ laidMetH Tryd.prog laidL w) ∧ sizedMet enc Tryd.prog Tryd.f9 (OpenSpec.ofChange Rows.utfOrdersSpec) false w args) (Rows.utfOrdersSpec.post enc Tryd.prog Tryd.f9 false true false false) := by
  refine returnsInHanded_of_change_and (C := Tryd.checked) (X := fun w _ => laidMetH Tryd.prog laidL w) (fun _ _ _ hh h => h.of_heap hh) own started (by kernel_rfl) Tryd.func9
    (ChangeSpec.witness_shaped (enc := enc) (C := Tryd.checked) (os := os) (X := fun w _ => laidMetH Tryd.prog laidL w) false (World.doorLaid Tryd.prog 400 os) #[.slice none 0 0, .slice none 0 0] 8 rfl (World.shaped_of_RefB (by kernel_rfl) (by kernel_rfl)) (by kernel_rfl) (by kernel_rfl) (by kernel_rfl) (door_met os _)) ?_
  intro W base args ds gs before hval0 hW _ _ hL _
  have hGl := gl_of_laid hL
  have hval : ∀ (j : Nat) t v, Tryd.f9.params[j]? = some t → args[j]? = some v → Value.okWide Tryd.prog W .any base t v := hval0
  have hW' := hW
  obtain ⟨p, q, hA0, hV, rfl, hfz, hnd⟩ := hW
  have hA : DataW.TrodAll enc Tryd.prog W 0 (fun _ => true) true Tryd.f9.params.toList args.toList ds p := hA0
  rw [Tryd.params9] at hA hval
  obtain ⟨v0, vs0, d0, ds0, p0, q0, hargs, rfl, rfl, h0, r0⟩ := trodAll_cons hA
  obtain ⟨v1, vs1, d1, ds1, p1, q1, rfl, rfl, rfl, h1, r1⟩ := trodAll_cons r0
  obtain ⟨rfl, rfl, rfl⟩ := trodAll_nil r1
  obtain rfl : args = #[v0, v1] := by cases args; simp_all
  obtain ⟨rfl, rfl⟩ := trodVars_none hV
  have k0 := h0
  have lt0 := trod_lt' k0
  obtain ⟨a0, n0, c0, l0, rfl, w0⟩ := arg_ints Tryd.underlying22 Tryd.underlying3 (by kernel_rfl) (hval 0 22 v0 rfl rfl) h0
  have k1 := h1
  have lt1 := trod_lt' k1
  obtain ⟨a1, n1, c1, l1, rfl, w1⟩ := arg_ints Tryd.underlying22 Tryd.underlying3 (by kernel_rfl) (hval 1 22 v1 rfl rfl) h1
  clear hA0 hval0
  refine (walk a0 n0 c0 l0 a1 n1 c1 l1 W w0 w1 hGl).mono fun e W' ⟨he, bel⟩ => ?_
  subst he
  exact ⟨_, rfl, _, _, _, [], _, [], hW', trodAll_mk1 (shut_bool Tryd.underlying4 _), (trodAll_cons_mk (Below.trod laidOut (by kernel_rfl) (of_decide_eq_true (by kernel_rfl)) k0 bel lt0) (trodAll_cons_mk (Below.trod laidOut (by kernel_rfl) (of_decide_eq_true (by kernel_rfl)) k1 bel lt1) trodAll_mk0)), rfl, bel.frame _, fun h => by cases h⟩

theorem over : Rows.utfOrdersRow.holds Tryd.pinned (OpenSpec.ofChange Rows.utfOrdersSpec) :=
  OpenClaim.holds_of_wide 9 Tryd.f9 rfl rfl rfl rfl rfl rfl rfl ⟨rfl, rfl, rfl, rfl, rfl⟩ rfl rfl rfl rfl rfl (by kernel_rfl) Tryd.func9 (by kernel_rfl)
    (of_decide_eq_true (by kernel_rfl)) (by unfold Func.isWrapper; first | (rw [if_pos (by decide +kernel)]; kernel_rfl) | (rw [if_neg (by decide +kernel)]; exact ⟨rfl, rfl⟩))
    (fun os started H enc _ => lifted os started H enc)

/-- the tied card, closed by the builder -/
theorem proved : Rows.UtfOrdersCardSaid :=
  Claim7.holds_tied_plain_at .later [] [.data] true (true, "5db38756cb098dae97c1566c1026846fa7771e753dcd2c8b6f1b86bf2868e610") false
    over (fun _ h => by cases h) (by kernel_rfl) (fun _ h => by cases h) utfOrders_row_tie rfl ⟨rfl, rfl⟩ (by kernel_rfl) rfl
    (fun f fn hf hfn => by
      obtain rfl : f = 9 := Option.some.inj ((show Tryd.prog.funcNamed "davenport/davenportlaw01.UtfOrders" = some 9 by kernel_rfl).symm.trans hf) |>.symm
      obtain rfl : fn = Tryd.f9 := (Option.some.inj (Tryd.func9.symm.trans hfn)).symm
      exact ⟨by kernel_rfl, fun j t ht => by
        rw [Tryd.params9] at ht
        rcases j with _ | j
        · obtain rfl : 22 = t := by simpa using ht
          exact (show Tryd.prog.wantsStandIn 22 = false by kernel_rfl)
        rcases j with _ | j
        · obtain rfl : 22 = t := by simpa using ht
          exact (show Tryd.prog.wantsStandIn 22 = false by kernel_rfl)
        · simp at ht⟩)
    (by kernel_rfl)
end Go.Proofs.YtheoadempenpaaaDoor.LawUtfOrders
