/- Proved: davenportlaw15.MergeSteps returns true for every input: applying lists one after the other equals applying the merged list. -/
import Derived.Test.YtgliindhndcceaaRows
import Derived.Test.YtgliindhndcceaaMgOpen
import Derived.Test.YtgliindhndcceaaMgLast
import Derived.Test.YtgliindhndcceaaMgSameI
import Derived.Test.YtgliindhndcceaaMgWakes
namespace Go.Proofs.Ytgliindhndcceaa.LawMergeSteps
open Go.ChangeShapes Go.WideShapes Go.ChangeAt Go.RowKit

set_option maxRecDepth 100000 in
set_option maxHeartbeats 16000000 in
theorem walk (A : Option Addr) (n c : Nat) (l : List Ed) (B : Option Addr) (m d : Nat) (R : List Rw) (w : World) (hA : Row w w.heap.size A n c l) (hB : Rows2 w w.heap.size B m d R) :
    Calls Try.prog 7 #[.slice A n c, .slice B m d] w fun e w' => e = .returned (.bool true) ∧ Below w.heap.size w w' := by
  have HA := hide hA
  have HB := hide hB
  clear hA hB
  obtain ⟨N, hN⟩ : ∃ N, (if 12 < m then 12 else m) = N := ⟨_, rfl⟩
  obtain ⟨K, hK⟩ : ∃ K, (if 8 < m then 8 else m) = K := ⟨_, rfl⟩
  obtain ⟨Q, hQ⟩ : ∃ Q, (if 60 < n then 60 else n) = Q := ⟨_, rfl⟩
  have hQ1 := (cut_min hQ).2.1
  have hN1 := (cut_min hN).2.1
  have hK1 := (cut_min hK).2.1
  have f1 : (if (8 : Int) < (m : Int) then (8 : Int) else (m : Int)) = (K : Int) := by rw [← hK]; split <;> split <;> omega
  have hKN : K ≤ N := by rw [← hK, ← hN]; split <;> split <;> omega
  have f5 : (0 : Int) ≤ (K : Int) := by omega
  have HN := hide hN
  have HQ := hide hQ
  clear hN hK hQ
  go_enter Try.func7, Try.ntmps7
  go_wp2_with fail
  refine Calls.mono (wakes_any _) ?_
  rintro e w1 ⟨rfl, hb1⟩
  have HB1 := hide hb1
  clear hb1
  go_wp2_with fail
  refine Calls.mono (few_any A n c 60 Q l _ (HA.out.on HB1.out) HQ.out (by omega)) ?_
  rintro e w2 ⟨A2, c2, es, rfl, hown, hok, -, hb2⟩
  have HR := hide (Row.of_few hown hok)
  have HB2 := hide (below_then HB1.out hb2)
  clear hown hok hb2 HB1
  go_wp2_with fail
  refine Calls.mono (sort_any A2 Q c2 es _ HR.out (by omega)) ?_
  intro e w3 hS
  obtain ⟨G, g, gc, E, GL, rfl, hg, hb3, hE⟩ := hS.two (fun x hx => HR.out.ok x (srt_mem' hx)) (by have := srt_len es; have := HR.out.len; omega)
  have HG3 := hide hg
  have HB3 := hide (below_then HB2.out hb3)
  have HE := hide hE
  have HSL := hide (show (srt es).length ≤ 60 by have := srt_len es; have := HR.out.len; omega)
  clear hS hg hb3 hE HB2 HR
  go_wp2_with fail
  refine Calls.mono (some_any B m d N R _ (HB.out.on HB3.out) HN.out) ?_
  rintro e w4 ⟨A4, c4, L, rfl, hown, hok, hnr, hb4⟩
  have HNR := hide hnr
  have HR4 := hide (Rows2.of_own hown fun r hr => (hok r hr).1)
  have HLR := hide (fun r (hr : r ∈ L) => show r.row.length ≤ 60 by rw [(HR4.out.ok r hr).len]; exact (hok r hr).2)
  have HT4 := hide (HR4.out.take K hKN)
  have HTL := hide (flat_srt_len (L := L.take K) (k := 60) (m := 8) (fun r hr => HLR.out r (List.mem_of_mem_take hr)) (by rw [HT4.out.len]; exact hK1))
  have HG4 := hide (HG3.out.on hb4)
  have HB4 := hide (below_then HB3.out hb4)
  have f4 : (K : Int) ≤ (c4 : Int) := by have := HR4.out.cap; omega
  clear hown hok hnr hb4 HB3 HG3
  go_wp2_with fail
  refine Calls.mono (merge_any A4 K c4 (L.take K) _ HT4.out (by omega)) ?_
  intro e w5 hM
  obtain ⟨M, q, mc, F, ML, rfl, hm, hb5, hF⟩ := hM.two HT4.out.srt_ok (Nat.le_trans HTL.out (by omega))
  have HT5 := hide (HT4.out.on hb5)
  have HM5 := hide hm
  have HG5 := hide (HG4.out.on hb5)
  have HB5 := hide (below_then HB4.out hb5)
  have hE := HE.out
  clear hM hm hb5 HB4 HG4 HT4 HR4 HE
  rcases hE with ⟨rfl, -, -⟩ | ⟨rfl, hes, rfl⟩
  · rcases hF with ⟨rfl, -, -⟩ | ⟨rfl, -, -⟩
    · go_wp2_with fail
      go_ret
      exact ⟨rfl, HB5.out⟩
    · go_wp2_with fail
      go_ret
      exact ⟨rfl, HB5.out⟩
  · rcases hF with ⟨rfl, -, -⟩ | ⟨rfl, hRA, rfl⟩
    · clear hes
      go_wp2_with fail
      go_ret
      exact ⟨rfl, HB5.out⟩
    · have HGR := hide (srt_right hes)
      have HRA := hide hRA
      have hg60 : g ≤ 60 := by have := HG5.out.len; have := HSL.out; omega
      have hq480 : q ≤ 480 := by have := HM5.out.len; have := HTL.out; omega
      clear hes hRA
      go_wp2_with fail
      refine Calls.mono (done_any none 0 0 [] G g gc (srt es) _ (ItR.nil _ _) HG5.out (fun _ h => by cases h) (by omega) (by omega)) ?_
      intro e w6 hD
      obtain ⟨A6, p, c6, V, rfl, hV, hp, hi6, hb6⟩ := hD.go HGR.out up_nil (fun _ h => by cases h) HG5.out.ok
      have HVU := hide (show up V by rw [hV]; exact doneN_up up_nil (srt_up _))
      have HVK := hide (show ∀ e ∈ V, e.kn ≤ 1048576 by rw [hV]; exact doneN_kn (fun _ h => by cases h) (right_keys HGR.out))
      have hp60 : p ≤ 60 := by have := HG5.out.len; simp only [List.length_nil] at hp; omega
      have HV6 := hide hi6
      have HT6 := hide (HT5.out.on hb6)
      have HM6 := hide (HM5.out.on hb6)
      have HB6 := hide (below_then HB5.out hb6)
      clear hD hV hp hi6 hb6 HG5 HT5 HM5 HB5 HGR HSL
      go_wp2_with fail
      refine Calls.mono (some_any B m d N R _ (HB.out.on HB6.out) HN.out) ?_
      rintro e w7 ⟨A7, c7, L7, rfl, hown, hok, hnr, hb7⟩
      have HR7 := hide (Rows2.of_own hown fun r hr => (hok r hr).1)
      have HLR7 := hide (fun r (hr : r ∈ L7) => show r.row.length ≤ 60 by rw [(HR7.out.ok r hr).len]; exact (hok r hr).2)
      have HNQ := hide (take_nrm (HNR.out.trans hnr.symm) K)
      have HT7 := hide (HR7.out.take K hKN)
      have HRT := hide (right_at2 HNQ.out HT6.out HT7.out HRA.out)
      have HLK := hide (fun r (hr : r ∈ L7.take K) => HLR7.out r (List.mem_of_mem_take hr))
      have HV7 := hide (HV6.out.on hb7)
      have HM7 := hide (HM6.out.on hb7)
      have HB7 := hide (below_then HB6.out hb7)
      have f4 : (K : Int) ≤ (c7 : Int) := by have := HR7.out.cap; omega
      have HMR := hide (srt_right (rightAll_may HRA.out))
      have HUL := hide (fun r (hr : r ∈ L.take K) => right_up (rightAll_at HRA.out r hr))
      clear hown hok hnr hb7 HB6 HV6 HM6 HT6 HR7 HLR7 HNR HLR HRA HTL
      generalize L7.take K = LK at *
      have HKL := hide HT7.out.len
      have HBL := hide (fun (W : World) (h : Below w7.heap.size w7 W) => show Below w.heap.size w W from below_then HB7.out h)
      go_wp2_with fail
      go_loopw [10, 59] (fun nv i wr => ∃ (j p' : Nat) (A' : Option Addr) (c' : Nat) (O : List Ed), i = .int .i64 (j : Int) ∧ j ≤ K ∧ p' ≤ 60 + 60 * j ∧ nv = .slice A' p' c' ∧ Hid (ItR wr wr.heap.size A' p' c' O) ∧ Hid (O = doneL V ((LK.take j).map Rw.row)) ∧ Hid (up O) ∧ Hid (∀ e ∈ O, e.kn ≤ 1048576) ∧ Hid (Below w7.heap.size w7 wr)) (fun _ i _ => K - (intOf i).toNat)
      case atStart => exact ⟨0, p, A6, c6, V, rfl, Nat.zero_le _, by omega, rfl, HV7, hide rfl, HVU, HVK, hide (Below.refl _ _)⟩
      case round =>
        obtain ⟨j, p', A', c', O, rfl, hj, hp', rfl, hO, hOe, hOu, hOk, hb⟩ := hrel
        by_cases hlt : j < K
        · have hjl : j < LK.length := by rw [HKL.out]; exact hlt
          have HRW := hide (HT7.out.on hb.out)
          obtain ⟨b, o, rfl, -, -⟩ := HRW.out.cell hjl
          obtain ⟨-, y0⟩ := HRW.out.at_ hjl
          have hj0 : (0 : Int) ≤ (j : Int) := by omega
          have hj1 : (j : Int) < (K : Int) := by omega
          have HRO := hide (HRW.out.ok LK[j] (List.getElem_mem hjl))
          have HRR := hide (HRT.out LK[j] (List.getElem_mem hjl))
          have HRL := hide (HLK.out LK[j] (List.getElem_mem hjl))
          have HTJ := hide (show LK.take (j + 1) = LK.take j ++ [LK[j]] from List.take_succ_eq_append_getElem hjl)
          obtain ⟨r, hr⟩ : ∃ r, r = LK[j] := ⟨_, rfl⟩
          rw [← hr] at y0 HRO HRL HRR HTJ
          clear hr
          have hrn : r.n ≤ 60 := by have := HRL.out; rwa [HRO.out.len] at this
          go_wp2_with fail
          refine Calls.mono (done_any A' p' c' O r.A r.n r.c r.row _ hO.out HRO.out hOk.out (by omega) (by omega)) ?_
          intro e w8 hD
          obtain ⟨A8, p8, c8, T8, rfl, hT8, hp8, hi8, hb8⟩ := hD.go HRR.out hOu.out hO.out.ok HRO.out.ok
          have hp9 : p8 ≤ 60 + 60 * (j + 1) := by have := hO.out.len; have := HRL.out; omega
          have HI8 := hide hi8
          have HB8 := hide (below_then hb.out hb8)
          have HTE := hide (show T8 = doneL V ((LK.take (j + 1)).map Rw.row) by rw [HTJ.out, List.map_append, List.map_singleton, doneL_snoc, ← hOe.out, hT8])
          have HTU := hide (show up T8 by rw [hT8]; exact doneN_up hOu.out (right_up HRR.out))
          have HTN := hide (show ∀ e ∈ T8, e.kn ≤ 1048576 by rw [hT8]; exact doneN_kn hOk.out (right_keys HRR.out))
          clear hD hT8 hp8 hi8 hb8 y0
          go_wp2_with fail
          go_roundw
          case rel => exact ⟨j + 1, p8, A8, c8, T8, by go_num, by omega, by omega, rfl, HI8, HTE, HTU, HTN, HB8⟩
          case measure => simp [intOf]; omega
        · obtain rfl : j = K := by omega
          have HOF := hide (show O = doneL V (LK.map Rw.row) by rw [hOe.out, List.take_of_length_le (by rw [HKL.out]; exact Nat.le_refl _)])
          have HSM := hide (doneL_merged (its := V) HNQ.out HVU.out HUL.out)
          have HVW := hide (HV7.out.on hb.out)
          have HMW := hide (HM7.out.on hb.out)
          clear HV7 HM7
          go_wp2_with fail
          refine Calls.mono (done_any A6 p c6 V M q mc _ _ HVW.out HMW.out HVK.out (by omega) (by omega)) ?_
          intro e w8 hD
          obtain ⟨A8, p8, c8, T8, rfl, hT8, -, hi8, hb8⟩ := hD.go HMR.out HVU.out HVW.out.ok HMW.out.ok
          have HI8 := hide hi8
          have HO8 := hide (hO.out.on hb8)
          have HB8 := hide (below_then hb.out hb8)
          have HS := hide (show sameI O T8 = true by rw [hT8, HOF.out]; exact HSM.out)
          clear hD hT8 hi8 hb8
          go_wp2_with fail
          refine Calls.mono (sameI_any A' A8 p' c' p8 c8 O T8 _ HO8.out HI8.out) ?_
          rintro e w9 ⟨rfl, hb9⟩
          rw [HS.out]
          have HB9 := hide (below_then HB8.out hb9)
          clear hb9 HO8 HI8
          go_wp2_with fail
          go_ret
          exact ⟨rfl, HBL.out _ HB9.out⟩
/-! ### the row's step, written by program after the guide's skeleton -/
theorem own : ownKnob Try.prog.godebug = none := by kernel_rfl
theorem laidOut : laidOutB Try.prog = true := by kernel_rfl
set_option maxRecDepth 100000 in
theorem lifted (os : Os) (started : os.Started) (H : Type) (enc : TypeId × Value → H) :
    ReturnsInHanded {} Try.checked os 7 .any (Rows.mergeStepsSpec.pre6 enc Try.prog Try.f7 Rows.mergeStepsRow.domain false) (Rows.mergeStepsSpec.post enc Try.prog Try.f7 false true false false) := by
  refine returnsInHanded_of_change (C := Try.checked) own started (by kernel_rfl) Try.func7
    (ChangeSpec.witness6 (enc := enc) (C := Try.checked) false ⟨#[], #[.slice none 0 0, .slice none 0 0], []⟩ 8 (by kernel_rfl) (by kernel_rfl) (by kernel_rfl) (by kernel_rfl)) ?_
  intro W base args ds gs before hval0 hW hcnd _
  have hval : ∀ (j : Nat) t v, Try.f7.params[j]? = some t → args[j]? = some v → Value.okWide Try.prog W .any base t v := hval0
  have hW' := hW
  obtain ⟨p, q, hA0, hV, rfl, hfz, hnd⟩ := hW
  have hA : DataW.TrodAll enc Try.prog W 0 (fun _ => true) true Try.f7.params.toList args.toList ds p := hA0
  rw [Try.params7] at hA hval
  obtain ⟨v0, vs0, d0, ds0, p0, q0, hargs, rfl, rfl, h0, r0⟩ := trodAll_cons hA
  obtain ⟨v1, vs1, d1, ds1, p1, q1, rfl, rfl, rfl, h1, r1⟩ := trodAll_cons r0
  obtain ⟨rfl, rfl, rfl⟩ := trodAll_nil r1
  obtain rfl : args = #[v0, v1] := by cases args; simp_all
  obtain ⟨rfl, rfl⟩ := trodVars_none hV
  have k0 := h0
  have lt0 := trod_lt' k0
  obtain ⟨a0, n0, c0, l0, rfl, w0⟩ := arg_edits rfl (hval 0 22 v0 rfl rfl) h0
  have k1 := h1
  have lt1 := trod_lt' k1
  obtain ⟨a1, n1, c1, l1, rfl, w1⟩ := arg_rows rfl (hval 1 35 v1 rfl rfl) h1
  clear hA0 hval0
  refine (walk a0 n0 c0 l0 a1 n1 c1 l1 W w0 w1).mono fun e W' ⟨he, bel⟩ => ?_
  subst he
  exact ⟨_, rfl, _, _, _, [], _, [], hW', trodAll_mk1 (shut_bool Try.underlying4 _), (trodAll_cons_mk (Below.trod laidOut (by kernel_rfl) (of_decide_eq_true (by kernel_rfl)) k0 bel lt0) (trodAll_cons_mk (Below.trod laidOut (by kernel_rfl) (of_decide_eq_true (by kernel_rfl)) k1 bel lt1) trodAll_mk0)), rfl, bel.frame _, fun h => by cases h⟩

theorem over : Rows.mergeStepsRow.holds Try.pinned (OpenSpec.ofChange Rows.mergeStepsSpec) :=
  OpenClaim.holds_of_wide 7 Try.f7 rfl rfl rfl rfl rfl rfl rfl ⟨rfl, rfl, rfl, rfl, rfl⟩ rfl rfl rfl rfl rfl (by kernel_rfl) Try.func7 (by kernel_rfl)
    (of_decide_eq_true (by kernel_rfl)) (by unfold Func.isWrapper; first | (rw [if_pos (by decide +kernel)]; kernel_rfl) | (rw [if_neg (by decide +kernel)]; exact ⟨rfl, rfl⟩))
    (fun os started H enc _ => lifted os started H enc)

theorem proved : Rows.MergeStepsSaid := over
end Go.Proofs.Ytgliindhndcceaa.LawMergeSteps
