/- Proved: davenportlaw15.MergeRows returns true for every input: Merge returns the merged list of any lists, or the documented error. -/
import Derived.Test.YtgliindhndcceaaRows
import Derived.Test.YtgliindhndcceaaMgOpen
import Derived.Test.YtgliindhndcceaaMgAny
import Derived.Test.YtgliindhndcceaaMgRight
import Derived.Test.YtgliindhndcceaaMgWith
import Derived.Test.YtgliindhndcceaaMgWakes
namespace Go.Proofs.Ytgliindhndcceaa.LawMergeRows
open Go.ChangeShapes Go.WideShapes Go.ChangeAt Go.RowKit

set_option maxRecDepth 100000 in
set_option maxHeartbeats 16000000 in
theorem walk (A : Option Addr) (n c : Nat) (R : List Rw) (w : World) (hA : Rows2 w w.heap.size A n c R) :
    Calls Try.prog 5 #[.slice A n c] w fun e w' => e = .returned (.bool true) ∧ Below w.heap.size w w' := by
  obtain ⟨i0, hti, hz0, hz1, hz2⟩ := info_parts edit_info
  have HA := hide hA
  clear hA
  go_enter Try.func5, Try.ntmps5
  go_wp2_with fail
  refine Calls.mono (wakes_any _) ?_
  rintro e w1 ⟨rfl, hb1⟩
  have HB1 := hide hb1
  clear hb1
  go_wp2_with fail
  refine Calls.mono (some_any A n c _ R _ (HA.out.on HB1.out) rfl) ?_
  rintro e w2 ⟨A2, c2, L, rfl, hown, hok, hnr, hb2⟩
  have HNR := hide hnr
  have HR := hide (Rows2.of_own hown fun r hr => (hok r hr).1)
  have HB2 := hide (below_then HB1.out hb2)
  have hN := (cut_min (n := n) (N := if 12 < n then 12 else n) (M := 12) rfl).2.1
  have HLR := hide (fun r (hr : r ∈ L) => show r.row.length ≤ 60 by rw [(HR.out.ok r hr).len]; exact (hok r hr).2)
  clear hown hok hb2 HB1 hnr
  generalize (if 12 < n then 12 else n) = N at *
  have HL := hide HR.out.len
  go_wp2_with fail
  refine Calls.mono (merge_any A2 N c2 L _ HR.out (by omega)) ?_
  rintro e w3 hM
  obtain ⟨G, g, gc, E, GL, rfl, hg, hb3, hC1, hC2, hC3⟩ := hM.any HR.out.srt_ok
  have HG3 := hide hg
  have HR3 := hide (HR.out.on hb3)
  have HB3 := hide (below_then HB2.out hb3)
  have HC1 := hide hC1
  have HC2 := hide hC2
  have HC3 := hide hC3
  obtain ⟨T, hT⟩ : ∃ T, T = srt (flat L) := ⟨_, rfl⟩
  rw [← hT] at HC2 HC3
  have HT := hide hT
  clear hT hM hg hb3 hC1 hC2 hC3 HB2 HR
  have HBL := hide (fun (W : World) (h : Below w3.heap.size w3 W) => show Below w.heap.size w W from below_then HB3.out h)
  go_wp2_with fail
  go_loopw [6, 23] (fun av i wr => ∃ (j : Nat) (O : List Ed), i = .int .i64 (j : Int) ∧ j ≤ N ∧ O.length ≤ j * 60 ∧ Hid (O = flat (L.take j)) ∧ Hid (wr.ownsRow w3.heap.size 48 5 av O.length (cellsE O)) ∧ Hid (Below w3.heap.size w3 wr) ∧ Hid (∀ p (h : p < L.length), p < j → right L[p].row = true)) (fun _ i _ => N - (intOf i).toNat)
  case atStart => exact ⟨0, [], rfl, Nat.zero_le _, Nat.zero_le _, hide rfl, hide (World.ownsRow_nil _ _ _ _), hide (Below.refl _ _), hide (fun p h hp => absurd hp (by omega))⟩
  case round =>
    obtain ⟨j, O, rfl, hj, hOl, hO, hown, hb, hst⟩ := hrel
    by_cases hlt : j < N
    · have hjl : j < L.length := by rw [HL.out]; exact hlt
      have HRW := hide (HR3.out.on hb.out)
      obtain ⟨b, o, rfl, -, -⟩ := HRW.out.cell hjl
      obtain ⟨-, y0⟩ := HRW.out.at_ hjl
      have hj0 : (0 : Int) ≤ (j : Int) := by omega
      have hj1 : (j : Int) < (N : Int) := by omega
      have HRO := hide (HRW.out.ok L[j] (List.getElem_mem hjl))
      have HRL := hide (HLR.out L[j] (List.getElem_mem hjl))
      have HTJ := hide (flat_take_succ hjl)
      have HNO := hide (fun h : right L[j].row = false => rightAll_no hjl h)
      have HYES := hide (fun h : right L[j].row = true => show ∀ p (h : p < L.length), p < j + 1 → right L[p].row = true from fun p hp hpj => by
        by_cases he : p = j
        · subst he; exact h
        · exact hst.out p hp (by omega))
      obtain ⟨r, hr⟩ : ∃ r, r = L[j] := ⟨_, rfl⟩
      rw [← hr] at y0 HRO HRL HTJ HNO HYES
      clear hr
      go_wp2_with fail
      refine Calls.mono (right_any r.A r.n r.c r.row _ HRO.out) ?_
      rintro e w5 ⟨rfl, hb5⟩
      have HB5 := hide (below_then hb.out hb5)
      cases hrt : right r.row with
      | false =>
        obtain ⟨rfl, rfl⟩ := HC1.out (HNO.out hrt)
        clear hrt
        go_wp2_with fail
        go_ret
        exact ⟨rfl, HBL.out _ HB5.out⟩
      | true =>
        have HY := hide (HYES.out hrt)
        have HRO5 := hide (HRO.out.on hb5)
        have HO5 := hide (own_on hown.out hb5)
        have hrl : r.n ≤ 60 := by have := HRL.out; rwa [HRO.out.len] at this
        have hsz5 := HB5.out.size
        clear hrt hb5 y0
        go_wp2_with (at_builtin; go_loud (refine wpList_append_reads rfl (.tmp 37) (.tmp 38) _ rfl w3.heap.size 48 i0 _ 5 72 Try.underlying22 hti hz0 hz1 hz2 rfl (by omega) u6 O.length (cellsE O) rfl HO5.out w5.heap.size r.A r.n r.c (cellsE r.row) rfl HRO5.out.cells cellsE_one (by unfold maxLen; omega) (by omega) hsz5 ?_); intro v9 w9 hown9 hg9 hat9)
        all_goals
          have HB9 := hide (show Below w3.heap.size w3 w9 from HB5.out.grown hg9 hsz5 fun k hk => (HO5.out.lt k hk).1)
          have HLN := hide HRO5.out.len
          go_roundw
          case rel => exact ⟨j + 1, O ++ r.row, by go_num, by omega, by rw [List.length_append, HLN.out]; omega, hide (by rw [hO.out, HTJ.out]), hide (by rw [cellsE_append, List.length_append, HLN.out]; exact hown9), HB9, HY⟩
          case measure => simp [intOf]; omega
    · obtain rfl : j = N := by omega
      have HRA := hide (rightAll_yes fun p h => hst.out p h (by have := HL.out; omega))
      have HOF := hide (show O = flat L by rw [hO.out, List.take_of_length_le (by rw [HL.out]; exact Nat.le_refl _)])
      have hC2 := HC2.out HRA.out
      have hC3 := HC3.out HRA.out
      have HTO := hide (show T = srt O by rw [HOF.out, HT.out])
      obtain ⟨A6, c6, e6, hc6, hm6, hr6⟩ := own_slice hown.out
      have HRO := hide (show Row wr wr.heap.size A6 O.length c6 O from ⟨hr6, fun e he => by rw [HOF.out] at he; exact (HR3.out.flat_ok e he).on hb.out, hc6, hm6⟩)
      have HSO := hide (rsort_any A6 O.length c6 O wr HRO.out (by omega))
      rw [← HTO.out] at HSO
      have HRW := hide (HR3.out.on hb.out)
      have HGW := hide (HG3.out.on hb.out)
      have HBW := hide (HBL.out _ hb.out)
      obtain ⟨m, hm⟩ : ∃ m, m = T.length := ⟨_, rfl⟩
      rw [← hm] at hC2 hC3 HSO
      rw [e6]
      generalize O.length = q at *
      clear hr6 hc6 hm6 e6 hown HRO hO HTO HOF HR3 HG3 HC1 HC2 HC3 HT hst hb HB3 HBL
      go_wp2_with fail
      refine Calls.mono HSO.out ?_
      rintro e w6 ⟨A7, c7, rfl, hr7, hb7⟩
      have HR7 := hide (HRW.out.on hb7)
      have HG7 := hide (HGW.out.on hb7)
      have HW7 := hide hr7
      have HB7 := hide (below_then HBW.out hb7)
      clear hr7 hb7 HRW HGW HBW HSO
      by_cases hl : m ≤ 512
      · obtain ⟨rfl, rfl⟩ := hC2 hl
        obtain rfl : g = m := by rw [hm]; exact HG7.out.len.symm
        clear hC2 hC3 hm
        go_wp2_with fail
        refine Calls.mono (same_any G A7 g gc g c7 GL GL _ HG7.out HW7.out) ?_
        rintro e w8 ⟨rfl, hb8⟩
        rw [same_refl]
        have HR8 := hide (HR7.out.on hb8)
        have HB8 := hide (below_then HB7.out hb8)
        clear hb8 HR7 HG7 HW7 HB7 hl
        go_wp2_with fail
        refine Calls.mono (some_any A n c _ R _ (HA.out.on HB8.out) rfl) ?_
        rintro e w9 ⟨A9, c9, L9, rfl, hown9, hok9, hnr9, hb9⟩
        have HN9 := hide (HNR.out.trans hnr9.symm)
        have HR9 := hide (Rows2.of_own hown9 fun r hr => (hok9 r hr).1)
        have HRR := hide (HR8.out.on hb9)
        have HB9 := hide (below_then HB8.out hb9)
        clear hown9 hok9 hnr9 hb9 HR8 HB8
        have hK : (if 12 < n then 12 else n) = j := by rw [← HR9.out.len, ← HL.out, nrm_len HN9.out]
        rw [hK] at HR9 ⊢
        clear hK
        have HBL := hide (fun (W : World) (h : Below w9.heap.size w9 W) => show Below w.heap.size w W from below_then HB9.out h)
        go_wp2_with fail
        go_loopw [64] (fun i wr => ∃ k : Nat, i = .int .i64 (k : Int) ∧ k ≤ j ∧ Hid (Below w9.heap.size w9 wr)) (fun i _ => j - (intOf i).toNat)
        case atStart => exact ⟨0, rfl, Nat.zero_le _, hide (Below.refl _ _)⟩
        case round =>
          obtain ⟨k, rfl, hk, hb⟩ := hrel
          by_cases hlt : k < j
          · have hkl : k < L.length := by rw [HL.out]; exact hlt
            have hkl9 : k < L9.length := by rw [HR9.out.len]; exact hlt
            have HX := hide (HRR.out.on hb.out)
            have HY := hide (HR9.out.on hb.out)
            obtain ⟨b, o, rfl, -, -⟩ := HX.out.cell hkl
            obtain ⟨-, y0⟩ := HX.out.at_ hkl
            obtain ⟨b', o', rfl, -, -⟩ := HY.out.cell hkl9
            obtain ⟨-, y1⟩ := HY.out.at_ hkl9
            have hk0 : (0 : Int) ≤ (k : Int) := by omega
            have hk1 : (k : Int) < (j : Int) := by omega
            have HXO := hide (HX.out.ok L[k] (List.getElem_mem hkl))
            have HYO := hide (HY.out.ok L9[k] (List.getElem_mem hkl9))
            have HSM := hide (nrms_same (nrm_at HN9.out hkl hkl9))
            obtain ⟨r, hr⟩ : ∃ r, r = L[k] := ⟨_, rfl⟩
            obtain ⟨s, hs⟩ : ∃ s, s = L9[k] := ⟨_, rfl⟩
            rw [← hr] at y0 HXO HSM
            rw [← hs] at y1 HYO HSM
            clear hr hs
            go_wp2_with fail
            refine Calls.mono (same_any r.A s.A r.n r.c s.n s.c r.row s.row _ HXO.out HYO.out) ?_
            rintro e w8 ⟨rfl, hb8⟩
            rw [HSM.out]
            have HB8 := hide (below_then hb.out hb8)
            clear hb8 y0 y1
            go_wp2_with fail
            go_roundw
            case rel => exact ⟨k + 1, by go_num, by omega, HB8⟩
            case measure => simp [intOf]; omega
          · obtain rfl : k = j := by omega
            go_wp2_with fail
            go_ret
            exact ⟨rfl, HBL.out _ hb.out⟩
      · obtain ⟨rfl, rfl⟩ := hC3 (by omega)
        clear hC2 hC3 hm
        go_wp2_with fail
        go_ret
        exact ⟨rfl, HB7.out⟩
/-! ### the row's step, written by program after the guide's skeleton -/
theorem own : ownKnob Try.prog.godebug = none := by kernel_rfl
theorem laidOut : laidOutB Try.prog = true := by kernel_rfl
set_option maxRecDepth 100000 in
theorem lifted (os : Os) (started : os.Started) (H : Type) (enc : TypeId × Value → H) :
    ReturnsInHanded {} Try.checked os 5 .any (Rows.mergeRowsSpec.pre6 enc Try.prog Try.f5 Rows.mergeRowsRow.domain false) (Rows.mergeRowsSpec.post enc Try.prog Try.f5 false true false false) := by
  refine returnsInHanded_of_change (C := Try.checked) own started (by kernel_rfl) Try.func5
    (ChangeSpec.witness6 (enc := enc) (C := Try.checked) false ⟨#[], #[.slice none 0 0], []⟩ 8 (by kernel_rfl) (by kernel_rfl) (by kernel_rfl) (by kernel_rfl)) ?_
  intro W base args ds gs before hval0 hW hcnd _
  have hval : ∀ (j : Nat) t v, Try.f5.params[j]? = some t → args[j]? = some v → Value.okWide Try.prog W .any base t v := hval0
  have hW' := hW
  obtain ⟨p, q, hA0, hV, rfl, hfz, hnd⟩ := hW
  have hA : DataW.TrodAll enc Try.prog W 0 (fun _ => true) true Try.f5.params.toList args.toList ds p := hA0
  rw [Try.params5] at hA hval
  obtain ⟨v0, vs0, d0, ds0, p0, q0, hargs, rfl, rfl, h0, r0⟩ := trodAll_cons hA
  obtain ⟨rfl, rfl, rfl⟩ := trodAll_nil r0
  obtain rfl : args = #[v0] := by cases args; simp_all
  obtain ⟨rfl, rfl⟩ := trodVars_none hV
  have k0 := h0
  have lt0 := trod_lt' k0
  obtain ⟨a0, n0, c0, l0, rfl, w0⟩ := arg_rows rfl (hval 0 35 v0 rfl rfl) h0
  clear hA0 hval0
  refine (walk a0 n0 c0 l0 W w0).mono fun e W' ⟨he, bel⟩ => ?_
  subst he
  exact ⟨_, rfl, _, _, _, [], _, [], hW', trodAll_mk1 (shut_bool Try.underlying4 _), (trodAll_cons_mk (Below.trod laidOut (by kernel_rfl) (of_decide_eq_true (by kernel_rfl)) k0 bel lt0) trodAll_mk0), rfl, bel.frame _, fun h => by cases h⟩

theorem over : Rows.mergeRowsRow.holds Try.pinned (OpenSpec.ofChange Rows.mergeRowsSpec) :=
  OpenClaim.holds_of_wide 5 Try.f5 rfl rfl rfl rfl rfl rfl rfl ⟨rfl, rfl, rfl, rfl, rfl⟩ rfl rfl rfl rfl rfl (by kernel_rfl) Try.func5 (by kernel_rfl)
    (of_decide_eq_true (by kernel_rfl)) (by unfold Func.isWrapper; first | (rw [if_pos (by decide +kernel)]; kernel_rfl) | (rw [if_neg (by decide +kernel)]; exact ⟨rfl, rfl⟩))
    (fun os started H enc _ => lifted os started H enc)

theorem proved : Rows.MergeRowsSaid := over
end Go.Proofs.Ytgliindhndcceaa.LawMergeRows
