/- The law's own look whether the layer is there. -/
import Derived.Test.YtgliindhndcceaaMgPut
import Derived.Test.YtgliindhndcceaaMgSame
import Derived.Lib.SlBytesConst
namespace Go.Proofs.Ytgliindhndcceaa
open Go.RowKit

section
variable (a b c g1 h1 g2 h2 g3 h3 k4 g5 h5 : Nat)
theorem wk_right : rightAll [⟨some ⟨a, 0, none⟩, 2, 2, [mkE g1 h1 97 1, mkE g2 h2 99 1]⟩, ⟨some ⟨b, 0, none⟩, 2, 2, [mkE g3 h3 98 2, mkD k4 99]⟩, ⟨some ⟨c, 0, none⟩, 1, 1, [mkE g5 h5 97 3]⟩] = true := rfl
theorem wk_srt : srt (flat [⟨some ⟨a, 0, none⟩, 2, 2, [mkE g1 h1 97 1, mkE g2 h2 99 1]⟩, ⟨some ⟨b, 0, none⟩, 2, 2, [mkE g3 h3 98 2, mkD k4 99]⟩, ⟨some ⟨c, 0, none⟩, 1, 1, [mkE g5 h5 97 3]⟩]) = [mkE g5 h5 97 3, mkE g3 h3 98 2, mkD k4 99] := rfl
theorem wk_may : [mkE g1 h1 98 1, mkE g2 h2 97 2, mkD k4 98].all Ed.may = true := rfl
theorem wk_srt2 : srt [mkE g1 h1 98 1, mkE g2 h2 97 2, mkD k4 98] = [mkE g2 h2 97 2, mkD k4 98] := rfl
theorem wk_right2 : right [mkE g3 h3 98 2, mkD k4 99] = true := rfl
theorem wk_rise : riseI [mkE g1 h1 97 1, mkD g2 99] = true := rfl
theorem wk_done : doneN [mkE g1 h1 97 1, mkD g2 99] [mkE g3 h3 98 2, mkD k4 99] = [mkE g1 h1 97 1, mkE g3 h3 98 2] := by
  rw [doneN_less rfl, doneN_more rfl (by simp [mkE, mkD]), doneN_same (i := mkD g2 99) (x := mkD k4 99) rfl rfl, doneN_nil]
  rfl
theorem wk_right3 : right [mkE g1 h1 97 1, mkE g2 h2 97 1] = false := rfl
theorem wk_same : same [mkE g5 h5 97 3, mkE g3 h3 98 2, mkD k4 99] [mkE g1 h1 97 3, mkE g2 h2 98 2, mkD a 99] = true := rfl
theorem wk_same2 : same [mkE g2 h2 97 2, mkD k4 98] [mkE g1 h1 97 2, mkD a 98] = true := rfl
end
theorem wk_less : Mg.lt [97] [97, 98] = true := rfl
set_option maxRecDepth 100000 in
set_option maxHeartbeats 16000000 in
theorem wakes_any (w : World) : Calls Try.prog 10 #[] w fun e w' => e = .returned (.bool true) ∧ Below w.heap.size w w' := by
  have kc := fun (W : World) (C : Array Value) (n c : Nat) => Lib.run_convert_bytes_const (P := Try.prog) W 23 5 C n c Try.underlying23 Try.underlying5
  have kd := fun (W : World) (C : Array Value) (n c k : Nat) (hk : W.heap.size = k) => show (convert 23 23 (.slice (some ⟨k, 0, none⟩) n c)).run Try.prog (W.alloc (.cells C 5)) = .ok (.slice (some ⟨k, 0, none⟩) n c) (W.alloc (.cells C 5 (C.size, C.size + 1))) by rw [← hk]; exact kc W C n c
  go_enter Try.func10, Try.ntmps10
  go_wp2_with fail
  refine Calls.mono (put_any 97 1 97 1 (by decide) (by decide) _) ?_
  rintro e1 w1 ⟨g1, h1, rfl, ok1, hb1⟩
  go_wp2_with fail
  refine Calls.mono (put_any 99 1 99 1 (by decide) (by decide) _) ?_
  rintro e2 w2 ⟨g2, h2, rfl, ok2, hb2⟩
  go_wp2_with fail
  generalize hW : w2.alloc _ = wa
  obtain ⟨ra, ba⟩ := row_lit [mkE g1 h1 97 1, mkE g2 h2 99 1] 2 hW rfl (max_ten (by decide)) rfl (by intro e he; simp at he; rcases he with rfl | rfl; exact ok1.on hb2; exact ok2)
  have BA := hide (below_then (below_then hb1 hb2) ba)
  have RA := hide ra
  generalize w2.heap.size = a at RA ⊢
  clear hW ra ba ok1 ok2 hb1 hb2
  go_wp2_with fail
  refine Calls.mono (put_any 98 2 98 2 (by decide) (by decide) _) ?_
  rintro e3 w3 ⟨g3, h3, rfl, ok3, hb3⟩
  go_wp2_with fail
  generalize hV : w3.alloc _ = wk
  generalize hW : wk.alloc _ = wb
  obtain ⟨rk, bk⟩ := byte_lit 99 hV (by decide)
  obtain ⟨rb, bb⟩ := row_lit [mkE g3 h3 98 2, mkD w3.heap.size 99] 2 hW rfl (max_ten (by decide)) rfl (by intro e he; simp at he; rcases he with rfl | rfl; exact ok3.on bk; exact mkD_ok rk)
  rw [size_lit hV] at rb
  have BB := hide (below_then (below_then hb3 bk) bb)
  have RB2 := hide rb
  generalize w3.heap.size = k4 at RB2 ⊢
  clear hV hW rk bk rb bb hb3 ok3
  go_wp2_with fail
  refine Calls.mono (put_any 97 3 97 3 (by decide) (by decide) _) ?_
  rintro e5 w5 ⟨g5, h5, rfl, ok5, hb5⟩
  go_wp2_with fail
  generalize hV : w5.alloc _ = wc
  generalize hW : wc.alloc _ = wd
  obtain ⟨rc, bc⟩ := row_lit [mkE g5 h5 97 3] 1 hV rfl (max_ten (by decide)) rfl (by intro e he; simp at he; rcases he with rfl; exact ok5)
  obtain ⟨rd, bd⟩ := rows_lit [⟨some ⟨a, 0, none⟩, 2, 2, [mkE g1 h1 97 1, mkE g2 h2 99 1]⟩, ⟨some ⟨k4 + 1, 0, none⟩, 2, 2, [mkE g3 h3 98 2, mkD k4 99]⟩, ⟨some ⟨w5.heap.size, 0, none⟩, 1, 1, [mkE g5 h5 97 3]⟩] 3 hW rfl (max_ten (by decide)) rfl (by
    intro r hr; simp at hr; rcases hr with rfl | rfl | rfl
    · exact (RA.out.on BB.out).on (below_then hb5 bc)
    · exact RB2.out.on (below_then hb5 bc)
    · exact rc)
  have BD := hide (below_then (below_then BA.out BB.out) (below_then (below_then hb5 bc) bd))
  have RB3 := hide ((RB2.out.on (below_then hb5 bc)).on bd)
  have RD := hide rd
  rw [size_lit hV] at RD
  generalize w5.heap.size = k5 at RD ⊢
  clear hV hW rc bc rd bd hb5 ok5 RA BA BB RB2
  refine Calls.mono (merge_any _ 3 3 _ _ RD.out (by omega)) ?_
  rintro e6 w6 hm
  have ht6 := RD.out.srt_ok
  rw [wk_right, wk_srt] at hm
  rw [wk_srt] at ht6
  obtain ⟨A6, c6, rfl, r6, hb6⟩ := hm.row (by simp) ht6
  have R6 := hide r6
  have RB4 := hide (RB3.out.on hb6)
  have B6 := hide (below_then BD.out hb6)
  clear r6 hb6 hm RB3 BD RD ht6
  go_wp2_with fail
  refine Calls.mono (put_any 98 1 98 1 (by decide) (by decide) _) ?_
  rintro e7 w7 ⟨g7, h7, rfl, ok7, hb7⟩
  go_wp2_with fail
  refine Calls.mono (put_any 97 2 97 2 (by decide) (by decide) _) ?_
  rintro e8 w8 ⟨g8, h8, rfl, ok8, hb8⟩
  go_wp2_with fail
  generalize hV : w8.alloc _ = wk
  generalize hW : wk.alloc _ = wb
  obtain ⟨rk, bk⟩ := byte_lit 98 hV (by decide)
  obtain ⟨rb, bb⟩ := row_lit [mkE g7 h7 98 1, mkE g8 h8 97 2, mkD w8.heap.size 98] 3 hW rfl (max_ten (by decide)) rfl (by intro e he; simp at he; rcases he with rfl | rfl | rfl; exact (ok7.on hb8).on bk; exact ok8.on bk; exact mkD_ok rk)
  rw [size_lit hV] at rb
  have BS := hide (below_then (below_then hb7 hb8) (below_then bk bb))
  have RS := hide rb
  generalize w8.heap.size = k8 at RS ⊢
  clear hV hW rk bk rb bb hb7 ok7 hb8 ok8
  refine Calls.mono (sort_any _ 3 3 _ _ RS.out (by omega)) ?_
  rintro e9 w9 hm
  have ht9 := RS.out.srt_ok
  rw [wk_may, wk_srt2] at hm
  rw [wk_srt2] at ht9
  obtain ⟨A9, c9, rfl, r9, hb9⟩ := hm.row (by simp) ht9
  have R9 := hide r9
  have RB5 := hide (RB4.out.on (below_then BS.out hb9))
  have R6b := hide (R6.out.on (below_then BS.out hb9))
  have B9 := hide (below_then B6.out (below_then BS.out hb9))
  clear r9 hb9 hm RB4 BS RS ht9 R6 B6
  go_wp2_with fail
  generalize hP : w9.alloc _ = p1
  generalize hQ : p1.alloc _ = p2
  generalize hR : p2.alloc _ = p3
  generalize hW : p3.alloc _ = wi
  obtain ⟨q1, d1⟩ := byte_lit 97 hP (by decide)
  obtain ⟨q2, d2⟩ := byte_lit 1 hQ (by decide)
  obtain ⟨q3, d3⟩ := byte_lit 99 hR (by decide)
  rw [size_lit hP] at q2
  rw [size_lit hQ, size_lit hP] at q3
  obtain ⟨ri, bi⟩ := items_lit [mkE w9.heap.size (w9.heap.size + 1) 97 1, mkD (w9.heap.size + 1 + 1) 99] 2 hW rfl (max_ten (by decide)) rfl (by intro e he; simp at he; rcases he with rfl | rfl; exact (mkE_ok (q1.on d2) q2).on d3; exact mkD_ok q3)
  rw [size_lit hR, size_lit hQ, size_lit hP] at ri
  have BI := hide (below_then (below_then d1 d2) (below_then d3 bi))
  have RI := hide ri
  generalize w9.heap.size = k9 at RI ⊢
  clear hP hQ hR hW q1 q2 q3 d1 d2 d3 ri bi
  have RB6 := hide (RB5.out.on BI.out)
  have R6c := hide (R6b.out.on BI.out)
  have R9b := hide (R9.out.on BI.out)
  have BJ := hide (below_then B9.out BI.out)
  clear RB5 R6b R9 B9 BI
  refine Calls.mono (done_any _ 2 2 _ _ 2 2 _ _ RI.out RB6.out (by intro e he; simp at he; rcases he with rfl | rfl; all_goals (simp [mkE, mkD])) (by omega) (by omega)) ?_
  rintro e10 w10 hd
  obtain ⟨A10, c10, rfl, r10, hb10⟩ := hd.row (wk_right2 ..) (wk_rise ..) RI.out.ok RB6.out.ok
  rw [wk_done] at r10 ⊢
  have R10 := hide r10
  have R6d := hide (R6c.out.on hb10)
  have R9d := hide (R9b.out.on hb10)
  have BK := hide (below_then BJ.out hb10)
  clear r10 hb10 hd RI RB6 R6c R9b BJ
  go_wp2_with fail
  refine Calls.mono (put_any 97 1 97 1 (by decide) (by decide) _) ?_
  rintro e11 w11 ⟨g11, h11, rfl, ok11, hb11⟩
  go_wp2_with fail
  refine Calls.mono (put_any 97 1 97 1 (by decide) (by decide) _) ?_
  rintro e12 w12 ⟨g12, h12, rfl, ok12, hb12⟩
  go_wp2_with fail
  generalize hW : w12.alloc _ = wc
  obtain ⟨rc, bc⟩ := row_lit [mkE g11 h11 97 1, mkE g12 h12 97 1] 2 hW rfl (max_ten (by decide)) rfl (by intro e he; simp at he; rcases he with rfl | rfl; exact ok11.on hb12; exact ok12)
  have BC := hide (below_then (below_then hb11 hb12) bc)
  have RC := hide rc
  generalize w12.heap.size = k12 at RC ⊢
  clear hW ok11 ok12 hb11 hb12 rc bc
  refine Calls.mono (check_any _ 2 2 _ _ RC.out) ?_
  rintro e13 w13 ⟨rfl, hb13⟩
  rw [rightE_no (wk_right3 ..)]
  have R10b := hide (R10.out.on (below_then BC.out hb13))
  have R6e := hide (R6d.out.on (below_then BC.out hb13))
  have R9e := hide (R9d.out.on (below_then BC.out hb13))
  have BL := hide (below_then BK.out (below_then BC.out hb13))
  clear hb13 RC BC R10 R6d R9d BK
  go_wp2_with fail
  refine Calls.mono (put_any 97 3 97 3 (by decide) (by decide) _) ?_
  rintro e14 w14 ⟨g14, h14, rfl, ok14, hb14⟩
  go_wp2_with fail
  refine Calls.mono (put_any 98 2 98 2 (by decide) (by decide) _) ?_
  rintro e15 w15 ⟨g15, h15, rfl, ok15, hb15⟩
  go_wp2_with fail
  generalize hV : w15.alloc _ = wk
  generalize hW : wk.alloc _ = wb
  obtain ⟨rk, bk⟩ := byte_lit 99 hV (by decide)
  obtain ⟨rb, bb⟩ := row_lit [mkE g14 h14 97 3, mkE g15 h15 98 2, mkD w15.heap.size 99] 3 hW rfl (max_ten (by decide)) rfl (by intro e he; simp at he; rcases he with rfl | rfl | rfl; exact (ok14.on hb15).on bk; exact ok15.on bk; exact mkD_ok rk)
  rw [size_lit hV] at rb
  have BS := hide (below_then (below_then hb14 hb15) (below_then bk bb))
  have RS := hide rb
  generalize w15.heap.size = k15 at RS ⊢
  clear hV hW rk bk rb bb hb14 ok14 hb15 ok15
  refine Calls.mono (same_any _ _ 3 _ 3 3 _ _ _ (R6e.out.on BS.out) RS.out) ?_
  rintro e16 w16 ⟨rfl, hb16⟩
  rw [wk_same]
  have R10c := hide (R10b.out.on (below_then BS.out hb16))
  have R9f := hide (R9e.out.on (below_then BS.out hb16))
  have BM := hide (below_then BL.out (below_then BS.out hb16))
  clear RS BS R10b R9e BL hb16 R6e
  go_wp2_with fail
  refine Calls.mono (put_any 97 2 97 2 (by decide) (by decide) _) ?_
  rintro e17 w17 ⟨g17, h17, rfl, ok17, hb17⟩
  go_wp2_with fail
  generalize hV : w17.alloc _ = wk
  generalize hW : wk.alloc _ = wb
  obtain ⟨rk, bk⟩ := byte_lit 98 hV (by decide)
  obtain ⟨rb, bb⟩ := row_lit [mkE g17 h17 97 2, mkD w17.heap.size 98] 2 hW rfl (max_ten (by decide)) rfl (by intro e he; simp at he; rcases he with rfl | rfl; exact ok17.on bk; exact mkD_ok rk)
  rw [size_lit hV] at rb
  have BS := hide (below_then hb17 (below_then bk bb))
  have RS := hide rb
  generalize w17.heap.size = k17 at RS ⊢
  clear hV hW rk bk rb bb hb17 ok17
  refine Calls.mono (same_any _ _ 2 _ 2 2 _ _ _ (R9f.out.on BS.out) RS.out) ?_
  rintro e18 w18 ⟨rfl, hb18⟩
  rw [wk_same2]
  have R10d := hide (R10c.out.on (below_then BS.out hb18))
  have BN := hide (below_then BM.out (below_then BS.out hb18))
  clear RS BS R10c BM hb18 R9f
  obtain ⟨b10, o10, rfl, _, z0, z1, z2, z3⟩ := R10d.out.cell (k := 1) (by simp)
  simp only [List.getElem_cons_succ, List.getElem_cons_zero] at z0 z1 z2 z3
  have hv := (R10d.out.ok _ (List.mem_cons_of_mem _ (List.mem_cons_self ..))).rv (Nat.le_refl _)
  obtain ⟨b11, o11, hA, _, zz⟩ := hv.cell (k := 0) (by simp [mkE])
  have hA' : (⟨h3, 0, none⟩ : Addr) = ⟨b11, o11, none⟩ := by injection hA
  injection hA' with e1 e2
  subst e1 e2
  have zc : w18.cell? ⟨h3, 0, none⟩ = some (.int .u8 2) := zz
  have z1' : w18.cell? ⟨b10, o10 + 4 + 1, none⟩ = some (.slice (some ⟨h3, 0, none⟩) 1 1) := by have := z1; simpa [mkE] using this
  clear z0 z1 z2 z3 zz hA hv
  go_wp2_with fail
  generalize hV : w18.alloc _ = wk
  generalize hW : wk.alloc _ = wl
  obtain ⟨q1, d1⟩ := byte_lit 97 hV (by decide)
  have q2 : RB wl (some ⟨w18.heap.size + 1, 0, none⟩) 2 [97, 98] := by
    rw [← size_lit hV, ← hW]
    exact RB.lit _ _ _ [97, 98] 2 rfl rfl
  have d2 : Below wk.heap.size wk wl := by rw [← hW]; exact below_alloc _ _
  have q1' := q1.on d2
  have BW := hide (below_then BN.out (below_then d1 d2))
  clear hV hW d1 d2 q1 zc z1'
  refine Calls.mono (less_any _ _ 1 2 1 2 [97] [97, 98] _ q1' q2 max_one) ?_
  rintro e19 w19 ⟨rfl, rfl⟩
  rw [wk_less]
  clear q1' q2
  go_wp2_with fail
  go_ret
  exact ⟨rfl, BW.out⟩
end Go.Proofs.Ytgliindhndcceaa
