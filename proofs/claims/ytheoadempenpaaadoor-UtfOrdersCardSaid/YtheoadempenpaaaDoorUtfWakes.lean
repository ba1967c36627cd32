/- The walk of the law's own look whether the layer is there: wakes. -/
import Derived.Test.YtheoadempenpaaaDoorUtfText
import Derived.Test.YtheoadempenpaaaDoorIntsEq
namespace Go.Proofs.YtheoadempenpaaaDoor
open Go.RowKit

theorem wk_next : nextAt [226, 130, 172] 0 = (8364, 3, 0) := by decide +kernel
theorem wk_no : nextAt [237, 160, 128] 0 = (0, 0, 110) := by decide +kernel
theorem wk_scan : Utf.scan [65, 226, 130] = ([65], 1) := by
  rw [Utf.scan_go (p := 65) (n := 1) (by decide +kernel) (by decide), Utf.scan_stop (by decide +kernel)]
  rfl
theorem wk_chk : chkV [65, 226, 130] = .tuple #[.int .i64 1, .int .i64 110] := by unfold chkV; rw [wk_scan]; rfl
theorem wk_pts : Utf.scan [65, 195, 164] = ([65, 228], 3) := by
  have h := Utf.scan_text [65, 228] (by intro p hp; simp at hp; rcases hp with rfl | rfl <;> decide +kernel)
  have e : Utf.encs [65, 228] = [65, 195, 164] := by decide +kernel
  rw [e] at h
  exact h
theorem wk_text : textV [65, 228] = .tuple #[.string (ByteArray.mk #[65, 195, 164]), .int .i64 0] := by kernel_rfl
theorem wk_enc : Utf.enc (8364 : Int).toNat = [226, 130, 172] := by decide +kernel
set_option maxHeartbeats 4000000 in
theorem wakes_any (w : World) (hg : Gl w) : Calls Tryd.prog 10 #[] w fun e w' => e = .returned (.bool true) ∧ Below w.heap.size w w' := by
  have HG := hide hg
  clear hg
  go_enter Tryd.func10, Tryd.ntmps10
  go_wp2_with fail
  refine Calls.mono (Put_any _ 1 1 8364 [65] _ (RB.lit w 5 (fr := (0, 0)) _ [65] 1 rfl rfl) (by omega)) ?_
  rintro e w1 ⟨hb1, he⟩
  rw [if_pos (by decide +kernel), wk_enc] at he
  obtain ⟨v1, rfl, ho1⟩ := he
  rw [show 1 + ([226, 130, 172] : List UInt8).length = 4 from rfl, show ([65] : List UInt8) ++ [226, 130, 172] = [65, 226, 130, 172] from rfl] at ho1
  obtain ⟨A1, c1, rfl, hc1, hm1, hr1⟩ := own_slice ho1
  have HB1 := hide (below_then (below_alloc w _) hb1)
  have HR1 : Hid (RB w1 A1 4 [65, 226, 130, 172]) := hide hr1
  clear hb1 ho1 hc1 hm1 hr1
  go_wp2_with fail
  refine Calls.mono (Next_any _ 3 3 [226, 130, 172] 0 _ (RB.lit w1 5 (fr := (0, 0)) _ [226, 130, 172] 3 rfl rfl) (by omega) (by omega) (HG.out.on (below_then HB1.out (below_alloc w1 _)))) ?_
  rintro e w2 ⟨rfl, hb2⟩
  rw [wk_next]
  have HB2 := hide (below_then HB1.out (below_then (below_alloc w1 _) hb2))
  have HR2 := hide (HR1.out.on (below_then (below_alloc w1 _) hb2))
  clear hb2 HB1 HR1
  unfold nextAtV
  dsimp only
  go_wp2_with fail
  refine Calls.mono (Next_any _ 3 3 [237, 160, 128] 0 _ (RB.lit w2 5 (fr := (0, 0)) _ [237, 160, 128] 3 rfl rfl) (by omega) (by omega) (HG.out.on (below_then HB2.out (below_alloc w2 _)))) ?_
  rintro e w3 ⟨rfl, hb3⟩
  rw [wk_no]
  have HB3 := hide (below_then HB2.out (below_then (below_alloc w2 _) hb3))
  have HR3 := hide (HR2.out.on (below_then (below_alloc w2 _) hb3))
  clear hb3 HB2 HR2
  unfold nextAtV
  dsimp only
  go_wp2_with fail
  refine Calls.mono (Check_any [65, 226, 130] _ (by decide) (HG.out.on HB3.out)) ?_
  rintro e w4 ⟨rfl, hb4⟩
  rw [wk_chk]
  have HB4 := hide (below_then HB3.out hb4)
  have HR4 := hide (HR3.out.on hb4)
  clear hb4 HB3 HR3
  go_wp2_with fail
  refine Calls.mono (Points_any [65, 195, 164] _ (by decide) (HG.out.on HB4.out)) ?_
  rintro e w5 ⟨hb5, he⟩
  rw [wk_pts, if_pos (by rfl)] at he
  obtain ⟨A5, c5, rfl, hr5, hc5, hm5⟩ := he
  have HB5 := hide (below_then HB4.out hb5)
  have HR5 := hide (HR4.out.on hb5)
  have HI5 : Hid (RI w5 A5 2 [65, 228]) := hide hr5
  clear hb5 hr5 hc5 hm5 HB4 HR4
  dsimp only
  rw [show ([65, 228] : List Nat).length = 2 from rfl]
  go_wp2_with fail
  refine Calls.mono (Text_any _ 2 2 [65, 228] _ (RI.lit w5 3 (fr := (0, 0)) _ [65, 228] 2 rfl rfl) (by omega)) ?_
  rintro e w6 ⟨rfl, hb6⟩
  rw [wk_text]
  have HB6 := hide (below_then HB5.out (below_then (below_alloc w5 _) hb6))
  have HR6 := hide (HR5.out.on (below_then (below_alloc w5 _) hb6))
  have HI6 := hide (HI5.out.on (below_then (below_alloc w5 _) hb6))
  clear hb6 HB5 HR5 HI5
  go_wp2_with fail
  refine Calls.mono (equal_b A1 _ 4 4 c1 4 [65, 226, 130, 172] [65, 226, 130, 172] _ (HR6.out.on (below_alloc w6 _)) (RB.lit w6 5 (fr := (0, 0)) _ [65, 226, 130, 172] 4 rfl rfl) (by omega) (by omega)) ?_
  rintro e w7 ⟨rfl, hb7⟩
  rw [decide_eq_true rfl]
  have HB7 := hide (below_then HB6.out (below_then (below_alloc w6 _) hb7))
  have HI7 := hide (HI6.out.on (below_then (below_alloc w6 _) hb7))
  clear hb7 HB6 HR6 HI6
  go_wp2_with fail
  refine Calls.mono (equal_ints A5 _ 2 2 c5 2 [65, 228] [65, 228] _ (HI7.out.on (below_alloc w7 _)) (RI.lit w7 3 (fr := (0, 0)) _ [65, 228] 2 rfl rfl) (by omega) (by omega)) ?_
  rintro e w8 ⟨rfl, hb8⟩
  rw [decide_eq_true rfl]
  have HB8 := hide (below_then HB7.out (below_then (below_alloc w7 _) hb8))
  clear hb8 HB7 HI7
  go_wp2_with fail
  refine Calls.mono (Size_any 55296 _) ?_
  rintro e w9 ⟨rfl, rfl⟩
  rw [show Utf.sz 55296 = 0 by decide +kernel]
  go_wp2_with fail
  refine Calls.mono (Size_any 65536 _) ?_
  rintro e w9 ⟨rfl, rfl⟩
  rw [show Utf.sz 65536 = 4 by decide +kernel]
  go_wp2_with fail
  go_ret
  exact ⟨rfl, HB8.out⟩
end Go.Proofs.YtheoadempenpaaaDoor
