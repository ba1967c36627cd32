/- The walk of quote's Size, and of the law's own look whether the layer is there: wakes. -/
import Derived.Test.YtbnibiealnogdaaDoorQuoPrint
import Derived.Test.YtbnibiealnogdaaDoorQuoRead
import Derived.Lib.SlBytesConst
namespace Go.Proofs.YtbnibiealnogdaaDoor
open Go.RowKit

/-- what Size answers -/
def sizeP (l : List UInt8) : Nat := if (Utf.scan l).2 = l.length then (quoted (Utf.scan l).1).length else 0
theorem sizePrint_any (l : List UInt8) (w : World) (hn : l.length ≤ 10000) (hg : Gl w) :
    Calls Tryd.prog 13 #[.string (str l)] w fun e w' => e = .returned (.int .i64 (sizeP l : Nat)) ∧ Below w.heap.size w w' := by
  have HP := hide (Print_any l w hn hg)
  by_cases hyes : (Utf.scan l).2 = l.length
  · have HV := hide (show printV l = .tuple #[.string (str (quoted (Utf.scan l).1)), .int .i64 0] by unfold printV; rw [if_pos hyes])
    have HZ := hide (show sizeP l = (str (quoted (Utf.scan l).1)).size by unfold sizeP; rw [if_pos hyes, str_size])
    generalize str (quoted (Utf.scan l).1) = S at *
    generalize str l = s at *
    clear hyes
    go_enter Tryd.func13, Tryd.ntmps13
    go_wp2_with fail
    refine Calls.mono HP.out ?_
    rintro e w1 ⟨rfl, hb1⟩
    rw [HV.out]
    go_wp2_with fail
    go_ret
    exact ⟨by rw [HZ.out]; rfl, hb1⟩
  · have HV := hide (show printV l = .tuple #[.string (ByteArray.mk #[]), .int .i64 110] by unfold printV; rw [if_neg hyes])
    have HZ := hide (show sizeP l = 0 by unfold sizeP; rw [if_neg hyes])
    generalize str l = s at *
    clear hyes
    go_enter Tryd.func13, Tryd.ntmps13
    go_wp2_with fail
    refine Calls.mono HP.out ?_
    rintro e w1 ⟨rfl, hb1⟩
    rw [HV.out]
    go_wp2_with fail
    go_ret
    exact ⟨by rw [HZ.out]; rfl, hb1⟩
theorem qs1 : Quo.qscan [97, 92, 110, 92, 117, 48, 48, 52, 49, 34] = ([97, 10, 65], 9) := by
  rw [Quo.qscan_go (p := 97) (n := 1) (by decide +kernel) (by decide), Quo.qscan_go (p := 10) (n := 2) (by decide +kernel) (by decide), Quo.qscan_go (p := 65) (n := 6) (by decide +kernel) (by decide), Quo.qscan_stop (by decide +kernel)]
  rfl
theorem wq1 : readR [34, 97, 92, 110, 92, 117, 48, 48, 52, 49, 34] 0 = ([97, 10, 65], 11, 0) := by
  have h : readAt [34, 97, 92, 110, 92, 117, 48, 48, 52, 49, 34] 0 = ([97, 10, 65], 11, 0) := by
    have h2 := qs1
    rw [readAt_yes (q := 10) (by show 10 = 0 + 1 + (Quo.qscan [97, 92, 110, 92, 117, 48, 48, 52, 49, 34]).2; rw [h2]; rfl) rfl]
    show ((Quo.qscan [97, 92, 110, 92, 117, 48, 48, 52, 49, 34]).1, _, _) = _
    rw [h2]
  unfold readR
  rw [if_neg (by decide), if_neg (by decide), if_pos (by decide)]
  show ((readAt _ 0).1, _, _) = _
  rw [show Int.toNat 0 = 0 from rfl, h]
  rfl
theorem qs2 : Quo.qscan [92, 117, 100, 56, 51, 100, 34] = ([], 0) := Quo.qscan_stop (by decide +kernel)
theorem wq2 : readR [34, 92, 117, 100, 56, 51, 100, 34] 0 = ([], 1, 7) := by
  have h : readAt [34, 92, 117, 100, 56, 51, 100, 34] 0 = ([], 1, 7) := by
    have h2 := qs2
    rw [readAt_no (q := 1) (by show 1 = 0 + 1 + (Quo.qscan [92, 117, 100, 56, 51, 100, 34]).2; rw [h2]; rfl) (by decide)]
    rfl
  unfold readR
  rw [if_neg (by decide), if_neg (by decide), if_pos (by decide)]
  show ((readAt _ 0).1, _, _) = _
  rw [show Int.toNat 0 = 0 from rfl, h]
  rfl
theorem qs3 : Utf.scan [97, 47, 34, 10, 1, 195, 169] = ([97, 47, 34, 10, 1, 233], 7) := by
  have h := Utf.scan_text [97, 47, 34, 10, 1, 233] (by intro p hp; simp at hp; rcases hp with rfl | rfl | rfl | rfl | rfl | rfl <;> decide +kernel)
  have e : Utf.encs [97, 47, 34, 10, 1, 233] = [97, 47, 34, 10, 1, 195, 169] := by decide +kernel
  rw [e] at h
  exact h
theorem wq3 : printV [97, 47, 34, 10, 1, 195, 169] = .tuple #[.string (ByteArray.mk #[34, 97, 47, 92, 34, 92, 110, 92, 117, 48, 48, 48, 49, 195, 169, 34]), .int .i64 0] := by
  unfold printV
  rw [qs3, if_pos (by rfl)]
  have e : quoted [97, 47, 34, 10, 1, 233] = [34, 97, 47, 92, 34, 92, 110, 92, 117, 48, 48, 48, 49, 195, 169, 34] := by decide +kernel
  show Value.tuple #[.string (str (quoted [97, 47, 34, 10, 1, 233])), .int .i64 0] = _
  rw [e]
  rfl
theorem wq4 : sizeP [255] = 0 := by
  unfold sizeP
  rw [Utf.scan_stop (by decide +kernel)]
  rfl
theorem wq5 : quoV [92, 117, 100, 56, 51, 100, 92, 117, 100, 101, 48, 48] 0 = .tuple #[.int .i64 128512, .int .i64 12, .int .i64 0] := by
  have h : Quo.sign [92, 117, 100, 56, 51, 100, 92, 117, 100, 101, 48, 48] = (128512, 12) := by decide +kernel
  have h2 := quoV_at (l := [92, 117, 100, 56, 51, 100, 92, 117, 100, 101, 48, 48]) (k := 0) (by decide)
  rw [show ((0 : Nat) : Int) = 0 from rfl] at h2
  rw [h2]
  exact signV_yes (k := 0) (D := [92, 117, 100, 56, 51, 100, 92, 117, 100, 101, 48, 48]) h (by decide)
theorem str_wq1 : str (Utf.encs [97, 10, 65]) = ByteArray.mk #[97, 10, 65] := by
  have e : Utf.encs [97, 10, 65] = [97, 10, 65] := by decide +kernel
  rw [e]; rfl
set_option maxRecDepth 100000 in
set_option maxHeartbeats 4000000 in
theorem wakes_any (w : World) (hg : Gl w) : Calls Tryd.prog 10 #[] w fun e w' => e = .returned (.bool true) ∧ Below w.heap.size w w' := by
  have HG := hide hg
  have hcs := fun (W : World) (C : Array Value) (n c : Nat) => Lib.run_convert_bytes_const (P := Tryd.prog) W 29 5 C n c Tryd.underlying29 Tryd.underlying5
  clear hg
  go_enter Tryd.func10, Tryd.ntmps10
  go_wp2_with fail
  refine Calls.mono (Read_any _ 11 11 [34, 97, 92, 110, 92, 117, 48, 48, 52, 49, 34] 0 _ (RB.lit w 5 (fr := (11, 12)) _ [34, 97, 92, 110, 92, 117, 48, 48, 52, 49, 34] 11 rfl rfl) (by omega) (by omega) (HG.out.on (below_alloc w _))) ?_
  rintro e w1 ⟨rfl, hb1⟩
  rw [wq1]
  have HB1 := hide (below_then (below_alloc w _) hb1)
  clear hb1
  unfold readV
  dsimp only
  rw [str_wq1]
  go_wp2_with fail
  refine Calls.mono (Read_any _ 8 8 [34, 92, 117, 100, 56, 51, 100, 34] 0 _ (RB.lit w1 5 (fr := (8, 9)) _ [34, 92, 117, 100, 56, 51, 100, 34] 8 rfl rfl) (by omega) (by omega) (HG.out.on (below_then HB1.out (below_alloc w1 _)))) ?_
  rintro e w2 ⟨rfl, hb2⟩
  rw [wq2, readV_none]
  have HB2 := hide (below_then HB1.out (below_then (below_alloc w1 _) hb2))
  clear hb2 HB1
  go_wp2_with fail
  refine Calls.mono (Print_any [97, 47, 34, 10, 1, 195, 169] _ (by decide) (HG.out.on HB2.out)) ?_
  rintro e w3 ⟨rfl, hb3⟩
  rw [wq3]
  have HB3 := hide (below_then HB2.out hb3)
  clear hb3 HB2
  go_wp2_with fail
  refine Calls.mono (Sign_any _ 12 12 [92, 117, 100, 56, 51, 100, 92, 117, 100, 101, 48, 48] 0 _ (RB.lit w3 5 (fr := (12, 13)) _ [92, 117, 100, 56, 51, 100, 92, 117, 100, 101, 48, 48] 12 rfl rfl) (by omega) (by omega) (HG.out.on (below_then HB3.out (below_alloc w3 _)))) ?_
  rintro e w4 ⟨rfl, hb4⟩
  rw [wq5]
  have HB4 := hide (below_then HB3.out (below_then (below_alloc w3 _) hb4))
  clear hb4 HB3
  go_wp2_with fail
  refine Calls.mono (sizePrint_any [255] _ (by decide) (HG.out.on HB4.out)) ?_
  rintro e w5 ⟨rfl, hb5⟩
  rw [wq4]
  go_wp2_with fail
  go_ret
  exact ⟨by first | rfl | simp, below_then HB4.out hb5⟩
end Go.Proofs.YtbnibiealnogdaaDoor
