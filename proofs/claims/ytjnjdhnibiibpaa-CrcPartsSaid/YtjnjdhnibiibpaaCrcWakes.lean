/- The walk of the law's own look whether the layer is there: wakes. -/
import Derived.Test.YtjnjdhnibiibpaaCrcLay
import Derived.Test.YtjnjdhnibiibpaaCrcBoth
import Derived.Test.YtjnjdhnibiibpaaFew
import Derived.Lib.SlBytesConst
namespace Go.Proofs.Ytjnjdhnibiibpaa
open Go.RowKit

def L9 : List UInt8 := [49, 50, 51, 52, 53, 54, 55, 56, 57]
def L4 : List UInt8 := [49, 50, 51, 52]
def L5 : List UInt8 := [53, 54, 55, 56, 57]
theorem sum9 : Crc.more 0 (nums L9) = 3808858755 := by decide +kernel
theorem holds13 : Crc.holds (L9 ++ Crc.laid (Crc.more 0 (nums L9))) = true := by decide +kernel
theorem holds12 : Crc.holds ((L9 ++ Crc.laid (Crc.more 0 (nums L9))).take 12) = false := by decide +kernel
theorem byte9 : (L9 ++ Crc.laid (Crc.more 0 (nums L9)))[9]? = some 131 := by decide +kernel
theorem both9 : Crc.bits (8 * 5) (Crc.more 0 (nums L4)) ^^^ Crc.more 0 (nums L5) = 3808858755 := by decide +kernel

set_option maxRecDepth 100000 in
theorem wakes_any (w : World) : Calls Try.prog 9 #[] w fun e w' => e = .returned (.bool true) ∧ Below w.heap.size w w' := by
  have kc := fun (W : World) (C : Array Value) (n c : Nat) => Lib.run_convert_bytes_const (P := Try.prog) W 26 5 C n c Try.underlying26 Try.underlying5
  go_enter Try.func9, Try.ntmps9
  go_wp2_with fail
  refine Calls.mono (lay_any _ _ _ L9 _ (by exact RB.lit _ _ _ _ 9 rfl rfl) (by omega)) ?_
  rintro e w1 ⟨v, rfl, ho, hb1⟩
  obtain ⟨A, c, rfl, hc, hcm, hr⟩ := own_slice ho
  rw [← bytes_append] at hr
  have hb1' : Below w.heap.size w w1 := (below_alloc w _).trans (hb1.mono (by simp))
  clear ho hb1
  go_wp2_with fail
  refine Calls.mono (sum_any _ _ _ L9 _ (by exact RB.lit _ _ _ _ 9 rfl rfl) (by omega)) ?_
  rintro e w2 ⟨rfl, hb2⟩
  rw [sum9]
  have hb2' : Below w1.heap.size w1 w2 := (below_alloc w1 _).trans (hb2.mono (by simp))
  have hr2 : RB w2 A 13 _ := RB.on hr hb2'
  clear hb2
  obtain ⟨b, o, rfl, hbl, hcell⟩ := RB.cell (k := 9) hr2 (by decide)
  have e9 : (L9 ++ Crc.laid (Crc.more 0 (nums L9)))[9]'(by decide) = 131 := by
    have := byte9
    rw [List.getElem?_eq_getElem (by decide)] at this
    injection this
  rw [e9] at hcell
  go_wp2_with fail
  refine Calls.mono (holds_any _ _ _ _ _ hr2 (by omega) hc) ?_
  rintro e w3 ⟨rfl, hb3⟩
  rw [holds13]
  have hr3 := hr2.on hb3
  clear hcell
  go_wp2_with fail
  refine Calls.mono (holds_any _ _ _ _ _ (hr3.take 12 (by omega)) (by omega) (by omega)) ?_
  rintro e w4 ⟨rfl, hb4⟩
  rw [holds12]
  go_wp2_with fail
  refine Calls.mono (sum_any _ _ _ L4 _ (by exact RB.lit _ _ _ _ 4 rfl rfl) (by omega)) ?_
  rintro e w5 ⟨rfl, hb5⟩
  go_wp2_with fail
  refine Calls.mono (sum_any _ _ _ L5 _ (by exact RB.lit _ _ _ _ 5 rfl rfl) (by omega)) ?_
  rintro e w6 ⟨rfl, hb6⟩
  have h4 := hide (Crc.more_lt 0 (nums L4))
  have h5 := hide (Crc.more_lt 0 (nums L5))
  go_wp2_with fail
  refine Calls.mono (both_any _ _ _ _ (by omega) (by have := h4.out; omega) (by omega) (by have := h5.out; omega) (by omega) (by omega)) ?_
  rintro e w7 ⟨rfl, hb7⟩
  rw [Int.toNat_natCast, Int.toNat_natCast, show (5 : Int).toNat = 5 from rfl, both9]
  go_wp2
  go_ret
  refine ⟨rfl, ?_⟩
  have q1 : Below w1.heap.size w1 w4 := hb2'.trans ((hb3.mono hb2'.size).trans (hb4.mono (Nat.le_trans hb2'.size hb3.size)))
  have q2 : Below w4.heap.size w4 w5 := (below_alloc w4 _).trans (hb5.mono (by simp))
  have q3 : Below w5.heap.size w5 w6 := (below_alloc w5 _).trans (hb6.mono (by simp))
  have q4 : Below w4.heap.size w4 w7 := q2.trans ((q3.mono q2.size).trans (hb7.mono (Nat.le_trans q2.size q3.size)))
  exact hb1'.trans ((q1.mono hb1'.size).trans (q4.mono (Nat.le_trans hb1'.size q1.size)))
end Go.Proofs.Ytjnjdhnibiibpaa
