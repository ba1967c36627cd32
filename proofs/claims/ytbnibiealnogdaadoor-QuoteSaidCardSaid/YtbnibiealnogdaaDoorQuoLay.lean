/- The walk of Print's closure: it lays bytes behind what lies in the captured slice. -/
import Derived.Test.YtbnibiealnogdaaDoorQuoIter
import Derived.Lib.OthersKept
namespace Go.Proofs.YtbnibiealnogdaaDoor
open Go.RowKit Go.Shelf Go.Sort

/-- the captured slice in block H holds the bytes -/
def LayI (H n0 : Nat) (out : List UInt8) (W : World) : Prop := ∃ v, Boxed W H 29 v ∧ W.ownsRow n0 5 1 v out.length (bytes out)
theorem LayI.on {H n0 : Nat} {out : List UInt8} {W V : World} (h : LayI H n0 out W) (hb : Below W.heap.size W V) : LayI H n0 out V :=
  let ⟨v, h1, h2⟩ := h; ⟨v, boxed_below h1 hb, own_on h2 hb⟩
theorem lay_any (H n0 : Nat) (A : Option Addr) (m c : Nat) (news out : List UInt8) (W : World) (hI : LayI H n0 out W) (hH : n0 ≤ H) (hr : RB W A m news) (hl : out.length + m ≤ 1048576) :
    Calls Tryd.prog 30 #[.slice A m c, .pointer (some ⟨H, 0, none⟩)] W fun e W' => (∃ v, e = .returned v) ∧ LayI H n0 (out ++ news) W' ∧ KeepsOthers W W' ∧ Below n0 W W' := by
  obtain ⟨i0, hi, hz0, hz1, hz2⟩ := info_parts u8_info
  obtain ⟨v, hv, hrow⟩ := hI
  obtain ⟨A1, c1, rfl, _, _, _⟩ := own_slice hrow
  have hcell := hv.cell
  have hfr := hv.frozen
  have hs : n0 ≤ W.heap.size := Nat.le_trans hH (Nat.le_of_lt hv.lt)
  have HROW := hide hrow
  have HR := hide hr
  have HV := hide hv
  have HLN := hide (show news.length = m from hr.len)
  clear hrow hr hv
  go_enter Tryd.func30, Tryd.ntmps30
  go_wp2_with (at_builtin; go_loud (refine wpList_append_reads rfl (.tmp 3) (.tmp 4) _ rfl n0 5 i0 (.int .u8 0) 1 1 Tryd.underlying29 hi hz0 hz1 hz2 rfl (by omega) (.slice A1 out.length c1) out.length (bytes out) rfl HROW.out W.heap.size A m c (bytes news) rfl HR.out bytes_one (by unfold maxLen; omega) (by omega) hs ?_); intro v1 w1 hown1 hg1 hat1; have hv1 := HV.out.kept hg1 (HV.out.not_row (by decide) HROW.out); have hc1 := hv1.cell; have hf1 := hv1.frozen; obtain ⟨A2, c2, rfl, hc2, hm2, hr2⟩ := own_slice hown1; clear hr2 hc2 hm2 hcell hfr)
  go_end0
  have hB : Below n0 W w1 := (Below.refl n0 W).grown hg1 hs (fun j hj => (HROW.out.lt j hj).1)
  refine ⟨⟨_, rfl⟩, ⟨_, hv1.set _, ?_⟩, ?_, hB.setCell (p := ⟨H, 0, none⟩) hH _⟩
  · rw [List.length_append, HLN.out, bytes_append]
    exact hown1.kept (grownBy_setCell' w1 H _) (.inr (hv1.not_row (by decide) hown1).symm)
  · refine (KeepsOthers.of_grownBy hg1 fun j o ej hj => ?_).trans (KeepsOthers.setCell _ _ _)
    rcases HROW.out.2 with ⟨he, _⟩ | ⟨g, cap, cur, he, _, hgb, _⟩
    · rw [he] at ej; simp [Value.ownBlock] at ej
    · rw [he] at ej
      obtain rfl : g = j := by simpa [Value.ownBlock] using ej
      rw [hgb] at hj; cases hj; rfl
end Go.Proofs.YtbnibiealnogdaaDoor
