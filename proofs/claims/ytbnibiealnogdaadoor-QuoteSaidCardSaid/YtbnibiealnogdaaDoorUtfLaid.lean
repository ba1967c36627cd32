/- What the card's listed variable gives the walks: utf.none holds zeros. -/
import Derived.Test.YtbnibiealnogdaaDoorRows
import Derived.Test.YtbnibiealnogdaaDoorUtfWalk
import Derived.ProofKit
import Derived.LaidMore
import Derived.OpenShut
import Derived.Stop.Joined
namespace Go.Proofs.YtbnibiealnogdaaDoor
open Go.ChangeShapes Go.WideShapes Go.ChangeAt Go.RowKit

def laidL {H : Type} : List (String × DataW H) := [("davenport/utf.none", Rows.laid_davenport_utf_none)]
theorem gNone : Tryd.prog.globalNamed "davenport/utf.none" = some 0 := by kernel_rfl
theorem tNone : (Tryd.prog.globals[0]?).map (·.type) = some 104 := by kernel_rfl
theorem door_met (os : Os) (args : Array Value) : laidMetH Tryd.prog laidL ((World.doorLaid Tryd.prog 400 os).forCall (fun _ _ => 0) ⟨#[], args, []⟩).memory :=
  laidMetH_of_parts3 (fuel := 8) (laidMet_of_run' 8 (by kernel_rfl) (by kernel_rfl)) (by kernel_rfl) (by kernel_rfl)
set_option maxRecDepth 100000 in
theorem gl_of_laid {W : World} (h : laidMetH Tryd.prog laidL W) : Gl W := by
  rw [MakeChecks.laidMetH_plain _ _ _ (by kernel_rfl)] at h
  obtain ⟨ps, ⟨g0, t0, cs0, f0, p0, q0, hg0, ht0, hv0, hd0, _⟩, _, _⟩ := h
  obtain rfl := Option.some.inj (gNone.symm.trans hg0)
  obtain rfl := Option.some.inj (tNone.symm.trans ht0)
  have c0 := World.var?_cell hg0 hv0 0
  have c1 := World.var?_cell hg0 hv0 1
  obtain ⟨l⟩ := cs0
  obtain ⟨y0, y1, n, hx, hlen, h0, h1⟩ := trod_struct2 Tryd.underlying104 hd0
  have hl2 : l.length = 2 := hlen.trans (by kernel_rfl)
  match l, hl2, h0, h1, c0, c1 with
  | [a, b], _, h0, h1, c0, c1 =>
    have h0' : DataW.trod (fun _ => ()) Tryd.prog W 0 (fun _ => true) false n 3 [a] = some y0 := h0
    have h1' : DataW.trod (fun _ => ()) Tryd.prog W 0 (fun _ => true) false n 3 [b] = some y1 := h1
    obtain ⟨k0, e0, d0, _⟩ := DataW.trod_int Tryd.underlying3 h0'
    obtain ⟨k1, e1, d1, _⟩ := DataW.trod_int Tryd.underlying3 h1'
    have hx1 : Rows.laid_davenport_utf_none = DataW.agg [y0.1, y1.1] := congrArg Prod.fst hx
    rw [d0, d1] at hx1
    unfold Rows.laid_davenport_utf_none at hx1
    have hk : k0 = 0 ∧ k1 = 0 := by
      injection hx1 with hx1
      injection hx1 with q0 q1
      injection q1 with q1 _
      injection q0 with q0
      injection q1 with q1
      injection q0 with _ q0
      injection q1 with _ q1
      exact ⟨q0.symm, q1.symm⟩
    obtain ⟨rfl, rfl⟩ := hk
    injection e0 with e0
    injection e1 with e1
    exact ⟨c0.trans (by rw [e0]; rfl), c1.trans (by rw [e1]; rfl)⟩
end Go.Proofs.YtbnibiealnogdaaDoor
