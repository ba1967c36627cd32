/-
  No cell of these rows narrows 'for every input' (looked for: loops, veiled, ifaces, maps, wideKeys, modest, calm, conditions, laid).
  DERIVED. THE GIVEN ROWS OF THIS SEAT. 6 by the template 'for every input the law returns true; each argument reads behind the call as it read before'; 0 by the template 'total and deterministic' (their statements: YtciakpfnmkoghaaTotals.lean).
  GIVEN WITH THE SEED: the statements are not yours to turn. If you find one false, say at which input.
  Laid BY PROGRAM, IN A SANDBOX (cutbox-rows.mjs): the forced cells as the released guide's own fill.sh prints them over the translation e6496b19bafea3f5… (all of the seat's roots in one cut). By AI agents, Wed Nov 11 2026. No macro, syntax, notation, axiom, sorry.
-/
import Derived.Test.YtciakpfnmkoghaaChecked
import GoSem.Claim
import GoSem.ClaimJoined
import GoSem.ClaimMapViews
import Derived.JoinedTies
import Derived.KernelRfl
namespace Go.Proofs.Ytciakpfnmkoghaa
/- THE CELL 'sum', in the pinned program and in every row, IS THE sha256 OF THE DUMP (.gsa) THAT YtciakpfnmkoghaaProg.lean LOADS. Nothing in Lean hashes anything: it is a label: what it is worth is what the hold of that sum in a sandbox is worth. -/
noncomputable def Try.pinned : Pinned := { name := "ytciakpfnmkoghaa", sum := "e6496b19bafea3f53bedb872511d048f63f5c61541ed7cf38d7357da73d2721d", checked := Try.checked }
namespace Rows
def none {H : Type} : Left H := { results := [], args := [] }

/-- 'davenportlaw03.NumeralPrints': WHATEVER THE INPUT: true; the input reads as it did. -/
def numeralPrintsSpec : ChangeSpec := { name := "numeralPrints", fn := fun _ => fun
  | [d] => { results := [.lit (.bool true)], args := [d] }
  | _ => none }
def numeralPrintsRow : OpenClaim := { program := "ytciakpfnmkoghaa", sum := "e6496b19bafea3f53bedb872511d048f63f5c61541ed7cf38d7357da73d2721d", func := "davenport/davenportlaw03.NumeralPrints", spec := "numeralPrints", unfollowed := true, recurses := true, apart := false }
def NumeralPrintsSaid : Prop := numeralPrintsRow.holds Try.pinned (OpenSpec.ofChange numeralPrintsSpec)

/-- ITS FALSE NEIGHBOUR: 'it returns false'. Refute it at one input. -/
def numeralPrintsWrong : ChangeSpec := { name := "numeralPrints", fn := fun _ => fun
  | [d] => { results := [.lit (.bool false)], args := [d] }
  | _ => none }
def NumeralPrintsWrongFalsely : Prop := numeralPrintsRow.holds Try.pinned (OpenSpec.ofChange numeralPrintsWrong)

/-- 'davenportlaw03.NumeralGrows': WHATEVER THE INPUT: true; the input reads as it did. -/
def numeralGrowsSpec : ChangeSpec := { name := "numeralGrows", fn := fun _ => fun
  | [d1, d2] => { results := [.lit (.bool true)], args := [d1, d2] }
  | _ => none }
def numeralGrowsRow : OpenClaim := { program := "ytciakpfnmkoghaa", sum := "e6496b19bafea3f53bedb872511d048f63f5c61541ed7cf38d7357da73d2721d", func := "davenport/davenportlaw03.NumeralGrows", spec := "numeralGrows", unfollowed := true, recurses := true, apart := false }
def NumeralGrowsSaid : Prop := numeralGrowsRow.holds Try.pinned (OpenSpec.ofChange numeralGrowsSpec)

/-- ITS FALSE NEIGHBOUR: 'it returns false'. Refute it at one input. -/
def numeralGrowsWrong : ChangeSpec := { name := "numeralGrows", fn := fun _ => fun
  | [d1, d2] => { results := [.lit (.bool false)], args := [d1, d2] }
  | _ => none }
def NumeralGrowsWrongFalsely : Prop := numeralGrowsRow.holds Try.pinned (OpenSpec.ofChange numeralGrowsWrong)

/-- 'davenportlaw03.NumeralParts': WHATEVER THE INPUT: true; the input reads as it did. -/
def numeralPartsSpec : ChangeSpec := { name := "numeralParts", fn := fun _ => fun
  | [d1, d2, d3] => { results := [.lit (.bool true)], args := [d1, d2, d3] }
  | _ => none }
def numeralPartsRow : OpenClaim := { program := "ytciakpfnmkoghaa", sum := "e6496b19bafea3f53bedb872511d048f63f5c61541ed7cf38d7357da73d2721d", func := "davenport/davenportlaw03.NumeralParts", spec := "numeralParts", unfollowed := true, recurses := true, apart := false }
def NumeralPartsSaid : Prop := numeralPartsRow.holds Try.pinned (OpenSpec.ofChange numeralPartsSpec)

/-- ITS FALSE NEIGHBOUR: 'it returns false'. Refute it at one input. -/
def numeralPartsWrong : ChangeSpec := { name := "numeralParts", fn := fun _ => fun
  | [d1, d2, d3] => { results := [.lit (.bool false)], args := [d1, d2, d3] }
  | _ => none }
def NumeralPartsWrongFalsely : Prop := numeralPartsRow.holds Try.pinned (OpenSpec.ofChange numeralPartsWrong)

/-- 'davenportlaw03.NumeralAlone': WHATEVER THE INPUT: true; the input reads as it did. -/
def numeralAloneSpec : ChangeSpec := { name := "numeralAlone", fn := fun _ => fun
  | [d1, d2] => { results := [.lit (.bool true)], args := [d1, d2] }
  | _ => none }
def numeralAloneRow : OpenClaim := { program := "ytciakpfnmkoghaa", sum := "e6496b19bafea3f53bedb872511d048f63f5c61541ed7cf38d7357da73d2721d", func := "davenport/davenportlaw03.NumeralAlone", spec := "numeralAlone", unfollowed := true, recurses := true, apart := false }
def NumeralAloneSaid : Prop := numeralAloneRow.holds Try.pinned (OpenSpec.ofChange numeralAloneSpec)

/-- ITS FALSE NEIGHBOUR: 'it returns false'. Refute it at one input. -/
def numeralAloneWrong : ChangeSpec := { name := "numeralAlone", fn := fun _ => fun
  | [d1, d2] => { results := [.lit (.bool false)], args := [d1, d2] }
  | _ => none }
def NumeralAloneWrongFalsely : Prop := numeralAloneRow.holds Try.pinned (OpenSpec.ofChange numeralAloneWrong)

/-- 'davenportlaw03.NumeralReads': WHATEVER THE INPUT: true; the input reads as it did. -/
def numeralReadsSpec : ChangeSpec := { name := "numeralReads", fn := fun _ => fun
  | [d1, d2] => { results := [.lit (.bool true)], args := [d1, d2] }
  | _ => none }
def numeralReadsRow : OpenClaim := { program := "ytciakpfnmkoghaa", sum := "e6496b19bafea3f53bedb872511d048f63f5c61541ed7cf38d7357da73d2721d", func := "davenport/davenportlaw03.NumeralReads", spec := "numeralReads", unfollowed := true, recurses := true, apart := false }
def NumeralReadsSaid : Prop := numeralReadsRow.holds Try.pinned (OpenSpec.ofChange numeralReadsSpec)

/-- ITS FALSE NEIGHBOUR: 'it returns false'. Refute it at one input. -/
def numeralReadsWrong : ChangeSpec := { name := "numeralReads", fn := fun _ => fun
  | [d1, d2] => { results := [.lit (.bool false)], args := [d1, d2] }
  | _ => none }
def NumeralReadsWrongFalsely : Prop := numeralReadsRow.holds Try.pinned (OpenSpec.ofChange numeralReadsWrong)

/-- 'davenportlaw03.NumeralBack': WHATEVER THE INPUT: true; the input reads as it did. -/
def numeralBackSpec : ChangeSpec := { name := "numeralBack", fn := fun _ => fun
  | [d1, d2, d3] => { results := [.lit (.bool true)], args := [d1, d2, d3] }
  | _ => none }
def numeralBackRow : OpenClaim := { program := "ytciakpfnmkoghaa", sum := "e6496b19bafea3f53bedb872511d048f63f5c61541ed7cf38d7357da73d2721d", func := "davenport/davenportlaw03.NumeralBack", spec := "numeralBack", unfollowed := true, recurses := true, apart := false }
def NumeralBackSaid : Prop := numeralBackRow.holds Try.pinned (OpenSpec.ofChange numeralBackSpec)

/-- ITS FALSE NEIGHBOUR: 'it returns false'. Refute it at one input. -/
def numeralBackWrong : ChangeSpec := { name := "numeralBack", fn := fun _ => fun
  | [d1, d2, d3] => { results := [.lit (.bool false)], args := [d1, d2, d3] }
  | _ => none }
def NumeralBackWrongFalsely : Prop := numeralBackRow.holds Try.pinned (OpenSpec.ofChange numeralBackWrong)

/- THE SECOND FORM. 'bulk': how many values and letters a reading holds, each counted each time it is reached (what is shared counts as often as it is met; a slice's spare places count too). A statement '..UptoSaid' is the law's where the arguments, and the package variables that the reading takes, are together of bulk at most 1048576: NARROWER than '..Said'. Prove '..Said' where nothing that the law and all that it calls make is longer than what came in: it says more and counts as full. Else prove '..UptoSaid'. A law counts once. -/
mutual
def uptoBulk {H : Type} : DataW H → Nat
  | .lit (.string bytes) => bytes.length + 1
  | .lit _ => 1
  | .nil => 1
  | .ptr d => uptoBulk d + 1
  | .slice elems spare => uptoBulkAll elems + uptoBulkAll spare + 1
  | .agg parts => uptoBulkAll parts + 1
  | .iface _ d => uptoBulk d + 1
  | .map entries => uptoBulkEntries entries + 1
  | .held _ => 1
def uptoBulkAll {H : Type} : List (DataW H) → Nat
  | [] => 0
  | d :: r => uptoBulk d + uptoBulkAll r
def uptoBulkEntries {H : Type} : List (Lit × DataW H) → Nat
  | [] => 0
  | x :: r => uptoBulkEntry x + uptoBulkEntries r
def uptoBulkEntry {H : Type} : Lit × DataW H → Nat
  | (.string bytes, d) => bytes.length + uptoBulk d + 1
  | (_, d) => uptoBulk d + 1
 end
def uptoSmall : (H : Type) → List (DataW H) → Bool := fun _ ds => decide (uptoBulkAll ds ≤ 1048576)
def OpenSpec.upto (s : _root_.Go.ChangeSpec) : _root_.Go.OpenSpec := { _root_.Go.OpenSpec.ofChange s with cond := some uptoSmall }

/-- 'davenportlaw03.NumeralPrints', WHERE WHAT IT READS IS OF BULK AT MOST 1048576: true; the input reads as it did. -/
def numeralPrintsUptoRow : OpenClaim := { program := "ytciakpfnmkoghaa", sum := "e6496b19bafea3f53bedb872511d048f63f5c61541ed7cf38d7357da73d2721d", func := "davenport/davenportlaw03.NumeralPrints", spec := "numeralPrints", unfollowed := true, recurses := true, apart := false, narrowed := true }
def NumeralPrintsUptoSaid : Prop := numeralPrintsUptoRow.holds Try.pinned (OpenSpec.upto numeralPrintsSpec)

/-- 'davenportlaw03.NumeralGrows', WHERE WHAT IT READS IS OF BULK AT MOST 1048576: true; the input reads as it did. -/
def numeralGrowsUptoRow : OpenClaim := { program := "ytciakpfnmkoghaa", sum := "e6496b19bafea3f53bedb872511d048f63f5c61541ed7cf38d7357da73d2721d", func := "davenport/davenportlaw03.NumeralGrows", spec := "numeralGrows", unfollowed := true, recurses := true, apart := false, narrowed := true }
def NumeralGrowsUptoSaid : Prop := numeralGrowsUptoRow.holds Try.pinned (OpenSpec.upto numeralGrowsSpec)

/-- 'davenportlaw03.NumeralParts', WHERE WHAT IT READS IS OF BULK AT MOST 1048576: true; the input reads as it did. -/
def numeralPartsUptoRow : OpenClaim := { program := "ytciakpfnmkoghaa", sum := "e6496b19bafea3f53bedb872511d048f63f5c61541ed7cf38d7357da73d2721d", func := "davenport/davenportlaw03.NumeralParts", spec := "numeralParts", unfollowed := true, recurses := true, apart := false, narrowed := true }
def NumeralPartsUptoSaid : Prop := numeralPartsUptoRow.holds Try.pinned (OpenSpec.upto numeralPartsSpec)

/-- 'davenportlaw03.NumeralAlone', WHERE WHAT IT READS IS OF BULK AT MOST 1048576: true; the input reads as it did. -/
def numeralAloneUptoRow : OpenClaim := { program := "ytciakpfnmkoghaa", sum := "e6496b19bafea3f53bedb872511d048f63f5c61541ed7cf38d7357da73d2721d", func := "davenport/davenportlaw03.NumeralAlone", spec := "numeralAlone", unfollowed := true, recurses := true, apart := false, narrowed := true }
def NumeralAloneUptoSaid : Prop := numeralAloneUptoRow.holds Try.pinned (OpenSpec.upto numeralAloneSpec)

/-- 'davenportlaw03.NumeralReads', WHERE WHAT IT READS IS OF BULK AT MOST 1048576: true; the input reads as it did. -/
def numeralReadsUptoRow : OpenClaim := { program := "ytciakpfnmkoghaa", sum := "e6496b19bafea3f53bedb872511d048f63f5c61541ed7cf38d7357da73d2721d", func := "davenport/davenportlaw03.NumeralReads", spec := "numeralReads", unfollowed := true, recurses := true, apart := false, narrowed := true }
def NumeralReadsUptoSaid : Prop := numeralReadsUptoRow.holds Try.pinned (OpenSpec.upto numeralReadsSpec)

/-- 'davenportlaw03.NumeralBack', WHERE WHAT IT READS IS OF BULK AT MOST 1048576: true; the input reads as it did. -/
def numeralBackUptoRow : OpenClaim := { program := "ytciakpfnmkoghaa", sum := "e6496b19bafea3f53bedb872511d048f63f5c61541ed7cf38d7357da73d2721d", func := "davenport/davenportlaw03.NumeralBack", spec := "numeralBack", unfollowed := true, recurses := true, apart := false, narrowed := true }
def NumeralBackUptoSaid : Prop := numeralBackUptoRow.holds Try.pinned (OpenSpec.upto numeralBackSpec)

end Rows
end Go.Proofs.Ytciakpfnmkoghaa
