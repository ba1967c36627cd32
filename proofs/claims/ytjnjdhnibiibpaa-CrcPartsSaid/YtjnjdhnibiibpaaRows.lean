/-
  No cell of these rows narrows 'for every input' (looked for: loops, veiled, ifaces, maps, wideKeys, modest, calm, conditions, laid).
  DERIVED. THE GIVEN ROWS OF THIS SEAT. 6 by the template 'for every input the law returns true; each argument reads behind the call as it read before'; 0 by the template 'total and deterministic' (their statements: YtjnjdhnibiibpaaTotals.lean).
  GIVEN WITH THE SEED: the statements are not yours to turn. If you find one false, say at which input.
  Laid BY PROGRAM, IN A SANDBOX (cutbox-rows.mjs): the forced cells as the released guide's own fill.sh prints them over the translation f084c6f3061de465… (all of the seat's roots in one cut). By AI agents, Wed Nov 11 2026. No macro, syntax, notation, axiom, sorry.
-/
import Derived.Test.YtjnjdhnibiibpaaChecked
import GoSem.Claim
import GoSem.ClaimJoined
import GoSem.ClaimMapViews
import Derived.JoinedTies
import Derived.KernelRfl
namespace Go.Proofs.Ytjnjdhnibiibpaa
/- THE CELL 'sum', in the pinned program and in every row, IS THE sha256 OF THE DUMP (.gsa) THAT YtjnjdhnibiibpaaProg.lean LOADS. Nothing in Lean hashes anything: it is a label: what it is worth is what the hold of that sum in a sandbox is worth. -/
noncomputable def Try.pinned : Pinned := { name := "ytjnjdhnibiibpaa", sum := "f084c6f3061de4657d325bf953e042080a2ff46c189f28e6103ca3c5ca3814bf", checked := Try.checked }
namespace Rows
def none {H : Type} : Left H := { results := [], args := [] }

/-- 'davenportlaw09.CrcBoth': WHATEVER THE INPUT: true; the input reads as it did. -/
def crcBothSpec : ChangeSpec := { name := "crcBoth", fn := fun _ => fun
  | [d1, d2, d3] => { results := [.lit (.bool true)], args := [d1, d2, d3] }
  | _ => none }
def crcBothRow : OpenClaim := { program := "ytjnjdhnibiibpaa", sum := "f084c6f3061de4657d325bf953e042080a2ff46c189f28e6103ca3c5ca3814bf", func := "davenport/davenportlaw09.CrcBoth", spec := "crcBoth", unfollowed := true, recurses := true, apart := false }
def CrcBothSaid : Prop := crcBothRow.holds Try.pinned (OpenSpec.ofChange crcBothSpec)

/-- ITS FALSE NEIGHBOUR: 'it returns false'. Refute it at one input. -/
def crcBothWrong : ChangeSpec := { name := "crcBoth", fn := fun _ => fun
  | [d1, d2, d3] => { results := [.lit (.bool false)], args := [d1, d2, d3] }
  | _ => none }
def CrcBothWrongFalsely : Prop := crcBothRow.holds Try.pinned (OpenSpec.ofChange crcBothWrong)

/-- 'davenportlaw09.CrcLinear': WHATEVER THE INPUT: true; the input reads as it did. -/
def crcLinearSpec : ChangeSpec := { name := "crcLinear", fn := fun _ => fun
  | [d1, d2] => { results := [.lit (.bool true)], args := [d1, d2] }
  | _ => none }
def crcLinearRow : OpenClaim := { program := "ytjnjdhnibiibpaa", sum := "f084c6f3061de4657d325bf953e042080a2ff46c189f28e6103ca3c5ca3814bf", func := "davenport/davenportlaw09.CrcLinear", spec := "crcLinear", unfollowed := true, recurses := true, apart := false }
def CrcLinearSaid : Prop := crcLinearRow.holds Try.pinned (OpenSpec.ofChange crcLinearSpec)

/-- ITS FALSE NEIGHBOUR: 'it returns false'. Refute it at one input. -/
def crcLinearWrong : ChangeSpec := { name := "crcLinear", fn := fun _ => fun
  | [d1, d2] => { results := [.lit (.bool false)], args := [d1, d2] }
  | _ => none }
def CrcLinearWrongFalsely : Prop := crcLinearRow.holds Try.pinned (OpenSpec.ofChange crcLinearWrong)

/-- 'davenportlaw09.CrcSums': WHATEVER THE INPUT: true; the input reads as it did. -/
def crcSumsSpec : ChangeSpec := { name := "crcSums", fn := fun _ => fun
  | [d1, d2] => { results := [.lit (.bool true)], args := [d1, d2] }
  | _ => none }
def crcSumsRow : OpenClaim := { program := "ytjnjdhnibiibpaa", sum := "f084c6f3061de4657d325bf953e042080a2ff46c189f28e6103ca3c5ca3814bf", func := "davenport/davenportlaw09.CrcSums", spec := "crcSums", unfollowed := true, recurses := true, apart := false }
def CrcSumsSaid : Prop := crcSumsRow.holds Try.pinned (OpenSpec.ofChange crcSumsSpec)

/-- ITS FALSE NEIGHBOUR: 'it returns false'. Refute it at one input. -/
def crcSumsWrong : ChangeSpec := { name := "crcSums", fn := fun _ => fun
  | [d1, d2] => { results := [.lit (.bool false)], args := [d1, d2] }
  | _ => none }
def CrcSumsWrongFalsely : Prop := crcSumsRow.holds Try.pinned (OpenSpec.ofChange crcSumsWrong)

/-- 'davenportlaw09.CrcLays': WHATEVER THE INPUT: true; the input reads as it did. -/
def crcLaysSpec : ChangeSpec := { name := "crcLays", fn := fun _ => fun
  | [d] => { results := [.lit (.bool true)], args := [d] }
  | _ => none }
def crcLaysRow : OpenClaim := { program := "ytjnjdhnibiibpaa", sum := "f084c6f3061de4657d325bf953e042080a2ff46c189f28e6103ca3c5ca3814bf", func := "davenport/davenportlaw09.CrcLays", spec := "crcLays", unfollowed := true, recurses := true, apart := false }
def CrcLaysSaid : Prop := crcLaysRow.holds Try.pinned (OpenSpec.ofChange crcLaysSpec)

/-- ITS FALSE NEIGHBOUR: 'it returns false'. Refute it at one input. -/
def crcLaysWrong : ChangeSpec := { name := "crcLays", fn := fun _ => fun
  | [d] => { results := [.lit (.bool false)], args := [d] }
  | _ => none }
def CrcLaysWrongFalsely : Prop := crcLaysRow.holds Try.pinned (OpenSpec.ofChange crcLaysWrong)

/-- 'davenportlaw09.CrcApart': WHATEVER THE INPUT: true; the input reads as it did. -/
def crcApartSpec : ChangeSpec := { name := "crcApart", fn := fun _ => fun
  | [d1, d2, d3] => { results := [.lit (.bool true)], args := [d1, d2, d3] }
  | _ => none }
def crcApartRow : OpenClaim := { program := "ytjnjdhnibiibpaa", sum := "f084c6f3061de4657d325bf953e042080a2ff46c189f28e6103ca3c5ca3814bf", func := "davenport/davenportlaw09.CrcApart", spec := "crcApart", unfollowed := true, recurses := true, apart := false }
def CrcApartSaid : Prop := crcApartRow.holds Try.pinned (OpenSpec.ofChange crcApartSpec)

/-- ITS FALSE NEIGHBOUR: 'it returns false'. Refute it at one input. -/
def crcApartWrong : ChangeSpec := { name := "crcApart", fn := fun _ => fun
  | [d1, d2, d3] => { results := [.lit (.bool false)], args := [d1, d2, d3] }
  | _ => none }
def CrcApartWrongFalsely : Prop := crcApartRow.holds Try.pinned (OpenSpec.ofChange crcApartWrong)

/-- 'davenportlaw09.CrcParts': WHATEVER THE INPUT: true; the input reads as it did. -/
def crcPartsSpec : ChangeSpec := { name := "crcParts", fn := fun _ => fun
  | [d1, d2, d3] => { results := [.lit (.bool true)], args := [d1, d2, d3] }
  | _ => none }
def crcPartsRow : OpenClaim := { program := "ytjnjdhnibiibpaa", sum := "f084c6f3061de4657d325bf953e042080a2ff46c189f28e6103ca3c5ca3814bf", func := "davenport/davenportlaw09.CrcParts", spec := "crcParts", unfollowed := true, recurses := true, apart := false }
def CrcPartsSaid : Prop := crcPartsRow.holds Try.pinned (OpenSpec.ofChange crcPartsSpec)

/-- ITS FALSE NEIGHBOUR: 'it returns false'. Refute it at one input. -/
def crcPartsWrong : ChangeSpec := { name := "crcParts", fn := fun _ => fun
  | [d1, d2, d3] => { results := [.lit (.bool false)], args := [d1, d2, d3] }
  | _ => none }
def CrcPartsWrongFalsely : Prop := crcPartsRow.holds Try.pinned (OpenSpec.ofChange crcPartsWrong)

/- THE SECOND FORM. 'bulk': how many values and letters a reading holds, each counted each time it is reached (what is shared counts as often as it is met; a slice's spare places count too). A statement '..UptoSaid' is the law's where the arguments, and the package variables that the reading takes, are together of bulk at most 1048576: NARROWER than '..Said'. Prove '..Said' where nothing that the law and all that it calls make is longer than what came in: it says more and counts as full. Else prove '..UptoSaid'. A law counts once. -/
mutual
def uptoBulk {H : Type} : DataW H → Nat
  | .lit (.string bytes) => bytes.length + 1
  | .lit _ => 1
  | .nil => 1
  | .ptr d => uptoBulk d + 1
  | .slice elems spare => uptoBulkAll elems + uptoBulkAll spare + 1
  | .agg parts => uptoBulkAll parts + 1
  | .iface _ d => uptoBulk d + 1
  | .map entries => uptoBulkEntries entries + 1
  | .held _ => 1
def uptoBulkAll {H : Type} : List (DataW H) → Nat
  | [] => 0
  | d :: r => uptoBulk d + uptoBulkAll r
def uptoBulkEntries {H : Type} : List (Lit × DataW H) → Nat
  | [] => 0
  | x :: r => uptoBulkEntry x + uptoBulkEntries r
def uptoBulkEntry {H : Type} : Lit × DataW H → Nat
  | (.string bytes, d) => bytes.length + uptoBulk d + 1
  | (_, d) => uptoBulk d + 1
 end
def uptoSmall : (H : Type) → List (DataW H) → Bool := fun _ ds => decide (uptoBulkAll ds ≤ 1048576)
def OpenSpec.upto (s : _root_.Go.ChangeSpec) : _root_.Go.OpenSpec := { _root_.Go.OpenSpec.ofChange s with cond := some uptoSmall }

/-- 'davenportlaw09.CrcBoth', WHERE WHAT IT READS IS OF BULK AT MOST 1048576: true; the input reads as it did. -/
def crcBothUptoRow : OpenClaim := { program := "ytjnjdhnibiibpaa", sum := "f084c6f3061de4657d325bf953e042080a2ff46c189f28e6103ca3c5ca3814bf", func := "davenport/davenportlaw09.CrcBoth", spec := "crcBoth", unfollowed := true, recurses := true, apart := false, narrowed := true }
def CrcBothUptoSaid : Prop := crcBothUptoRow.holds Try.pinned (OpenSpec.upto crcBothSpec)

/-- 'davenportlaw09.CrcLinear', WHERE WHAT IT READS IS OF BULK AT MOST 1048576: true; the input reads as it did. -/
def crcLinearUptoRow : OpenClaim := { program := "ytjnjdhnibiibpaa", sum := "f084c6f3061de4657d325bf953e042080a2ff46c189f28e6103ca3c5ca3814bf", func := "davenport/davenportlaw09.CrcLinear", spec := "crcLinear", unfollowed := true, recurses := true, apart := false, narrowed := true }
def CrcLinearUptoSaid : Prop := crcLinearUptoRow.holds Try.pinned (OpenSpec.upto crcLinearSpec)

/-- 'davenportlaw09.CrcSums', WHERE WHAT IT READS IS OF BULK AT MOST 1048576: true; the input reads as it did. -/
def crcSumsUptoRow : OpenClaim := { program := "ytjnjdhnibiibpaa", sum := "f084c6f3061de4657d325bf953e042080a2ff46c189f28e6103ca3c5ca3814bf", func := "davenport/davenportlaw09.CrcSums", spec := "crcSums", unfollowed := true, recurses := true, apart := false, narrowed := true }
def CrcSumsUptoSaid : Prop := crcSumsUptoRow.holds Try.pinned (OpenSpec.upto crcSumsSpec)

/-- 'davenportlaw09.CrcLays', WHERE WHAT IT READS IS OF BULK AT MOST 1048576: true; the input reads as it did. -/
def crcLaysUptoRow : OpenClaim := { program := "ytjnjdhnibiibpaa", sum := "f084c6f3061de4657d325bf953e042080a2ff46c189f28e6103ca3c5ca3814bf", func := "davenport/davenportlaw09.CrcLays", spec := "crcLays", unfollowed := true, recurses := true, apart := false, narrowed := true }
def CrcLaysUptoSaid : Prop := crcLaysUptoRow.holds Try.pinned (OpenSpec.upto crcLaysSpec)

/-- 'davenportlaw09.CrcApart', WHERE WHAT IT READS IS OF BULK AT MOST 1048576: true; the input reads as it did. -/
def crcApartUptoRow : OpenClaim := { program := "ytjnjdhnibiibpaa", sum := "f084c6f3061de4657d325bf953e042080a2ff46c189f28e6103ca3c5ca3814bf", func := "davenport/davenportlaw09.CrcApart", spec := "crcApart", unfollowed := true, recurses := true, apart := false, narrowed := true }
def CrcApartUptoSaid : Prop := crcApartUptoRow.holds Try.pinned (OpenSpec.upto crcApartSpec)

/-- 'davenportlaw09.CrcParts', WHERE WHAT IT READS IS OF BULK AT MOST 1048576: true; the input reads as it did. -/
def crcPartsUptoRow : OpenClaim := { program := "ytjnjdhnibiibpaa", sum := "f084c6f3061de4657d325bf953e042080a2ff46c189f28e6103ca3c5ca3814bf", func := "davenport/davenportlaw09.CrcParts", spec := "crcParts", unfollowed := true, recurses := true, apart := false, narrowed := true }
def CrcPartsUptoSaid : Prop := crcPartsUptoRow.holds Try.pinned (OpenSpec.upto crcPartsSpec)

end Rows
end Go.Proofs.Ytjnjdhnibiibpaa
