/-
  No cell of these rows narrows 'for every input' (looked for: loops, veiled, ifaces, maps, wideKeys, modest, calm, conditions, laid).
  DERIVED. THE GIVEN ROWS OF THIS SEAT. 7 by the template 'for every input the law returns true; each argument reads behind the call as it read before'; 0 by the template 'total and deterministic' (their statements: YtmkkbomkonociaaTotals.lean).
  GIVEN WITH THE SEED: the statements are not yours to turn. If you find one false, say at which input.
  Laid BY PROGRAM, IN A SANDBOX (cutbox-rows.mjs): the forced cells as the released guide's own fill.sh prints them over the translation 7c3dda449f416daf… (all of the seat's roots in one cut). By AI agents, Wed Nov 11 2026. No macro, syntax, notation, axiom, sorry.
-/
import Derived.Test.YtmkkbomkonociaaChecked
import GoSem.Claim
import GoSem.ClaimJoined
import GoSem.ClaimMapViews
import Derived.JoinedTies
import Derived.KernelRfl
namespace Go.Proofs.Ytmkkbomkonociaa
/- THE CELL 'sum', in the pinned program and in every row, IS THE sha256 OF THE DUMP (.gsa) THAT YtmkkbomkonociaaProg.lean LOADS. Nothing in Lean hashes anything: it is a label: what it is worth is what the hold of that sum in a sandbox is worth. -/
noncomputable def Try.pinned : Pinned := { name := "ytmkkbomkonociaa", sum := "7c3dda449f416daf5e7b002e75bc9e4514c611a17f891e5951cea5bc367f6334", checked := Try.checked }
namespace Rows
def none {H : Type} : Left H := { results := [], args := [] }

/-- 'davenportlaw19.DocIds': WHATEVER THE INPUT: true; the input reads as it did. -/
def docIdsSpec : ChangeSpec := { name := "docIds", fn := fun _ => fun
  | [d] => { results := [.lit (.bool true)], args := [d] }
  | _ => none }
def docIdsRow : OpenClaim := { program := "ytmkkbomkonociaa", sum := "7c3dda449f416daf5e7b002e75bc9e4514c611a17f891e5951cea5bc367f6334", func := "davenport/davenportlaw19.DocIds", spec := "docIds", unfollowed := true, recurses := true, apart := false }
def DocIdsSaid : Prop := docIdsRow.holds Try.pinned (OpenSpec.ofChange docIdsSpec)

/-- ITS FALSE NEIGHBOUR: 'it returns false'. Refute it at one input. -/
def docIdsWrong : ChangeSpec := { name := "docIds", fn := fun _ => fun
  | [d] => { results := [.lit (.bool false)], args := [d] }
  | _ => none }
def DocIdsWrongFalsely : Prop := docIdsRow.holds Try.pinned (OpenSpec.ofChange docIdsWrong)

/-- 'davenportlaw19.DocTexts': WHATEVER THE INPUT: true; the input reads as it did. -/
def docTextsSpec : ChangeSpec := { name := "docTexts", fn := fun _ => fun
  | [d1, d2] => { results := [.lit (.bool true)], args := [d1, d2] }
  | _ => none }
def docTextsRow : OpenClaim := { program := "ytmkkbomkonociaa", sum := "7c3dda449f416daf5e7b002e75bc9e4514c611a17f891e5951cea5bc367f6334", func := "davenport/davenportlaw19.DocTexts", spec := "docTexts", unfollowed := true, recurses := true, apart := false }
def DocTextsSaid : Prop := docTextsRow.holds Try.pinned (OpenSpec.ofChange docTextsSpec)

/-- ITS FALSE NEIGHBOUR: 'it returns false'. Refute it at one input. -/
def docTextsWrong : ChangeSpec := { name := "docTexts", fn := fun _ => fun
  | [d1, d2] => { results := [.lit (.bool false)], args := [d1, d2] }
  | _ => none }
def DocTextsWrongFalsely : Prop := docTextsRow.holds Try.pinned (OpenSpec.ofChange docTextsWrong)

/-- 'davenportlaw19.DocParts': WHATEVER THE INPUT: true; the input reads as it did. -/
def docPartsSpec : ChangeSpec := { name := "docParts", fn := fun _ => fun
  | [d1, d2, d3] => { results := [.lit (.bool true)], args := [d1, d2, d3] }
  | _ => none }
def docPartsRow : OpenClaim := { program := "ytmkkbomkonociaa", sum := "7c3dda449f416daf5e7b002e75bc9e4514c611a17f891e5951cea5bc367f6334", func := "davenport/davenportlaw19.DocParts", spec := "docParts", unfollowed := true, recurses := true, apart := false }
def DocPartsSaid : Prop := docPartsRow.holds Try.pinned (OpenSpec.ofChange docPartsSpec)

/-- ITS FALSE NEIGHBOUR: 'it returns false'. Refute it at one input. -/
def docPartsWrong : ChangeSpec := { name := "docParts", fn := fun _ => fun
  | [d1, d2, d3] => { results := [.lit (.bool false)], args := [d1, d2, d3] }
  | _ => none }
def DocPartsWrongFalsely : Prop := docPartsRow.holds Try.pinned (OpenSpec.ofChange docPartsWrong)

/-- 'davenportlaw19.DocNexts': WHATEVER THE INPUT: true; the input reads as it did. -/
def docNextsSpec : ChangeSpec := { name := "docNexts", fn := fun _ => fun
  | [d1, d2] => { results := [.lit (.bool true)], args := [d1, d2] }
  | _ => none }
def docNextsRow : OpenClaim := { program := "ytmkkbomkonociaa", sum := "7c3dda449f416daf5e7b002e75bc9e4514c611a17f891e5951cea5bc367f6334", func := "davenport/davenportlaw19.DocNexts", spec := "docNexts", unfollowed := true, recurses := true, apart := false }
def DocNextsSaid : Prop := docNextsRow.holds Try.pinned (OpenSpec.ofChange docNextsSpec)

/-- ITS FALSE NEIGHBOUR: 'it returns false'. Refute it at one input. -/
def docNextsWrong : ChangeSpec := { name := "docNexts", fn := fun _ => fun
  | [d1, d2] => { results := [.lit (.bool false)], args := [d1, d2] }
  | _ => none }
def DocNextsWrongFalsely : Prop := docNextsRow.holds Try.pinned (OpenSpec.ofChange docNextsWrong)

/-- 'davenportlaw19.DocCodes': WHATEVER THE INPUT: true; the input reads as it did. -/
def docCodesSpec : ChangeSpec := { name := "docCodes", fn := fun _ => fun
  | [d1, d2] => { results := [.lit (.bool true)], args := [d1, d2] }
  | _ => none }
def docCodesRow : OpenClaim := { program := "ytmkkbomkonociaa", sum := "7c3dda449f416daf5e7b002e75bc9e4514c611a17f891e5951cea5bc367f6334", func := "davenport/davenportlaw19.DocCodes", spec := "docCodes", unfollowed := true, recurses := true, apart := false }
def DocCodesSaid : Prop := docCodesRow.holds Try.pinned (OpenSpec.ofChange docCodesSpec)

/-- ITS FALSE NEIGHBOUR: 'it returns false'. Refute it at one input. -/
def docCodesWrong : ChangeSpec := { name := "docCodes", fn := fun _ => fun
  | [d1, d2] => { results := [.lit (.bool false)], args := [d1, d2] }
  | _ => none }
def DocCodesWrongFalsely : Prop := docCodesRow.holds Try.pinned (OpenSpec.ofChange docCodesWrong)

/-- 'davenportlaw19.DocGrows': WHATEVER THE INPUT: true; the input reads as it did. -/
def docGrowsSpec : ChangeSpec := { name := "docGrows", fn := fun _ => fun
  | [d1, d2, d3, d4] => { results := [.lit (.bool true)], args := [d1, d2, d3, d4] }
  | _ => none }
def docGrowsRow : OpenClaim := { program := "ytmkkbomkonociaa", sum := "7c3dda449f416daf5e7b002e75bc9e4514c611a17f891e5951cea5bc367f6334", func := "davenport/davenportlaw19.DocGrows", spec := "docGrows", unfollowed := true, recurses := true, apart := false }
def DocGrowsSaid : Prop := docGrowsRow.holds Try.pinned (OpenSpec.ofChange docGrowsSpec)

/-- ITS FALSE NEIGHBOUR: 'it returns false'. Refute it at one input. -/
def docGrowsWrong : ChangeSpec := { name := "docGrows", fn := fun _ => fun
  | [d1, d2, d3, d4] => { results := [.lit (.bool false)], args := [d1, d2, d3, d4] }
  | _ => none }
def DocGrowsWrongFalsely : Prop := docGrowsRow.holds Try.pinned (OpenSpec.ofChange docGrowsWrong)

/-- 'davenportlaw19.DocOnce': WHATEVER THE INPUT: true; the input reads as it did. -/
def docOnceSpec : ChangeSpec := { name := "docOnce", fn := fun _ => fun
  | [d1, d2] => { results := [.lit (.bool true)], args := [d1, d2] }
  | _ => none }
def docOnceRow : OpenClaim := { program := "ytmkkbomkonociaa", sum := "7c3dda449f416daf5e7b002e75bc9e4514c611a17f891e5951cea5bc367f6334", func := "davenport/davenportlaw19.DocOnce", spec := "docOnce", unfollowed := true, recurses := true, apart := false }
def DocOnceSaid : Prop := docOnceRow.holds Try.pinned (OpenSpec.ofChange docOnceSpec)

/-- ITS FALSE NEIGHBOUR: 'it returns false'. Refute it at one input. -/
def docOnceWrong : ChangeSpec := { name := "docOnce", fn := fun _ => fun
  | [d1, d2] => { results := [.lit (.bool false)], args := [d1, d2] }
  | _ => none }
def DocOnceWrongFalsely : Prop := docOnceRow.holds Try.pinned (OpenSpec.ofChange docOnceWrong)

/- THE SECOND FORM. 'bulk': how many values and letters a reading holds, each counted each time it is reached (what is shared counts as often as it is met; a slice's spare places count too). A statement '..UptoSaid' is the law's where the arguments, and the package variables that the reading takes, are together of bulk at most 1048576: NARROWER than '..Said'. Prove '..Said' where nothing that the law and all that it calls make is longer than what came in: it says more and counts as full. Else prove '..UptoSaid'. A law counts once. -/
mutual
def uptoBulk {H : Type} : DataW H → Nat
  | .lit (.string bytes) => bytes.length + 1
  | .lit _ => 1
  | .nil => 1
  | .ptr d => uptoBulk d + 1
  | .slice elems spare => uptoBulkAll elems + uptoBulkAll spare + 1
  | .agg parts => uptoBulkAll parts + 1
  | .iface _ d => uptoBulk d + 1
  | .map entries => uptoBulkEntries entries + 1
  | .held _ => 1
def uptoBulkAll {H : Type} : List (DataW H) → Nat
  | [] => 0
  | d :: r => uptoBulk d + uptoBulkAll r
def uptoBulkEntries {H : Type} : List (Lit × DataW H) → Nat
  | [] => 0
  | x :: r => uptoBulkEntry x + uptoBulkEntries r
def uptoBulkEntry {H : Type} : Lit × DataW H → Nat
  | (.string bytes, d) => bytes.length + uptoBulk d + 1
  | (_, d) => uptoBulk d + 1
 end
def uptoSmall : (H : Type) → List (DataW H) → Bool := fun _ ds => decide (uptoBulkAll ds ≤ 1048576)
def OpenSpec.upto (s : _root_.Go.ChangeSpec) : _root_.Go.OpenSpec := { _root_.Go.OpenSpec.ofChange s with cond := some uptoSmall }

/-- 'davenportlaw19.DocIds', WHERE WHAT IT READS IS OF BULK AT MOST 1048576: true; the input reads as it did. -/
def docIdsUptoRow : OpenClaim := { program := "ytmkkbomkonociaa", sum := "7c3dda449f416daf5e7b002e75bc9e4514c611a17f891e5951cea5bc367f6334", func := "davenport/davenportlaw19.DocIds", spec := "docIds", unfollowed := true, recurses := true, apart := false, narrowed := true }
def DocIdsUptoSaid : Prop := docIdsUptoRow.holds Try.pinned (OpenSpec.upto docIdsSpec)

/-- 'davenportlaw19.DocTexts', WHERE WHAT IT READS IS OF BULK AT MOST 1048576: true; the input reads as it did. -/
def docTextsUptoRow : OpenClaim := { program := "ytmkkbomkonociaa", sum := "7c3dda449f416daf5e7b002e75bc9e4514c611a17f891e5951cea5bc367f6334", func := "davenport/davenportlaw19.DocTexts", spec := "docTexts", unfollowed := true, recurses := true, apart := false, narrowed := true }
def DocTextsUptoSaid : Prop := docTextsUptoRow.holds Try.pinned (OpenSpec.upto docTextsSpec)

/-- 'davenportlaw19.DocParts', WHERE WHAT IT READS IS OF BULK AT MOST 1048576: true; the input reads as it did. -/
def docPartsUptoRow : OpenClaim := { program := "ytmkkbomkonociaa", sum := "7c3dda449f416daf5e7b002e75bc9e4514c611a17f891e5951cea5bc367f6334", func := "davenport/davenportlaw19.DocParts", spec := "docParts", unfollowed := true, recurses := true, apart := false, narrowed := true }
def DocPartsUptoSaid : Prop := docPartsUptoRow.holds Try.pinned (OpenSpec.upto docPartsSpec)

/-- 'davenportlaw19.DocNexts', WHERE WHAT IT READS IS OF BULK AT MOST 1048576: true; the input reads as it did. -/
def docNextsUptoRow : OpenClaim := { program := "ytmkkbomkonociaa", sum := "7c3dda449f416daf5e7b002e75bc9e4514c611a17f891e5951cea5bc367f6334", func := "davenport/davenportlaw19.DocNexts", spec := "docNexts", unfollowed := true, recurses := true, apart := false, narrowed := true }
def DocNextsUptoSaid : Prop := docNextsUptoRow.holds Try.pinned (OpenSpec.upto docNextsSpec)

/-- 'davenportlaw19.DocCodes', WHERE WHAT IT READS IS OF BULK AT MOST 1048576: true; the input reads as it did. -/
def docCodesUptoRow : OpenClaim := { program := "ytmkkbomkonociaa", sum := "7c3dda449f416daf5e7b002e75bc9e4514c611a17f891e5951cea5bc367f6334", func := "davenport/davenportlaw19.DocCodes", spec := "docCodes", unfollowed := true, recurses := true, apart := false, narrowed := true }
def DocCodesUptoSaid : Prop := docCodesUptoRow.holds Try.pinned (OpenSpec.upto docCodesSpec)

/-- 'davenportlaw19.DocGrows', WHERE WHAT IT READS IS OF BULK AT MOST 1048576: true; the input reads as it did. -/
def docGrowsUptoRow : OpenClaim := { program := "ytmkkbomkonociaa", sum := "7c3dda449f416daf5e7b002e75bc9e4514c611a17f891e5951cea5bc367f6334", func := "davenport/davenportlaw19.DocGrows", spec := "docGrows", unfollowed := true, recurses := true, apart := false, narrowed := true }
def DocGrowsUptoSaid : Prop := docGrowsUptoRow.holds Try.pinned (OpenSpec.upto docGrowsSpec)

/-- 'davenportlaw19.DocOnce', WHERE WHAT IT READS IS OF BULK AT MOST 1048576: true; the input reads as it did. -/
def docOnceUptoRow : OpenClaim := { program := "ytmkkbomkonociaa", sum := "7c3dda449f416daf5e7b002e75bc9e4514c611a17f891e5951cea5bc367f6334", func := "davenport/davenportlaw19.DocOnce", spec := "docOnce", unfollowed := true, recurses := true, apart := false, narrowed := true }
def DocOnceUptoSaid : Prop := docOnceUptoRow.holds Try.pinned (OpenSpec.upto docOnceSpec)

end Rows
end Go.Proofs.Ytmkkbomkonociaa
