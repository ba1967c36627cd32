/-
  NARROWER THAN 'FOR EVERY INPUT', by the rows' own cells (each row's printed sentence says how): QuotePrints: laid · QuoteCuts: laid · QuoteLeast: laid · QuoteSigns: laid · QuoteReads: laid · QuoteBack: laid · QuoteSaid: laid.
  DERIVED. THE GIVEN ROWS OF THIS SEAT. 7 by the template 'for every input the law returns true; each argument reads behind the call as it read before'; 0 by the template 'total and deterministic' (their statements: YtbnibiealnogdaaDoorTotals.lean).
  GIVEN WITH THE SEED: the statements are not yours to turn. If you find one false, say at which input.
  Laid BY PROGRAM, IN A SANDBOX (cutbox-rows.mjs): the forced cells as the released guide's own fill.sh prints them over the translation 70fae3c574f19a8f… (all of the seat's roots in one cut). By AI agents, Wed Nov 11 2026. No macro, syntax, notation, axiom, sorry.
-/
import Derived.Test.YtbnibiealnogdaaDoorChecked
import GoSem.PinnedTables
import GoSem.Claim
import GoSem.ClaimJoined
import GoSem.ClaimMapViews
import Derived.JoinedTies
import Derived.KernelRfl
namespace Go.Proofs.YtbnibiealnogdaaDoor
/- THE CELL 'sum', in the pinned program and in every row, IS THE sha256 OF THE DUMP (.gsa) THAT YtbnibiealnogdaaDoorProg.lean LOADS. Nothing in Lean hashes anything: it is a label: what it is worth is what the hold of that sum in a sandbox is worth. -/
noncomputable def Tryd.pinned : Pinned := { name := "ytbnibiealnogdaadoor", sum := "70fae3c574f19a8f53899d1644bfab26175359c17a37bd47fa8fd634370b9004", checked := Tryd.checked }
namespace Rows
def none {H : Type} : Left H := { results := [], args := [] }

/- WHAT THE LISTED PACKAGE-LEVEL VARIABLES READ AS WHEN THE CALL BEGINS. Each datum BY PROGRAM (the guide's laid-datum.mjs) off the statement by which the dump's own 'gosem.cut.vars' lays the variable. In a bare row this is a premise. The card (YtbnibiealnogdaaDoorCards.lean) ties it to the program's text. -/
def laid_davenport_utf_none {H : Type} : DataW H := .agg [.lit (.int .i64 0), .lit (.int .i64 0)]
def laid_unicode_utf8_acceptRanges {H : Type} : DataW H := .agg [.agg [.lit (.int .u8 128), .lit (.int .u8 191)], .agg [.lit (.int .u8 160), .lit (.int .u8 191)], .agg [.lit (.int .u8 128), .lit (.int .u8 159)], .agg [.lit (.int .u8 144), .lit (.int .u8 191)], .agg [.lit (.int .u8 128), .lit (.int .u8 143)], .agg [.lit (.int .u8 0), .lit (.int .u8 0)], .agg [.lit (.int .u8 0), .lit (.int .u8 0)], .agg [.lit (.int .u8 0), .lit (.int .u8 0)], .agg [.lit (.int .u8 0), .lit (.int .u8 0)], .agg [.lit (.int .u8 0), .lit (.int .u8 0)], .agg [.lit (.int .u8 0), .lit (.int .u8 0)], .agg [.lit (.int .u8 0), .lit (.int .u8 0)], .agg [.lit (.int .u8 0), .lit (.int .u8 0)], .agg [.lit (.int .u8 0), .lit (.int .u8 0)], .agg [.lit (.int .u8 0), .lit (.int .u8 0)], .agg [.lit (.int .u8 0), .lit (.int .u8 0)]]
/-- One of Go's own tables, pinned by name: the form's constant. -/
def laid_unicode_CaseRanges : DataW Unit := Go.Pinned.caseRanges
/-- One of Go's own tables, pinned by name: the form's constant. -/
def laid_unicode_utf8_first : DataW Unit := Go.Pinned.utf8First

/-- 'davenportlaw02.QuotePrints': WHATEVER THE INPUT: true; the input reads as it did. -/
def quotePrintsSpec : ChangeSpec := { name := "quotePrints", fn := fun _ => fun
  | [d] => { results := [.lit (.bool true)], args := [d] }
  | _ => none }
def quotePrintsRow : OpenClaim := { program := "ytbnibiealnogdaadoor", sum := "70fae3c574f19a8f53899d1644bfab26175359c17a37bd47fa8fd634370b9004", func := "davenport/davenportlaw02.QuotePrints", spec := "quotePrints", unfollowed := true, recurses := true, named := ["davenport/utf.none"], apart := false, laid := [("davenport/utf.none", laid_davenport_utf_none)] }
def QuotePrintsSaid : Prop := quotePrintsRow.holds Tryd.pinned (OpenSpec.ofChange quotePrintsSpec)

/-- ITS FALSE NEIGHBOUR: 'it returns false'. Refute it at one input. -/
def quotePrintsWrong : ChangeSpec := { name := "quotePrints", fn := fun _ => fun
  | [d] => { results := [.lit (.bool false)], args := [d] }
  | _ => none }
def QuotePrintsWrongFalsely : Prop := quotePrintsRow.holds Tryd.pinned (OpenSpec.ofChange quotePrintsWrong)

/-- 'davenportlaw02.QuoteCuts': WHATEVER THE INPUT: true; the input reads as it did. -/
def quoteCutsSpec : ChangeSpec := { name := "quoteCuts", fn := fun _ => fun
  | [d1, d2] => { results := [.lit (.bool true)], args := [d1, d2] }
  | _ => none }
def quoteCutsRow : OpenClaim := { program := "ytbnibiealnogdaadoor", sum := "70fae3c574f19a8f53899d1644bfab26175359c17a37bd47fa8fd634370b9004", func := "davenport/davenportlaw02.QuoteCuts", spec := "quoteCuts", unfollowed := true, recurses := true, named := ["davenport/utf.none"], apart := false, laid := [("davenport/utf.none", laid_davenport_utf_none)] }
def QuoteCutsSaid : Prop := quoteCutsRow.holds Tryd.pinned (OpenSpec.ofChange quoteCutsSpec)

/-- ITS FALSE NEIGHBOUR: 'it returns false'. Refute it at one input. -/
def quoteCutsWrong : ChangeSpec := { name := "quoteCuts", fn := fun _ => fun
  | [d1, d2] => { results := [.lit (.bool false)], args := [d1, d2] }
  | _ => none }
def QuoteCutsWrongFalsely : Prop := quoteCutsRow.holds Tryd.pinned (OpenSpec.ofChange quoteCutsWrong)

/-- 'davenportlaw02.QuoteLeast': WHATEVER THE INPUT: true; the input reads as it did. -/
def quoteLeastSpec : ChangeSpec := { name := "quoteLeast", fn := fun _ => fun
  | [d] => { results := [.lit (.bool true)], args := [d] }
  | _ => none }
def quoteLeastRow : OpenClaim := { program := "ytbnibiealnogdaadoor", sum := "70fae3c574f19a8f53899d1644bfab26175359c17a37bd47fa8fd634370b9004", func := "davenport/davenportlaw02.QuoteLeast", spec := "quoteLeast", unfollowed := true, recurses := true, named := ["davenport/utf.none"], apart := false, laid := [("davenport/utf.none", laid_davenport_utf_none)] }
def QuoteLeastSaid : Prop := quoteLeastRow.holds Tryd.pinned (OpenSpec.ofChange quoteLeastSpec)

/-- ITS FALSE NEIGHBOUR: 'it returns false'. Refute it at one input. -/
def quoteLeastWrong : ChangeSpec := { name := "quoteLeast", fn := fun _ => fun
  | [d] => { results := [.lit (.bool false)], args := [d] }
  | _ => none }
def QuoteLeastWrongFalsely : Prop := quoteLeastRow.holds Tryd.pinned (OpenSpec.ofChange quoteLeastWrong)

/-- 'davenportlaw02.QuoteSigns': WHATEVER THE INPUT: true; the input reads as it did. -/
def quoteSignsSpec : ChangeSpec := { name := "quoteSigns", fn := fun _ => fun
  | [d1, d2] => { results := [.lit (.bool true)], args := [d1, d2] }
  | _ => none }
def quoteSignsRow : OpenClaim := { program := "ytbnibiealnogdaadoor", sum := "70fae3c574f19a8f53899d1644bfab26175359c17a37bd47fa8fd634370b9004", func := "davenport/davenportlaw02.QuoteSigns", spec := "quoteSigns", unfollowed := true, recurses := true, named := ["davenport/utf.none"], apart := false, laid := [("davenport/utf.none", laid_davenport_utf_none)] }
def QuoteSignsSaid : Prop := quoteSignsRow.holds Tryd.pinned (OpenSpec.ofChange quoteSignsSpec)

/-- ITS FALSE NEIGHBOUR: 'it returns false'. Refute it at one input. -/
def quoteSignsWrong : ChangeSpec := { name := "quoteSigns", fn := fun _ => fun
  | [d1, d2] => { results := [.lit (.bool false)], args := [d1, d2] }
  | _ => none }
def QuoteSignsWrongFalsely : Prop := quoteSignsRow.holds Tryd.pinned (OpenSpec.ofChange quoteSignsWrong)

/-- 'davenportlaw02.QuoteReads': WHATEVER THE INPUT: true; the input reads as it did. -/
def quoteReadsSpec : ChangeSpec := { name := "quoteReads", fn := fun _ => fun
  | [d1, d2] => { results := [.lit (.bool true)], args := [d1, d2] }
  | _ => none }
def quoteReadsRow : OpenClaim := { program := "ytbnibiealnogdaadoor", sum := "70fae3c574f19a8f53899d1644bfab26175359c17a37bd47fa8fd634370b9004", func := "davenport/davenportlaw02.QuoteReads", spec := "quoteReads", unfollowed := true, recurses := true, named := ["davenport/utf.none"], apart := false, laid := [("davenport/utf.none", laid_davenport_utf_none)] }
def QuoteReadsSaid : Prop := quoteReadsRow.holds Tryd.pinned (OpenSpec.ofChange quoteReadsSpec)

/-- ITS FALSE NEIGHBOUR: 'it returns false'. Refute it at one input. -/
def quoteReadsWrong : ChangeSpec := { name := "quoteReads", fn := fun _ => fun
  | [d1, d2] => { results := [.lit (.bool false)], args := [d1, d2] }
  | _ => none }
def QuoteReadsWrongFalsely : Prop := quoteReadsRow.holds Tryd.pinned (OpenSpec.ofChange quoteReadsWrong)

/-- 'davenportlaw02.QuoteBack': WHATEVER THE INPUT: true; the input reads as it did. -/
def quoteBackSpec : ChangeSpec := { name := "quoteBack", fn := fun _ => fun
  | [d1, d2, d3] => { results := [.lit (.bool true)], args := [d1, d2, d3] }
  | _ => none }
def quoteBackRow : OpenClaim := { program := "ytbnibiealnogdaadoor", sum := "70fae3c574f19a8f53899d1644bfab26175359c17a37bd47fa8fd634370b9004", func := "davenport/davenportlaw02.QuoteBack", spec := "quoteBack", unfollowed := true, recurses := true, named := ["davenport/utf.none"], apart := false, laid := [("davenport/utf.none", laid_davenport_utf_none)] }
def QuoteBackSaid : Prop := quoteBackRow.holds Tryd.pinned (OpenSpec.ofChange quoteBackSpec)

/-- ITS FALSE NEIGHBOUR: 'it returns false'. Refute it at one input. -/
def quoteBackWrong : ChangeSpec := { name := "quoteBack", fn := fun _ => fun
  | [d1, d2, d3] => { results := [.lit (.bool false)], args := [d1, d2, d3] }
  | _ => none }
def QuoteBackWrongFalsely : Prop := quoteBackRow.holds Tryd.pinned (OpenSpec.ofChange quoteBackWrong)

/-- 'davenportlaw02.QuoteSaid': WHATEVER THE INPUT: true; the input reads as it did. -/
def quoteSaidSpec : ChangeSpec := { name := "quoteSaid", fn := fun _ => fun
  | [d1, d2] => { results := [.lit (.bool true)], args := [d1, d2] }
  | _ => none }
def quoteSaidRow : OpenClaim := { program := "ytbnibiealnogdaadoor", sum := "70fae3c574f19a8f53899d1644bfab26175359c17a37bd47fa8fd634370b9004", func := "davenport/davenportlaw02.QuoteSaid", spec := "quoteSaid", inPlace := ["internal/abi.NoEscape", "internal/bytealg.MakeNoZero"], unfollowed := true, recurses := true, named := ["davenport/utf.none", "unicode/utf8.first", "unicode/utf8.acceptRanges", "unicode.CaseRanges"], apart := false, laid := [("unicode/utf8.acceptRanges", laid_unicode_utf8_acceptRanges), ("davenport/utf.none", laid_davenport_utf_none), ("unicode.CaseRanges", laid_unicode_CaseRanges), ("unicode/utf8.first", laid_unicode_utf8_first)] }
def QuoteSaidSaid : Prop := quoteSaidRow.holds Tryd.pinned (OpenSpec.ofChange quoteSaidSpec)

/-- ITS FALSE NEIGHBOUR: 'it returns false'. Refute it at one input. -/
def quoteSaidWrong : ChangeSpec := { name := "quoteSaid", fn := fun _ => fun
  | [d1, d2] => { results := [.lit (.bool false)], args := [d1, d2] }
  | _ => none }
def QuoteSaidWrongFalsely : Prop := quoteSaidRow.holds Tryd.pinned (OpenSpec.ofChange quoteSaidWrong)

/- THE SECOND FORM. 'bulk': how many values and letters a reading holds, each counted each time it is reached (what is shared counts as often as it is met; a slice's spare places count too). A statement '..UptoSaid' is the law's where the arguments, and the package variables that the reading takes, are together of bulk at most 1048576: NARROWER than '..Said'. Prove '..Said' where nothing that the law and all that it calls make is longer than what came in: it says more and counts as full. Else prove '..UptoSaid'. A law counts once. -/
mutual
def uptoBulk {H : Type} : DataW H → Nat
  | .lit (.string bytes) => bytes.length + 1
  | .lit _ => 1
  | .nil => 1
  | .ptr d => uptoBulk d + 1
  | .slice elems spare => uptoBulkAll elems + uptoBulkAll spare + 1
  | .agg parts => uptoBulkAll parts + 1
  | .iface _ d => uptoBulk d + 1
  | .map entries => uptoBulkEntries entries + 1
  | .held _ => 1
def uptoBulkAll {H : Type} : List (DataW H) → Nat
  | [] => 0
  | d :: r => uptoBulk d + uptoBulkAll r
def uptoBulkEntries {H : Type} : List (Lit × DataW H) → Nat
  | [] => 0
  | x :: r => uptoBulkEntry x + uptoBulkEntries r
def uptoBulkEntry {H : Type} : Lit × DataW H → Nat
  | (.string bytes, d) => bytes.length + uptoBulk d + 1
  | (_, d) => uptoBulk d + 1
 end
def uptoSmall : (H : Type) → List (DataW H) → Bool := fun _ ds => decide (uptoBulkAll ds ≤ 1048576)
def OpenSpec.upto (s : _root_.Go.ChangeSpec) : _root_.Go.OpenSpec := { _root_.Go.OpenSpec.ofChange s with cond := some uptoSmall }

/-- 'davenportlaw02.QuotePrints', WHERE WHAT IT READS IS OF BULK AT MOST 1048576: true; the input reads as it did. -/
def quotePrintsUptoRow : OpenClaim := { program := "ytbnibiealnogdaadoor", sum := "70fae3c574f19a8f53899d1644bfab26175359c17a37bd47fa8fd634370b9004", func := "davenport/davenportlaw02.QuotePrints", spec := "quotePrints", unfollowed := true, recurses := true, named := ["davenport/utf.none"], apart := false, laid := [("davenport/utf.none", laid_davenport_utf_none)], narrowed := true }
def QuotePrintsUptoSaid : Prop := quotePrintsUptoRow.holds Tryd.pinned (OpenSpec.upto quotePrintsSpec)

/-- 'davenportlaw02.QuoteCuts', WHERE WHAT IT READS IS OF BULK AT MOST 1048576: true; the input reads as it did. -/
def quoteCutsUptoRow : OpenClaim := { program := "ytbnibiealnogdaadoor", sum := "70fae3c574f19a8f53899d1644bfab26175359c17a37bd47fa8fd634370b9004", func := "davenport/davenportlaw02.QuoteCuts", spec := "quoteCuts", unfollowed := true, recurses := true, named := ["davenport/utf.none"], apart := false, laid := [("davenport/utf.none", laid_davenport_utf_none)], narrowed := true }
def QuoteCutsUptoSaid : Prop := quoteCutsUptoRow.holds Tryd.pinned (OpenSpec.upto quoteCutsSpec)

/-- 'davenportlaw02.QuoteLeast', WHERE WHAT IT READS IS OF BULK AT MOST 1048576: true; the input reads as it did. -/
def quoteLeastUptoRow : OpenClaim := { program := "ytbnibiealnogdaadoor", sum := "70fae3c574f19a8f53899d1644bfab26175359c17a37bd47fa8fd634370b9004", func := "davenport/davenportlaw02.QuoteLeast", spec := "quoteLeast", unfollowed := true, recurses := true, named := ["davenport/utf.none"], apart := false, laid := [("davenport/utf.none", laid_davenport_utf_none)], narrowed := true }
def QuoteLeastUptoSaid : Prop := quoteLeastUptoRow.holds Tryd.pinned (OpenSpec.upto quoteLeastSpec)

/-- 'davenportlaw02.QuoteSigns', WHERE WHAT IT READS IS OF BULK AT MOST 1048576: true; the input reads as it did. -/
def quoteSignsUptoRow : OpenClaim := { program := "ytbnibiealnogdaadoor", sum := "70fae3c574f19a8f53899d1644bfab26175359c17a37bd47fa8fd634370b9004", func := "davenport/davenportlaw02.QuoteSigns", spec := "quoteSigns", unfollowed := true, recurses := true, named := ["davenport/utf.none"], apart := false, laid := [("davenport/utf.none", laid_davenport_utf_none)], narrowed := true }
def QuoteSignsUptoSaid : Prop := quoteSignsUptoRow.holds Tryd.pinned (OpenSpec.upto quoteSignsSpec)

/-- 'davenportlaw02.QuoteReads', WHERE WHAT IT READS IS OF BULK AT MOST 1048576: true; the input reads as it did. -/
def quoteReadsUptoRow : OpenClaim := { program := "ytbnibiealnogdaadoor", sum := "70fae3c574f19a8f53899d1644bfab26175359c17a37bd47fa8fd634370b9004", func := "davenport/davenportlaw02.QuoteReads", spec := "quoteReads", unfollowed := true, recurses := true, named := ["davenport/utf.none"], apart := false, laid := [("davenport/utf.none", laid_davenport_utf_none)], narrowed := true }
def QuoteReadsUptoSaid : Prop := quoteReadsUptoRow.holds Tryd.pinned (OpenSpec.upto quoteReadsSpec)

/-- 'davenportlaw02.QuoteBack', WHERE WHAT IT READS IS OF BULK AT MOST 1048576: true; the input reads as it did. -/
def quoteBackUptoRow : OpenClaim := { program := "ytbnibiealnogdaadoor", sum := "70fae3c574f19a8f53899d1644bfab26175359c17a37bd47fa8fd634370b9004", func := "davenport/davenportlaw02.QuoteBack", spec := "quoteBack", unfollowed := true, recurses := true, named := ["davenport/utf.none"], apart := false, laid := [("davenport/utf.none", laid_davenport_utf_none)], narrowed := true }
def QuoteBackUptoSaid : Prop := quoteBackUptoRow.holds Tryd.pinned (OpenSpec.upto quoteBackSpec)

/-- 'davenportlaw02.QuoteSaid', WHERE WHAT IT READS IS OF BULK AT MOST 1048576: true; the input reads as it did. -/
def quoteSaidUptoRow : OpenClaim := { program := "ytbnibiealnogdaadoor", sum := "70fae3c574f19a8f53899d1644bfab26175359c17a37bd47fa8fd634370b9004", func := "davenport/davenportlaw02.QuoteSaid", spec := "quoteSaid", inPlace := ["internal/abi.NoEscape", "internal/bytealg.MakeNoZero"], unfollowed := true, recurses := true, named := ["davenport/utf.none", "unicode/utf8.first", "unicode/utf8.acceptRanges", "unicode.CaseRanges"], apart := false, laid := [("unicode/utf8.acceptRanges", laid_unicode_utf8_acceptRanges), ("davenport/utf.none", laid_davenport_utf_none), ("unicode.CaseRanges", laid_unicode_CaseRanges), ("unicode/utf8.first", laid_unicode_utf8_first)], narrowed := true }
def QuoteSaidUptoSaid : Prop := quoteSaidUptoRow.holds Tryd.pinned (OpenSpec.upto quoteSaidSpec)

end Rows
end Go.Proofs.YtbnibiealnogdaaDoor
