/-
  NARROWER THAN 'FOR EVERY INPUT', by the rows' own cells (each row's printed sentence says how): UtfBack: laid · UtfPuts: laid · UtfNexts: laid · UtfTexts: laid · UtfAlone: laid · UtfJoins: laid · UtfOrders: laid.
  DERIVED. THE GIVEN ROWS OF THIS SEAT. 7 by the template 'for every input the law returns true; each argument reads behind the call as it read before'; 0 by the template 'total and deterministic' (their statements: YtheoadempenpaaaDoorTotals.lean).
  GIVEN WITH THE SEED: the statements are not yours to turn. If you find one false, say at which input.
  Laid BY PROGRAM, IN A SANDBOX (cutbox-rows.mjs): the forced cells as the released guide's own fill.sh prints them over the translation fd0d3b2c354db6d4… (all of the seat's roots in one cut). By AI agents, Wed Nov 11 2026. No macro, syntax, notation, axiom, sorry.
-/
import Derived.Test.YtheoadempenpaaaDoorChecked
import GoSem.Claim
import GoSem.ClaimJoined
import GoSem.ClaimMapViews
import Derived.JoinedTies
import Derived.KernelRfl
namespace Go.Proofs.YtheoadempenpaaaDoor
/- THE CELL 'sum', in the pinned program and in every row, IS THE sha256 OF THE DUMP (.gsa) THAT YtheoadempenpaaaDoorProg.lean LOADS. Nothing in Lean hashes anything: it is a label: what it is worth is what the hold of that sum in a sandbox is worth. -/
noncomputable def Tryd.pinned : Pinned := { name := "ytheoadempenpaaadoor", sum := "fd0d3b2c354db6d4abfbcb50917c4d9ad48a3fdc84256cdc4c4f36692b8c781b", checked := Tryd.checked }
namespace Rows
def none {H : Type} : Left H := { results := [], args := [] }

/- WHAT THE LISTED PACKAGE-LEVEL VARIABLES READ AS WHEN THE CALL BEGINS. Each datum BY PROGRAM (the guide's laid-datum.mjs) off the statement by which the dump's own 'gosem.cut.vars' lays the variable. In a bare row this is a premise. The card (YtheoadempenpaaaDoorCards.lean) ties it to the program's text. -/
def laid_davenport_utf_none {H : Type} : DataW H := .agg [.lit (.int .i64 0), .lit (.int .i64 0)]

/-- 'davenportlaw01.UtfBack': WHATEVER THE INPUT: true; the input reads as it did. -/
def utfBackSpec : ChangeSpec := { name := "utfBack", fn := fun _ => fun
  | [d] => { results := [.lit (.bool true)], args := [d] }
  | _ => none }
def utfBackRow : OpenClaim := { program := "ytheoadempenpaaadoor", sum := "fd0d3b2c354db6d4abfbcb50917c4d9ad48a3fdc84256cdc4c4f36692b8c781b", func := "davenport/davenportlaw01.UtfBack", spec := "utfBack", unfollowed := true, recurses := true, named := ["davenport/utf.none"], apart := false, laid := [("davenport/utf.none", laid_davenport_utf_none)] }
def UtfBackSaid : Prop := utfBackRow.holds Tryd.pinned (OpenSpec.ofChange utfBackSpec)

/-- ITS FALSE NEIGHBOUR: 'it returns false'. Refute it at one input. -/
def utfBackWrong : ChangeSpec := { name := "utfBack", fn := fun _ => fun
  | [d] => { results := [.lit (.bool false)], args := [d] }
  | _ => none }
def UtfBackWrongFalsely : Prop := utfBackRow.holds Tryd.pinned (OpenSpec.ofChange utfBackWrong)

/-- 'davenportlaw01.UtfPuts': WHATEVER THE INPUT: true; the input reads as it did. -/
def utfPutsSpec : ChangeSpec := { name := "utfPuts", fn := fun _ => fun
  | [d1, d2] => { results := [.lit (.bool true)], args := [d1, d2] }
  | _ => none }
def utfPutsRow : OpenClaim := { program := "ytheoadempenpaaadoor", sum := "fd0d3b2c354db6d4abfbcb50917c4d9ad48a3fdc84256cdc4c4f36692b8c781b", func := "davenport/davenportlaw01.UtfPuts", spec := "utfPuts", unfollowed := true, recurses := true, named := ["davenport/utf.none"], apart := false, laid := [("davenport/utf.none", laid_davenport_utf_none)] }
def UtfPutsSaid : Prop := utfPutsRow.holds Tryd.pinned (OpenSpec.ofChange utfPutsSpec)

/-- ITS FALSE NEIGHBOUR: 'it returns false'. Refute it at one input. -/
def utfPutsWrong : ChangeSpec := { name := "utfPuts", fn := fun _ => fun
  | [d1, d2] => { results := [.lit (.bool false)], args := [d1, d2] }
  | _ => none }
def UtfPutsWrongFalsely : Prop := utfPutsRow.holds Tryd.pinned (OpenSpec.ofChange utfPutsWrong)

/-- 'davenportlaw01.UtfNexts': WHATEVER THE INPUT: true; the input reads as it did. -/
def utfNextsSpec : ChangeSpec := { name := "utfNexts", fn := fun _ => fun
  | [d1, d2] => { results := [.lit (.bool true)], args := [d1, d2] }
  | _ => none }
def utfNextsRow : OpenClaim := { program := "ytheoadempenpaaadoor", sum := "fd0d3b2c354db6d4abfbcb50917c4d9ad48a3fdc84256cdc4c4f36692b8c781b", func := "davenport/davenportlaw01.UtfNexts", spec := "utfNexts", unfollowed := true, recurses := true, named := ["davenport/utf.none"], apart := false, laid := [("davenport/utf.none", laid_davenport_utf_none)] }
def UtfNextsSaid : Prop := utfNextsRow.holds Tryd.pinned (OpenSpec.ofChange utfNextsSpec)

/-- ITS FALSE NEIGHBOUR: 'it returns false'. Refute it at one input. -/
def utfNextsWrong : ChangeSpec := { name := "utfNexts", fn := fun _ => fun
  | [d1, d2] => { results := [.lit (.bool false)], args := [d1, d2] }
  | _ => none }
def UtfNextsWrongFalsely : Prop := utfNextsRow.holds Tryd.pinned (OpenSpec.ofChange utfNextsWrong)

/-- 'davenportlaw01.UtfTexts': WHATEVER THE INPUT: true; the input reads as it did. -/
def utfTextsSpec : ChangeSpec := { name := "utfTexts", fn := fun _ => fun
  | [d1, d2] => { results := [.lit (.bool true)], args := [d1, d2] }
  | _ => none }
def utfTextsRow : OpenClaim := { program := "ytheoadempenpaaadoor", sum := "fd0d3b2c354db6d4abfbcb50917c4d9ad48a3fdc84256cdc4c4f36692b8c781b", func := "davenport/davenportlaw01.UtfTexts", spec := "utfTexts", unfollowed := true, recurses := true, named := ["davenport/utf.none"], apart := false, laid := [("davenport/utf.none", laid_davenport_utf_none)] }
def UtfTextsSaid : Prop := utfTextsRow.holds Tryd.pinned (OpenSpec.ofChange utfTextsSpec)

/-- ITS FALSE NEIGHBOUR: 'it returns false'. Refute it at one input. -/
def utfTextsWrong : ChangeSpec := { name := "utfTexts", fn := fun _ => fun
  | [d1, d2] => { results := [.lit (.bool false)], args := [d1, d2] }
  | _ => none }
def UtfTextsWrongFalsely : Prop := utfTextsRow.holds Tryd.pinned (OpenSpec.ofChange utfTextsWrong)

/-- 'davenportlaw01.UtfAlone': WHATEVER THE INPUT: true; the input reads as it did. -/
def utfAloneSpec : ChangeSpec := { name := "utfAlone", fn := fun _ => fun
  | [d1, d2] => { results := [.lit (.bool true)], args := [d1, d2] }
  | _ => none }
def utfAloneRow : OpenClaim := { program := "ytheoadempenpaaadoor", sum := "fd0d3b2c354db6d4abfbcb50917c4d9ad48a3fdc84256cdc4c4f36692b8c781b", func := "davenport/davenportlaw01.UtfAlone", spec := "utfAlone", unfollowed := true, recurses := true, named := ["davenport/utf.none"], apart := false, laid := [("davenport/utf.none", laid_davenport_utf_none)] }
def UtfAloneSaid : Prop := utfAloneRow.holds Tryd.pinned (OpenSpec.ofChange utfAloneSpec)

/-- ITS FALSE NEIGHBOUR: 'it returns false'. Refute it at one input. -/
def utfAloneWrong : ChangeSpec := { name := "utfAlone", fn := fun _ => fun
  | [d1, d2] => { results := [.lit (.bool false)], args := [d1, d2] }
  | _ => none }
def UtfAloneWrongFalsely : Prop := utfAloneRow.holds Tryd.pinned (OpenSpec.ofChange utfAloneWrong)

/-- 'davenportlaw01.UtfJoins': WHATEVER THE INPUT: true; the input reads as it did. -/
def utfJoinsSpec : ChangeSpec := { name := "utfJoins", fn := fun _ => fun
  | [d1, d2] => { results := [.lit (.bool true)], args := [d1, d2] }
  | _ => none }
def utfJoinsRow : OpenClaim := { program := "ytheoadempenpaaadoor", sum := "fd0d3b2c354db6d4abfbcb50917c4d9ad48a3fdc84256cdc4c4f36692b8c781b", func := "davenport/davenportlaw01.UtfJoins", spec := "utfJoins", unfollowed := true, recurses := true, named := ["davenport/utf.none"], apart := false, laid := [("davenport/utf.none", laid_davenport_utf_none)] }
def UtfJoinsSaid : Prop := utfJoinsRow.holds Tryd.pinned (OpenSpec.ofChange utfJoinsSpec)

/-- ITS FALSE NEIGHBOUR: 'it returns false'. Refute it at one input. -/
def utfJoinsWrong : ChangeSpec := { name := "utfJoins", fn := fun _ => fun
  | [d1, d2] => { results := [.lit (.bool false)], args := [d1, d2] }
  | _ => none }
def UtfJoinsWrongFalsely : Prop := utfJoinsRow.holds Tryd.pinned (OpenSpec.ofChange utfJoinsWrong)

/-- 'davenportlaw01.UtfOrders': WHATEVER THE INPUT: true; the input reads as it did. -/
def utfOrdersSpec : ChangeSpec := { name := "utfOrders", fn := fun _ => fun
  | [d1, d2] => { results := [.lit (.bool true)], args := [d1, d2] }
  | _ => none }
def utfOrdersRow : OpenClaim := { program := "ytheoadempenpaaadoor", sum := "fd0d3b2c354db6d4abfbcb50917c4d9ad48a3fdc84256cdc4c4f36692b8c781b", func := "davenport/davenportlaw01.UtfOrders", spec := "utfOrders", unfollowed := true, recurses := true, named := ["davenport/utf.none"], apart := false, laid := [("davenport/utf.none", laid_davenport_utf_none)] }
def UtfOrdersSaid : Prop := utfOrdersRow.holds Tryd.pinned (OpenSpec.ofChange utfOrdersSpec)

/-- ITS FALSE NEIGHBOUR: 'it returns false'. Refute it at one input. -/
def utfOrdersWrong : ChangeSpec := { name := "utfOrders", fn := fun _ => fun
  | [d1, d2] => { results := [.lit (.bool false)], args := [d1, d2] }
  | _ => none }
def UtfOrdersWrongFalsely : Prop := utfOrdersRow.holds Tryd.pinned (OpenSpec.ofChange utfOrdersWrong)

/- THE SECOND FORM. 'bulk': how many values and letters a reading holds, each counted each time it is reached (what is shared counts as often as it is met; a slice's spare places count too). A statement '..UptoSaid' is the law's where the arguments, and the package variables that the reading takes, are together of bulk at most 1048576: NARROWER than '..Said'. Prove '..Said' where nothing that the law and all that it calls make is longer than what came in: it says more and counts as full. Else prove '..UptoSaid'. A law counts once. -/
mutual
def uptoBulk {H : Type} : DataW H → Nat
  | .lit (.string bytes) => bytes.length + 1
  | .lit _ => 1
  | .nil => 1
  | .ptr d => uptoBulk d + 1
  | .slice elems spare => uptoBulkAll elems + uptoBulkAll spare + 1
  | .agg parts => uptoBulkAll parts + 1
  | .iface _ d => uptoBulk d + 1
  | .map entries => uptoBulkEntries entries + 1
  | .held _ => 1
def uptoBulkAll {H : Type} : List (DataW H) → Nat
  | [] => 0
  | d :: r => uptoBulk d + uptoBulkAll r
def uptoBulkEntries {H : Type} : List (Lit × DataW H) → Nat
  | [] => 0
  | x :: r => uptoBulkEntry x + uptoBulkEntries r
def uptoBulkEntry {H : Type} : Lit × DataW H → Nat
  | (.string bytes, d) => bytes.length + uptoBulk d + 1
  | (_, d) => uptoBulk d + 1
 end
def uptoSmall : (H : Type) → List (DataW H) → Bool := fun _ ds => decide (uptoBulkAll ds ≤ 1048576)
def OpenSpec.upto (s : _root_.Go.ChangeSpec) : _root_.Go.OpenSpec := { _root_.Go.OpenSpec.ofChange s with cond := some uptoSmall }

/-- 'davenportlaw01.UtfBack', WHERE WHAT IT READS IS OF BULK AT MOST 1048576: true; the input reads as it did. -/
def utfBackUptoRow : OpenClaim := { program := "ytheoadempenpaaadoor", sum := "fd0d3b2c354db6d4abfbcb50917c4d9ad48a3fdc84256cdc4c4f36692b8c781b", func := "davenport/davenportlaw01.UtfBack", spec := "utfBack", unfollowed := true, recurses := true, named := ["davenport/utf.none"], apart := false, laid := [("davenport/utf.none", laid_davenport_utf_none)], narrowed := true }
def UtfBackUptoSaid : Prop := utfBackUptoRow.holds Tryd.pinned (OpenSpec.upto utfBackSpec)

/-- 'davenportlaw01.UtfPuts', WHERE WHAT IT READS IS OF BULK AT MOST 1048576: true; the input reads as it did. -/
def utfPutsUptoRow : OpenClaim := { program := "ytheoadempenpaaadoor", sum := "fd0d3b2c354db6d4abfbcb50917c4d9ad48a3fdc84256cdc4c4f36692b8c781b", func := "davenport/davenportlaw01.UtfPuts", spec := "utfPuts", unfollowed := true, recurses := true, named := ["davenport/utf.none"], apart := false, laid := [("davenport/utf.none", laid_davenport_utf_none)], narrowed := true }
def UtfPutsUptoSaid : Prop := utfPutsUptoRow.holds Tryd.pinned (OpenSpec.upto utfPutsSpec)

/-- 'davenportlaw01.UtfNexts', WHERE WHAT IT READS IS OF BULK AT MOST 1048576: true; the input reads as it did. -/
def utfNextsUptoRow : OpenClaim := { program := "ytheoadempenpaaadoor", sum := "fd0d3b2c354db6d4abfbcb50917c4d9ad48a3fdc84256cdc4c4f36692b8c781b", func := "davenport/davenportlaw01.UtfNexts", spec := "utfNexts", unfollowed := true, recurses := true, named := ["davenport/utf.none"], apart := false, laid := [("davenport/utf.none", laid_davenport_utf_none)], narrowed := true }
def UtfNextsUptoSaid : Prop := utfNextsUptoRow.holds Tryd.pinned (OpenSpec.upto utfNextsSpec)

/-- 'davenportlaw01.UtfTexts', WHERE WHAT IT READS IS OF BULK AT MOST 1048576: true; the input reads as it did. -/
def utfTextsUptoRow : OpenClaim := { program := "ytheoadempenpaaadoor", sum := "fd0d3b2c354db6d4abfbcb50917c4d9ad48a3fdc84256cdc4c4f36692b8c781b", func := "davenport/davenportlaw01.UtfTexts", spec := "utfTexts", unfollowed := true, recurses := true, named := ["davenport/utf.none"], apart := false, laid := [("davenport/utf.none", laid_davenport_utf_none)], narrowed := true }
def UtfTextsUptoSaid : Prop := utfTextsUptoRow.holds Tryd.pinned (OpenSpec.upto utfTextsSpec)

/-- 'davenportlaw01.UtfAlone', WHERE WHAT IT READS IS OF BULK AT MOST 1048576: true; the input reads as it did. -/
def utfAloneUptoRow : OpenClaim := { program := "ytheoadempenpaaadoor", sum := "fd0d3b2c354db6d4abfbcb50917c4d9ad48a3fdc84256cdc4c4f36692b8c781b", func := "davenport/davenportlaw01.UtfAlone", spec := "utfAlone", unfollowed := true, recurses := true, named := ["davenport/utf.none"], apart := false, laid := [("davenport/utf.none", laid_davenport_utf_none)], narrowed := true }
def UtfAloneUptoSaid : Prop := utfAloneUptoRow.holds Tryd.pinned (OpenSpec.upto utfAloneSpec)

/-- 'davenportlaw01.UtfJoins', WHERE WHAT IT READS IS OF BULK AT MOST 1048576: true; the input reads as it did. -/
def utfJoinsUptoRow : OpenClaim := { program := "ytheoadempenpaaadoor", sum := "fd0d3b2c354db6d4abfbcb50917c4d9ad48a3fdc84256cdc4c4f36692b8c781b", func := "davenport/davenportlaw01.UtfJoins", spec := "utfJoins", unfollowed := true, recurses := true, named := ["davenport/utf.none"], apart := false, laid := [("davenport/utf.none", laid_davenport_utf_none)], narrowed := true }
def UtfJoinsUptoSaid : Prop := utfJoinsUptoRow.holds Tryd.pinned (OpenSpec.upto utfJoinsSpec)

/-- 'davenportlaw01.UtfOrders', WHERE WHAT IT READS IS OF BULK AT MOST 1048576: true; the input reads as it did. -/
def utfOrdersUptoRow : OpenClaim := { program := "ytheoadempenpaaadoor", sum := "fd0d3b2c354db6d4abfbcb50917c4d9ad48a3fdc84256cdc4c4f36692b8c781b", func := "davenport/davenportlaw01.UtfOrders", spec := "utfOrders", unfollowed := true, recurses := true, named := ["davenport/utf.none"], apart := false, laid := [("davenport/utf.none", laid_davenport_utf_none)], narrowed := true }
def UtfOrdersUptoSaid : Prop := utfOrdersUptoRow.holds Tryd.pinned (OpenSpec.upto utfOrdersSpec)

end Rows
end Go.Proofs.YtheoadempenpaaaDoor
