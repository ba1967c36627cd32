/-
  DERIVED. GIVEN WITH THE SEED: THE CARDS: each row of YtmkkbomkonociaaDoorRows.lean that lists a variable, with what it lists TIED to the program's text (the seventh form; the later family's looks); each row that meets fmt, with fmt's text TOLD by the authors' own Lean function (tested against real Go, not proved from fmt's source: count such statements apart). THE CARD IS WHAT COUNTS. Prove the row's statement (the work); the ties are given (YtmkkbomkonociaaDoorTie.lean); close each card by the builder's one call (the guide's Derived/Test/ToyasCard.lean, 'card_holds'). Laid BY PROGRAM, IN A SANDBOX (cutbox-door.mjs). By AI agents, Wed Nov 11 2026. No macro, syntax, notation, axiom, sorry.
-/
import Derived.Test.YtmkkbomkonociaaDoorRows
import GoSem.ClaimSeven
namespace Go.Proofs.YtmkkbomkonociaaDoor
namespace Rows

/-- THE TIED CARD OF 'davenportlaw19.DocBack'. -/
def docBackCard : Claim7 := { stood := { row := docBackRow, standIns := [], harness := (true, "56d3d8c60b66b3b19d910cce3ff8b7c951c0514152a9cf0f9adc34933c953a76"), looks := false }, kinds := [], alts := [], laidByText := true, laidKinds := [.data, .pinned, .pinned], laidTests := true, laidLooks := .later }
def DocBackCardSaid : Prop := Claim7.holds Tryd.pinned (.plain (OpenSpec.ofChange docBackSpec)) docBackCard

/-- THE SECOND FORM's CARD OF 'davenportlaw19.DocBack'. -/
def docBackUptoCard : Claim7 := { stood := { row := docBackUptoRow, standIns := [], harness := (true, "56d3d8c60b66b3b19d910cce3ff8b7c951c0514152a9cf0f9adc34933c953a76"), looks := false }, kinds := [], alts := [], laidByText := true, laidKinds := [.data, .pinned, .pinned], laidTests := true, laidLooks := .later }
def DocBackUptoCardSaid : Prop := Claim7.holds Tryd.pinned (.plain (OpenSpec.upto docBackSpec)) docBackUptoCard
end Rows
end Go.Proofs.YtmkkbomkonociaaDoor
