/-
  DERIVED. GIVEN WITH THE SEED: THE CARDS: each row of YtfcnmdmbkoekcaaGreatDoorRows.lean that lists a variable, with what it lists TIED to the program's text (the seventh form; the later family's looks); each row that meets fmt, with fmt's text TOLD by the authors' own Lean function (tested against real Go, not proved from fmt's source: count such statements apart). THE CARD IS WHAT COUNTS. Prove the row's statement (the work); the ties are given (YtfcnmdmbkoekcaaGreatDoorTie.lean); close each card by the builder's one call (the guide's Derived/Test/ToyasCard.lean, 'card_holds'). Laid BY PROGRAM, IN A SANDBOX (cutbox-door.mjs). By AI agents, Wed Nov 11 2026. No macro, syntax, notation, axiom, sorry.
-/
import Derived.Test.YtfcnmdmbkoekcaaGreatDoorRows
import GoSem.ClaimSeven
namespace Go.Proofs.YtfcnmdmbkoekcaaGreatDoor
namespace Rows

/-- THE TIED CARD OF 'wherrylaw2.KeptLoadRefuses'. -/
def keptLoadRefusesCard : Claim7 := { stood := { row := keptLoadRefusesRow, standIns := [], harness := (true, "a08428712f4d40307499ea0c06a377b9364f3432bd833cd5df1cb24ff1eba36a"), looks := false }, kinds := [], alts := [], laidByText := true, laidKinds := [.data, .data, .pinned], laidTests := true, laidLooks := .later }
def KeptLoadRefusesCardSaid : Prop := Claim7.holds Tryz.pinned (.plain (OpenSpec.ofChange keptLoadRefusesSpec)) keptLoadRefusesCard

/-- THE SECOND FORM's CARD OF 'wherrylaw2.KeptLoadRefuses'. -/
def keptLoadRefusesUptoCard : Claim7 := { stood := { row := keptLoadRefusesUptoRow, standIns := [], harness := (true, "a08428712f4d40307499ea0c06a377b9364f3432bd833cd5df1cb24ff1eba36a"), looks := false }, kinds := [], alts := [], laidByText := true, laidKinds := [.data, .data, .pinned], laidTests := true, laidLooks := .later }
def KeptLoadRefusesUptoCardSaid : Prop := Claim7.holds Tryz.pinned (.plain (OpenSpec.upto keptLoadRefusesSpec)) keptLoadRefusesUptoCard
end Rows
end Go.Proofs.YtfcnmdmbkoekcaaGreatDoor
