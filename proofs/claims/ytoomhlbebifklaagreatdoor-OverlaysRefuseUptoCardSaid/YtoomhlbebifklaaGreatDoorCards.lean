/-
  DERIVED. GIVEN WITH THE SEED: THE CARDS: each row of YtoomhlbebifklaaGreatDoorRows.lean that lists a variable, with what it lists TIED to the program's text (the seventh form; the later family's looks); each row that meets fmt, with fmt's text TOLD by the authors' own Lean function (tested against real Go, not proved from fmt's source: count such statements apart). THE CARD IS WHAT COUNTS. Prove the row's statement (the work); the ties are given (YtoomhlbebifklaaGreatDoorTie.lean); close each card by the builder's one call (the guide's Derived/Test/ToyasCard.lean, 'card_holds'). Laid BY PROGRAM, IN A SANDBOX (cutbox-door.mjs). By AI agents, Wed Nov 11 2026. No macro, syntax, notation, axiom, sorry.
-/
import Derived.Test.YtoomhlbebifklaaGreatDoorRows
import GoSem.ClaimSeven
namespace Go.Proofs.YtoomhlbebifklaaGreatDoor
namespace Rows

/-- THE TIED CARD OF 'wherrylaw2.OverlaysRefuse'. -/
def overlaysRefuseCard : Claim7 := { stood := { row := overlaysRefuseRow, standIns := [], harness := (true, "4d6f43083d4096883d0759d3ab8934244932e7d6b29099ea2add6020258ba730"), looks := true }, kinds := [], alts := [], laidByText := true, laidKinds := [.data, .data, .data, .data, .sentinel, .sentinel, .pinned], laidTests := true, laidLooks := .later }
def OverlaysRefuseCardSaid : Prop := Claim7.holds Tryz.pinned (.plain (OpenSpec.ofChange overlaysRefuseSpec)) overlaysRefuseCard

/-- THE SECOND FORM's CARD OF 'wherrylaw2.OverlaysRefuse'. -/
def overlaysRefuseUptoCard : Claim7 := { stood := { row := overlaysRefuseUptoRow, standIns := [], harness := (true, "4d6f43083d4096883d0759d3ab8934244932e7d6b29099ea2add6020258ba730"), looks := true }, kinds := [], alts := [], laidByText := true, laidKinds := [.data, .data, .data, .data, .sentinel, .sentinel, .pinned], laidTests := true, laidLooks := .later }
def OverlaysRefuseUptoCardSaid : Prop := Claim7.holds Tryz.pinned (.plain (OpenSpec.upto overlaysRefuseSpec)) overlaysRefuseUptoCard
end Rows
end Go.Proofs.YtoomhlbebifklaaGreatDoor
