/-
  DERIVED. GIVEN WITH THE SEED: THE CARDS: each row of YtobiacdeoeogaaaGreatDoorRows.lean that lists a variable, with what it lists TIED to the program's text (the seventh form; the later family's looks); each row that meets fmt, with fmt's text TOLD by the authors' own Lean function (tested against real Go, not proved from fmt's source: count such statements apart). THE CARD IS WHAT COUNTS. Prove the row's statement (the work); the ties are given (YtobiacdeoeogaaaGreatDoorTie.lean); close each card by the builder's one call (the guide's Derived/Test/ToyasCard.lean, 'card_holds'). Laid BY PROGRAM, IN A SANDBOX (cutbox-door.mjs). By AI agents, Wed Nov 11 2026. No macro, syntax, notation, axiom, sorry.
-/
import Derived.Test.YtobiacdeoeogaaaGreatDoorRows
import GoSem.ClaimSeven
namespace Go.Proofs.YtobiacdeoeogaaaGreatDoor
namespace Rows

/-- THE TIED CARD OF 'wherrylaw2.SqueezeTextMatches'. -/
def squeezeTextMatchesCard : Claim7 := { stood := { row := squeezeTextMatchesRow, standIns := [], harness := (true, "878ff7b1fef7f258d6b52cf3a1108e21f706b15ca3760ddb9c7985d3498ff6be"), looks := true }, kinds := [], alts := [], laidByText := true, laidKinds := [.data, .pinned], laidTests := true, laidLooks := .later }
def SqueezeTextMatchesCardSaid : Prop := Claim7.holds Tryz.pinned (.plain (OpenSpec.ofChange squeezeTextMatchesSpec)) squeezeTextMatchesCard

/-- THE TIED CARD OF 'wherrylaw2.ExpandTextMatches'. -/
def expandTextMatchesCard : Claim7 := { stood := { row := expandTextMatchesRow, standIns := [], harness := (true, "878ff7b1fef7f258d6b52cf3a1108e21f706b15ca3760ddb9c7985d3498ff6be"), looks := true }, kinds := [], alts := [], laidByText := true, laidKinds := [.data, .pinned], laidTests := true, laidLooks := .later }
def ExpandTextMatchesCardSaid : Prop := Claim7.holds Tryz.pinned (.plain (OpenSpec.ofChange expandTextMatchesSpec)) expandTextMatchesCard

/-- THE TIED CARD OF 'wherrylaw2.ChunkNamesMatch'. -/
def chunkNamesMatchCard : Claim7 := { stood := { row := chunkNamesMatchRow, standIns := [], harness := (true, "878ff7b1fef7f258d6b52cf3a1108e21f706b15ca3760ddb9c7985d3498ff6be"), looks := true }, kinds := [], alts := [], laidByText := true, laidKinds := [.data, .data, .data, .data, .sentinel, .sentinel, .pinned], laidTests := true, laidLooks := .later }
def ChunkNamesMatchCardSaid : Prop := Claim7.holds Tryz.pinned (.plain (OpenSpec.ofChange chunkNamesMatchSpec)) chunkNamesMatchCard

/-- THE SECOND FORM's CARD OF 'wherrylaw2.SqueezeTextMatches'. -/
def squeezeTextMatchesUptoCard : Claim7 := { stood := { row := squeezeTextMatchesUptoRow, standIns := [], harness := (true, "878ff7b1fef7f258d6b52cf3a1108e21f706b15ca3760ddb9c7985d3498ff6be"), looks := true }, kinds := [], alts := [], laidByText := true, laidKinds := [.data, .pinned], laidTests := true, laidLooks := .later }
def SqueezeTextMatchesUptoCardSaid : Prop := Claim7.holds Tryz.pinned (.plain (OpenSpec.upto squeezeTextMatchesSpec)) squeezeTextMatchesUptoCard

/-- THE SECOND FORM's CARD OF 'wherrylaw2.ExpandTextMatches'. -/
def expandTextMatchesUptoCard : Claim7 := { stood := { row := expandTextMatchesUptoRow, standIns := [], harness := (true, "878ff7b1fef7f258d6b52cf3a1108e21f706b15ca3760ddb9c7985d3498ff6be"), looks := true }, kinds := [], alts := [], laidByText := true, laidKinds := [.data, .pinned], laidTests := true, laidLooks := .later }
def ExpandTextMatchesUptoCardSaid : Prop := Claim7.holds Tryz.pinned (.plain (OpenSpec.upto expandTextMatchesSpec)) expandTextMatchesUptoCard

/-- THE SECOND FORM's CARD OF 'wherrylaw2.ChunkNamesMatch'. -/
def chunkNamesMatchUptoCard : Claim7 := { stood := { row := chunkNamesMatchUptoRow, standIns := [], harness := (true, "878ff7b1fef7f258d6b52cf3a1108e21f706b15ca3760ddb9c7985d3498ff6be"), looks := true }, kinds := [], alts := [], laidByText := true, laidKinds := [.data, .data, .data, .data, .sentinel, .sentinel, .pinned], laidTests := true, laidLooks := .later }
def ChunkNamesMatchUptoCardSaid : Prop := Claim7.holds Tryz.pinned (.plain (OpenSpec.upto chunkNamesMatchSpec)) chunkNamesMatchUptoCard
end Rows
end Go.Proofs.YtobiacdeoeogaaaGreatDoor
