/-
  DERIVED. GIVEN WITH THE SEED: THE CARDS: each row of YtpjnjhklkgefcaaGreatDoorRows.lean that lists a variable, with what it lists TIED to the program's text (the seventh form; the later family's looks); each row that meets fmt, with fmt's text TOLD by the authors' own Lean function (tested against real Go, not proved from fmt's source: count such statements apart). THE CARD IS WHAT COUNTS. Prove the row's statement (the work); the ties are given (YtpjnjhklkgefcaaGreatDoorTie.lean); close each card by the builder's one call (the guide's Derived/Test/ToyasCard.lean, 'card_holds'). Laid BY PROGRAM, IN A SANDBOX (cutbox-door.mjs). By AI agents, Wed Nov 11 2026. No macro, syntax, notation, axiom, sorry.
-/
import Derived.Test.YtpjnjhklkgefcaaGreatDoorRows
import GoSem.ClaimSeven
namespace Go.Proofs.YtpjnjhklkgefcaaGreatDoor
namespace Rows

/-- THE TIED CARD OF 'wherrylaw2.CombineShows'. -/
def combineShowsCard : Claim7 := { stood := { row := combineShowsRow, standIns := [], harness := (true, "d00b491e0adf92a25a7086b260603a7978f2c0bad4ce301cf6c4432c28e03a57"), looks := false }, kinds := [], alts := [], laidByText := true, laidKinds := [.data, .data, .data, .pinned, .pinned], laidTests := true, laidLooks := .later }
def CombineShowsCardSaid : Prop := Claim7.holds Tryz.pinned (.plain (OpenSpec.ofChange combineShowsSpec)) combineShowsCard

/-- THE TIED CARD OF 'wherrylaw2.UnionShows'. -/
def unionShowsCard : Claim7 := { stood := { row := unionShowsRow, standIns := [], harness := (true, "d00b491e0adf92a25a7086b260603a7978f2c0bad4ce301cf6c4432c28e03a57"), looks := false }, kinds := [], alts := [], laidByText := true, laidKinds := [.data, .data, .data, .data, .pinned], laidTests := true, laidLooks := .later }
def UnionShowsCardSaid : Prop := Claim7.holds Tryz.pinned (.plain (OpenSpec.ofChange unionShowsSpec)) unionShowsCard

/-- THE SECOND FORM's CARD OF 'wherrylaw2.CombineShows'. -/
def combineShowsUptoCard : Claim7 := { stood := { row := combineShowsUptoRow, standIns := [], harness := (true, "d00b491e0adf92a25a7086b260603a7978f2c0bad4ce301cf6c4432c28e03a57"), looks := false }, kinds := [], alts := [], laidByText := true, laidKinds := [.data, .data, .data, .pinned, .pinned], laidTests := true, laidLooks := .later }
def CombineShowsUptoCardSaid : Prop := Claim7.holds Tryz.pinned (.plain (OpenSpec.upto combineShowsSpec)) combineShowsUptoCard

/-- THE SECOND FORM's CARD OF 'wherrylaw2.UnionShows'. -/
def unionShowsUptoCard : Claim7 := { stood := { row := unionShowsUptoRow, standIns := [], harness := (true, "d00b491e0adf92a25a7086b260603a7978f2c0bad4ce301cf6c4432c28e03a57"), looks := false }, kinds := [], alts := [], laidByText := true, laidKinds := [.data, .data, .data, .data, .pinned], laidTests := true, laidLooks := .later }
def UnionShowsUptoCardSaid : Prop := Claim7.holds Tryz.pinned (.plain (OpenSpec.upto unionShowsSpec)) unionShowsUptoCard
end Rows
end Go.Proofs.YtpjnjhklkgefcaaGreatDoor
