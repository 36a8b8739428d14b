/-
  DERIVED. GIVEN WITH THE SEED: THE CARDS: each row of YtfoihafhpmbaeaaGreatDoorRows.lean that lists a variable, with what it lists TIED to the program's text (the seventh form; the later family's looks); each row that meets fmt, with fmt's text TOLD by the authors' own Lean function (tested against real Go, not proved from fmt's source: count such statements apart). THE CARD IS WHAT COUNTS. Prove the row's statement (the work); the ties are given (YtfoihafhpmbaeaaGreatDoorTie.lean); close each card by the builder's one call (the guide's Derived/Test/ToyasCard.lean, 'card_holds'). Laid BY PROGRAM, IN A SANDBOX (cutbox-door.mjs). By AI agents, Wed Nov 11 2026. No macro, syntax, notation, axiom, sorry.
-/
import Derived.Test.YtfoihafhpmbaeaaGreatDoorRows
import GoSem.ClaimSeven
namespace Go.Proofs.YtfoihafhpmbaeaaGreatDoor
namespace Rows

/-- THE TIED CARD OF 'concourselaw36.SpaceNone'. -/
def spaceNoneCard : Claim7 := { stood := { row := spaceNoneRow, standIns := [], harness := (true, "04392e4ce6d8bfee2573b2f22ffe8a73e230435134ed435ca8f71d9321964af4"), looks := true }, kinds := [], alts := [], laidByText := true, laidKinds := [.data, .data, .data, .data, .pinned], laidTests := true, laidLooks := .later }
def SpaceNoneCardSaid : Prop := Claim7.holds Tryz.pinned (.plain (OpenSpec.ofChange spaceNoneSpec)) spaceNoneCard

/-- THE SECOND FORM's CARD OF 'concourselaw36.SpaceNone'. -/
def spaceNoneUptoCard : Claim7 := { stood := { row := spaceNoneUptoRow, standIns := [], harness := (true, "04392e4ce6d8bfee2573b2f22ffe8a73e230435134ed435ca8f71d9321964af4"), looks := true }, kinds := [], alts := [], laidByText := true, laidKinds := [.data, .data, .data, .data, .pinned], laidTests := true, laidLooks := .later }
def SpaceNoneUptoCardSaid : Prop := Claim7.holds Tryz.pinned (.plain (OpenSpec.upto spaceNoneSpec)) spaceNoneUptoCard
end Rows
end Go.Proofs.YtfoihafhpmbaeaaGreatDoor
