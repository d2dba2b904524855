/-
  DERIVED. GIVEN WITH THE SEED: THE CARDS: each row of YtfochmdckacemaaGreatDoorRows.lean that lists a variable, with what it lists TIED to the program's text (the seventh form; the later family's looks); each row that meets fmt, with fmt's text TOLD by the authors' own Lean function (tested against real Go, not proved from fmt's source: count such statements apart). THE CARD IS WHAT COUNTS. Prove the row's statement (the work); the ties are given (YtfochmdckacemaaGreatDoorTie.lean); close each card by the builder's one call (the guide's Derived/Test/ToyasCard.lean, 'card_holds'). Laid BY PROGRAM, IN A SANDBOX (cutbox-door.mjs). By AI agents, Wed Nov 11 2026. No macro, syntax, notation, axiom, sorry.
-/
import Derived.Test.YtfochmdckacemaaGreatDoorRows
import GoSem.ClaimSeven
namespace Go.Proofs.YtfochmdckacemaaGreatDoor
namespace Rows

/-- THE TIED CARD OF 'stillroomlaw21.CollsNone'. -/
def collsNoneCard : Claim7 := { stood := { row := collsNoneRow, standIns := [], harness := (true, "bf5bd654ed8a9845b8e737fce866aa9816a2d2b7c55ad04a09d0cb4fc4c93f67"), looks := true }, kinds := [], alts := [], laidByText := true, laidKinds := [.data, .data, .data, .sentinel, .sentinel], laidTests := true, laidLooks := .later }
def CollsNoneCardSaid : Prop := Claim7.holds Tryz.pinned (.plain (OpenSpec.ofChange collsNoneSpec)) collsNoneCard

/-- THE SECOND FORM's CARD OF 'stillroomlaw21.CollsNone'. -/
def collsNoneUptoCard : Claim7 := { stood := { row := collsNoneUptoRow, standIns := [], harness := (true, "bf5bd654ed8a9845b8e737fce866aa9816a2d2b7c55ad04a09d0cb4fc4c93f67"), looks := true }, kinds := [], alts := [], laidByText := true, laidKinds := [.data, .data, .data, .sentinel, .sentinel], laidTests := true, laidLooks := .later }
def CollsNoneUptoCardSaid : Prop := Claim7.holds Tryz.pinned (.plain (OpenSpec.upto collsNoneSpec)) collsNoneUptoCard
end Rows
end Go.Proofs.YtfochmdckacemaaGreatDoor
