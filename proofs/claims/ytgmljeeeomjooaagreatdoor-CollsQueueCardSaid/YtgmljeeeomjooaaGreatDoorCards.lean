/-
  DERIVED. GIVEN WITH THE SEED: THE CARDS: each row of YtgmljeeeomjooaaGreatDoorRows.lean that lists a variable, with what it lists TIED to the program's text (the seventh form; the later family's looks); each row that meets fmt, with fmt's text TOLD by the authors' own Lean function (tested against real Go, not proved from fmt's source: count such statements apart). THE CARD IS WHAT COUNTS. Prove the row's statement (the work); the ties are given (YtgmljeeeomjooaaGreatDoorTie.lean); close each card by the builder's one call (the guide's Derived/Test/ToyasCard.lean, 'card_holds'). Laid BY PROGRAM, IN A SANDBOX (cutbox-door.mjs). By AI agents, Wed Nov 11 2026. No macro, syntax, notation, axiom, sorry.
-/
import Derived.Test.YtgmljeeeomjooaaGreatDoorRows
import GoSem.ClaimSeven
namespace Go.Proofs.YtgmljeeeomjooaaGreatDoor
namespace Rows

/-- THE TIED CARD OF 'stillroomlaw21.CollsQueue'. -/
def collsQueueCard : Claim7 := { stood := { row := collsQueueRow, standIns := [], harness := (true, "664f9ec12bbffea2d67321c36d62d3383a192ee32fa6e6929db47d181895d235"), looks := true }, kinds := [], alts := [], laidByText := true, laidKinds := [.data, .data, .data, .sentinel, .sentinel], laidTests := true, laidLooks := .later }
def CollsQueueCardSaid : Prop := Claim7.holds Tryz.pinned (.plain (OpenSpec.ofChange collsQueueSpec)) collsQueueCard

/-- THE SECOND FORM's CARD OF 'stillroomlaw21.CollsQueue'. -/
def collsQueueUptoCard : Claim7 := { stood := { row := collsQueueUptoRow, standIns := [], harness := (true, "664f9ec12bbffea2d67321c36d62d3383a192ee32fa6e6929db47d181895d235"), looks := true }, kinds := [], alts := [], laidByText := true, laidKinds := [.data, .data, .data, .sentinel, .sentinel], laidTests := true, laidLooks := .later }
def CollsQueueUptoCardSaid : Prop := Claim7.holds Tryz.pinned (.plain (OpenSpec.upto collsQueueSpec)) collsQueueUptoCard
end Rows
end Go.Proofs.YtgmljeeeomjooaaGreatDoor
