/-
  DERIVED. GIVEN WITH THE SEED: THE CARDS: each row of YtdckhbgmlojfkaaGreatDoorRows.lean that lists a variable, with what it lists TIED to the program's text (the seventh form; the later family's looks); each row that meets fmt, with fmt's text TOLD by the authors' own Lean function (tested against real Go, not proved from fmt's source: count such statements apart). THE CARD IS WHAT COUNTS. Prove the row's statement (the work); the ties are given (YtdckhbgmlojfkaaGreatDoorTie.lean); close each card by the builder's one call (the guide's Derived/Test/ToyasCard.lean, 'card_holds'). Laid BY PROGRAM, IN A SANDBOX (cutbox-door.mjs). By AI agents, Wed Nov 11 2026. No macro, syntax, notation, axiom, sorry.
-/
import Derived.Test.YtdckhbgmlojfkaaGreatDoorRows
import GoSem.ClaimSeven
namespace Go.Proofs.YtdckhbgmlojfkaaGreatDoor
namespace Rows

/-- THE TIED CARD OF 'stillroomlaw23.TransNone'. -/
def transNoneCard : Claim7 := { stood := { row := transNoneRow, standIns := [], harness := (true, "ebf0fa159cb4882726497be032d6b06385bbe436292e5b1201b176ed5b7ff707"), looks := true }, kinds := [], alts := [], laidByText := true, laidKinds := [.data, .data, .data, .sentinel, .sentinel, .pinned, .data, .data, .pinned, .data, .pinned], laidTests := true, laidLooks := .later }
def TransNoneCardSaid : Prop := Claim7.holds Tryz.pinned (.plain (OpenSpec.ofChange transNoneSpec)) transNoneCard

/-- THE SECOND FORM's CARD OF 'stillroomlaw23.TransNone'. -/
def transNoneUptoCard : Claim7 := { stood := { row := transNoneUptoRow, standIns := [], harness := (true, "ebf0fa159cb4882726497be032d6b06385bbe436292e5b1201b176ed5b7ff707"), looks := true }, kinds := [], alts := [], laidByText := true, laidKinds := [.data, .data, .data, .sentinel, .sentinel, .pinned, .data, .data, .pinned, .data, .pinned], laidTests := true, laidLooks := .later }
def TransNoneUptoCardSaid : Prop := Claim7.holds Tryz.pinned (.plain (OpenSpec.upto transNoneSpec)) transNoneUptoCard
end Rows
end Go.Proofs.YtdckhbgmlojfkaaGreatDoor
