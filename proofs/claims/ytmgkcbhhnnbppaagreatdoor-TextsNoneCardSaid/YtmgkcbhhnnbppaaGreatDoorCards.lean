/-
  DERIVED. GIVEN WITH THE SEED: THE CARDS: each row of YtmgkcbhhnnbppaaGreatDoorRows.lean that lists a variable, with what it lists TIED to the program's text (the seventh form; the later family's looks); each row that meets fmt, with fmt's text TOLD by the authors' own Lean function (tested against real Go, not proved from fmt's source: count such statements apart). THE CARD IS WHAT COUNTS. Prove the row's statement (the work); the ties are given (YtmgkcbhhnnbppaaGreatDoorTie.lean); close each card by the builder's one call (the guide's Derived/Test/ToyasCard.lean, 'card_holds'). Laid BY PROGRAM, IN A SANDBOX (cutbox-door.mjs). By AI agents, Wed Nov 11 2026. No macro, syntax, notation, axiom, sorry.
-/
import Derived.Test.YtmgkcbhhnnbppaaGreatDoorRows
import GoSem.ClaimSeven
namespace Go.Proofs.YtmgkcbhhnnbppaaGreatDoor
namespace Rows

/-- THE TIED CARD OF 'stillroomlaw20.TextsNone'. -/
def textsNoneCard : Claim7 := { stood := { row := textsNoneRow, standIns := [], harness := (true, "995c0c5a281e96c0c1a0eee85b4773898195dc2f97793ded3ce4d965ad7e7848"), looks := true }, kinds := [], alts := [], laidByText := true, laidKinds := [.sentinel, .sentinel, .data, .data, .data], laidTests := true, laidLooks := .later }
def TextsNoneCardSaid : Prop := Claim7.holds Tryz.pinned (.plain (OpenSpec.ofChange textsNoneSpec)) textsNoneCard

/-- THE SECOND FORM's CARD OF 'stillroomlaw20.TextsNone'. -/
def textsNoneUptoCard : Claim7 := { stood := { row := textsNoneUptoRow, standIns := [], harness := (true, "995c0c5a281e96c0c1a0eee85b4773898195dc2f97793ded3ce4d965ad7e7848"), looks := true }, kinds := [], alts := [], laidByText := true, laidKinds := [.sentinel, .sentinel, .data, .data, .data], laidTests := true, laidLooks := .later }
def TextsNoneUptoCardSaid : Prop := Claim7.holds Tryz.pinned (.plain (OpenSpec.upto textsNoneSpec)) textsNoneUptoCard
end Rows
end Go.Proofs.YtmgkcbhhnnbppaaGreatDoor
