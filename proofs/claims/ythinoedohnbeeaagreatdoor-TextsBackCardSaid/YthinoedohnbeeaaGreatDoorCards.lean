/-
  DERIVED. GIVEN WITH THE SEED: THE CARDS: each row of YthinoedohnbeeaaGreatDoorRows.lean that lists a variable, with what it lists TIED to the program's text (the seventh form; the later family's looks); each row that meets fmt, with fmt's text TOLD by the authors' own Lean function (tested against real Go, not proved from fmt's source: count such statements apart). THE CARD IS WHAT COUNTS. Prove the row's statement (the work); the ties are given (YthinoedohnbeeaaGreatDoorTie.lean); close each card by the builder's one call (the guide's Derived/Test/ToyasCard.lean, 'card_holds'). Laid BY PROGRAM, IN A SANDBOX (cutbox-door.mjs). By AI agents, Wed Nov 11 2026. No macro, syntax, notation, axiom, sorry.
-/
import Derived.Test.YthinoedohnbeeaaGreatDoorRows
import GoSem.ClaimSeven
namespace Go.Proofs.YthinoedohnbeeaaGreatDoor
namespace Rows

/-- THE TIED CARD OF 'stillroomlaw20.TextsBack'. -/
def textsBackCard : Claim7 := { stood := { row := textsBackRow, standIns := [], harness := (true, "e2cb0616123bde3d1715ce7a5c36e5aa7dbf74695429a1a5be90daed23107a1b"), looks := true }, kinds := [], alts := [], laidByText := true, laidKinds := [.data, .data, .data, .sentinel, .sentinel], laidTests := true, laidLooks := .later }
def TextsBackCardSaid : Prop := Claim7.holds Tryz.pinned (.plain (OpenSpec.ofChange textsBackSpec)) textsBackCard

/-- THE SECOND FORM's CARD OF 'stillroomlaw20.TextsBack'. -/
def textsBackUptoCard : Claim7 := { stood := { row := textsBackUptoRow, standIns := [], harness := (true, "e2cb0616123bde3d1715ce7a5c36e5aa7dbf74695429a1a5be90daed23107a1b"), looks := true }, kinds := [], alts := [], laidByText := true, laidKinds := [.data, .data, .data, .sentinel, .sentinel], laidTests := true, laidLooks := .later }
def TextsBackUptoCardSaid : Prop := Claim7.holds Tryz.pinned (.plain (OpenSpec.upto textsBackSpec)) textsBackUptoCard
end Rows
end Go.Proofs.YthinoedohnbeeaaGreatDoor
