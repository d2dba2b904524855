/-
  DERIVED. GIVEN WITH THE SEED: THE CARDS: each row of YtjjgdnelkkmdcaaGreatDoorRows.lean that lists a variable, with what it lists TIED to the program's text (the seventh form; the later family's looks); each row that meets fmt, with fmt's text TOLD by the authors' own Lean function (tested against real Go, not proved from fmt's source: count such statements apart). THE CARD IS WHAT COUNTS. Prove the row's statement (the work); the ties are given (YtjjgdnelkkmdcaaGreatDoorTie.lean); close each card by the builder's one call (the guide's Derived/Test/ToyasCard.lean, 'card_holds'). Laid BY PROGRAM, IN A SANDBOX (cutbox-door.mjs). By AI agents, Wed Nov 11 2026. No macro, syntax, notation, axiom, sorry.
-/
import Derived.Test.YtjjgdnelkkmdcaaGreatDoorRows
import GoSem.ClaimSeven
namespace Go.Proofs.YtjjgdnelkkmdcaaGreatDoor
namespace Rows

/-- THE TIED CARD OF 'stillroomlaw19.CommonNone'. -/
def commonNoneCard : Claim7 := { stood := { row := commonNoneRow, standIns := [], harness := (true, "574f314b80f1264c5ebbed416d250a943dff1c62cf892b0fc2f2a0b2b897dba2"), looks := true }, kinds := [], alts := [], laidByText := true, laidKinds := [.sentinel, .sentinel, .data, .data, .data], laidTests := true, laidLooks := .later }
def CommonNoneCardSaid : Prop := Claim7.holds Tryz.pinned (.plain (OpenSpec.ofChange commonNoneSpec)) commonNoneCard

/-- THE SECOND FORM's CARD OF 'stillroomlaw19.CommonNone'. -/
def commonNoneUptoCard : Claim7 := { stood := { row := commonNoneUptoRow, standIns := [], harness := (true, "574f314b80f1264c5ebbed416d250a943dff1c62cf892b0fc2f2a0b2b897dba2"), looks := true }, kinds := [], alts := [], laidByText := true, laidKinds := [.sentinel, .sentinel, .data, .data, .data], laidTests := true, laidLooks := .later }
def CommonNoneUptoCardSaid : Prop := Claim7.holds Tryz.pinned (.plain (OpenSpec.upto commonNoneSpec)) commonNoneUptoCard
end Rows
end Go.Proofs.YtjjgdnelkkmdcaaGreatDoor
