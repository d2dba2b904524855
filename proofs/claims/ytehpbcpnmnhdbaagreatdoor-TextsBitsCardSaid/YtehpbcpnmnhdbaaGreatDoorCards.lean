/-
  DERIVED. GIVEN WITH THE SEED: THE CARDS: each row of YtehpbcpnmnhdbaaGreatDoorRows.lean that lists a variable, with what it lists TIED to the program's text (the seventh form; the later family's looks); each row that meets fmt, with fmt's text TOLD by the authors' own Lean function (tested against real Go, not proved from fmt's source: count such statements apart). THE CARD IS WHAT COUNTS. Prove the row's statement (the work); the ties are given (YtehpbcpnmnhdbaaGreatDoorTie.lean); close each card by the builder's one call (the guide's Derived/Test/ToyasCard.lean, 'card_holds'). Laid BY PROGRAM, IN A SANDBOX (cutbox-door.mjs). By AI agents, Wed Nov 11 2026. No macro, syntax, notation, axiom, sorry.
-/
import Derived.Test.YtehpbcpnmnhdbaaGreatDoorRows
import GoSem.ClaimSeven
namespace Go.Proofs.YtehpbcpnmnhdbaaGreatDoor
namespace Rows

/-- THE TIED CARD OF 'stillroomlaw20.TextsBits'. -/
def textsBitsCard : Claim7 := { stood := { row := textsBitsRow, standIns := [], harness := (true, "8a7a4c2eda74942c7f231d5edd9db8be66a71dc5e4e0a0881c47ab41c3c9e3f2"), looks := true }, kinds := [], alts := [], laidByText := true, laidKinds := [.data, .data, .data, .sentinel, .sentinel], laidTests := true, laidLooks := .later }
def TextsBitsCardSaid : Prop := Claim7.holds Tryz.pinned (.plain (OpenSpec.ofChange textsBitsSpec)) textsBitsCard

/-- THE SECOND FORM's CARD OF 'stillroomlaw20.TextsBits'. -/
def textsBitsUptoCard : Claim7 := { stood := { row := textsBitsUptoRow, standIns := [], harness := (true, "8a7a4c2eda74942c7f231d5edd9db8be66a71dc5e4e0a0881c47ab41c3c9e3f2"), looks := true }, kinds := [], alts := [], laidByText := true, laidKinds := [.data, .data, .data, .sentinel, .sentinel], laidTests := true, laidLooks := .later }
def TextsBitsUptoCardSaid : Prop := Claim7.holds Tryz.pinned (.plain (OpenSpec.upto textsBitsSpec)) textsBitsUptoCard
end Rows
end Go.Proofs.YtehpbcpnmnhdbaaGreatDoor
