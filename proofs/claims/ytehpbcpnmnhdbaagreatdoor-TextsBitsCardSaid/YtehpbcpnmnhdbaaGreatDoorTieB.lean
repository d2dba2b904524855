/-
  The tie: one of its facts.
-/
import Derived.Test.YtehpbcpnmnhdbaaGreatDoorTieA
namespace Go.Proofs.YtehpbcpnmnhdbaaGreatDoor
open Go Go.Ev
theorem tieN : varsNamedLaterB Tryz.prog 545 laidList = true := by kernel_rfl
end Go.Proofs.YtehpbcpnmnhdbaaGreatDoor
