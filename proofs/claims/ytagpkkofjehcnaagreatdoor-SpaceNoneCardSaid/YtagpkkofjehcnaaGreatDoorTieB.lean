/-
  The tie: one of its facts.
-/
import Derived.Test.YtagpkkofjehcnaaGreatDoorTieA
namespace Go.Proofs.YtagpkkofjehcnaaGreatDoor
open Go Go.Ev
theorem tieN : varsNamedLaterB Tryz.prog 579 laidList = true := by kernel_rfl
end Go.Proofs.YtagpkkofjehcnaaGreatDoor
