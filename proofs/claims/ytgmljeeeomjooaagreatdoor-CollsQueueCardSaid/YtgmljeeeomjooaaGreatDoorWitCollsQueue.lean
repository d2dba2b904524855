/-
  CollsQueue: the start of the witness.
-/
import Derived.Test.YtgmljeeeomjooaaGreatDoorCards
import Derived.Test.YtgmljeeeomjooaaGreatDoorEvF
namespace Go.Proofs.YtgmljeeeomjooaaGreatDoor.collsQueue
open Go Go.Ev
theorem own : ownKnob Tryz.prog.godebug = none := by kernel_rfl
def wargs : Array Value := #[.slice none 0 0, .bool false]
theorem readsAt (os : Os) {H : Type} (enc : TypeId × Value → H) : ∃ places, DataW.whole enc Tryz.prog ((doorAt Tryz.prog 400 615 os).forCall (fun _ _ => 0) ⟨#[], wargs, []⟩).memory Tryz.f3.params.toList Rows.collsQueueSpec.vars false wargs.toList 8 = some ([.nil, .lit (.bool false)], [], places) :=
  ⟨[], by kernel_rfl⟩
theorem witV (os : Os) : ((List.range Tryz.prog.globals.size).all (varFast Tryz.prog ((doorAt Tryz.prog 400 615 os).forCall (fun _ _ => 0) ⟨#[], wargs, []⟩) (begin Tryz.prog (fun _ _ => 0) default).world)) = true := by kernel_rfl
theorem witR (os : Os) : (((doorAt Tryz.prog 400 615 os).forCall (fun _ _ => 0) ⟨#[], wargs, []⟩).heap.toList.drop Tryz.prog.globals.size).take ((begin Tryz.prog (fun _ _ => 0) default).world.heap.size - Tryz.prog.globals.size) =
    (begin Tryz.prog (fun _ _ => 0) default).world.heap.toList.drop Tryz.prog.globals.size := by kernel_rfl
theorem witOk (os : Os) : Input.okWideB Tryz.prog ((doorAt Tryz.prog 400 615 os).forCall (fun _ _ => 0) ⟨#[], wargs, []⟩) 3 ⟨#[], wargs, []⟩ = true := by kernel_rfl
theorem witSz (os : Os) {H : Type} (enc : TypeId × Value → H) : (OpenSpec.ofChange Rows.collsQueueSpec).bare.sizedB enc Tryz.prog Tryz.f3 false ((doorAt Tryz.prog 400 615 os).forCall (fun _ _ => 0) ⟨#[], wargs, []⟩).memory wargs 8 = true := by kernel_rfl
end Go.Proofs.YtgmljeeeomjooaaGreatDoor.collsQueue
