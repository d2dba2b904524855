/-
  asks and stands at a Space that was never made (z := &Space with its zero cells): all kinds but Put, by the evaluator, beginning with z's block.
-/
import Derived.Test.YtagpkkofjehcnaaGreatDoorTwT
import Derived.Test.YtagpkkofjehcnaaGreatDoorEvE
import Derived.Test.YtagpkkofjehcnaaGreatDoorEvD
set_option linter.all false
namespace Go.Proofs.YtagpkkofjehcnaaGreatDoor
open Go Go.RowKit Go.Ev

def zCells : Array Value := #[.slice none 0 0, .int .u64 0, .int .u64 0]
def zObj : AObj := AObj.rom (.cells zCells 27 (0, 0)) zCells.toList
def askCells (k : Nat) : Value := .agg #[.int .u8 ((k + 1 : Nat) : Int), .chan (some 5001), .chan (some 5002), .chan (some 5003), .chan (some 5004), .chan (some 5005), .chan (some 5006), .chan (some 5007), .chan (some 5008), .chan (some 5009), .chan (some 5010), .chan (some 5011), .chan (some 5012), .chan (some 5013), .chan (some 5014), .chan (some 5015), .chan (some 5016)]
def ptrZ : Value := .pointer (some ⟨4999, 0, none⟩)

def orcNeg (c : Nat) : List Orc := [⟨.geq, 3, .chan (some c), .int .i64 0, false⟩]
def orcPos (c : Nat) : List Orc := [⟨.geq, 3, .chan (some c), .int .i64 0, true⟩, ⟨.lss, 3, .chan (some c), .int .i64 0, false⟩]

def endsTrue (o : Option (List (Option AObj))) : Prop := o = some [some zObj]

theorem asksZ_neg (l : List Value) : ((List.range 255).map fun k => endOfF (Cx.sy Tryz.prog 5000 l (orcNeg 5001)) 3000 4 [ptrZ, .pointer none, askCells k] (Tr.nil.set 4999 zObj) 5020 (.bool true) [4999]) = List.replicate 255 (some [some zObj]) := by kernel_rfl
theorem asksZ_pos (l : List Value) : ((List.range 255).map fun k => endOfF (Cx.sy Tryz.prog 5000 l (orcPos 5001)) 3000 4 [ptrZ, .pointer none, askCells k] (Tr.nil.set 4999 zObj) 5020 (.bool true) [4999]) = List.replicate 255 (some [some zObj]) := by kernel_rfl
theorem standsZ_neg (l : List Value) : endOfF (Cx.sy Tryz.prog 5000 l (orcNeg 5000)) 3000 5 [ptrZ, .pointer none, .chan (some 5000)] (Tr.nil.set 4999 zObj) 5020 (.bool true) [4999] = some [some zObj] := by kernel_rfl
theorem standsZ_pos (l : List Value) : endOfF (Cx.sy Tryz.prog 5000 l (orcPos 5000)) 3000 5 [ptrZ, .pointer none, .chan (some 5000)] (Tr.nil.set 4999 zObj) 5020 (.bool true) [4999] = some [some zObj] := by kernel_rfl
theorem dbsZ (l : List Value) : endOfF (Cx.sy Tryz.prog 5000 l []) 3000 6 [ptrZ] (Tr.nil.set 4999 zObj) 5020 (.int .i64 0) [4999] = some [some zObj] := by kernel_rfl
theorem lives_run (l : List Value) : valF (Cx.sy Tryz.prog 5000 l []) 3000 7 [] 5020 = some (.bool true) := by kernel_rfl

end Go.Proofs.YtagpkkofjehcnaaGreatDoor
