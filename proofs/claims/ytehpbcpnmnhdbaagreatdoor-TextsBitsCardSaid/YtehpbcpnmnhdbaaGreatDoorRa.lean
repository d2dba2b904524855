/-
  What is known of the operations and calls of TextsBits' run.
-/
import Derived.Test.YtehpbcpnmnhdbaaGreatDoorProg
import Derived.Test.YtehpbcpnmnhdbaaGreatDoorEvE
import Derived.KernelRfl
set_option linter.all false
namespace Go.Proofs.YtehpbcpnmnhdbaaGreatDoor
open Go Go.Ev
def sy (i : Nat) : Value := .chan (some (5000 + i))
/-- The powers of ten that strconv's table holds. -/
def pow : List Value := [.int .u64 1, .int .u64 10, .int .u64 100, .int .u64 1000, .int .u64 10000, .int .u64 100000, .int .u64 1000000, .int .u64 10000000, .int .u64 100000000, .int .u64 1000000000, .int .u64 10000000000, .int .u64 100000000000, .int .u64 1000000000000, .int .u64 10000000000000, .int .u64 100000000000000, .int .u64 1000000000000000, .int .u64 10000000000000000, .int .u64 100000000000000000, .int .u64 1000000000000000000, .int .u64 10000000000000000000]
def rom0 : Option (Nat × List Value) := some (0, pow)
/-- "0", "1". -/
def word (one : Bool) : ByteArray := bif one then ⟨#[49]⟩ else ⟨#[48]⟩
def bitV (one : Bool) : Value := .int .i64 (bif one then 1 else 0)
-- 0 V, 1 at, 3 other (uint16), 4 at, 5 other (int64), 6 7 their texts, 8 len V, 9 10 lengths of the texts, 11 Z (V with the bit set), 12 its length, 14 other's bit of V, 15 at's bit of V
def orfs (one same : Bool) : List OrF := [⟨14, [sy 4, .int .i64 10], rom0, sy 6⟩, ⟨14, [sy 5, .int .i64 10], rom0, sy 7⟩,
  ⟨88, [sy 6, .int .i64 10, .int .i64 64], none, .tuple #[sy 4, .nilIface]⟩, ⟨88, [sy 7, .int .i64 10, .int .i64 64], none, .tuple #[sy 5, .nilIface]⟩,
  ⟨99, [sy 0, sy 5], none, sy 14⟩, ⟨99, [sy 0, sy 4], none, sy 15⟩, ⟨99, [sy 11, sy 4], none, bitV one⟩, ⟨99, [sy 11, sy 5], none, bif same then bitV one else sy 14⟩]
def orvs : List OrV := [⟨.len 9, [sy 0], sy 8⟩, ⟨.len 9, [sy 6], sy 9⟩, ⟨.len 9, [sy 7], sy 10⟩, ⟨.len 9, [sy 11], sy 12⟩, ⟨.conv 22 2, [sy 1], sy 4⟩, ⟨.conv 22 2, [sy 3], sy 5⟩, ⟨.conv 2 3, [sy 4], sy 4⟩, ⟨.conv 2 3, [sy 5], sy 5⟩, ⟨.conv 3 2, [sy 14], sy 14⟩, ⟨.conv 3 2, [sy 15], sy 15⟩,
  ⟨.conv 9 136, [sy 0], sy 0⟩, ⟨.conv 136 9, [sy 0], sy 0⟩, ⟨.conv 9 136, [sy 11], sy 11⟩, ⟨.conv 136 9, [sy 11], sy 11⟩]
def orcs (same : Bool) : List Orc := [⟨.eql, 9, sy 0, .string ⟨#[]⟩, false⟩, ⟨.gtr, 3, sy 8, .int .i64 2000, false⟩, ⟨.leq, 3, sy 8, .int .i64 65536, true⟩, ⟨.gtr, 3, sy 9, .int .i64 65536, false⟩, ⟨.gtr, 3, sy 10, .int .i64 65536, false⟩, ⟨.leq, 3, sy 12, .int .i64 65536, true⟩,
  ⟨.neq, 9, sy 6, sy 6, false⟩, ⟨.neq, 9, sy 7, sy 7, false⟩, ⟨.geq, 2, sy 4, .int .i64 0, true⟩, ⟨.lss, 2, sy 4, .int .i64 524288, true⟩, ⟨.geq, 2, sy 5, .int .i64 0, true⟩, ⟨.lss, 2, sy 5, .int .i64 524288, true⟩,
  ⟨.eql, 2, sy 15, sy 15, true⟩, ⟨.eql, 2, sy 14, sy 14, true⟩, ⟨.eql, 22, sy 1, sy 3, same⟩]

/-- setbit: the string with the bit set is stored, the effect is told. -/
noncomputable def setbitRun (one : Bool) : Callf → List Value → Heap → Nat → Option (Value × Heap × Nat) := fun call args H c =>
  match args with
  | [.agg ⟨[.pointer (some ⟨k, 0, none⟩), v, .bool true]⟩] =>
    match H.get 0, H.get k with
    | some (.rom _ cs0), some (.cells [_, _, _, _, .slice (some ⟨cb, 0, none⟩) 4 4, _] _ none _) =>
      match H.get cb with
      | some (.cells [_, _, p, wd] _ none _) =>
        bif vEq 2 v (sy 0) && (vEqs (vEq 2) cs0 pow && (vEq 2 p (sy 6) && vEq 2 wd (.string (word one)))) then
          match call (.fn 93 [.agg ⟨[.pointer (some ⟨k, 0, none⟩), sy 0, .bool true]⟩, sy 11]) H c with
          | some (.tuple ⟨[]⟩, H', c') =>
            match call (.fn 94 [.pointer (some ⟨k, 0, none⟩), .agg ⟨[.int .u8 3, .string ⟨#[]⟩, sy 15, .slice none 0 0]⟩]) H' c' with
            | some (.agg ⟨[.int k1 n1, .string s2, x3, .slice p4 l4 c4, .slice p5 l5 c5, .slice p6 l6 c6]⟩, H'', c'') =>
              bif vEq 2 x3 (sy 15) then some (.agg ⟨[.int k1 n1, .string s2, x3, .slice p4 l4 c4, .slice p5 l5 c5, .slice p6 l6 c6]⟩, H'', c'') else none
            | _ => none
          | _ => none
        else none
      | _ => none
    | _, _ => none
  | _ => none
noncomputable def orgs (one : Bool) : List OrG := [⟨52, setbitRun one⟩]
noncomputable abbrev XX (one same : Bool) (l : List Value) : Cx := Cx.sx Tryz.prog 5000 l (orcs same) orvs (orfs one same) (orgs one)
noncomputable def H0 (o : Obj) : Heap := romH [(0, o, pow)]
-- the text is empty, or long
noncomputable abbrev XE (l : List Value) : Cx := Cx.sx Tryz.prog 5000 l [⟨.eql, 9, sy 0, .string ⟨#[]⟩, true⟩] [] []
noncomputable abbrev XL (l : List Value) : Cx := Cx.sx Tryz.prog 5000 l [⟨.eql, 9, sy 0, .string ⟨#[]⟩, false⟩, ⟨.gtr, 3, sy 8, .int .i64 2000, true⟩] [⟨.len 9, [sy 0], sy 8⟩] []
end Go.Proofs.YtehpbcpnmnhdbaaGreatDoor
