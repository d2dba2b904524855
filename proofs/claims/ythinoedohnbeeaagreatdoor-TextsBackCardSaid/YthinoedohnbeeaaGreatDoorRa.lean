/-
  What is known of the operations and calls of TextsBack's run, on each of its three ways.
-/
import Derived.Test.YthinoedohnbeeaaGreatDoorProg
import Derived.Test.YthinoedohnbeeaaGreatDoorEvE
import Derived.KernelRfl
import Derived.Lib.ItoaNum
set_option linter.all false
namespace Go.Proofs.YthinoedohnbeeaaGreatDoor
open Go Go.Ev
def sy (i : Nat) : Value := .chan (some (5000 + i))
/-- The powers of ten that strconv's table holds. -/
def pow : List Value := [.int .u64 1, .int .u64 10, .int .u64 100, .int .u64 1000, .int .u64 10000, .int .u64 100000, .int .u64 1000000, .int .u64 10000000, .int .u64 100000000, .int .u64 1000000000, .int .u64 10000000000, .int .u64 100000000000, .int .u64 1000000000000, .int .u64 10000000000000, .int .u64 100000000000000, .int .u64 1000000000000000, .int .u64 10000000000000000, .int .u64 100000000000000000, .int .u64 1000000000000000000, .int .u64 10000000000000000000]
def rom0 : Option (Nat × List Value) := some (0, pow)
-- m 0, n 1, tm 2, tn 3, s 4, ts 5, nn 6, tnn 7, Lm 8, Ln 9, Ls 10, Lnn 11
def orfs : List OrF := [⟨13, [sy 0, .int .i64 10], rom0, sy 2⟩, ⟨13, [sy 1, .int .i64 10], rom0, sy 3⟩, ⟨13, [sy 4, .int .i64 10], rom0, sy 5⟩, ⟨13, [sy 6, .int .i64 10], rom0, sy 7⟩,
  ⟨85, [sy 2, .int .i64 10, .int .i64 64], none, .tuple #[sy 0, .nilIface]⟩, ⟨85, [sy 3, .int .i64 10, .int .i64 64], none, .tuple #[sy 1, .nilIface]⟩, ⟨85, [sy 5, .int .i64 10, .int .i64 64], none, .tuple #[sy 4, .nilIface]⟩, ⟨85, [sy 7, .int .i64 10, .int .i64 64], none, .tuple #[sy 6, .nilIface]⟩,
  ⟨8, [sy 0, sy 1], none, .tuple #[sy 4, .bool true]⟩, ⟨8, [sy 4, sy 6], none, .tuple #[sy 0, .bool true]⟩]
def orvs : List OrV := [⟨.len 9, [sy 2], sy 8⟩, ⟨.len 9, [sy 3], sy 9⟩, ⟨.len 9, [sy 5], sy 10⟩, ⟨.len 9, [sy 7], sy 11⟩, ⟨.un .neg 2, [sy 1], sy 6⟩,
  ⟨.conv 9 130, [sy 2], sy 2⟩, ⟨.conv 130 9, [sy 2], sy 2⟩, ⟨.conv 9 130, [sy 5], sy 5⟩, ⟨.conv 130 9, [sy 5], sy 5⟩, ⟨.conv 2 2, [sy 4], sy 4⟩, ⟨.conv 2 2, [sy 0], sy 0⟩]
def orcs : List Orc := [⟨.eql, 2, sy 1, .int .i64 (-9223372036854775808), false⟩, ⟨.leq, 3, sy 8, .int .i64 65536, true⟩, ⟨.gtr, 3, sy 9, .int .i64 65536, false⟩, ⟨.leq, 3, sy 10, .int .i64 65536, true⟩, ⟨.gtr, 3, sy 11, .int .i64 65536, false⟩,
  ⟨.neq, 9, sy 2, sy 2, false⟩, ⟨.neq, 9, sy 3, sy 3, false⟩, ⟨.neq, 9, sy 5, sy 5, false⟩, ⟨.neq, 9, sy 7, sy 7, false⟩, ⟨.eql, 2, sy 4, sy 4, true⟩, ⟨.eql, 2, sy 0, sy 0, true⟩]
-- n is the least number: nothing is added
def orfsM : List OrF := [⟨13, [sy 0, .int .i64 10], rom0, sy 2⟩]
def orvsM : List OrV := [⟨.len 9, [sy 2], sy 8⟩, ⟨.conv 9 130, [sy 2], sy 2⟩, ⟨.conv 130 9, [sy 2], sy 2⟩]
def orcsM : List Orc := [⟨.eql, 2, sy 1, .int .i64 (-9223372036854775808), true⟩, ⟨.leq, 3, sy 8, .int .i64 65536, true⟩]
-- the sum is beyond 64 bits
def orfsO : List OrF := [⟨13, [sy 0, .int .i64 10], rom0, sy 2⟩, ⟨13, [sy 1, .int .i64 10], rom0, sy 3⟩,
  ⟨85, [sy 2, .int .i64 10, .int .i64 64], none, .tuple #[sy 0, .nilIface]⟩, ⟨85, [sy 3, .int .i64 10, .int .i64 64], none, .tuple #[sy 1, .nilIface]⟩,
  ⟨8, [sy 0, sy 1], none, .tuple #[.int .i64 0, .bool false]⟩]
def orvsO : List OrV := [⟨.len 9, [sy 2], sy 8⟩, ⟨.len 9, [sy 3], sy 9⟩, ⟨.conv 9 130, [sy 2], sy 2⟩, ⟨.conv 130 9, [sy 2], sy 2⟩]
def orcsO : List Orc := [⟨.eql, 2, sy 1, .int .i64 (-9223372036854775808), false⟩, ⟨.leq, 3, sy 8, .int .i64 65536, true⟩, ⟨.gtr, 3, sy 9, .int .i64 65536, false⟩,
  ⟨.neq, 9, sy 2, sy 2, false⟩, ⟨.neq, 9, sy 3, sy 3, false⟩]
noncomputable abbrev XM (l : List Value) : Cx := Cx.sx Tryz.prog 5000 l orcsM orvsM orfsM
noncomputable abbrev XO (l : List Value) : Cx := Cx.sx Tryz.prog 5000 l orcsO orvsO orfsO
noncomputable abbrev XX (l : List Value) : Cx := Cx.sx Tryz.prog 5000 l orcs orvs orfs
noncomputable def H0 (o : Obj) : Heap := romH [(0, o, pow)]
end Go.Proofs.YthinoedohnbeeaaGreatDoor
