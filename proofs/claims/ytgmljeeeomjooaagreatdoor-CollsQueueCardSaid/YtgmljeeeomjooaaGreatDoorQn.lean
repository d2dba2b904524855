/-
  Closed calls that a queue's commands make: the hash of "l", the rows of rpush, rpop and lpop, copies of their names; answers by the evaluator.
-/
import Derived.Test.YtgmljeeeomjooaaGreatDoorQk
import Derived.Test.YtgmljeeeomjooaaGreatDoorEvE
import Derived.WalkSpells
import Derived.MapKept
import Derived.WideMake
import Derived.LoopN
import Derived.Maps.Own
import Derived.Maps.OwnSet
set_option linter.all false
/-
  Closed calls that a queue's commands make: the hash of "l", the rows of rpush, rpop and lpop, copies of their names; answers by the evaluator.
-/
namespace Go.Proofs.YtgmljeeeomjooaaGreatDoor
open Go Go.RowKit Go.Q

instance noGho : Ev.Gho := ⟨fun _ _ _ => True⟩

theorem mixedQ : Tryz.prog.follows .mixedOrders = true := by kernel_rfl
theorem fewQ : Tryz.prog.globals.size ≤ 5000 := of_decide_eq_true (by kernel_rfl)

/-- The one key. -/
def keyL : ByteArray := ⟨#[108]⟩
def rpushT : ByteArray := ⟨#[114, 112, 117, 115, 104]⟩
def rpopT : ByteArray := ⟨#[114, 112, 111, 112]⟩
def lpopT : ByteArray := ⟨#[108, 112, 111, 112]⟩
/-- A pop's name. -/
def popT (front : Bool) : ByteArray := if front then lpopT else rpopT
/-- A pop's row. -/
def popSpec (front : Bool) : Value := .agg #[.string (popT front), .int .i64 2, .int .i64 2, .bool true, .bool false, .int .i64 1, .int .i64 1, .bool true, .int .i64 21]

theorem sip_run : Ev.valF (Ev.Cx.sy Tryz.prog 5000 [] []) 3000 193 [.int .u64 5, .int .u64 0, .string ⟨#[108]⟩] 5000 = some (.int .u64 7080532616026269144) := by kernel_rfl
theorem sip_row (w : World) : Calls Tryz.prog 193 #[.int .u64 5, .int .u64 0, .string ⟨#[108]⟩] w fun e w' => e = .returned (.int .u64 7080532616026269144) ∧ Below w.heap.size w w' :=
  Ev.calls_below (Ev.Cx.sy_ok mixedQ (by intro en he; cases he)) rfl sip_run Tryz.func193 rfl (.cons (.int _ _) (.cons (.int _ _) (.cons (.string _) (.nil _)))) fewQ (Nat.le_refl _) w

theorem calls_pair {d f : Nat} {args args' : List Value} {a : Value} {b : Bool} (ha : Ev.clos a = true) (h : Ev.valF (Ev.Cx.sy Tryz.prog 5000 [] []) d f args 5000 = some (.tuple #[a, .bool b])) {g : Func} (hf : Tryz.prog.funcs[f]? = some g) (hbd : g.body.isSome = true)
    (hl : Ev.LRel (Ev.globS Tryz.prog.globals.size 5000 []) args args') (w : World) : Calls Tryz.prog f args'.toArray w fun e w' => e = .returned (.tuple #[a, .bool b]) ∧ Below w.heap.size w w' := by
  refine (Ev.calls_rel (Ev.Cx.sy_ok mixedQ (by intro en he; cases he)) h hf hbd hl fewQ (Nat.le_refl _) w).mono fun e w' ⟨v', ρ', he, _, hvr, hb⟩ => ⟨?_, hb⟩
  obtain ⟨b', rfl, hb'⟩ := hvr.untup
  have hq := hb'.list
  obtain ⟨z1, zs, e1, hz1, hq⟩ := hq.uncons
  obtain ⟨z2, zs, rfl, hz2, hq⟩ := hq.uncons
  obtain rfl := hq.unnil
  obtain rfl := Ev.clos_eq hz1 ha
  obtain rfl := hz2.unbool
  have e2 : b' = #[z1, .bool b] := Array.ext' e1
  rw [he, e2]

theorem find_rpush_run : Ev.valF (Ev.Cx.sy Tryz.prog 5000 [] []) 3000 31 [.string ⟨#[114, 112, 117, 115, 104]⟩] 5000 = some (.tuple #[rpushSpec, .bool true]) := by kernel_rfl
theorem find_lpop_run : Ev.valF (Ev.Cx.sy Tryz.prog 5000 [] []) 3000 31 [.string ⟨#[108, 112, 111, 112]⟩] 5000 = some (.tuple #[popSpec true, .bool true]) := by kernel_rfl
theorem find_rpop_run : Ev.valF (Ev.Cx.sy Tryz.prog 5000 [] []) 3000 31 [.string ⟨#[114, 112, 111, 112]⟩] 5000 = some (.tuple #[popSpec false, .bool true]) := by kernel_rfl
theorem clone_rpush_run : Ev.valF (Ev.Cx.sy Tryz.prog 5000 [] []) 3000 213 [.string ⟨#[114, 112, 117, 115, 104]⟩] 5000 = some (.string ⟨#[114, 112, 117, 115, 104]⟩) := by kernel_rfl
theorem clone_lpop_run : Ev.valF (Ev.Cx.sy Tryz.prog 5000 [] []) 3000 213 [.string ⟨#[108, 112, 111, 112]⟩] 5000 = some (.string ⟨#[108, 112, 111, 112]⟩) := by kernel_rfl
theorem clone_rpop_run : Ev.valF (Ev.Cx.sy Tryz.prog 5000 [] []) 3000 213 [.string ⟨#[114, 112, 111, 112]⟩] 5000 = some (.string ⟨#[114, 112, 111, 112]⟩) := by kernel_rfl

set_option maxRecDepth 100000 in
theorem find_rpush (w : World) : Calls Tryz.prog 31 #[.string rpushT] w fun e w' => e = .returned (.tuple #[rpushSpec, .bool true]) ∧ Below w.heap.size w w' := by
  have ha : Ev.clos rpushSpec = true := by kernel_rfl
  have hb : Tryz.f31.body.isSome = true := by kernel_rfl
  exact calls_pair (a := rpushSpec) (b := true) (args' := [.string rpushT]) ha find_rpush_run Tryz.func31 hb (.cons (.string rpushT) (.nil _)) w
set_option maxRecDepth 100000 in
theorem find_pop (front : Bool) (w : World) : Calls Tryz.prog 31 #[.string (popT front)] w fun e w' => e = .returned (.tuple #[popSpec front, .bool true]) ∧ Below w.heap.size w w' := by
  cases front
  · exact calls_pair (by kernel_rfl) find_rpop_run Tryz.func31 rfl (.cons (.string _) (.nil _)) w
  · exact calls_pair (by kernel_rfl) find_lpop_run Tryz.func31 rfl (.cons (.string _) (.nil _)) w
theorem clone_rpush (w : World) : Calls Tryz.prog 213 #[.string rpushT] w fun e w' => e = .returned (.string rpushT) ∧ Below w.heap.size w w' :=
  Ev.calls_below (Ev.Cx.sy_ok mixedQ (by intro en he; cases he)) rfl clone_rpush_run Tryz.func213 rfl (.cons (.string _) (.nil _)) fewQ (Nat.le_refl _) w
theorem clone_pop (front : Bool) (w : World) : Calls Tryz.prog 213 #[.string (popT front)] w fun e w' => e = .returned (.string (popT front)) ∧ Below w.heap.size w w' := by
  cases front
  · exact Ev.calls_below (Ev.Cx.sy_ok mixedQ (by intro en he; cases he)) rfl clone_rpop_run Tryz.func213 rfl (.cons (.string _) (.nil _)) fewQ (Nat.le_refl _) w
  · exact Ev.calls_below (Ev.Cx.sy_ok mixedQ (by intro en he; cases he)) rfl clone_lpop_run Tryz.func213 rfl (.cons (.string _) (.nil _)) fewQ (Nat.le_refl _) w

end Go.Proofs.YtgmljeeeomjooaaGreatDoor

/-
  dict.Dict: what reads of the one key "l" come to: gone, moves, find, holder, Get, Len; a map of one entry.
-/
namespace Go.Q
open Go Go.RowKit

/-- A dict's cells: its seed, its two tables, how many places were moved, how many keys. -/
def dictCells (t : Nat) (n : Int) : List Value := [.int .u64 5, .slice (some ⟨t, 0, none⟩) 4 4, .slice none 0 0, .int .i64 0, .int .i64 n]
/-- A table with a map in its first place, or with none. -/
def tabCells (m : Option Nat) : List Value := [.map m, .map none, .map none, .map none]
/-- A dict. -/
structure DictAt (w : World) (d t : Nat) (n : Int) (m : Option Nat) : Prop where
  cell : Row w d 122 (dictCells t n)
  tab : Row w t 127 (tabCells m)

theorem DictAt.only {S : Nat → Prop} {w w' : World} {d t : Nat} {n : Int} {m : Option Nat} (h : DictAt w d t n m) (ho : Only S w w') (hd : ¬ S d) (ht : ¬ S t) : DictAt w' d t n m := ⟨h.cell.only ho hd, h.tab.only ho ht⟩
theorem DictAt.below {B : Nat} {w w' : World} {d t : Nat} {n : Int} {m : Option Nat} (h : DictAt w d t n m) (ho : Below B w w') (hB : w.heap.size ≤ B) : DictAt w' d t n m :=
  ⟨(ho.block d (Nat.lt_of_lt_of_le h.cell.lt hB)).trans h.cell, (ho.block t (Nat.lt_of_lt_of_le h.tab.lt hB)).trans h.tab⟩
/-- A map of the one key. -/
def OneIn (w : World) (m : Nat) (v : Value) : Prop := w.heap[m]? = some (.map #[{ key := .string ⟨#[108]⟩, val := v, born := 0 }] 1)

end Go.Q
namespace Go.Proofs.YtgmljeeeomjooaaGreatDoor
open Go Go.RowKit Go.Q

theorem look_nil (w : World) : (Instr.lookup 127 (.map none) (.string ⟨#[108]⟩) true).run Tryz.prog w = .ok (.tuple #[.pointer none, .bool false]) w := by
  have hc : (Instr.checkKey true 10000 9 (.string ⟨#[108]⟩)).run Tryz.prog w = .ok () w := MapKept.run_checkKey (k := .string _) Tryz.underlying9 (by simp [MapKept.IsKey]) true 9999
  have hf : Instr.findNow .string (.string ⟨#[108]⟩) ([] : List MapEntry) 0 = some none := rfl
  have hz : (zeroValue 84).run Tryz.prog w = .ok (.pointer none) w := Tryz.zeroValue84 w
  simp [Instr.lookup, run_underlying Tryz.underlying127, hc, MapKept.run_findKey Tryz.underlying9 hf, hz, Result.andThen]
theorem look_one (w : World) (m : Nat) (v : Value) (h : OneIn w m v) : (Instr.lookup 127 (.map (some m)) (.string ⟨#[108]⟩) true).run Tryz.prog w = .ok (.tuple #[v, .bool true]) w := by
  unfold OneIn at h
  have hc : (Instr.checkKey false 10000 9 (.string ⟨#[108]⟩)).run Tryz.prog w = .ok () w := MapKept.run_checkKey (k := .string _) Tryz.underlying9 (by simp [MapKept.IsKey]) false 9999
  have hf : Instr.findNow .string (.string ⟨#[108]⟩) [{ key := .string ⟨#[108]⟩, val := v, born := 0 : MapEntry }] 0 = some (some (0, v)) := rfl
  simp [Instr.lookup, run_underlying Tryz.underlying127, MapKept.run_getObj_map h, hc, MapKept.run_findKey Tryz.underlying9 hf, Result.andThen]

theorem nil119 (w : World) (a : Option Addr) (l c : Nat) : (binOp .eql 119 (.slice a l c) (.slice none 0 0)).run Tryz.prog w = .ok (.bool a.isNone) w := Lib.run_eql_slice_nil w 119 127 a l c 0 0 Tryz.underlying119
theorem nnil119 (w : World) (a : Option Addr) (l c : Nat) : (binOp .neq 119 (.slice a l c) (.slice none 0 0)).run Tryz.prog w = .ok (.bool (!a.isNone)) w := run_neq_slice_nil_any w 119 127 a l c 0 0 Tryz.underlying119
theorem nil127 (w : World) (r : Option Nat) : (binOp .eql 127 (.map r) (.map none)).run Tryz.prog w = .ok (.bool r.isNone) w := run_eql_map_nil w _ _ _ r Tryz.underlying127
theorem nnil127 (w : World) (r : Option Nat) : (binOp .neq 127 (.map r) (.map none)).run Tryz.prog w = .ok (.bool (!r.isNone)) w := run_neq_map_nil w _ _ _ r Tryz.underlying127

set_option maxHeartbeats 800000 in
theorem dictGone (d t : Nat) (n : Int) (m : Option Nat) (w : World) (h : DictAt w d t n m) : Calls Tryz.prog 72 #[.pointer (some ⟨d, 0, none⟩)] w fun e w' => e = .returned (.bool false) ∧ w = w' := by
  have c1 := h.cell.cell (i := 1) rfl
  have q := nil119
  clear h
  go_enter Tryz.func72, Tryz.ntmps72
  go_wp2_with fail
  go_ret
  exact ⟨rfl, rfl⟩

set_option maxHeartbeats 800000 in
theorem dictMoves (d t : Nat) (n : Int) (m : Option Nat) (w : World) (h : DictAt w d t n m) : Calls Tryz.prog 75 #[.pointer (some ⟨d, 0, none⟩)] w fun e w' => e = .returned (.bool false) ∧ w = w' := by
  have c2 := h.cell.cell (i := 2) rfl
  have q := nnil119
  clear h
  go_enter Tryz.func75, Tryz.ntmps75
  go_wp2_with fail
  go_ret
  exact ⟨rfl, rfl⟩

set_option maxHeartbeats 800000 in
theorem dictLen (d t : Nat) (n : Int) (m : Option Nat) (w : World) (h : DictAt w d t n m) : Calls Tryz.prog 19 #[.pointer (some ⟨d, 0, none⟩)] w fun e w' => e = .returned (.int .i64 n) ∧ w = w' := by
  have c4 := h.cell.cell (i := 4) rfl
  clear h
  go_enter Tryz.func19, Tryz.ntmps19
  go_wp2_with fail
  go_ret
  exact ⟨rfl, rfl⟩

theorem sip_and : bits .and .u64 7080532616026269144 3 = 0 := by kernel_rfl

set_option maxHeartbeats 800000 in
theorem dictFind (d t : Nat) (n : Int) (m : Option Nat) (w : World) (h : DictAt w d t n m) : Calls Tryz.prog 138 #[.pointer (some ⟨d, 0, none⟩), .slice (some ⟨t, 0, none⟩) 4 4, .string ⟨#[108]⟩] w fun e w' => e = .returned (.int .i64 0) ∧ Below w.heap.size w w' := by
  have c0 := h.cell.cell (i := 0) rfl
  have hs := sip_row w
  clear h
  go_enter Tryz.func138, Tryz.ntmps138
  go_wp2_with fail
  go_at_call 193
  refine hs.mono ?_
  rintro e w1 ⟨rfl, hb⟩
  go_wp2_with fail
  go_ret
  refine ⟨?_, hb⟩
  kernel_rfl

end Go.Proofs.YtgmljeeeomjooaaGreatDoor

/-
  dict.Dict: holder, Get of the one key "l".
-/
namespace Go.Proofs.YtgmljeeeomjooaaGreatDoor
open Go Go.RowKit Go.Q

theorem idx0 (w : World) (a b : Value) : (Instr.index 120 (.agg #[a, b]) (.int .i64 0)).run Tryz.prog w = .ok a w := by
  have h1 : (asIntOf (.int .i64 0)).run Tryz.prog w = .ok (.i64, 0) w := rfl
  simp [Instr.index, h1, run_underlying Tryz.underlying120, part, Tryz.isAgg119, Tryz.sizeOf119, Result.andThen]
theorem idx1 (w : World) (a b : Value) : (Instr.index 120 (.agg #[a, b]) (.int .i64 1)).run Tryz.prog w = .ok b w := by
  have h1 : (asIntOf (.int .i64 1)).run Tryz.prog w = .ok (.i64, 1) w := rfl
  simp [Instr.index, h1, run_underlying Tryz.underlying120, part, Tryz.isAgg119, Tryz.sizeOf119, Result.andThen]

set_option maxHeartbeats 1600000 in
set_option maxRecDepth 100000 in
theorem holderNone (d t : Nat) (n : Int) (w : World) (h : DictAt w d t n none) : Calls Tryz.prog 73 #[.pointer (some ⟨d, 0, none⟩), .string ⟨#[108]⟩] w fun e w' => e = .returned (.map none) ∧ Below w.heap.size w w' := by
  have c1 := h.cell.cell (i := 1) rfl
  have c2 := h.cell.cell (i := 2) rfl
  have hf := dictFind d t n none w h
  have ht := fun w' (hb : Below w.heap.size w w') => (h.below hb (Nat.le_refl _)).tab.cell (i := 0) rfl
  have q := nil119
  have i0 := idx0
  have i1 := idx1
  have q2 := look_nil
  clear h
  go_enter Tryz.func73, Tryz.ntmps73
  go_wp2_with fail
  refine wp_loop_rounds 3 ?_
  rw [rounds_succ]
  go_wp2_with fail
  go_at_call 138
  refine hf.mono ?_
  rintro e w1 ⟨rfl, hb⟩
  have t0 := ht w1 hb
  go_wp2_with fail
  rw [rounds_succ]
  go_wp2_with fail
  rw [rounds_succ]
  go_wp2_with fail
  go_ret
  exact ⟨rfl, hb⟩

set_option maxHeartbeats 1600000 in
set_option maxRecDepth 100000 in
theorem holderOne (d t m : Nat) (v : Value) (n : Int) (w : World) (h : DictAt w d t n (some m)) (hm : OneIn w m v) : Calls Tryz.prog 73 #[.pointer (some ⟨d, 0, none⟩), .string ⟨#[108]⟩] w fun e w' => e = .returned (.map (some m)) ∧ Below w.heap.size w w' := by
  have c1 := h.cell.cell (i := 1) rfl
  have c2 := h.cell.cell (i := 2) rfl
  have hf := dictFind d t n (some m) w h
  have ht := fun w' (hb : Below w.heap.size w w') => (h.below hb (Nat.le_refl _)).tab.cell (i := 0) rfl
  have hl := fun w' (hb : Below w.heap.size w w') => look_one w' m v ((hb.block m (Array.getElem?_eq_some_iff.1 hm).1).trans hm)
  have q := nil119
  have i0 := idx0
  have i1 := idx1
  clear h hm
  go_enter Tryz.func73, Tryz.ntmps73
  go_wp2_with fail
  refine wp_loop_rounds 3 ?_
  rw [rounds_succ]
  go_wp2_with fail
  go_at_call 138
  refine hf.mono ?_
  rintro e w1 ⟨rfl, hb⟩
  have t0 := ht w1 hb
  have l0 := hl w1 hb
  go_wp2_with fail
  go_ret
  exact ⟨rfl, hb⟩

set_option maxHeartbeats 1600000 in
set_option maxRecDepth 100000 in
theorem getNone (d t : Nat) (n : Int) (w : World) (h : DictAt w d t n none) : Calls Tryz.prog 22 #[.pointer (some ⟨d, 0, none⟩), .string ⟨#[108]⟩] w fun e w' => e = .returned (.tuple #[.pointer none, .bool false]) ∧ Below w.heap.size w w' := by
  have hg := dictGone d t n none w h
  have hh := holderNone d t n w h
  have q2 := look_nil
  clear h
  go_enter Tryz.func22, Tryz.ntmps22
  go_wp2_with fail
  go_at_call 72
  refine hg.mono ?_
  rintro e w1 ⟨rfl, rfl⟩
  go_wp2_with fail
  go_at_call 73
  refine hh.mono ?_
  rintro e w1 ⟨rfl, hb⟩
  go_wp2_with fail
  go_ret2
  exact ⟨rfl, hb⟩

set_option maxHeartbeats 1600000 in
set_option maxRecDepth 100000 in
theorem getOne (d t m : Nat) (v : Value) (n : Int) (w : World) (h : DictAt w d t n (some m)) (hm : OneIn w m v) : Calls Tryz.prog 22 #[.pointer (some ⟨d, 0, none⟩), .string ⟨#[108]⟩] w fun e w' => e = .returned (.tuple #[v, .bool true]) ∧ Below w.heap.size w w' := by
  have hg := dictGone d t n (some m) w h
  have hh := holderOne d t m v n w h hm
  have hl := fun w' (hb : Below w.heap.size w w') => look_one w' m v ((hb.block m (Array.getElem?_eq_some_iff.1 hm).1).trans hm)
  clear h hm
  go_enter Tryz.func22, Tryz.ntmps22
  go_wp2_with fail
  go_at_call 72
  refine hg.mono ?_
  rintro e w1 ⟨rfl, rfl⟩
  go_wp2_with fail
  go_at_call 73
  refine hh.mono ?_
  rintro e w1 ⟨rfl, hb⟩
  have l0 := hl w1 hb
  go_wp2_with fail
  go_ret2
  exact ⟨rfl, hb⟩

end Go.Proofs.YtgmljeeeomjooaaGreatDoor

/-
  dict.Dict: Step where nothing moves, put and Set of a first key, Delete of the one key.
-/
namespace Go.Q
open Go Go.RowKit

/-- A map is such entries. -/
def putMap (w : World) (m : Nat) (es : Array MapEntry) (clock : Nat) : World := { w with heap := w.heap.setIfInBounds m (.map es clock) }
theorem putMap_only (w : World) (m : Nat) (es : Array MapEntry) (clock : Nat) : Only (· = m) w (putMap w m es clock) :=
  ⟨rfl, rfl, rfl, by simp [putMap], fun k _ hk => by simp only [putMap]; rw [Array.getElem?_setIfInBounds_ne (Ne.symm hk)]⟩
theorem putMap_at (w : World) (m : Nat) (es : Array MapEntry) (clock : Nat) (h : m < w.heap.size) : (putMap w m es clock).heap[m]? = some (.map es clock) := by
  simp [putMap, h]

/-- A store into a map, at the operation. -/
theorem mapUpdate_at {P : Program} (w : World) {ops : Array Oper} {rest : List Oper} {o : Oper} {a : Act} {Q : Exit → Act → World → Prop} (hg : o.guard = none) (m x v : Operand) (t : TypeId) (hop : o.op = Op.mapUpdate t m x v)
    {mv key val : Value} (w' : World) (hrun : (Instr.mapUpdate t mv key val).run P w = .ok () w') (hm : a.eval m = mv) (hx : a.eval x = key) (hv : a.eval v = val) (hK : wpList P ops Q rest (a.put o.dst undef) w') :
    wpList P ops Q (o :: rest) a w := by
  refine wpList_plain hg fun K' hK' => ?_
  unfold Oper.wp
  simp [execOp, hop, hm, hx, hv, hrun, Result.andThen]
  exact hK' _ _ hK
/-- A key's leaving, at the operation. -/
theorem delete_at {P : Program} (w : World) {ops : Array Oper} {rest : List Oper} {o : Oper} {a : Act} {Q : Exit → Act → World → Prop} (hg : o.guard = none) (m x : Operand) (t k : TypeId) (hop : o.op = Op.call { callee := Callee.builtin Builtin.delete, args := #[m, x], argTypes := #[t, k] })
    {mv key : Value} (w' : World) (hrun : (Builtin.delete_ #[t, k] o.type #[mv, key]).run P w = .ok (.tuple #[]) w') (hm : a.eval m = mv) (hx : a.eval x = key) (hK : wpList P ops Q rest (a.put o.dst (.tuple #[])) w') :
    wpList P ops Q (o :: rest) a w := by
  refine wpList_plain hg fun K' hK' => ?_
  unfold Oper.wp
  simp [execOp, hop, resolve, invoke, builtin, hm, hx, hrun, Result.andThen]
  exact hK' _ _ hK

end Go.Q
namespace Go.Proofs.YtgmljeeeomjooaaGreatDoor
open Go Go.RowKit Go.Q

theorem first_run (w : World) (m : Nat) (v : Value) (h : w.heap[m]? = some (.map #[] 0)) : (Instr.mapUpdate 127 (.map (some m)) (.string ⟨#[108]⟩) v).run Tryz.prog w = .ok () (putMap w m #[{ key := .string ⟨#[108]⟩, val := v, born := 0 }] 1) :=
  run_mapUpdate_first w 127 9 84 m 0 ⟨#[108]⟩ v Tryz.underlying127 Tryz.underlying9 h
theorem delete_run (w : World) (m : Nat) (v : Value) (ty : TypeId) (h : OneIn w m v) : (Builtin.delete_ #[127, 9] ty #[.map (some m), .string ⟨#[108]⟩]).run Tryz.prog w = .ok (.tuple #[]) (putMap w m #[] 1) := by
  unfold OneIn at h
  have hc : (Instr.checkKey false 10000 9 (.string ⟨#[108]⟩)).run Tryz.prog w = .ok () w := MapKept.run_checkKey (k := .string _) Tryz.underlying9 (by simp [MapKept.IsKey]) false 9999
  have hf : Instr.findNow .string (.string ⟨#[108]⟩) [{ key := .string ⟨#[108]⟩, val := v, born := 0 : MapEntry }] 0 = some (some (0, v)) := rfl
  simp [Builtin.delete_, run_underlying Tryz.underlying127, MapKept.run_getObj_map h, hc, MapKept.run_findKey Tryz.underlying9 hf, MapKept.run_setObj_map _ h, Result.andThen, putMap]

set_option maxHeartbeats 1600000 in
set_option maxRecDepth 100000 in
theorem dictStep (d t : Nat) (n : Int) (m : Option Nat) (w : World) (h : DictAt w d t n m) : Calls Tryz.prog 74 #[.pointer (some ⟨d, 0, none⟩), .int .i64 1] w fun e w' => e = .returned (.tuple #[]) ∧ w = w' := by
  have hg := dictGone d t n m w h
  have hm := dictMoves d t n m w h
  clear h
  go_enter Tryz.func74, Tryz.ntmps74
  go_wp2_with fail
  refine wp_loop_rounds 1 ?_
  rw [rounds_succ]
  go_wp2_with fail
  go_at_call 72
  refine hg.mono ?_
  rintro e w1 ⟨rfl, rfl⟩
  go_wp2_with fail
  go_at_call 75
  refine hm.mono ?_
  rintro e w1 ⟨rfl, rfl⟩
  go_wp2_with fail
  go_end0
  exact ⟨rfl, rfl⟩

set_option maxHeartbeats 1600000 in
set_option maxRecDepth 100000 in
theorem dictPut (d t k : Nat) (n : Int) (w : World) (h : DictAt w d t n none) : Calls Tryz.prog 76 #[.pointer (some ⟨d, 0, none⟩), .string ⟨#[108]⟩, .pointer (some ⟨k, 0, none⟩)] w fun e w' => e = .returned (.tuple #[]) ∧
    ∃ m, DictAt w' d t n (some m) ∧ OneIn w' m (.pointer (some ⟨k, 0, none⟩)) ∧ Only (· = t) w w' ∧ w.heap.size ≤ m := by
  have c1 := h.cell.cell (i := 1) rfl
  have hm := dictMoves d t n none w h
  have hf := dictFind d t n none w h
  have q := nil127
  have hlt := h.tab.lt
  have hH := Lib.hid h
  clear h
  go_enter Tryz.func76, Tryz.ntmps76
  go_wp2_with fail
  go_at_call 75
  refine hm.mono ?_
  rintro e w1 ⟨rfl, rfl⟩
  go_wp2_with fail
  go_at_call 138
  refine hf.mono ?_
  rintro e w1 ⟨rfl, hb⟩
  have hr := (hH.out.below hb (Nat.le_refl _)).tab
  have t0 := hr.cell (i := 0) rfl
  have f0 := hr.free 0
  have hr' := Lib.hid hr
  have hlt1 : t < w1.heap.size := hr.lt
  clear hr hf hm
  have mk := run_makeMap_plain (P := Tryz.prog) w1 127
  have hne : w1.heap.size ≠ t := by omega
  have hM : ((w1.setCell ⟨t, 0, none⟩ (.map (some w1.heap.size))).alloc (.map #[] 0)).heap[w1.heap.size]? = some (.map #[] 0) := by
    have h1 := World.alloc_heap_new (w1.setCell ⟨t, 0, none⟩ (.map (some w1.heap.size))) (.map #[] 0)
    simpa [World.setCell] using h1
  have hu := first_run _ w1.heap.size (.pointer (some ⟨k, 0, none⟩)) hM
  have hR2 : Row ((w1.setCell ⟨t, 0, none⟩ (.map (some w1.heap.size))).alloc (.map #[] 0)) t 127 (tabCells (some w1.heap.size)) := (hr'.out.set 0 _).alloc (.map #[] 0)
  have t2 := hR2.cell (i := 0) rfl
  have hR2' := Lib.hid hR2
  have hM' := Lib.hid hM
  clear hR2 hM
  go_wp2_with (at_mapUpdate; go_loud (refine mapUpdate_at _ rfl _ _ _ 127 rfl _ hu rfl rfl rfl ?_))
  go_end0
  have hlast := putMap_only ((w1.setCell ⟨t, 0, none⟩ (.map (some w1.heap.size))).alloc (.map #[] 0)) w1.heap.size #[{ key := .string ⟨#[108]⟩, val := .pointer (some ⟨k, 0, none⟩), born := 0 }] 1
  have ho : Only (· = t) w ((w1.setCell ⟨t, 0, none⟩ (.map (some w1.heap.size))).alloc (.map #[] 0)) := ((Only.of_below (S := (· = t)) hb).setCell ⟨t, 0, none⟩ (fun _ => rfl) _).alloc _
  have hdt : d ≠ t := fun e => by
    have h1 := hH.out.cell
    have h2 := hH.out.tab
    rw [e] at h1
    exact absurd (h1.eq h2).2 (by decide)
  have hsz := hb.size
  refine ⟨rfl, w1.heap.size, ⟨(hH.out.cell.only ho hdt).only hlast (fun e => by have := hH.out.cell.lt; omega), hR2'.out.only hlast (fun e => hne e.symm)⟩, putMap_at _ _ _ _ (by simp), ho.then hlast (fun i hi e => by omega), hsz⟩

end Go.Proofs.YtgmljeeeomjooaaGreatDoor

/-
  dict.Dict: Set of a first key, Delete of the one key.
-/
namespace Go.Proofs.YtgmljeeeomjooaaGreatDoor
open Go Go.RowKit Go.Q

theorem DictAt.ne {w : World} {d t : Nat} {n : Int} {m : Option Nat} (h : DictAt w d t n m) : d ≠ t := fun e => by
  have h1 := h.cell
  have h2 := h.tab
  rw [e] at h1
  exact absurd (h1.eq h2).2 (by decide)

set_option maxHeartbeats 1600000 in
set_option maxRecDepth 100000 in
theorem dictSet (d t k : Nat) (w : World) (h : DictAt w d t 0 none) : Calls Tryz.prog 23 #[.pointer (some ⟨d, 0, none⟩), .string ⟨#[108]⟩, .pointer (some ⟨k, 0, none⟩)] w fun e w' => e = .returned (.bool true) ∧
    ∃ m, DictAt w' d t 1 (some m) ∧ OneIn w' m (.pointer (some ⟨k, 0, none⟩)) ∧ Only (fun x => x = t ∨ x = d) w w' ∧ w.heap.size ≤ m := by
  have hg := dictGone d t 0 none w h
  have hs := dictStep d t 0 none w h
  have hh := holderNone d t 0 w h
  have q := nnil127
  have hH := Lib.hid h
  clear h
  go_enter Tryz.func23, Tryz.ntmps23
  go_wp2_with fail
  go_at_call 72
  refine hg.mono ?_
  rintro e w1 ⟨rfl, rfl⟩
  go_wp2_with fail
  go_at_call 74
  refine hs.mono ?_
  rintro e w1 ⟨rfl, rfl⟩
  go_wp2_with fail
  go_at_call 73
  refine hh.mono ?_
  rintro e w1 ⟨rfl, hb⟩
  have hD := hH.out.below hb (Nat.le_refl _)
  have c1 := hD.cell.cell (i := 1) rfl
  have c4 := hD.cell.cell (i := 4) rfl
  have hm := dictMoves d t 0 none w1 hD
  have hp := dictPut d t k 0 w1 hD
  have hD' := Lib.hid hD
  clear hg hs hh hD
  go_wp2_with fail
  go_at_call 75
  refine hm.mono ?_
  rintro e w2 ⟨rfl, rfl⟩
  go_wp2_with fail
  go_at_call 76
  refine hp.mono ?_
  rintro e w2 ⟨rfl, m, hD2, hO, ho, hmm⟩
  have d4 := hD2.cell.cell (i := 4) rfl
  have f4 := hD2.cell.free 4
  have hD2' := Lib.hid hD2
  have hO' := Lib.hid hO
  clear hp hD2 hO c1 c4 hm
  go_wp2_with fail
  go_ret
  have hlt : d < w2.heap.size := hD2'.out.cell.lt
  have hmlt : m < w2.heap.size := (Array.getElem?_eq_some_iff.1 hO'.out).1
  have hdm : m ≠ d := fun e => by
    have h1 := hO'.out
    have h2 := hD2'.out.cell
    unfold OneIn at h1
    unfold Row at h2
    rw [e, h2] at h1
    cases h1
  have hsz := hb.size
  refine ⟨rfl, m, ⟨hD2'.out.cell.set 4 (.int .i64 1), (hD2'.out.tab).set_ne (fun e => DictAt.ne hD2'.out e.symm) _⟩, ?_, ?_, by omega⟩
  · exact (Below.heap_setCell _ _ _ _ hdm).trans hO'.out
  · exact ((Only.of_below (S := fun x => x = t ∨ x = d) hb).trans (ho.mono fun _ _ e => .inl e)).setCell ⟨d, 4, none⟩ (fun _ => .inr rfl) _

set_option maxHeartbeats 1600000 in
set_option maxRecDepth 100000 in
theorem dictDelete (d t m : Nat) (v : Value) (w : World) (h : DictAt w d t 1 (some m)) (hm : OneIn w m v) : Calls Tryz.prog 251 #[.pointer (some ⟨d, 0, none⟩), .string ⟨#[108]⟩] w fun e w' => e = .returned (.bool true) ∧
    DictAt w' d t 0 (some m) ∧ Only (fun x => x = m ∨ x = d) w w' := by
  have hg := dictGone d t 1 (some m) w h
  have hs := dictStep d t 1 (some m) w h
  have hh := holderOne d t m v 1 w h hm
  have q := nil127
  have hmm := fun w' (hb : Below w.heap.size w w') => (hb.block m (Array.getElem?_eq_some_iff.1 hm).1).trans hm
  have hmlt : m < w.heap.size := (Array.getElem?_eq_some_iff.1 hm).1
  have hdm : m ≠ d := fun e => by
    have h2 := h.cell
    unfold OneIn at hm
    unfold Row at h2
    rw [e, h2] at hm
    cases hm
  have htm : m ≠ t := fun e => by
    have h2 := h.tab
    unfold OneIn at hm
    unfold Row at h2
    rw [e, h2] at hm
    cases hm
  have hH := Lib.hid h
  clear h hm
  go_enter Tryz.func251, Tryz.ntmps251
  go_wp2_with fail
  go_at_call 72
  refine hg.mono ?_
  rintro e w1 ⟨rfl, rfl⟩
  go_wp2_with fail
  go_at_call 74
  refine hs.mono ?_
  rintro e w1 ⟨rfl, rfl⟩
  go_wp2_with fail
  go_at_call 73
  refine hh.mono ?_
  rintro e w1 ⟨rfl, hb⟩
  have hM := hmm w1 hb
  have hD := hH.out.below hb (Nat.le_refl _)
  have hsz := hb.size
  have hdel := delete_run w1 m v 0 hM
  have hD2 := Lib.hid (hD.only (putMap_only w1 m #[] 1) (fun e => hdm e.symm) (fun e => htm e.symm))
  have ho2 := Lib.hid (putMap_only w1 m #[] 1)
  have d4 := hD2.out.cell.cell (i := 4) rfl
  have f4 := hD2.out.cell.free 4
  have d1 := hD2.out.cell.cell (i := 1) rfl
  clear hg hs hh hD hM hmm
  generalize hW : putMap w1 m #[] 1 = w2 at *
  go_wp2_with (at_delete; go_loud (refine delete_at _ rfl _ _ 127 9 rfl _ hdel rfl rfl ?_))
  have hD3 : DictAt (w2.setCell ⟨d, 4, none⟩ (.int .i64 0)) d t 0 (some m) := ⟨hD2.out.cell.set 4 (.int .i64 0), (hD2.out.tab).set_ne (fun e => DictAt.ne hD2.out e.symm) _⟩
  have hm3 := dictMoves d t 0 (some m) _ hD3
  have hD3' := Lib.hid hD3
  clear hD3
  go_at_call 75
  refine hm3.mono ?_
  rintro e w3 ⟨rfl, rfl⟩
  go_wp2_with fail
  go_ret
  refine ⟨rfl, hD3'.out, ?_⟩
  exact ((Only.of_below (S := fun x => x = m ∨ x = d) hb).trans (ho2.out.mono fun _ _ e => .inl e)).setCell ⟨d, 4, none⟩ (fun _ => .inr rfl) _

end Go.Proofs.YtgmljeeeomjooaaGreatDoor

/-
  space.Space with one database: has, DBs, Len, at, Delete of the one key.
-/
namespace Go.Q
open Go Go.RowKit

/-- Where a space lies: itself, its databases' slice, its dict, the dict's table. -/
structure Pl where
  s : Nat
  g : Nat
  c : Nat
  d : Nat
  t : Nat
/-- A space of one database. -/
structure SpaceAt (w : World) (p : Pl) (n : Int) (m : Option Nat) : Prop where
  cell : Row w p.s 82 [.slice (some ⟨p.g, 0, none⟩) 1 p.c, .int .u64 5, .int .u64 0]
  dbs : ∃ r, Row w p.g 79 (.pointer (some ⟨p.d, 0, none⟩) :: r)
  dict : DictAt w p.d p.t n m
  low : 10 ≤ p.d ∧ 10 ≤ p.t
/-- What its one key has: a list. -/
structure KeptAt (w : World) (b m k l : Nat) : Prop where
  one : OneIn w m (.pointer (some ⟨k, 0, none⟩))
  kept : Row w k 92 [.iface 136 (.agg #[.pointer (some ⟨l, 0, none⟩)]), .int .i64 0, .int .u64 0]
  low : 10 ≤ m ∧ 10 ≤ k ∧ b < m ∧ b < k

theorem SpaceAt.only {S : Nat → Prop} {w w' : World} {p : Pl} {n : Int} {m : Option Nat} (h : SpaceAt w p n m) (ho : Only S w w') (hs : ¬ S p.s) (hg : ¬ S p.g) (hd : ¬ S p.d) (ht : ¬ S p.t) : SpaceAt w' p n m :=
  ⟨h.cell.only ho hs, h.dbs.imp fun _ hr => hr.only ho hg, h.dict.only ho hd ht, h.low⟩
theorem SpaceAt.below {B : Nat} {w w' : World} {p : Pl} {n : Int} {m : Option Nat} (h : SpaceAt w p n m) (ho : Below B w w') (hB : w.heap.size ≤ B) : SpaceAt w' p n m :=
  ⟨row_below h.cell ho hB, h.dbs.imp fun _ hr => row_below hr ho hB, h.dict.below ho hB, h.low⟩
theorem OneIn.lt {w : World} {m : Nat} {v : Value} (h : OneIn w m v) : m < w.heap.size := (Array.getElem?_eq_some_iff.1 h).1
theorem OneIn.ne {w : World} {m b : Nat} {v : Value} {t : TypeId} {cs : List Value} (h : OneIn w m v) (k : Row w b t cs) : m ≠ b := fun e => by
  unfold OneIn at h
  unfold Row at k
  rw [e, k] at h
  cases h
theorem OneIn.only {S : Nat → Prop} {w w' : World} {m : Nat} {v : Value} (h : OneIn w m v) (ho : Only S w w') (hs : ¬ S m) : OneIn w' m v := ho.at h hs
theorem OneIn.below {B : Nat} {w w' : World} {m : Nat} {v : Value} (h : OneIn w m v) (ho : Below B w w') (hB : w.heap.size ≤ B) : OneIn w' m v := (ho.block m (Nat.lt_of_lt_of_le h.lt hB)).trans h
theorem KeptAt.below {B : Nat} {w w' : World} {b m k l : Nat} (h : KeptAt w b m k l) (ho : Below B w w') (hB : w.heap.size ≤ B) : KeptAt w' b m k l := ⟨h.one.below ho hB, row_below h.kept ho hB, h.low⟩
theorem KeptAt.only {S : Nat → Prop} {w w' : World} {b m k l : Nat} (h : KeptAt w b m k l) (ho : Only S w w') (hm : ¬ S m) (hk : ¬ S k) : KeptAt w' b m k l := ⟨h.one.only ho hm, h.kept.only ho hk, h.low⟩

end Go.Q
namespace Go.Proofs.YtgmljeeeomjooaaGreatDoor
open Go Go.RowKit Go.Q

set_option maxHeartbeats 1600000 in
theorem spaceHas (p : Pl) (n : Int) (m : Option Nat) (w : World) (h : SpaceAt w p n m) : Calls Tryz.prog 18 #[.pointer (some ⟨p.s, 0, none⟩), .int .i64 0] w fun e w' => e = .returned (.bool true) ∧ w = w' := by
  have c0 := h.cell.cell (i := 0) rfl
  clear h
  go_enter Tryz.func18, Tryz.ntmps18
  go_wp2_with fail
  go_ret
  exact ⟨rfl, rfl⟩

set_option maxHeartbeats 1600000 in
theorem spaceDBs (p : Pl) (n : Int) (m : Option Nat) (w : World) (h : SpaceAt w p n m) : Calls Tryz.prog 29 #[.pointer (some ⟨p.s, 0, none⟩)] w fun e w' => e = .returned (.int .i64 1) ∧ w = w' := by
  have c0 := h.cell.cell (i := 0) rfl
  clear h
  go_enter Tryz.func29, Tryz.ntmps29
  go_wp2_with fail
  go_ret
  exact ⟨rfl, rfl⟩

set_option maxHeartbeats 1600000 in
theorem spaceLen (p : Pl) (n : Int) (m : Option Nat) (w : World) (h : SpaceAt w p n m) : Calls Tryz.prog 8 #[.pointer (some ⟨p.s, 0, none⟩), .int .i64 0] w fun e w' => e = .returned (.int .i64 n) ∧ w = w' := by
  have c0 := h.cell.cell (i := 0) rfl
  obtain ⟨r, hr⟩ := h.dbs
  have g0 := hr.cell (i := 0) rfl
  have hh := spaceHas p n m w h
  have hl := dictLen p.d p.t n m w h.dict
  clear h hr
  go_enter Tryz.func8, Tryz.ntmps8
  go_wp2_with fail
  go_at_call 18
  refine hh.mono ?_
  rintro e w1 ⟨rfl, rfl⟩
  go_wp2_with fail
  go_at_call 19
  refine hl.mono ?_
  rintro e w1 ⟨rfl, rfl⟩
  go_wp2_with fail
  go_ret
  exact ⟨rfl, rfl⟩

set_option maxHeartbeats 1600000 in
set_option maxRecDepth 100000 in
theorem spaceAt_none (p : Pl) (n : Int) (w : World) (h : SpaceAt w p n none) : Calls Tryz.prog 129 #[.pointer (some ⟨p.s, 0, none⟩), .int .i64 0, .string ⟨#[108]⟩, .int .i64 0] w fun e w' => e = .returned (.tuple #[.pointer none, .bool false]) ∧ Below w.heap.size w w' := by
  have c0 := h.cell.cell (i := 0) rfl
  obtain ⟨r, hr⟩ := h.dbs
  have g0 := hr.cell (i := 0) rfl
  have hh := spaceHas p n none w h
  have hl := getNone p.d p.t n w h.dict
  clear h hr
  go_enter Tryz.func129, Tryz.ntmps129
  go_wp2_with fail
  go_at_call 18
  refine hh.mono ?_
  rintro e w1 ⟨rfl, rfl⟩
  go_wp2_with fail
  go_at_call 22
  refine hl.mono ?_
  rintro e w1 ⟨rfl, hb⟩
  go_wp2_with fail
  go_ret2
  exact ⟨rfl, hb⟩

set_option maxHeartbeats 1600000 in
set_option maxRecDepth 100000 in
theorem spaceAt_one (p : Pl) (m k l : Nat) (w : World) (h : SpaceAt w p 1 (some m)) (hk : KeptAt w p.t m k l) : Calls Tryz.prog 129 #[.pointer (some ⟨p.s, 0, none⟩), .int .i64 0, .string ⟨#[108]⟩, .int .i64 0] w fun e w' => e = .returned (.tuple #[.pointer (some ⟨k, 0, none⟩), .bool true]) ∧ Below w.heap.size w w' := by
  have c0 := h.cell.cell (i := 0) rfl
  obtain ⟨r, hr⟩ := h.dbs
  have g0 := hr.cell (i := 0) rfl
  have hh := spaceHas p 1 (some m) w h
  have hl := getOne p.d p.t m _ 1 w h.dict hk.one
  have hkk := fun w' (hb : Below w.heap.size w w') => (row_below hk.kept hb (Nat.le_refl _)).cell (i := 1) rfl
  clear h hr hk
  go_enter Tryz.func129, Tryz.ntmps129
  go_wp2_with fail
  go_at_call 18
  refine hh.mono ?_
  rintro e w1 ⟨rfl, rfl⟩
  go_wp2_with fail
  go_at_call 22
  refine hl.mono ?_
  rintro e w1 ⟨rfl, hb⟩
  have k1 := hkk w1 hb
  go_wp2_with fail
  go_ret2
  exact ⟨rfl, hb⟩

set_option maxHeartbeats 1600000 in
set_option maxRecDepth 100000 in
theorem spaceDelete (p : Pl) (m k l : Nat) (w : World) (h : SpaceAt w p 1 (some m)) (hk : KeptAt w p.t m k l) : Calls Tryz.prog 211 #[.pointer (some ⟨p.s, 0, none⟩), .int .i64 0, .string ⟨#[108]⟩] w fun e w' => e = .returned (.bool true) ∧ SpaceAt w' p 0 (some m) ∧ Only (fun x => x = m ∨ x = p.d) w w' := by
  have c0 := h.cell.cell (i := 0) rfl
  obtain ⟨r, hr⟩ := h.dbs
  have g0 := hr.cell (i := 0) rfl
  have hh := spaceHas p 1 (some m) w h
  have hl := dictDelete p.d p.t m _ w h.dict hk.one
  have hlow := h.low
  have n1 := hk.one.ne h.cell
  have n2 := hk.one.ne hr
  have hc := Lib.hid h.cell
  have hr' := Lib.hid hr
  have e1 : p.s ≠ p.d := fun e => by
    have h1 := h.cell
    rw [e] at h1
    exact absurd (h1.eq h.dict.cell).2 (by decide)
  have e2 : p.g ≠ p.d := fun e => by
    have h1 := hr
    rw [e] at h1
    exact absurd (h1.eq h.dict.cell).2 (by decide)
  clear h hr hk
  go_enter Tryz.func211, Tryz.ntmps211
  go_wp2_with fail
  go_at_call 18
  refine hh.mono ?_
  rintro e w1 ⟨rfl, rfl⟩
  go_wp2_with fail
  go_at_call 251
  refine hl.mono ?_
  rintro e w1 ⟨rfl, hd, ho⟩
  go_wp2_with fail
  go_ret
  refine ⟨rfl, ⟨hc.out.only ho (fun e => ?_), ⟨r, hr'.out.only ho (fun e => ?_)⟩, hd, hlow⟩, ho⟩
  · rcases e with e | e
    · exact n1 e.symm
    · exact e1 e
  · rcases e with e | e
    · exact n2 e.symm
    · exact e2 e

end Go.Proofs.YtgmljeeeomjooaaGreatDoor
