/-
  CollsNone: for every input the law returns true, and what was handed in reads as before.
-/
import Derived.Test.YtfochmdckacemaaGreatDoorRunCollsNoneA
import Derived.Test.YtfochmdckacemaaGreatDoorRunCollsNoneB
import Derived.Test.YtfochmdckacemaaGreatDoorRunCollsNoneC
import Derived.Test.YtfochmdckacemaaGreatDoorRunCollsNoneD
import Derived.Test.YtfochmdckacemaaGreatDoorCards
import Derived.Test.YtfochmdckacemaaGreatDoorTieZ
import Derived.Test.YtfochmdckacemaaGreatDoorFactsCollsNone
import Derived.Test.YtfochmdckacemaaGreatDoorWitCollsNone
import Derived.Test.YtfochmdckacemaaGreatDoorEvD
import Derived.WalkKit
import Derived.ProofKit
namespace Go.Proofs.YtfochmdckacemaaGreatDoor.collsNone
open Go Go.Ev Go.ChangeShapes Go.WideShapes Go.ChangeAt Go.RowKit

theorem mixed : Tryz.prog.follows .mixedOrders = true := by kernel_rfl
theorem few : Tryz.prog.globals.size ≤ 5000 := of_decide_eq_true (by kernel_rfl)
theorem okA {db now dr : Int} {c v1r v2r : Value} (h1 : now < 0) :
    (Cx.sy Tryz.prog 5000 [.int .i64 db, .int .i64 now, .int .u32 dr, c, v1r, v2r] orcA).Ok := by
  refine Cx.sy_ok mixed ?_
  intro en he
  simp only [orcA, List.mem_cons, List.not_mem_nil, or_false] at he
  subst he
  exact orc_int (x := now) rfl rfl rfl ((op_lss _ _ _).trans (by rw [decide_eq_true ‹_›]))
theorem okB {db now dr : Int} {c v1r v2r : Value} (h1 : ¬ now < 0) (h2 : 9007199254740992 < now) :
    (Cx.sy Tryz.prog 5000 [.int .i64 db, .int .i64 now, .int .u32 dr, c, v1r, v2r] orcB).Ok := by
  refine Cx.sy_ok mixed ?_
  intro en he
  simp only [orcB, List.mem_cons, List.not_mem_nil, or_false] at he
  rcases he with rfl | rfl
  · exact orc_int (x := now) rfl rfl rfl ((op_lss _ _ _).trans (by rw [decide_eq_false ‹_›]))
  · exact orc_int (x := now) rfl rfl rfl ((op_gtr _ _ _).trans (by rw [decide_eq_true ‹_›]))
theorem okC {db now dr : Int} {c v1r v2r : Value} (h1 : ¬ now < 0) (h2 : ¬ 9007199254740992 < now) (h3 : db < 0) :
    (Cx.sy Tryz.prog 5000 [.int .i64 db, .int .i64 now, .int .u32 dr, c, v1r, v2r] orcC).Ok := by
  refine Cx.sy_ok mixed ?_
  intro en he
  simp only [orcC, List.mem_cons, List.not_mem_nil, or_false] at he
  rcases he with rfl | rfl | rfl
  · exact orc_int (x := now) rfl rfl rfl ((op_lss _ _ _).trans (by rw [decide_eq_false ‹_›]))
  · exact orc_int (x := now) rfl rfl rfl ((op_gtr _ _ _).trans (by rw [decide_eq_false ‹_›]))
  · exact orc_int (x := db) rfl rfl rfl ((op_lss _ _ _).trans (by rw [decide_eq_true ‹_›]))
theorem okD {db now dr : Int} {c v1r v2r : Value} (h1 : ¬ now < 0) (h2 : ¬ 9007199254740992 < now) (h3 : ¬ db < 0) :
    (Cx.sy Tryz.prog 5000 [.int .i64 db, .int .i64 now, .int .u32 dr, c, v1r, v2r] orcD).Ok := by
  refine Cx.sy_ok mixed ?_
  intro en he
  simp only [orcD, List.mem_cons, List.not_mem_nil, or_false] at he
  rcases he with rfl | rfl | rfl | rfl
  · exact orc_int (x := now) rfl rfl rfl ((op_lss _ _ _).trans (by rw [decide_eq_false ‹_›]))
  · exact orc_int (x := now) rfl rfl rfl ((op_gtr _ _ _).trans (by rw [decide_eq_false ‹_›]))
  · exact orc_int (x := db) rfl rfl rfl ((op_lss _ _ _).trans (by rw [decide_eq_false ‹_›]))
  · exact orc_int (x := db) rfl rfl rfl ((op_geq _ _ _).trans (by rw [decide_eq_false ‹_›]; rfl))

theorem walk (db now dr : Int) (c v1r v2r : Value) (hc : ∀ x, c ≠ .agg x ∧ c ≠ .tuple x) (W : World) {el0 : TypeId} {fz0 : Nat × Nat} (hw0 : W.heap[2]? = some (.cells #[v1r] el0 fz0)) (ho0 : ∀ x, v1r ≠ .agg x ∧ v1r ≠ .tuple x) {el1 : TypeId} {fz1 : Nat × Nat} (hw1 : W.heap[3]? = some (.cells #[v2r] el1 fz1)) (ho1 : ∀ x, v2r ≠ .agg x ∧ v2r ≠ .tuple x) :
    Calls Tryz.prog 3 #[.agg #[.int .i64 db, .int .i64 now, .int .u32 dr, c]] W fun e w' => e = .returned (.bool true) ∧ Kept W w' := by
  have hl : LRel (globS Tryz.prog.globals.size 5000 [.int .i64 db, .int .i64 now, .int .u32 dr, c, v1r, v2r]) [.agg #[.chan (some 5000), .chan (some 5001), .chan (some 5002), .chan (some 5003)]] [.agg #[.int .i64 db, .int .i64 now, .int .u32 dr, c]] := by
    refine .cons ?_ (.nil _)
    refine sym_agg (b := 5000) few 0 [.int .i64 db, .int .i64 now, .int .u32 dr, c] (fun i hi => ?_) ?_
    · rw [Nat.zero_add]
      exact List.getElem?_append_left (l₂ := [v1r, v2r]) hi
    intro v hv
    simp only [List.mem_cons, List.not_mem_nil, or_false] at hv
    rcases hv with rfl | rfl | rfl | rfl
    · exact fun _ => ⟨by simp, by simp⟩
    · exact fun _ => ⟨by simp, by simp⟩
    · exact fun _ => ⟨by simp, by simp⟩
    · exact hc
  have hr : ∀ x ∈ ([(2, .cells #[v1r] el0 fz0, [.chan (some 5004)]), (3, .cells #[v2r] el1 fz1, [.chan (some 5005)])] : List (Nat × Obj × List Value)), RomIs (globS Tryz.prog.globals.size 5000 [.int .i64 db, .int .i64 now, .int .u32 dr, c, v1r, v2r]) Tryz.prog.globals.size W x := by
    intro x hx
    simp only [List.mem_cons, List.not_mem_nil, or_false] at hx
    rcases hx with rfl | rfl
    · exact rom_iface (b := 5000) (i := 4) few (of_decide_eq_true (by kernel_rfl)) hw0 rfl ho0
    · exact rom_iface (b := 5000) (i := 5) few (of_decide_eq_true (by kernel_rfl)) hw1 rfl ho1
  by_cases h1 : now < 0
  · exact calls_rom (roms := [(2, .cells #[v1r] el0 fz0, [.chan (some 5004)]), (3, .cells #[v2r] el1 fz1, [.chan (some 5005)])]) (okA h1) rfl Tryz.func3 rfl (endOfF_eq .. ▸ runA _ _ _) hl few (Nat.le_refl _) W hr
  by_cases h2 : 9007199254740992 < now
  · exact calls_rom (roms := [(2, .cells #[v1r] el0 fz0, [.chan (some 5004)]), (3, .cells #[v2r] el1 fz1, [.chan (some 5005)])]) (okB h1 h2) rfl Tryz.func3 rfl (endOfF_eq .. ▸ runB _ _ _) hl few (Nat.le_refl _) W hr
  by_cases h3 : db < 0
  · exact calls_rom (roms := [(2, .cells #[v1r] el0 fz0, [.chan (some 5004)]), (3, .cells #[v2r] el1 fz1, [.chan (some 5005)])]) (okC h1 h2 h3) rfl Tryz.func3 rfl (endOfF_eq .. ▸ runC _ _ _) hl few (Nat.le_refl _) W hr
  · exact calls_rom (roms := [(2, .cells #[v1r] el0 fz0, [.chan (some 5004)]), (3, .cells #[v2r] el1 fz1, [.chan (some 5005)])]) (okD h1 h2 h3) rfl Tryz.func3 rfl (endOfF_eq .. ▸ runD _ _ _) hl few (Nat.le_refl _) W hr

theorem cellsT : Tryz.prog.cellTypes Tryz.prog.depth 28 = some [3, 2, 22, 26] := by kernel_rfl
theorem cellsN : Tryz.prog.cellsOf 28 = 4 := by kernel_rfl
theorem out : laidOutB Tryz.prog = true := by kernel_rfl
theorem reads : Tryz.prog.readableRec 28 = true := by kernel_rfl
theorem rowed : 28 < Tryz.prog.types.size := of_decide_eq_true (by kernel_rfl)

set_option maxRecDepth 100000 in
theorem contract (H : Type) (enc : TypeId × Value → H) (W : World) (base : Nat) (args : Array Value) (ds gs : List (DataW H)) (before : List MemPlace)
    (hval : ∀ (j : Nat) t v, Tryz.f3.params[j]? = some t → args[j]? = some v → Value.okWide Tryz.prog W .any base t v)
    (hW : DataW.Whole enc Tryz.prog Tryz.f3.params.toList Rows.collsNoneSpec.vars false W args.toList ds gs before) (hlaid : laidMetH Tryz.prog Rows.collsNoneRow.laid W) :
    Calls Tryz.prog 3 args W fun e W' => ∃ v, e = .returned v ∧ Rows.collsNoneSpec.post enc Tryz.prog Tryz.f3 false true false false W args v W' := by
  have hW' := hW
  obtain ⟨p, q, hA0, hV, rfl, hfz, hnd⟩ := hW
  have hA : DataW.TrodAll enc Tryz.prog W 0 (fun _ => true) true Tryz.f3.params.toList args.toList ds p := hA0
  rw [Tryz.params3] at hA hval
  obtain ⟨v0, vs0, d0, ds0, p0, q0, hargs, rfl, rfl, h0, r0⟩ := trodAll_cons hA
  obtain ⟨rfl, rfl, rfl⟩ := trodAll_nil r0
  obtain rfl : args = #[v0] := by cases args; simp_all
  obtain ⟨rfl, rfl⟩ := trodVars_none hV
  obtain ⟨cs, rfl, hsz, hrow⟩ := structCells Tryz.underlying28 (hval 0 28 v0 rfl rfl)
  rw [cellsN] at hsz
  obtain ⟨v1, e1, c1⟩ := okWide_cell hrow cellsT hsz (i := 0) rfl
  obtain ⟨v2, e2, c2⟩ := okWide_cell hrow cellsT hsz (i := 1) rfl
  obtain ⟨v3, e3, c3⟩ := okWide_cell hrow cellsT hsz (i := 2) rfl
  obtain ⟨v4, e4, c4⟩ := okWide_cell hrow cellsT hsz (i := 3) rfl
  obtain ⟨db, rfl, _⟩ := cell_int Tryz.underlying3 c1
  obtain ⟨now, rfl, _⟩ := cell_int Tryz.underlying2 c2
  obtain ⟨dr, rfl, _⟩ := cell_int Tryz.underlying22 c3
  obtain rfl : cs = #[.int .i64 db, .int .i64 now, .int .u32 dr, v4] := arr_of hsz fun i hi => by
    match i, hi with
    | 0, _ => exact e1
    | 1, _ => exact e2
    | 2, _ => exact e3
    | 3, _ => exact e4
    | n + 4, h => exact absurd h (by simp)
  clear hA0 hA
  simp only [List.append_nil] at hW'
  have hlt : ∀ x ∈ p0, x.block < W.heap.size := hW'.lt
  obtain ⟨v1r, el0, fz0, hw0, ho0⟩ := laid_iface hlaid (by kernel_rfl) (k := 3) rfl (g := 2) (by kernel_rfl) (t := 186) (by kernel_rfl) Tryz.underlying186
  obtain ⟨v2r, el1, fz1, hw1, ho1⟩ := laid_iface hlaid (by kernel_rfl) (k := 4) rfl (g := 3) (by kernel_rfl) (t := 186) (by kernel_rfl) Tryz.underlying186
  refine (walk db now dr v4 v1r v2r (cell_one c4) W hw0 ho0 hw1 ho1).mono fun e W' ⟨he, hk⟩ => ?_
  subst he
  exact ⟨_, rfl, post_of_kept (pa := p0) (pv := []) hW' (fun _ _ _ => trodAll_cons_mk (shut_bool Tryz.underlying4 _) trodAll_mk0)
    (fun sp hsp => trodAll_mk1 (hk.trod out reads rowed h0 hlt fun x hx => hsp x hx)) (fun _ _ => rfl) (List.append_nil _).symm hk (ok_one (by kernel_rfl) rfl (okWide_bool_mk Tryz.underlying4 _))⟩


set_option maxRecDepth 100000 in
theorem lifted (os : Os) (started : os.Started) (H : Type) (enc : TypeId × Value → H) (F : Stop.Interp) :
    ReturnsInHanded {} Tryz.checked os 3 .any ((OpenSpec.ofChange Rows.collsNoneSpec).preRow enc Tryz.prog Tryz.f3 Rows.collsNoneRow.domain false Rows.collsNoneRow.laid) (((OpenSpec.ofChange Rows.collsNoneSpec).at F).post enc Tryz.prog Tryz.f3 false true false false) := by
  obtain ⟨places, hx⟩ := readsAt os enc
  refine returnsInHanded_of_row (C := Tryz.checked) (s := OpenSpec.ofChange Rows.collsNoneSpec) own started noInit Tryz.func3
    (witness_shaped (enc := enc) (C := Tryz.checked) false (doorAt Tryz.prog 400 620 os) wargs rfl (shaped_of_fast (witV os) (witR os)) (witOk os)
      (OpenSpec.preRow_of_cond 8 hx (by kernel_rfl) (fun k hk => by cases hk) (witSz os enc) (door_met os wargs))) ?_
  intro W base args ds gs before hval hW _ _ _ hl _ _
  exact contract H enc W base args ds gs before hval hW hl

theorem isInst : Tryz.f3.isInstance Tryz.prog Rows.collsNoneRow.origin Rows.collsNoneRow.targs := of_decide_eq_true (by kernel_rfl)
theorem isWrap : Tryz.f3.isWrapper Tryz.prog Rows.collsNoneRow.wrapper Rows.collsNoneRow.mainSum := by unfold Func.isWrapper; first | (rw [if_pos (by decide +kernel)]; kernel_rfl) | (rw [if_neg (by decide +kernel)]; exact ⟨rfl, rfl⟩)
theorem said : Rows.CollsNoneSaid :=
  OpenClaim.holds_of_cond 3 Tryz.f3 rfl rfl rfl rfl rfl rfl rfl ⟨rfl, rfl, rfl, rfl, rfl⟩ rfl rfl rfl rfl rfl named Tryz.func3 facts isInst isWrap
    (fun os started H enc _ F => by rw [OpenClaim.pre_eq_preRow]; exact lifted os started H enc F)

theorem plain (f : FuncId) (fn : Func) (hf : Tryz.pinned.checked.prog.funcNamed "stillroom/stillroomlaw21.CollsNone" = some f) (hfn : Tryz.pinned.checked.prog.funcs[f]? = some fn) :
    true = Tryz.pinned.checked.prog.looks [] ∧ ∀ (j : Nat) t, fn.params[j]? = some t → Tryz.pinned.checked.prog.wantsStandIn t = false := by
  obtain rfl : f = 3 := Option.some.inj (named.symm.trans hf) |>.symm
  obtain rfl : fn = Tryz.f3 := (Option.some.inj (Tryz.func3.symm.trans hfn)).symm
  refine ⟨looked, fun j t ht => ?_⟩
  rw [Tryz.params3] at ht
  have ht' := Array.mem_of_getElem? ht
  simp only [List.mem_toArray, List.mem_cons, List.not_mem_nil, or_false] at ht'
  subst ht'
  exact noStandIn0

theorem rowTie : Rows.collsNoneRow.laidByTextAt .later Tryz.pinned [.data, .data, .data, .sentinel, .sentinel] true := OpenClaim.laidByTextAt_later rfl rfl tieWhole noOwnUns
theorem card : Rows.CollsNoneCardSaid :=
  Claim7.holds_tied_plain_at .later [] _ _ _ _ said (fun _ h => by cases h) wfb (fun _ h => by cases h) rowTie rfl ⟨rfl, rfl⟩ mainIs rfl plain goesBy
end Go.Proofs.YtfochmdckacemaaGreatDoor.collsNone
namespace Go.Proofs.YtfochmdckacemaaGreatDoor
/-- The card. -/
theorem collsNoneHolds : Rows.CollsNoneCardSaid := collsNone.card
end Go.Proofs.YtfochmdckacemaaGreatDoor
