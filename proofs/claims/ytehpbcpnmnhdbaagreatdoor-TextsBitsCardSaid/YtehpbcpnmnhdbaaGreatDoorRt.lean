/-
  TextsBits at any string, any two places and either bit.
-/
import Derived.Test.YtehpbcpnmnhdbaaGreatDoorRc
import Derived.Test.YtehpbcpnmnhdbaaGreatDoorRd
import Derived.Test.YtehpbcpnmnhdbaaGreatDoorRe
import Derived.Test.YtehpbcpnmnhdbaaGreatDoorRf
import Derived.Test.YtehpbcpnmnhdbaaGreatDoorRg
import Derived.Test.YtehpbcpnmnhdbaaGreatDoorRh
import Derived.Test.YtehpbcpnmnhdbaaGreatDoorRy
set_option linter.all false
namespace Go.Proofs.YtehpbcpnmnhdbaaGreatDoor
open Go Go.Ev Go.RowKit

theorem few : Tryz.prog.globals.size ≤ 5000 := of_decide_eq_true (by kernel_rfl)

/-- The unknown values. -/
def vals (v : ByteArray) (a o : Nat) (one : Bool) : List Value := [.string v, .int .u16 a, .bool one, .int .u16 o, .int .i64 a, .int .i64 o, .string (itxt a), .string (itxt o), .int .i64 v.size, .int .i64 (itxt a).size, .int .i64 (itxt o).size,
  .string (setB v a one), .int .i64 (setB v a one).size, .bool true, .int .i64 (hasB v o), .int .i64 (hasB v a)]

section
variable {X : Cx} (hP : X.P = Tryz.prog) {i j : Nat}
include hP
theorem is_leq {x : Int} {m : Int} {r : Bool} (hi : X.sym (5000 + i) = some (.int .i64 x)) (h : decide (x ≤ m) = r) : OrcOk X ⟨.leq, 3, sy i, .int .i64 m, r⟩ := by
  refine cmp_ok hP (va := .int .i64 x) (vb := .int .i64 m) (fun ρ hg a ha => sy_get hg hi ha) (fun ρ _ b hb => closed_eq hb rfl) (fun _ _ => rfl) rfl rfl ?_
  show intOp .leq .i64 _ _ = _
  rw [op_leq, ← h]
  by_cases hq : x ≤ m
  · rw [decide_eq_false (by omega), decide_eq_true hq]; rfl
  · rw [decide_eq_true (by omega), decide_eq_false hq]; rfl
theorem is_gtr {x : Int} {m : Int} {r : Bool} (hi : X.sym (5000 + i) = some (.int .i64 x)) (h : decide (m < x) = r) : OrcOk X ⟨.gtr, 3, sy i, .int .i64 m, r⟩ := by
  refine cmp_ok hP (va := .int .i64 x) (vb := .int .i64 m) (fun ρ hg a ha => sy_get hg hi ha) (fun ρ _ b hb => closed_eq hb rfl) (fun _ _ => rfl) rfl rfl ?_
  show intOp .gtr .i64 _ _ = _
  rw [op_gtr, ← h]
theorem is_geq2 {x : Int} {m : Int} {r : Bool} (hi : X.sym (5000 + i) = some (.int .i64 x)) (h : decide (m ≤ x) = r) : OrcOk X ⟨.geq, 2, sy i, .int .i64 m, r⟩ := by
  refine cmp_ok hP (va := .int .i64 x) (vb := .int .i64 m) (fun ρ hg a ha => sy_get hg hi ha) (fun ρ _ b hb => closed_eq hb rfl) (fun _ _ => rfl) rfl rfl ?_
  show intOp .geq .i64 _ _ = _
  rw [op_geq, ← h]
  by_cases hq : m ≤ x
  · rw [decide_eq_false (by omega), decide_eq_true hq]; rfl
  · rw [decide_eq_true (by omega), decide_eq_false hq]; rfl
theorem is_lss2 {x : Int} {m : Int} {r : Bool} (hi : X.sym (5000 + i) = some (.int .i64 x)) (h : decide (x < m) = r) : OrcOk X ⟨.lss, 2, sy i, .int .i64 m, r⟩ := by
  refine cmp_ok hP (va := .int .i64 x) (vb := .int .i64 m) (fun ρ hg a ha => sy_get hg hi ha) (fun ρ _ b hb => closed_eq hb rfl) (fun _ _ => rfl) rfl rfl ?_
  show intOp .lss .i64 _ _ = _
  rw [op_lss, ← h]
theorem same_text {s : ByteArray} (hi : X.sym (5000 + i) = some (.string s)) : OrcOk X ⟨.neq, 9, sy i, sy i, false⟩ := by
  refine cmp_ok hP (va := .string s) (vb := .string s) (fun ρ hg a ha => sy_get hg hi ha) (fun ρ hg b hb => sy_get hg hi hb) (fun _ _ => rfl) rfl rfl ?_
  show strOp .neq s s = _
  have : eqB s.data.toList s.data.toList = true := by rw [eqB_eq]; simp
  simp [strOp, this]
theorem no_text {s : ByteArray} {r : Bool} (hi : X.sym (5000 + i) = some (.string s)) (h : decide (s.size = 0) = r) : OrcOk X ⟨.eql, 9, sy i, .string ⟨#[]⟩, r⟩ := by
  refine cmp_ok hP (va := .string s) (vb := .string ⟨#[]⟩) (fun ρ hg a ha => sy_get hg hi ha) (fun ρ hg b hb => closed_eq hb rfl) (fun _ _ => rfl) rfl rfl ?_
  show strOp .eql s ⟨#[]⟩ = _
  have : eqB s.data.toList [] = r := by
    rw [eqB_eq, ← h]
    have e : s.size = s.data.toList.length := by simp
    rw [e]
    cases s.data.toList <;> simp
  simp [strOp, this]
theorem same_int {x : Int} (hi : X.sym (5000 + i) = some (.int .i64 x)) : OrcOk X ⟨.eql, 2, sy i, sy i, true⟩ := by
  refine cmp_ok hP (va := .int .i64 x) (vb := .int .i64 x) (fun ρ hg a ha => sy_get hg hi ha) (fun ρ hg b hb => sy_get hg hi hb) (fun _ _ => rfl) rfl rfl ?_
  show some (Value.bool (intEq x x)) = _
  rw [intEq_eq]; simp
theorem eq_u16 {x y : Int} {r : Bool} (hi : X.sym (5000 + i) = some (.int .u16 x)) (hj : X.sym (5000 + j) = some (.int .u16 y)) (h : (x == y) = r) : OrcOk X ⟨.eql, 22, sy i, sy j, r⟩ := by
  refine cmp_ok hP (va := .int .u16 x) (vb := .int .u16 y) (fun ρ hg a ha => sy_get hg hi ha) (fun ρ hg b hb => sy_get hg hj hb) (fun _ _ => rfl) rfl rfl ?_
  show some (Value.bool (intEq x y)) = _
  rw [intEq_eq, h]
theorem has_ok {v : ByteArray} {n : Nat} {r : Value} (hi : X.sym (5000 + i) = some (.string v)) (hj : X.sym (5000 + j) = some (.int .i64 n)) (hn : n < 65536) (hv : v.size ≤ 65536) (hr : ∀ ρ, GRel X ρ → VRel ρ r (.int .i64 (hasB v n))) : OrfOk X ⟨99, [sy i, sy j], none, r⟩ := by
  refine ⟨⟨Tryz.f99, _, by rw [hP]; exact Tryz.func99, rfl, rfl⟩, ?_⟩
  intro ρ hg w as' hl hrom
  obtain ⟨a, as2, rfl, ha, hl⟩ := hl.uncons
  obtain ⟨b, as3, rfl, hb, hl⟩ := hl.uncons
  obtain rfl := hl.unnil
  obtain rfl := sy_get hg hi ha
  obtain rfl := sy_get hg hj hb
  rw [hP]
  refine (has_row v n w hn (by omega)).mono ?_
  rintro e w' ⟨rfl, rfl⟩
  exact ⟨_, rfl, hr ρ hg, Below.refl _ _⟩
end

theorem c9 : ∀ s, convA base 9 136 (.string s) = some (.string s) := fun s => by kernel_rfl
theorem c136 : ∀ s, convA base 136 9 (.string s) = some (.string s) := fun s => by kernel_rfl
theorem ci22 : ∀ y, convA base 22 2 (.int .u16 y) = some (.int .i64 (wrapF .i64 y)) := fun y => by kernel_rfl
theorem ci23 : ∀ y, convA base 2 3 (.int .i64 y) = some (.int .i64 (wrapF .i64 y)) := fun y => by kernel_rfl
theorem ci32 : ∀ y, convA base 3 2 (.int .i64 y) = some (.int .i64 (wrapF .i64 y)) := fun y => by kernel_rfl

theorem hasB_lt (v : ByteArray) (n : Nat) : hasB v n < 2 := Nat.mod_lt _ (by omega)

theorem okX {v : ByteArray} {a o : Nat} {one : Bool} (h1 : ¬ v.size = 0) (h2 : v.size ≤ 2000) (ha : a < 65536) (ho : o < 65536) : (XX one (a == o) (vals v a o one)).Ok := by
  have ia : In64 (a : Int) := by unfold In64; omega
  have io : In64 (o : Int) := by unfold In64; omega
  have hz : (setB v a one).size ≤ 65536 := by rw [setB_size]; omega
  have sa := itxt_size a ia.1 ia.2
  have so := itxt_size o io.1 io.2
  have i14 : In64 (hasB v o : Int) := by have := hasB_lt v o; unfold In64; omega
  have i15 : In64 (hasB v a : Int) := by have := hasB_lt v a; unfold In64; omega
  refine Cx.sx_okG mixed (fun en he => ?_) (fun en he => ?_) (fun en he => ?_) (fun en he => ?_)
  · simp only [orcs, List.mem_cons, List.not_mem_nil, or_false] at he
    rcases he with rfl | rfl | rfl | rfl | rfl | rfl | rfl | rfl | rfl | rfl | rfl | rfl | rfl | rfl | rfl
    · exact no_text rfl rfl (by simpa using h1)
    · exact is_gtr rfl rfl (decide_eq_false (by omega))
    · exact is_leq rfl rfl (decide_eq_true (by omega))
    · exact is_gtr rfl rfl (decide_eq_false (by omega))
    · exact is_gtr rfl rfl (decide_eq_false (by omega))
    · exact is_leq rfl rfl (decide_eq_true (by omega))
    · exact same_text rfl rfl
    · exact same_text rfl rfl
    · exact is_geq2 rfl rfl (decide_eq_true (by omega))
    · exact is_lss2 rfl rfl (decide_eq_true (by omega))
    · exact is_geq2 rfl rfl (decide_eq_true (by omega))
    · exact is_lss2 rfl rfl (decide_eq_true (by omega))
    · exact same_int rfl rfl
    · exact same_int rfl rfl
    · refine eq_u16 rfl rfl rfl ?_
      by_cases h : a = o
      · subst h; simp
      · rw [beq_eq_false_iff_ne.2 h, beq_eq_false_iff_ne.2 (by omega)]
  · simp only [orvs, List.mem_cons, List.not_mem_nil, or_false] at he
    rcases he with rfl | rfl | rfl | rfl | rfl | rfl | rfl | rfl | rfl | rfl | rfl | rfl | rfl | rfl
    · exact len_ok rfl rfl rfl
    · exact len_ok rfl rfl rfl
    · exact len_ok rfl rfl rfl
    · exact len_ok rfl rfl rfl
    · exact ci_ok rfl ci22 (wrap_in ia) rfl rfl
    · exact ci_ok rfl ci22 (wrap_in io) rfl rfl
    · exact ci_ok rfl ci23 (wrap_in ia) rfl rfl
    · exact ci_ok rfl ci23 (wrap_in io) rfl rfl
    · exact ci_ok rfl ci32 (wrap_in i14) rfl rfl
    · exact ci_ok rfl ci32 (wrap_in i15) rfl rfl
    · exact cs_ok rfl c9 rfl
    · exact cs_ok rfl c136 rfl
    · exact cs_ok rfl c9 rfl
    · exact cs_ok rfl c136 rfl
  · simp only [orfs, List.mem_cons, List.not_mem_nil, or_false] at he
    rcases he with rfl | rfl | rfl | rfl | rfl | rfl | rfl | rfl
    · exact fi_ok rfl rfl rfl ia
    · exact fi_ok rfl rfl rfl io
    · exact pi_ok rfl rfl rfl ia
    · exact pi_ok rfl rfl rfl io
    · exact has_ok rfl rfl rfl ho (by omega) (fun ρ hg => sy_mk hg rfl (fun c => ⟨by simp, by simp⟩))
    · exact has_ok rfl rfl rfl ha (by omega) (fun ρ hg => sy_mk hg rfl (fun c => ⟨by simp, by simp⟩))
    · refine has_ok rfl rfl rfl ha hz (fun ρ hg => ?_)
      rw [has_set]
      cases one <;> exact .int _ _
    · refine has_ok rfl rfl rfl ho hz (fun ρ hg => ?_)
      by_cases h : a = o
      · subst h
        rw [has_set]
        simp only [BEq.rfl, cond_true]
        cases one <;> exact .int _ _
      · rw [has_other _ _ _ _ h, beq_eq_false_iff_ne.2 h, cond_false]
        exact sy_mk hg rfl (fun c => ⟨by simp, by simp⟩)
  · simp only [orgs, List.mem_cons, List.not_mem_nil, or_false] at he
    subst he
    exact setbit_ok rfl one ha h2 rfl rfl rfl rfl (of_decide_eq_true (by kernel_rfl) : 0 < Tryz.prog.globals.size)

theorem okE {v : ByteArray} {a o : Nat} {one : Bool} (h1 : v.size = 0) : (XE (vals v a o one)).Ok := by
  refine Cx.sx_ok mixed (fun en he => ?_) (fun en he => ?_) (fun en he => ?_)
  · simp only [List.mem_cons, List.not_mem_nil, or_false] at he
    subst he
    exact no_text rfl rfl (by simpa using h1)
  · cases he
  · cases he
theorem okL {v : ByteArray} {a o : Nat} {one : Bool} (h1 : ¬ v.size = 0) (h2 : ¬ v.size ≤ 2000) : (XL (vals v a o one)).Ok := by
  refine Cx.sx_ok mixed (fun en he => ?_) (fun en he => ?_) (fun en he => ?_)
  · simp only [List.mem_cons, List.not_mem_nil, or_false] at he
    rcases he with rfl | rfl
    · exact no_text rfl rfl (by simpa using h1)
    · exact is_gtr rfl rfl (decide_eq_true (by omega))
  · simp only [List.mem_cons, List.not_mem_nil, or_false] at he
    subst he
    exact len_ok rfl rfl rfl
  · cases he

theorem bits_row (v : ByteArray) (a o : Nat) (one : Bool) (ha : a < 65536) (ho : o < 65536) (W : World) (htab : Lib.TabIs Tryz.prog W "internal/strconv.uint64pow10" .u64 Lib.pow10Tab) :
    Calls Tryz.prog 3 #[.agg #[.string v, .int .u16 a, .bool one, .int .u16 o]] W fun e w' => e = .returned (.bool true) ∧ Kept W w' := by
  have hrom : ∃ el fz, W.heap[0]? = some (.cells pow.toArray el fz) := by
    unfold Lib.TabIs World.var? at htab
    rw [pow_global, pow_is] at htab
    simp only [Option.bind_some] at htab
    split at htab
    · rename_i cs el fz hc
      cases htab
      exact ⟨el, fz, hc⟩
    · cases htab
  obtain ⟨el, fz, h0⟩ := hrom
  have hpos : 0 < Tryz.prog.globals.size := of_decide_eq_true (by kernel_rfl)
  have hall : pow.all clos = true := by kernel_rfl
  have hr : ∀ x ∈ ([(0, .cells pow.toArray el fz, pow)] : List (Nat × Obj × List Value)), RomIs (globS Tryz.prog.globals.size 5000 (vals v a o one)) Tryz.prog.globals.size W x := by
    intro x hx
    simp only [List.mem_cons, List.not_mem_nil, or_false] at hx
    subst hx
    refine ⟨hpos, h0, pow.toArray, el, fz, ⟨rfl, by simp⟩, fun i v hv => ⟨v, by simpa using hv, clos_rel _ (List.all_eq_true.1 hall v (List.mem_of_getElem? hv))⟩⟩
  have s0 : VRel (globS Tryz.prog.globals.size 5000 (vals v a o one)) (sy 0) (.string v) := sym_rel (i := 0) few rfl (fun c => ⟨by simp, by simp⟩)
  have s1 : VRel (globS Tryz.prog.globals.size 5000 (vals v a o one)) (sy 1) (.int .u16 a) := sym_rel (i := 1) few rfl (fun c => ⟨by simp, by simp⟩)
  have s2 : VRel (globS Tryz.prog.globals.size 5000 (vals v a o one)) (sy 2) (.bool one) := sym_rel (i := 2) few rfl (fun c => ⟨by simp, by simp⟩)
  have s3 : VRel (globS Tryz.prog.globals.size 5000 (vals v a o one)) (sy 3) (.int .u16 o) := sym_rel (i := 3) few rfl (fun c => ⟨by simp, by simp⟩)
  have hl : LRel (globS Tryz.prog.globals.size 5000 (vals v a o one)) [.agg #[sy 0, sy 1, sy 2, sy 3]] [.agg #[.string v, .int .u16 a, .bool one, .int .u16 o]] :=
    .cons (.aggA (LRel.arr (.cons s0 (.cons s1 (.cons s2 (.cons s3 (.nil _))))))) (.nil _)
  have hl2 : LRel (globS Tryz.prog.globals.size 5000 (vals v a o one)) [.agg #[sy 0, sy 1, .bool one, sy 3]] [.agg #[.string v, .int .u16 a, .bool one, .int .u16 o]] :=
    .cons (.aggA (LRel.arr (.cons s0 (.cons s1 (.cons (.bool _) (.cons s3 (.nil _))))))) (.nil _)
  by_cases h1 : v.size = 0
  · exact calls_rom_sx (roms := [(0, .cells pow.toArray el fz, pow)]) (okE h1) rfl Tryz.func3 rfl (runE (vals v a o one) _) hl few (Nat.le_refl _) W hr
  by_cases h2 : v.size ≤ 2000
  · have ok := okX (one := one) h1 h2 ha ho
    cases hs : (a == o) <;> rw [hs] at ok <;> cases one
    · exact calls_rom_sx (roms := [(0, .cells pow.toArray el fz, pow)]) ok rfl Tryz.func3 rfl (runff (vals v a o false) _) hl2 few (Nat.le_refl _) W hr
    · exact calls_rom_sx (roms := [(0, .cells pow.toArray el fz, pow)]) ok rfl Tryz.func3 rfl (runtf (vals v a o true) _) hl2 few (Nat.le_refl _) W hr
    · exact calls_rom_sx (roms := [(0, .cells pow.toArray el fz, pow)]) ok rfl Tryz.func3 rfl (runft (vals v a o false) _) hl2 few (Nat.le_refl _) W hr
    · exact calls_rom_sx (roms := [(0, .cells pow.toArray el fz, pow)]) ok rfl Tryz.func3 rfl (runtt (vals v a o true) _) hl2 few (Nat.le_refl _) W hr
  · exact calls_rom_sx (roms := [(0, .cells pow.toArray el fz, pow)]) (okL h1 h2) rfl Tryz.func3 rfl (runL (vals v a o one) _) hl few (Nat.le_refl _) W hr

end Go.Proofs.YtehpbcpnmnhdbaaGreatDoor
