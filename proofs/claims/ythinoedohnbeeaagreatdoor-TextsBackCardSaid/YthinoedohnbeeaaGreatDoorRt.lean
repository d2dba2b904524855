/-
  TextsBack at any two numbers.
-/
import Derived.Test.YthinoedohnbeeaaGreatDoorRc
import Derived.Test.YthinoedohnbeeaaGreatDoorRd
import Derived.Test.YthinoedohnbeeaaGreatDoorRe
import Derived.Test.YthinoedohnbeeaaGreatDoorRs
set_option linter.all false
namespace Go.Proofs.YthinoedohnbeeaaGreatDoor
open Go Go.Ev Go.RowKit

theorem few : Tryz.prog.globals.size ≤ 5000 := of_decide_eq_true (by kernel_rfl)

/-- The unknown values: the numbers, their texts, the texts' lengths. -/
def vals (m n : Int) : List Value := [.int .i64 m, .int .i64 n, .string (itxt m), .string (itxt n), .int .i64 (m + n), .string (itxt (m + n)), .int .i64 (-n), .string (itxt (-n)), .int .i64 (itxt m).size, .int .i64 (itxt n).size, .int .i64 (itxt (m + n)).size, .int .i64 (itxt (-n)).size]

section
variable {X : Cx} (hP : X.P = Tryz.prog) {i j : Nat}
include hP
theorem short_le {x : Int} (hi : X.sym (5000 + i) = some (.int .i64 (itxt x).size)) (hx : In64 x) : OrcOk X ⟨.leq, 3, sy i, .int .i64 65536, true⟩ := by
  have h := itxt_size x hx.1 hx.2
  refine cmp_ok hP (va := .int .i64 (itxt x).size) (vb := .int .i64 65536) (fun ρ hg a ha => sy_get hg hi ha) (fun ρ _ b hb => closed_eq hb rfl) (fun _ _ => rfl) rfl rfl ?_
  show intOp .leq .i64 _ _ = _
  rw [op_leq, decide_eq_false (by omega)]; rfl
theorem short_gt {x : Int} (hi : X.sym (5000 + i) = some (.int .i64 (itxt x).size)) (hx : In64 x) : OrcOk X ⟨.gtr, 3, sy i, .int .i64 65536, false⟩ := by
  have h := itxt_size x hx.1 hx.2
  refine cmp_ok hP (va := .int .i64 (itxt x).size) (vb := .int .i64 65536) (fun ρ hg a ha => sy_get hg hi ha) (fun ρ _ b hb => closed_eq hb rfl) (fun _ _ => rfl) rfl rfl ?_
  show intOp .gtr .i64 _ _ = _
  rw [op_gtr, decide_eq_false (by omega)]
theorem same_text {s : ByteArray} (hi : X.sym (5000 + i) = some (.string s)) : OrcOk X ⟨.neq, 9, sy i, sy i, false⟩ := by
  refine cmp_ok hP (va := .string s) (vb := .string s) (fun ρ hg a ha => sy_get hg hi ha) (fun ρ hg b hb => sy_get hg hi hb) (fun _ _ => rfl) rfl rfl ?_
  show strOp .neq s s = _
  have : eqB s.data.toList s.data.toList = true := by rw [eqB_eq]; simp
  simp [strOp, this]
theorem same_int {x : Int} (hi : X.sym (5000 + i) = some (.int .i64 x)) : OrcOk X ⟨.eql, 2, sy i, sy i, true⟩ := by
  refine cmp_ok hP (va := .int .i64 x) (vb := .int .i64 x) (fun ρ hg a ha => sy_get hg hi ha) (fun ρ hg b hb => sy_get hg hi hb) (fun _ _ => rfl) rfl rfl ?_
  show some (Value.bool (intEq x x)) = _
  rw [intEq_eq]; simp
theorem least {x : Int} {r : Bool} (hi : X.sym (5000 + i) = some (.int .i64 x)) (hr : (x == -9223372036854775808) = r) : OrcOk X ⟨.eql, 2, sy i, .int .i64 (-9223372036854775808), r⟩ := by
  refine cmp_ok hP (va := .int .i64 x) (vb := .int .i64 (-9223372036854775808)) (fun ρ hg a ha => sy_get hg hi ha) (fun ρ _ b hb => closed_eq hb rfl) (fun _ _ => rfl) rfl rfl ?_
  show some (Value.bool (intEq x _)) = _
  rw [intEq_eq, hr]
end

theorem c9 : ∀ s, convA base 9 130 (.string s) = some (.string s) := fun s => by kernel_rfl
theorem c130 : ∀ s, convA base 130 9 (.string s) = some (.string s) := fun s => by kernel_rfl

theorem okX {m n : Int} (hm : In64 m) (hn : In64 n) (h : n ≠ -9223372036854775808) (hs : In64 (m + n)) : (XX (vals m n)).Ok := by
  have hn' : In64 (-n) := by unfold In64 at hn ⊢; omega
  refine Cx.sx_ok mixed (fun en he => ?_) (fun en he => ?_) (fun en he => ?_)
  · simp only [orcs, List.mem_cons, List.not_mem_nil, or_false] at he
    rcases he with rfl | rfl | rfl | rfl | rfl | rfl | rfl | rfl | rfl | rfl | rfl
    · exact least rfl rfl (by simpa using h)
    · exact short_le rfl rfl hm
    · exact short_gt rfl rfl hn
    · exact short_le rfl rfl hs
    · exact short_gt rfl rfl hn'
    · exact same_text rfl rfl
    · exact same_text rfl rfl
    · exact same_text rfl rfl
    · exact same_text rfl rfl
    · exact same_int rfl rfl
    · exact same_int rfl rfl
  · simp only [orvs, List.mem_cons, List.not_mem_nil, or_false] at he
    rcases he with rfl | rfl | rfl | rfl | rfl | rfl | rfl | rfl | rfl | rfl | rfl
    · exact len_ok rfl rfl rfl
    · exact len_ok rfl rfl rfl
    · exact len_ok rfl rfl rfl
    · exact len_ok rfl rfl rfl
    · exact un_ok rfl rfl rfl hn'
    · exact cs_ok rfl c9 rfl
    · exact cs_ok rfl c130 rfl
    · exact cs_ok rfl c9 rfl
    · exact cs_ok rfl c130 rfl
    · exact ci_ok rfl hs rfl
    · exact ci_ok rfl hm rfl
  · simp only [orfs, List.mem_cons, List.not_mem_nil, or_false] at he
    rcases he with rfl | rfl | rfl | rfl | rfl | rfl | rfl | rfl | rfl | rfl
    · exact fi_ok rfl rfl rfl hm
    · exact fi_ok rfl rfl rfl hn
    · exact fi_ok rfl rfl rfl hs
    · exact fi_ok rfl rfl rfl hn'
    · exact pi_ok rfl rfl rfl hm
    · exact pi_ok rfl rfl rfl hn
    · exact pi_ok rfl rfl rfl hs
    · exact pi_ok rfl rfl rfl hn'
    · exact ad_ok rfl rfl rfl rfl hm hn hs
    · exact ad_ok rfl (a := m + n) (b := -n) rfl rfl (by show some (Value.int .i64 m) = _; rw [show m + n + -n = m by omega]) hs hn' (by rw [show m + n + -n = m by omega]; exact hm)

theorem okM {m n : Int} (hm : In64 m) (h : n = -9223372036854775808) : (XM (vals m n)).Ok := by
  refine Cx.sx_ok mixed (fun en he => ?_) (fun en he => ?_) (fun en he => ?_)
  · simp only [orcsM, List.mem_cons, List.not_mem_nil, or_false] at he
    rcases he with rfl | rfl
    · exact least rfl rfl (by simpa using h)
    · exact short_le rfl rfl hm
  · simp only [orvsM, List.mem_cons, List.not_mem_nil, or_false] at he
    rcases he with rfl | rfl | rfl
    · exact len_ok rfl rfl rfl
    · exact cs_ok rfl c9 rfl
    · exact cs_ok rfl c130 rfl
  · simp only [orfsM, List.mem_cons, List.not_mem_nil, or_false] at he
    subst he
    exact fi_ok rfl rfl rfl hm

theorem okO {m n : Int} (hm : In64 m) (hn : In64 n) (h : n ≠ -9223372036854775808) (hs : ¬ In64 (m + n)) : (XO (vals m n)).Ok := by
  refine Cx.sx_ok mixed (fun en he => ?_) (fun en he => ?_) (fun en he => ?_)
  · simp only [orcsO, List.mem_cons, List.not_mem_nil, or_false] at he
    rcases he with rfl | rfl | rfl | rfl | rfl
    · exact least rfl rfl (by simpa using h)
    · exact short_le rfl rfl hm
    · exact short_gt rfl rfl hn
    · exact same_text rfl rfl
    · exact same_text rfl rfl
  · simp only [orvsO, List.mem_cons, List.not_mem_nil, or_false] at he
    rcases he with rfl | rfl | rfl | rfl
    · exact len_ok rfl rfl rfl
    · exact len_ok rfl rfl rfl
    · exact cs_ok rfl c9 rfl
    · exact cs_ok rfl c130 rfl
  · simp only [orfsO, List.mem_cons, List.not_mem_nil, or_false] at he
    rcases he with rfl | rfl | rfl | rfl | rfl
    · exact fi_ok rfl rfl rfl hm
    · exact fi_ok rfl rfl rfl hn
    · exact pi_ok rfl rfl rfl hm
    · exact pi_ok rfl rfl rfl hn
    · exact ad_over rfl rfl rfl hm hn hs

theorem back_row (m n : Int) (hm : In64 m) (hn : In64 n) (W : World) (htab : Lib.TabIs Tryz.prog W "internal/strconv.uint64pow10" .u64 Lib.pow10Tab) :
    Calls Tryz.prog 3 #[.int .i64 m, .int .i64 n] W fun e w' => e = .returned (.bool true) ∧ Kept W w' := by
  have hrom : ∃ el fz, W.heap[0]? = some (.cells pow.toArray el fz) := by
    unfold Lib.TabIs World.var? at htab
    rw [pow_global, pow_is] at htab
    simp only [Option.bind_some] at htab
    split at htab
    · rename_i cs el fz hc
      cases htab
      exact ⟨el, fz, hc⟩
    · cases htab
  obtain ⟨el, fz, h0⟩ := hrom
  have hpos : 0 < Tryz.prog.globals.size := of_decide_eq_true (by kernel_rfl)
  have hall : pow.all clos = true := by kernel_rfl
  have hr : ∀ x ∈ ([(0, .cells pow.toArray el fz, pow)] : List (Nat × Obj × List Value)), RomIs (globS Tryz.prog.globals.size 5000 (vals m n)) Tryz.prog.globals.size W x := by
    intro x hx
    simp only [List.mem_cons, List.not_mem_nil, or_false] at hx
    subst hx
    refine ⟨hpos, h0, pow.toArray, el, fz, ⟨rfl, by simp⟩, fun i v hv => ⟨v, by simpa using hv, clos_rel _ (List.all_eq_true.1 hall v (List.mem_of_getElem? hv))⟩⟩
  have hl : LRel (globS Tryz.prog.globals.size 5000 (vals m n)) [sy 0, sy 1] [.int .i64 m, .int .i64 n] :=
    .cons (sym_rel (i := 0) few rfl (fun c => ⟨by simp, by simp⟩)) (.cons (sym_rel (i := 1) few rfl (fun c => ⟨by simp, by simp⟩)) (.nil _))
  by_cases h : n = -9223372036854775808
  · exact calls_rom_sx (roms := [(0, .cells pow.toArray el fz, pow)]) (okM hm h) rfl Tryz.func3 rfl (runM (vals m n) _) hl few (Nat.le_refl _) W hr
  by_cases hs : In64 (m + n)
  · exact calls_rom_sx (roms := [(0, .cells pow.toArray el fz, pow)]) (okX hm hn h hs) rfl Tryz.func3 rfl (runX (vals m n) _) hl few (Nat.le_refl _) W hr
  · exact calls_rom_sx (roms := [(0, .cells pow.toArray el fz, pow)]) (okO hm hn h hs) rfl Tryz.func3 rfl (runO (vals m n) _) hl few (Nat.le_refl _) W hr

end Go.Proofs.YthinoedohnbeeaaGreatDoor
