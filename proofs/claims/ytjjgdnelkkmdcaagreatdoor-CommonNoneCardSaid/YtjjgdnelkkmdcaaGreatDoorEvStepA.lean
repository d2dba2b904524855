/-
  The machine's steps, in whatever frame; an operation of a region, as the evaluator has it.
-/
import Derived.Test.YtjjgdnelkkmdcaaGreatDoorEvUnsB
set_option linter.all false
namespace Go.Ev

def Frame.with (fr : Frame) (tmps : Array Value) (todo : List Item) : Frame := { fr with tmps, todo }

section
variable {P : Program} {fr : Frame} {cs : List Frame} {w : World} {k : List Item}

theorem stp_skip (hm : fr.mode = .run) (ht : fr.todo = .code .skip :: k) : step P (lone fr cs w) = .next (lone { fr with todo := k } cs w) :=
  step_lone_go (by simp [stepG, stepG.exec, hm, ht])
theorem stp_label {l : Nat} (hm : fr.mode = .run) (ht : fr.todo = .code (.label l) :: k) : step P (lone fr cs w) = .next (lone { fr with todo := k } cs w) :=
  step_lone_go (by simp [stepG, stepG.exec, hm, ht])
theorem stp_inBlock {id : Nat} (hm : fr.mode = .run) (ht : fr.todo = .inBlock id :: k) : step P (lone fr cs w) = .next (lone { fr with todo := k } cs w) :=
  step_lone_go (by simp [stepG, stepG.exec, hm, ht])
theorem stp_inScope {b : Code} (hm : fr.mode = .run) (ht : fr.todo = .inScope b :: k) : step P (lone fr cs w) = .next (lone { fr with todo := k } cs w) :=
  step_lone_go (by simp [stepG, stepG.exec, hm, ht])
theorem stp_seq {x y : Code} (hm : fr.mode = .run) (ht : fr.todo = .code (.seq x y) :: k) : step P (lone fr cs w) = .next (lone { fr with todo := .code x :: .code y :: k } cs w) :=
  step_lone_go (by simp [stepG, stepG.exec, hm, ht])
theorem stp_cond {c : Operand} {x y : Code} {t : Bool} (hm : fr.mode = .run) (ht : fr.todo = .code (.cond c x y) :: k) (h : fr.eval c = .bool t) :
    step P (lone fr cs w) = .next (lone { fr with todo := .code (if t then x else y) :: k } cs w) :=
  step_lone_go (by simp [stepG, stepG.exec, hm, ht, h])
theorem stp_block {id : Nat} {c : Code} (hm : fr.mode = .run) (ht : fr.todo = .code (.block id c) :: k) : step P (lone fr cs w) = .next (lone { fr with todo := .code c :: .inBlock id :: k } cs w) :=
  step_lone_go (by simp [stepG, stepG.exec, hm, ht])
theorem stp_scope {c : Code} (hm : fr.mode = .run) (ht : fr.todo = .code (.scope c) :: k) : step P (lone fr cs w) = .next (lone { fr with todo := .code c :: .inScope c :: k } cs w) :=
  step_lone_go (by simp [stepG, stepG.exec, hm, ht])
theorem stp_loop {c : Code} (hm : fr.mode = .run) (ht : fr.todo = .code (.loop c) :: k) : step P (lone fr cs w) = .next (lone { fr with todo := .code c :: .inLoop c :: k } cs w) :=
  step_lone_go (by simp [stepG, stepG.exec, hm, ht])
theorem stp_inLoop {c : Code} (hm : fr.mode = .run) (ht : fr.todo = .inLoop c :: k) : step P (lone fr cs w) = .next (lone { fr with todo := .code c :: .inLoop c :: k } cs w) :=
  step_lone_go (by simp [stepG, stepG.exec, hm, ht])
theorem stp_exit {id : Nat} {k' : List Item} (hm : fr.mode = .run) (ht : fr.todo = .code (.exit id) :: k) (h : exitTo id k = some k') :
    step P (lone fr cs w) = .next (lone { fr with todo := k' } cs w) :=
  step_lone_go (by simp [stepG, stepG.exec, hm, ht, h])
theorem stp_ret (hm : fr.mode = .run) (hr : fr.roundOf = none) (ht : fr.todo = .code .ret :: k) : step P (lone fr cs w) = .next (lone { fr with mode := .returning } cs w) :=
  step_lone_go (by simp [stepG, stepG.exec, hm, ht, hr])
theorem stp_end (hm : fr.mode = .run) (hr : fr.roundOf = none) (ht : fr.todo = []) : step P (lone fr cs w) = .next (lone { fr with mode := .returning } cs w) :=
  step_lone_go (by simp [stepG, stepG.exec, hm, ht, hr])
theorem stp_region {id : Nat} {ops : Array Oper} (hm : fr.mode = .run) (ht : fr.todo = .code (.region id ops false) :: k) :
    step P (lone fr cs w) = .next (lone { fr with todo := .inRegion ops (List.range ops.size) :: k } cs w) :=
  step_lone_go (by simp [stepG, stepG.exec, hm, ht])
theorem stp_draw {id : Nat} {ops : Array Oper} (hm : fr.mode = .run) (ht : fr.todo = .code (.region id ops true) :: k) :
    step P (lone fr cs w) = .next (lone { fr with todo := .inRegion ops (Region.schedule (P.follows .mixedOrders) ops (w.tape w.drawn (.order fr.fn id))) :: k } cs { w with drawn := w.drawn + 1 }) :=
  step_lone_go (by simp [stepG, stepG.exec, hm, ht, choose, Sem.run, Question.forced, Question.cut])
theorem stp_regionEnd {ops : Array Oper} (hm : fr.mode = .run) (ht : fr.todo = .inRegion ops [] :: k) : step P (lone fr cs w) = .next (lone { fr with todo := k } cs w) :=
  step_lone_go (by simp [stepG, stepG.exec, hm, ht])

/-- The slots behind an operation. -/
def putT (tmps : Array Value) (dst : Option Tmp) (v : Value) : Array Value :=
  match dst with
  | some d => tmps.setIfInBounds d v
  | none => tmps

theorem finish_eq {ops : Array Oper} {i : Nat} {rest : List Nat} {o : Oper} (ht : fr.todo = .inRegion ops (i :: rest) :: k) (ho : ops[i]? = some o) (v : Value) :
    fr.finish v = { fr with tmps := putT fr.tmps o.dst v, todo := .inRegion ops rest :: k } := by
  unfold Frame.finish
  rw [ht]
  simp only [ho, Option.bind_some]
  cases hd : o.dst <;> simp [putT]

theorem stp_op {ops : Array Oper} {i : Nat} {rest : List Nat} {o : Oper} (hm : fr.mode = .run) (hr : ∀ c, o.op ≠ .defer c) (ht : fr.todo = .inRegion ops (i :: rest) :: k) (ho : ops[i]? = some o)
    (hw : Region.wanted o (yielded ops fr.tmps) = true) :
    stepG P true { frame := fr, callers := cs, status := .running, dying := none } w = stepG.apply P true fr cs none (execOp fr.eval o) w := by
  obtain ⟨dst, op, ty, pos, after, guard⟩ := o
  simp only at hr
  cases hro : fr.roundOf with
  | none => simp [stepG, stepG.exec, stepG.oper, Frame.oper?, hm, ht, ho, hw, hro]
  | some l => cases op <;> first | exact absurd rfl (hr _) | simp [stepG, stepG.exec, stepG.oper, Frame.oper?, hm, ht, ho, hw, hro]

theorem stp_opSkip {ops : Array Oper} {i : Nat} {rest : List Nat} {o : Oper} (hm : fr.mode = .run) (ht : fr.todo = .inRegion ops (i :: rest) :: k) (ho : ops[i]? = some o)
    (hw : Region.wanted o (yielded ops fr.tmps) = false) :
    step P (lone fr cs w) = .next (lone { fr with tmps := putT fr.tmps o.dst undef, todo := .inRegion ops rest :: k } cs w) := by
  rw [← finish_eq ht ho]
  exact step_lone_go (by simp [stepG, stepG.exec, hm, ht, ho, hw])

theorem stp_opValue {ops : Array Oper} {i : Nat} {rest : List Nat} {o : Oper} {v : Value} {w' : World} {nx : Next} (hm : fr.mode = .run) (hr : ∀ c, o.op ≠ .defer c) (ht : fr.todo = .inRegion ops (i :: rest) :: k)
    (ho : ops[i]? = some o) (hw : Region.wanted o (yielded ops fr.tmps) = true) (hrun : (execOp fr.eval o).run P w = .ok nx w') (hn : nx = .value v ∨ (nx = .skip ∧ v = undef)) :
    step P (lone fr cs w) = .next (lone { fr with tmps := putT fr.tmps o.dst v, todo := .inRegion ops rest :: k } cs w') := by
  rw [← finish_eq ht ho]
  refine step_lone_go ?_
  rw [stp_op hm hr ht ho hw]
  rcases hn with rfl | ⟨rfl, rfl⟩
  · simp [stepG.apply, hrun]
  · simp [stepG.apply, hrun]

theorem stp_opEnter {ops : Array Oper} {i : Nat} {rest : List Nat} {o : Oper} {f : FuncId} {args : Array Value} {w' : World} (hm : fr.mode = .run) (hr : ∀ c, o.op ≠ .defer c) (ht : fr.todo = .inRegion ops (i :: rest) :: k)
    (ho : ops[i]? = some o) (hw : Region.wanted o (yielded ops fr.tmps) = true) (hrun : (execOp fr.eval o).run P w = .ok (.enter f args) w') :
    step P (lone fr cs w) = .next (lone (Frame.enter P f args .normal) (fr :: cs) w') := by
  refine step_lone_go ?_
  rw [stp_op hm hr ht ho hw]
  simp [stepG.apply, hrun, ht]

theorem stp_opRound {ops : Array Oper} {i : Nat} {rest : List Nat} {o : Oper} {l : Nat} {f : FuncId} {tmps : Array Value} {assign body : Code} {w' : World} (hm : fr.mode = .run) (hr : ∀ c, o.op ≠ .defer c) (ht : fr.todo = .inRegion ops (i :: rest) :: k)
    (ho : ops[i]? = some o) (hw : Region.wanted o (yielded ops fr.tmps) = true) (hrun : (execOp fr.eval o).run P w = .ok (.round l f tmps assign body) w') :
    step P (lone fr cs w) = .next (lone (Frame.round l f tmps assign body .normal) (fr :: cs) w') := by
  refine step_lone_go ?_
  rw [stp_op hm hr ht ho hw]
  simp [stepG.apply, hrun, ht]
end

theorem wanted_ok {ρ : Rn} {n : Nat} {env : Env} {tmps : Array Value} (he : EnvRel ρ n env tmps) {ops : Array Oper} {o : Oper} {b : Bool} (h : wantedA ops env o = some b) :
    Region.wanted o (yielded ops tmps) = b := by
  unfold wantedA at h
  unfold Region.wanted
  split at h
  · rename_i hg; cases h; rw [hg]
  · rename_i j b' hg
    rw [hg]
    simp only
    unfold yielded
    split at h
    · rename_i hd; cases h; rw [hd]; rfl
    · rename_i d hd
      rw [hd]
      simp only [Option.bind_some]
      split at h
      · rename_i c hv
        cases h
        obtain ⟨v', hv', hr⟩ := he.2 d _ hv
        rw [hv', hr.unbool]
        cases c <;> cases b' <;> rfl
      · rename_i c hv
        cases h
        obtain ⟨v', hv', hr⟩ := he.2 d _ hv
        obtain ⟨c', rfl, _⟩ := hr.untup
        rw [hv']; rfl
      · cases h

theorem putE_ok {ρ : Rn} {n : Nat} {env env' : Env} {tmps : Array Value} (he : EnvRel ρ n env tmps) {dst : Option Tmp} {v v' : Value} (h : putE n env dst v = some env') (hv : VRel ρ v v') :
    EnvRel ρ n env' (putT tmps dst v') := by
  unfold putE at h
  split at h
  · cases h; exact he
  · rename_i d
    cases hb : Nat.blt d n with
    | false => rw [hb, cond_false] at h; cases h
    | true =>
      rw [hb, cond_true] at h; cases h
      exact he.set (by simpa [Nat.blt_eq] using hb) hv

end Go.Ev
