/-
  The evaluator and what it says of the model: a part of it.
-/
import Derived.Test.YtgmljeeeomjooaaGreatDoorEvC
import Derived.Test.YtgmljeeeomjooaaGreatDoorEvA
import Derived.RangeFuncRecord
import Derived.RangeFuncNested
import Derived.Defers
import Derived.ChangeSame
import Derived.RowKit3
import Derived.WideKeyArgs
import Derived.OpenShut
import Derived.JoinedOf
set_option linter.all false

namespace Go.Ev
variable [Gho]

def Frame.with (fr : Frame) (tmps : Array Value) (todo : List Item) : Frame := { fr with tmps, todo }

section
variable {P : Program} {fr : Frame} {cs : List Frame} {w : World} {k : List Item}

theorem stp_skip (hm : fr.mode = .run) (ht : fr.todo = .code .skip :: k) : step P (lone fr cs w) = .next (lone { fr with todo := k } cs w) :=
  step_lone_go (by simp [stepG, stepG.exec, hm, ht])
theorem stp_label {l : Nat} (hm : fr.mode = .run) (ht : fr.todo = .code (.label l) :: k) : step P (lone fr cs w) = .next (lone { fr with todo := k } cs w) :=
  step_lone_go (by simp [stepG, stepG.exec, hm, ht])
theorem stp_inBlock {id : Nat} (hm : fr.mode = .run) (ht : fr.todo = .inBlock id :: k) : step P (lone fr cs w) = .next (lone { fr with todo := k } cs w) :=
  step_lone_go (by simp [stepG, stepG.exec, hm, ht])
theorem stp_inScope {b : Code} (hm : fr.mode = .run) (ht : fr.todo = .inScope b :: k) : step P (lone fr cs w) = .next (lone { fr with todo := k } cs w) :=
  step_lone_go (by simp [stepG, stepG.exec, hm, ht])
theorem stp_seq {x y : Code} (hm : fr.mode = .run) (ht : fr.todo = .code (.seq x y) :: k) : step P (lone fr cs w) = .next (lone { fr with todo := .code x :: .code y :: k } cs w) :=
  step_lone_go (by simp [stepG, stepG.exec, hm, ht])
theorem stp_cond {c : Operand} {x y : Code} {t : Bool} (hm : fr.mode = .run) (ht : fr.todo = .code (.cond c x y) :: k) (h : fr.eval c = .bool t) :
    step P (lone fr cs w) = .next (lone { fr with todo := .code (if t then x else y) :: k } cs w) :=
  step_lone_go (by simp [stepG, stepG.exec, hm, ht, h])
theorem stp_block {id : Nat} {c : Code} (hm : fr.mode = .run) (ht : fr.todo = .code (.block id c) :: k) : step P (lone fr cs w) = .next (lone { fr with todo := .code c :: .inBlock id :: k } cs w) :=
  step_lone_go (by simp [stepG, stepG.exec, hm, ht])
theorem stp_scope {c : Code} (hm : fr.mode = .run) (ht : fr.todo = .code (.scope c) :: k) : step P (lone fr cs w) = .next (lone { fr with todo := .code c :: .inScope c :: k } cs w) :=
  step_lone_go (by simp [stepG, stepG.exec, hm, ht])
theorem stp_loop {c : Code} (hm : fr.mode = .run) (ht : fr.todo = .code (.loop c) :: k) : step P (lone fr cs w) = .next (lone { fr with todo := .code c :: .inLoop c :: k } cs w) :=
  step_lone_go (by simp [stepG, stepG.exec, hm, ht])
theorem stp_inLoop {c : Code} (hm : fr.mode = .run) (ht : fr.todo = .inLoop c :: k) : step P (lone fr cs w) = .next (lone { fr with todo := .code c :: .inLoop c :: k } cs w) :=
  step_lone_go (by simp [stepG, stepG.exec, hm, ht])
theorem stp_exit {id : Nat} {k' : List Item} (hm : fr.mode = .run) (ht : fr.todo = .code (.exit id) :: k) (h : exitTo id k = some k') :
    step P (lone fr cs w) = .next (lone { fr with todo := k' } cs w) :=
  step_lone_go (by simp [stepG, stepG.exec, hm, ht, h])
theorem stp_ret (hm : fr.mode = .run) (hr : fr.roundOf = none) (ht : fr.todo = .code .ret :: k) : step P (lone fr cs w) = .next (lone { fr with mode := .returning } cs w) :=
  step_lone_go (by simp [stepG, stepG.exec, hm, ht, hr])
theorem stp_end (hm : fr.mode = .run) (hr : fr.roundOf = none) (ht : fr.todo = []) : step P (lone fr cs w) = .next (lone { fr with mode := .returning } cs w) :=
  step_lone_go (by simp [stepG, stepG.exec, hm, ht, hr])
theorem stp_region {id : Nat} {ops : Array Oper} (hm : fr.mode = .run) (ht : fr.todo = .code (.region id ops false) :: k) :
    step P (lone fr cs w) = .next (lone { fr with todo := .inRegion ops (List.range ops.size) :: k } cs w) :=
  step_lone_go (by simp [stepG, stepG.exec, hm, ht])
theorem stp_draw {id : Nat} {ops : Array Oper} (hm : fr.mode = .run) (ht : fr.todo = .code (.region id ops true) :: k) :
    step P (lone fr cs w) = .next (lone { fr with todo := .inRegion ops (Region.schedule (P.follows .mixedOrders) ops (w.tape w.drawn (.order fr.fn id))) :: k } cs { w with drawn := w.drawn + 1 }) :=
  step_lone_go (by simp [stepG, stepG.exec, hm, ht, choose, Sem.run, Question.forced, Question.cut])
theorem stp_regionEnd {ops : Array Oper} (hm : fr.mode = .run) (ht : fr.todo = .inRegion ops [] :: k) : step P (lone fr cs w) = .next (lone { fr with todo := k } cs w) :=
  step_lone_go (by simp [stepG, stepG.exec, hm, ht])

/-- The slots behind an operation. -/
def putT (tmps : Array Value) (dst : Option Tmp) (v : Value) : Array Value :=
  match dst with
  | some d => tmps.setIfInBounds d v
  | none => tmps

theorem finish_eq {ops : Array Oper} {i : Nat} {rest : List Nat} {o : Oper} (ht : fr.todo = .inRegion ops (i :: rest) :: k) (ho : ops[i]? = some o) (v : Value) :
    fr.finish v = { fr with tmps := putT fr.tmps o.dst v, todo := .inRegion ops rest :: k } := by
  unfold Frame.finish
  rw [ht]
  simp only [ho, Option.bind_some]
  cases hd : o.dst <;> simp [putT]

theorem stp_op {ops : Array Oper} {i : Nat} {rest : List Nat} {o : Oper} (hm : fr.mode = .run) (hr : ∀ c, o.op ≠ .defer c) (ht : fr.todo = .inRegion ops (i :: rest) :: k) (ho : ops[i]? = some o)
    (hw : Region.wanted o (yielded ops fr.tmps) = true) :
    stepG P true { frame := fr, callers := cs, status := .running, dying := none } w = stepG.apply P true fr cs none (execOp fr.eval o) w := by
  obtain ⟨dst, op, ty, pos, after, guard⟩ := o
  simp only at hr
  cases hro : fr.roundOf with
  | none => simp [stepG, stepG.exec, stepG.oper, Frame.oper?, hm, ht, ho, hw, hro]
  | some l => cases op <;> first | exact absurd rfl (hr _) | simp [stepG, stepG.exec, stepG.oper, Frame.oper?, hm, ht, ho, hw, hro]

theorem stp_opSkip {ops : Array Oper} {i : Nat} {rest : List Nat} {o : Oper} (hm : fr.mode = .run) (ht : fr.todo = .inRegion ops (i :: rest) :: k) (ho : ops[i]? = some o)
    (hw : Region.wanted o (yielded ops fr.tmps) = false) :
    step P (lone fr cs w) = .next (lone { fr with tmps := putT fr.tmps o.dst undef, todo := .inRegion ops rest :: k } cs w) := by
  rw [← finish_eq ht ho]
  exact step_lone_go (by simp [stepG, stepG.exec, hm, ht, ho, hw])

theorem stp_opValue {ops : Array Oper} {i : Nat} {rest : List Nat} {o : Oper} {v : Value} {w' : World} {nx : Next} (hm : fr.mode = .run) (hr : ∀ c, o.op ≠ .defer c) (ht : fr.todo = .inRegion ops (i :: rest) :: k)
    (ho : ops[i]? = some o) (hw : Region.wanted o (yielded ops fr.tmps) = true) (hrun : (execOp fr.eval o).run P w = .ok nx w') (hn : nx = .value v ∨ (nx = .skip ∧ v = undef)) :
    step P (lone fr cs w) = .next (lone { fr with tmps := putT fr.tmps o.dst v, todo := .inRegion ops rest :: k } cs w') := by
  rw [← finish_eq ht ho]
  refine step_lone_go ?_
  rw [stp_op hm hr ht ho hw]
  rcases hn with rfl | ⟨rfl, rfl⟩
  · simp [stepG.apply, hrun]
  · simp [stepG.apply, hrun]

theorem stp_opDefer {ops : Array Oper} {i : Nat} {rest : List Nat} {o : Oper} {d : Deferred} (hm : fr.mode = .run) (hr : fr.roundOf = none) (ht : fr.todo = .inRegion ops (i :: rest) :: k)
    (ho : ops[i]? = some o) (hw : Region.wanted o (yielded ops fr.tmps) = true) (hrun : (execOp fr.eval o).run P w = .ok (.defer d) w) :
    step P (lone fr cs w) = .next (lone { fr with tmps := putT fr.tmps o.dst undef, todo := .inRegion ops rest :: k, defers := d :: fr.defers } cs w) := by
  have hf := finish_eq (fr := { fr with defers := d :: fr.defers }) (v := undef) ht ho
  rw [show ({ fr with tmps := putT fr.tmps o.dst undef, todo := .inRegion ops rest :: k, defers := d :: fr.defers } : Frame) = ({ fr with defers := d :: fr.defers } : Frame).finish undef from hf.symm]
  refine step_lone_go ?_
  have hs : stepG P true { frame := fr, callers := cs, status := .running, dying := none } w = stepG.apply P true fr cs none (execOp fr.eval o) w := by
    obtain ⟨dst, op, ty, pos, after, guard⟩ := o
    simp [stepG, stepG.exec, stepG.oper, Frame.oper?, hm, ht, ho, hw, hr]
  rw [hs]
  simp [stepG.apply, hrun]

theorem stp_opEnter {ops : Array Oper} {i : Nat} {rest : List Nat} {o : Oper} {f : FuncId} {args : Array Value} {w' : World} (hm : fr.mode = .run) (hr : ∀ c, o.op ≠ .defer c) (ht : fr.todo = .inRegion ops (i :: rest) :: k)
    (ho : ops[i]? = some o) (hw : Region.wanted o (yielded ops fr.tmps) = true) (hrun : (execOp fr.eval o).run P w = .ok (.enter f args) w') :
    step P (lone fr cs w) = .next (lone (Frame.enter P f args .normal) (fr :: cs) w') := by
  refine step_lone_go ?_
  rw [stp_op hm hr ht ho hw]
  simp [stepG.apply, hrun, ht]

theorem stp_opRound {ops : Array Oper} {i : Nat} {rest : List Nat} {o : Oper} {l : Nat} {f : FuncId} {tmps : Array Value} {assign body : Code} {w' : World} (hm : fr.mode = .run) (hr : ∀ c, o.op ≠ .defer c) (ht : fr.todo = .inRegion ops (i :: rest) :: k)
    (ho : ops[i]? = some o) (hw : Region.wanted o (yielded ops fr.tmps) = true) (hrun : (execOp fr.eval o).run P w = .ok (.round l f tmps assign body) w') :
    step P (lone fr cs w) = .next (lone (Frame.round l f tmps assign body .normal) (fr :: cs) w') := by
  refine step_lone_go ?_
  rw [stp_op hm hr ht ho hw]
  simp [stepG.apply, hrun, ht]
end

theorem wanted_ok {ρ : Rn} {n : Nat} {env : Env} {tmps : Array Value} (he : EnvRel ρ n env tmps) {ops : Array Oper} {o : Oper} {b : Bool} (h : wantedA ops env o = some b) :
    Region.wanted o (yielded ops tmps) = b := by
  unfold wantedA at h
  unfold Region.wanted
  split at h
  · rename_i hg; cases h; rw [hg]
  · rename_i j b' hg
    rw [hg]
    simp only
    unfold yielded
    split at h
    · rename_i hd; cases h; rw [hd]; rfl
    · rename_i d hd
      rw [hd]
      simp only [Option.bind_some]
      split at h
      · rename_i c hv
        cases h
        obtain ⟨v', hv', hr⟩ := he.2 d _ hv
        rw [hv', hr.unbool]
        cases c <;> cases b' <;> rfl
      · rename_i c hv
        cases h
        obtain ⟨v', hv', hr⟩ := he.2 d _ hv
        obtain ⟨c', rfl, _⟩ := hr.untup
        rw [hv']; rfl
      · cases h

theorem putE_ok {ρ : Rn} {n : Nat} {env env' : Env} {tmps : Array Value} (he : EnvRel ρ n env tmps) {dst : Option Tmp} {v v' : Value} (h : putE n env dst v = some env') (hv : VRel ρ v v') :
    EnvRel ρ n env' (putT tmps dst v') := by
  unfold putE at h
  split at h
  · cases h; exact he
  · rename_i d
    cases hb : Nat.blt d n with
    | false => rw [hb, cond_false] at h; cases h
    | true =>
      rw [hb, cond_true] at h; cases h
      exact he.set (by simpa [Nat.blt_eq] using hb) hv

end Go.Ev

namespace Go.Ev
variable [Gho]

section
variable {X : Cx} (ok : X.Ok) {ρ : Rn}
include ok

omit ok in
theorem tgt_yield {e : Operand → Option Value} {r : Operand → Value} (hr : OpRel ρ e r) {k : Call} {l : Nat} {args : List Value} (h : evTgt X e k = some (.yield l args))
    {o : Oper} (ho : o.op = .call k) (w : World) : ∃ (args' : List Value) (L : Loc), ρ l = some L ∧ LRel ρ args args' ∧ (execOp r o).run X.P w = (Instr.yield L.block args'.toArray).run X.P w := by
  unfold evTgt at h
  unfold execOp
  rw [ho]
  simp only
  unfold resolve
  split at h
  · rename_i fo hcal
    split at h
    · rename_i v as hv has
      rw [hcal]
      simp only
      unfold tgtOf at h
      split at h
      · cases h
      · rename_i l2 args2
        cases h
        have hvr := hr fo _ hv
        have hl := evL_ok hr k.args.toList _ has
        generalize hrf : r fo = y at hvr
        cases hvr with
        | func hfn h1 h2 h3 h4 =>
        rename_i fn' first' cap'
        cases hfn with
        | yield hL =>
        rename_i L
        have e1 : first' = #[] := Array.eq_empty_of_size_eq_zero h1.symm
        have e2 : cap' = #[] := Array.eq_empty_of_size_eq_zero h2.symm
        subst e1 e2
        refine ⟨k.args.toList.map r, L, hL, hl, ?_⟩
        simp only [Deferred.ofValue, pure_bind, invoke]
        congr 1
        congr 1
        apply Array.ext'
        simp
      · cases h
    · cases h
  · split at h
    · split at h
      · split at h
        · split at h
          · split at h <;> cases h
          · cases h
        · cases h
      · cases h
    · cases h
  · cases h

theorem follow_ok (w : World) : ∀ (path : List FieldStep) (t : TypeId) (v v' : Value) (xt : TypeId) (u : Value), X.followA path t v = some (xt, u) → VRel ρ v v' →
    ∃ u', (follow path t (.val v')).run X.P w = .ok (xt, .val u') w ∧ VRel ρ u u'
  | [], t, v, v', xt, u, h, hv => by
    unfold Cx.followA at h
    cases h
    exact ⟨v', rfl, hv⟩
  | s :: r, t, v, v', xt, u, h, hv => by
    cases v with
    | agg cs =>
      obtain ⟨cs', rfl, ha⟩ := hv.unagg
      unfold Cx.followA at h
      cases hd : s.deref with
      | true => rw [hd, cond_true] at h; cases h
      | false =>
        rw [hd, cond_false] at h
        split at h
        · rename_i fs hu
          split at h
          · rename_i fd hf
            split at h
            · rename_i v1 hp
              obtain ⟨v1', hrun, hv1⟩ := part_ok ok hp ha.list w
              obtain ⟨u', hgo, hur⟩ := follow_ok w r fd.type v1 v1' xt u h hv1
              refine ⟨u', ?_, hur⟩
              unfold follow
              simp only [Sem.run_bind, run_under ok hu, Result.andThen_ok, hf, hd]
              simp only [Bool.false_eq_true, if_false, Sem.run_bind, hrun, Result.andThen_ok]
              exact hgo
            · cases h
          · cases h
        · cases h
    | _ => cases h

theorem tgt_ok {e : Operand → Option Value} {r : Operand → Value} (hr : OpRel ρ e r) {k : Call} {f : FuncId} {args : List Value} (h : evTgt X e k = some (.fn f args))
    {o : Oper} (ho : o.op = .call k) (w : World) : ∃ args' : List Value, LRel ρ args args' ∧ (execOp r o).run X.P w = (callFunc f args'.toArray).run X.P w := by
  unfold evTgt at h
  unfold execOp
  rw [ho]
  simp only
  unfold resolve
  split at h
  · rename_i fo hcal
    split at h
    · rename_i v as hv has
      rw [hcal]
      simp only
      unfold tgtOf at h
      split at h
      · rename_i g first cap
        cases h
        have hvr := hr fo _ hv
        have hl := evL_ok hr k.args.toList as has
        generalize hrf : r fo = y at hvr
        cases hvr with
        | func hfn h1 h2 h3 h4 =>
        rename_i fn' first' cap'
        cases hfn
        refine ⟨first'.toList ++ k.args.toList.map r ++ cap'.toList, ((ARel.list ⟨h1, h3⟩).append hl).append (ARel.list ⟨h2, h4⟩), ?_⟩
        simp only [Deferred.ofValue, pure_bind, invoke]
        congr 1
        congr 1
        apply Array.ext'
        simp
      · cases h
      · cases h
    · cases h
  · rename_i ro name hcal
    split at h
    · rename_i t v as hv has
      split at h
      · rename_i i hi
        split at h
        · rename_i m hfind
          have hvr := hr ro _ hv
          have hl := evL_ok hr k.args.toList as has
          generalize hrf : r ro = y at hvr
          cases hvr with
          | @iface _ _ v' hvv =>
          have hfa : i.methods.find? (fun m => m.name == name) = some m := by rw [← Array.find?_toList]; exact hfind
          rw [hcal]
          simp only [pure_bind, invoke]
          rw [hrf]
          have e0 : (#[Value.iface t v'] ++ Array.map r k.args)[0]? = some (.iface t v') := by
            rw [Array.getElem?_append_left (by simp)]; rfl
          have e1 : (#[Value.iface t v'] ++ Array.map r k.args).extract 1 (#[Value.iface t v'] ++ Array.map r k.args).size = Array.map r k.args := by
            apply Array.ext'
            simp only [Array.toList_extract, Array.toList_append, Array.size_append, Array.toList_map, List.extract_eq_take_drop, List.size_toArray, List.length_cons, List.length_nil, Array.size_map, List.cons_append, List.nil_append, List.drop_succ_cons, List.drop_zero]
            exact List.take_of_length_le (by simp)
          rw [e0]
          simp only [e1]
          unfold callMethod
          split at h
          · rename_i xt u hfol
            obtain ⟨u', hfr, hur⟩ := follow_ok ok w m.path.toList t v v' xt u hfol hvv
            have fin : ∀ (g : FuncId) (pr : Bool), m.func = some (g, pr) → (∃ d, X.under xt = some d ∧ ((pr = true ∧ ∃ z, d = .pointer z) ∨ (pr = false ∧ ∀ z, d ≠ .pointer z))) →
                (do let (f, receiver) ← method ((← program).types.size + Made.depth) t v' name; callFunc f (#[receiver] ++ Array.map r k.args) : Sem Next).run X.P w = (callFunc g (u' :: k.args.toList.map r).toArray).run X.P w := by
              intro g pr hf hd
              have hmeth : (method (X.P.types.size + Made.depth) t v' name).run X.P w = .ok (g, u') w := by
                have hpos : X.P.types.size + Made.depth = (X.P.types.size + 99) + 1 := by unfold Made.depth; omega
                rw [hpos]
                unfold method
                simp only [Sem.run_bind, run_info ok hi, Result.andThen_ok, hfa, hfr, hf]
                unfold receiverAt
                obtain ⟨d, hu, hcase⟩ := hd
                rcases hcase with ⟨rfl, z, rfl⟩ | ⟨rfl, hne⟩
                · simp [run_under ok hu, Place.get]
                · cases d <;> first | (exact absurd rfl (hne _)) | simp [run_under ok hu, Place.get]
              simp only [Sem.run_bind, run_program, Result.andThen_ok, hmeth]
              congr 1
              congr 1
              apply Array.ext'
              simp
            split at h
            · rename_i g z hf hu
              cases h
              exact ⟨u' :: k.args.toList.map r, .cons hur hl, fin _ true hf ⟨_, hu, .inl ⟨rfl, z, rfl⟩⟩⟩
            · cases h
            · rename_i g d hne hf hu
              cases h
              refine ⟨u' :: k.args.toList.map r, .cons hur hl, fin _ false hf ⟨d, hu, .inr ⟨rfl, fun z e => ?_⟩⟩⟩
              subst e
              exact hne _ rfl
            · cases h
          · cases h
        · cases h
      · cases h
    · cases h
  · cases h

/-- An operation in the machine. -/
theorem oper_ok {call : Callf} (hcs : CallSound X call) {o : Oper} {nm : Nat} {e : Operand → Option Value} {H H' : Heap} {c c' : Nat} {v : Value} (h : evOper X call e o.op nm H c = some (v, H', c'))
    {fr : Frame} {cs : List Frame} {w : World} {ops : Array Oper} {i : Nat} {rest : List Nat} {k : List Item} (hr : OpRel ρ e fr.eval) (hw : WRel ρ H w) (hb : ρ.Below c) (hnm : nm < c) (hno : ρ nm = none)
    (hg : GRel X ρ) (hm : fr.mode = .run) (ht : fr.todo = .inRegion ops (i :: rest) :: k) (ho : ops[i]? = some o) (hwt : Region.wanted o (yielded ops fr.tmps) = true) :
    ∃ ρ' v' w', Steps X.P (lone fr cs w) (lone { fr with tmps := putT fr.tmps o.dst v', todo := .inRegion ops rest :: k } cs w') ∧ VRel ρ' v v' ∧ Goes ρ H w ρ' H' w' ∧ ρ'.Below c' ∧ c ≤ c' ∧
      (∀ m, m < c → m ≠ nm → ρ' m = ρ m) := by
  have hro : ∀ c, o.op ≠ .defer c := fun d hd => by
    unfold evOper Cx.kind at h
    rw [hd] at h
    cases h
  unfold evOper at h
  split at h
  · -- pure
    simp only [Option.map_eq_some_iff] at h
    obtain ⟨u, hu, hh⟩ := h
    cases hh
    obtain ⟨v', hgv, hv⟩ := evPureO_ok ok hr hg w hu
    exact ⟨ρ, v', w, .one (stp_opValue hm hro ht ho hwt hgv (.inl rfl)), hv, .refl hw, hb, Nat.le_refl _, fun _ _ _ => rfl⟩
  · -- read
    simp only [Option.map_eq_some_iff] at h
    obtain ⟨u, hu, hh⟩ := h
    cases hh
    have hgv := evVal_ok ok hr hg hw hu
    obtain ⟨v', hgv, hv⟩ := hgv
    exact ⟨ρ, v', w, .one (stp_opValue hm hro ht ho hwt hgv (.inl rfl)), hv, .refl hw, hb, Nat.le_refl _, fun _ _ _ => rfl⟩
  · -- alloc
    simp only [Option.map_eq_some_iff] at h
    obtain ⟨⟨ob, mk⟩, hu, hh⟩ := h
    cases hh
    obtain ⟨L, v', w', hrun, hgo, hv⟩ := evAlloc_ok ok hr hw hu nm hno
    exact ⟨ρ.add nm L, v', w', .one (stp_opValue hm hro ht ho hwt hrun (.inl rfl)), hv, hgo, hb.add hnm, Nat.le_refl _, fun m _ hmn => Rn.add_ne hmn⟩
  · -- write
    simp only [Option.map_eq_some_iff] at h
    obtain ⟨⟨u, H2⟩, hu, hh⟩ := h
    cases hh
    obtain ⟨ρ', nx, v', w', hrun, hnx, hv, hgo, hne⟩ := evWr_ok ok hr hw hno hu
    refine ⟨ρ', v', w', .one (stp_opValue hm hro ht ho hwt hrun hnx), hv, hgo, fun m hmc => ?_, Nat.le_refl _, fun m _ hmn => hne m hmn⟩
    rw [hne m (by omega)]; exact hb m hmc
  · -- call
    split at h
    · rename_i q hk hq
      split at h
      · rename_i t htg
        cases t with
        | yield l args =>
          obtain ⟨args', L, hL, hl, hrun⟩ := tgt_yield hr htg hq w
          obtain ⟨ρ', v', w', ⟨f, tmps, assign, body, hy, hst⟩, hv, hgo, hb', hcc, hne⟩ := hcs.1 l args H c v H' c' h ρ w args' fr cs L hL hl hw hb hg
          refine ⟨ρ', v', w', ?_, hv, hgo, hb', hcc, fun m hmc _ => hne m hmc⟩
          rw [← finish_eq ht ho]
          exact .head (stp_opRound hm hro ht ho hwt (hrun.trans hy)) hst
        | fn f args =>
          obtain ⟨args', hl, hrun⟩ := tgt_ok ok hr htg hq w
          obtain ⟨ρ', v', w', hen, hv, hgo, hb', hcc, hne⟩ := hcs.2 f args H c v H' c' h ρ w args' (fr :: cs) hl hw hb hg
          refine ⟨ρ', v', w', ?_, hv, hgo, hb', hcc, fun m hmc _ => hne m hmc⟩
          rcases hen with h1 | ⟨h1, h2⟩
          · exact .one (stp_opValue hm hro ht ho hwt (hrun.trans h1) (.inl rfl))
          · obtain ⟨fr', hst, hfn, hlv⟩ := h2
            refine .head (stp_opEnter hm hro ht ho hwt (hrun.trans h1)) (hst.trans ?_)
            rw [← finish_eq ht ho]
            exact .one (step_leave_returned hlv)
      · cases h
    · cases h
  · cases h

/-- Operations in the order of the text. -/
theorem ops_ok {call : Callf} (hcs : CallSound X call) (n : Nat) (ops : Array Oper) : ∀ (l : List Oper) (j : Nat) (s s' : St), evOps X call n ops l s = some s' → (∀ i o, l[i]? = some o → ops[j + i]? = some o) →
    ∀ (ρ : Rn) (fr : Frame) (cs : List Frame) (w : World) (k : List Item), EnvRel ρ n s.env fr.tmps → WRel ρ s.H w → ρ.Below s.c → GRel X ρ → fr.mode = .run →
    fr.todo = .inRegion ops (List.range' j l.length) :: k →
    ∃ ρ' tmps' w', Steps X.P (lone fr cs w) (lone { fr with tmps := tmps', todo := .inRegion ops [] :: k } cs w') ∧ EnvRel ρ' n s'.env tmps' ∧ Goes ρ s.H w ρ' s'.H w' ∧ ρ'.Below s'.c ∧ s.c ≤ s'.c ∧
      (∀ m, m < s.c → ρ' m = ρ m) ∧ s'.ds = s.ds
  | [], j, s, s', h, hl, ρ, fr, cs, w, k, he, hw, hb, hg, hm, ht => by
    simp only [evOps] at h; cases h
    have : ({ fr with tmps := fr.tmps, todo := .inRegion ops [] :: k } : Frame) = fr := by rw [← show fr.todo = .inRegion ops [] :: k from ht]
    exact ⟨ρ, fr.tmps, w, by rw [this]; exact .refl _ _, he, .refl hw, hb, Nat.le_refl _, fun _ _ => rfl, rfl⟩
  | o :: l, j, s, s', h, hl, ρ, fr, cs, w, k, he, hw, hb, hg, hm, ht => by
    have ho : ops[j]? = some o := by simpa using hl 0 o rfl
    have hl' : ∀ i o, l[i]? = some o → ops[j + 1 + i]? = some o := fun i o hi => by
      have := hl (i + 1) o (by simpa using hi)
      rw [show j + 1 + i = j + (i + 1) by omega]; exact this
    have ht' : fr.todo = .inRegion ops (j :: List.range' (j + 1) l.length) :: k := by rw [ht]; simp [List.range'_succ]
    simp only [evOps] at h
    split at h
    · cases h
    · rename_i hwa
      split at h
      · rename_i env hpe
        have hwt := wanted_ok he hwa
        have hund : VRel ρ undefA undef := .tupA ⟨rfl, fun i x y h => by simp at h⟩
        have he' := putE_ok he hpe hund
        obtain ⟨ρ', tmps', w', hst, r1, r2, r3, r4, r5, r6⟩ := ops_ok hcs n ops l (j + 1) _ s' h hl' ρ { fr with tmps := putT fr.tmps o.dst undef, todo := .inRegion ops (List.range' (j + 1) l.length) :: k } cs w k
          he' hw hb hg hm rfl
        exact ⟨ρ', tmps', w', .head (stp_opSkip hm ht' ho hwt) hst, r1, r2, r3, r4, r5, r6⟩
      · cases h
    · rename_i hwa
      split at h
      · rename_i v H c hop
        split at h
        · rename_i env hpe
          have hwt := wanted_ok he hwa
          obtain ⟨ρ₁, v', w₁, hst₁, hv, hgo, hb₁, hcc, hne⟩ := oper_ok ok hcs (cs := cs) hop (evO_ok he hg) hw (hb.mono (Nat.le_succ _)) (Nat.lt_succ_self _) (hb _ (Nat.le_refl _)) hg hm ht' ho hwt
          have he' := putE_ok (he.mono hgo.ext) hpe hv
          obtain ⟨ρ', tmps', w', hst, r1, r2, r3, r4, r5, r6⟩ := ops_ok hcs n ops l (j + 1) _ s' h hl' ρ₁ { fr with tmps := putT fr.tmps o.dst v', todo := .inRegion ops (List.range' (j + 1) l.length) :: k } cs w₁ k
            he' hgo.rel hb₁ (hg.goes hgo) hm rfl
          refine ⟨ρ', tmps', w', hst₁.trans hst, r1, hgo.trans r2, r3, ?_, fun m hmc => ?_, r6⟩
          · simp only at r4; omega
          · rw [r5 m (by simp only; omega), hne m (by omega) (by omega)]
        · cases h
      · cases h

end
end Go.Ev

namespace Go.Ev
variable [Gho]

/-! ### The plan -/

theorem predsOf_ok {i : Nat} {ps : List Nat} : ∀ (es : List Edge) (p : Nat), predsOf i es ps = some p →
    (∀ e ∈ es, Region.binds .any e = true → e.on < i) ∧
    (∀ j, p.testBit j = true → ∃ e ∈ es, Region.binds .any e = true ∧ e.on < i ∧ (j = e.on ∨ ∃ q, ps[e.on]? = some q ∧ q.testBit j = true))
  | [], p, h => by
    simp only [predsOf] at h; cases h
    exact ⟨fun e he => by simp at he, fun j hj => by simp at hj⟩
  | e :: es, p, h => by
    unfold predsOf at h
    have skip : Region.binds .any e = false → predsOf i es ps = some p →
        (∀ e' ∈ e :: es, Region.binds .any e' = true → e'.on < i) ∧
        (∀ j, p.testBit j = true → ∃ e' ∈ e :: es, Region.binds .any e' = true ∧ e'.on < i ∧ (j = e'.on ∨ ∃ q, ps[e'.on]? = some q ∧ q.testBit j = true)) := by
      intro hb hp
      obtain ⟨h1, h2⟩ := predsOf_ok es p hp
      refine ⟨fun e' he' hb' => ?_, fun j hj => ?_⟩
      · rcases List.mem_cons.1 he' with rfl | hm
        · rw [hb] at hb'; cases hb'
        · exact h1 e' hm hb'
      · obtain ⟨e', hm, r⟩ := h2 j hj
        exact ⟨e', List.mem_cons_of_mem _ hm, r⟩
    split at h
    · rename_i hg
      exact skip (by unfold Region.binds; rw [hg]; rfl) h
    · rename_i hg
      exact skip (by unfold Region.binds; rw [hg]; rfl) h
    · rename_i hn1 hn2
      have hb : Region.binds .any e = true := by
        unfold Region.binds
        split
        · rename_i hg; exact absurd hg (hn1 _)
        · rename_i hg; exact absurd hg (hn2 _)
        · rfl
      cases hlt : Nat.blt e.on i with
      | false => rw [hlt, cond_false] at h; cases h
      | true =>
        rw [hlt, cond_true] at h
        have hlt' : e.on < i := by simpa [Nat.blt_eq] using hlt
        split at h
        · rename_i q r hq hr
          cases h
          obtain ⟨h1, h2⟩ := predsOf_ok es r hr
          refine ⟨fun e' he' hb' => ?_, fun j hj => ?_⟩
          · rcases List.mem_cons.1 he' with rfl | hm
            · exact hlt'
            · exact h1 e' hm hb'
          · have hj' : ((q ||| 2 ^ e.on) ||| r).testBit j = true := hj
            simp only [Nat.testBit_or, Bool.or_eq_true, Nat.testBit_two_pow, decide_eq_true_eq] at hj'
            rcases hj' with (hj' | hj') | hj'
            · exact ⟨e, by simp, hb, hlt', .inr ⟨q, hq, hj'⟩⟩
            · exact ⟨e, by simp, hb, hlt', .inl hj'.symm⟩
            · obtain ⟨e', hm, r⟩ := h2 j hj'
              exact ⟨e', List.mem_cons_of_mem _ hm, r⟩
        · cases h

/-- What a list of preds says of the operations ahead. -/
def PSpec (ops : Array Oper) (ps : List Nat) : Prop :=
  ∀ i o p, ops[i]? = some o → ps[i]? = some p → (∀ e ∈ o.after.toList, Region.binds .any e = true → e.on < i) ∧
    ∀ j, p.testBit j = true → j < i ∧ ∃ e ∈ o.after.toList, Region.binds .any e = true ∧ (j = e.on ∨ ∃ q, ps[e.on]? = some q ∧ q.testBit j = true)

theorem planF_ok {ops : Array Oper} : ∀ (l : List Oper) (ps ps' : List Nat), planF l ps = some ps' → (∀ i, l[i]? = ops[ps.length + i]?) → PSpec ops ps → PSpec ops ps' ∧ ps'.length = ps.length + l.length
  | [], ps, ps', h, _, hs => by
    simp only [planF] at h; cases h
    exact ⟨hs, by simp⟩
  | o :: l, ps, ps', h, hl, hs => by
    simp only [planF] at h
    split at h
    · rename_i p hp
      obtain ⟨h1, h2⟩ := predsOf_ok _ _ hp
      have ho : ops[ps.length]? = some o := by have := hl 0; simpa using this.symm
      have hlen : (ps ++ [p]).length = ps.length + 1 := by simp
      have hs' : PSpec ops (ps ++ [p]) := by
        intro i o' p' ho' hp'
        by_cases hi : i < ps.length
        · rw [List.getElem?_append_left hi] at hp'
          obtain ⟨a, b⟩ := hs i o' p' ho' hp'
          refine ⟨a, fun j hj => ?_⟩
          obtain ⟨c, e, he, hb, hc⟩ := b j hj
          refine ⟨c, e, he, hb, hc.imp id ?_⟩
          rintro ⟨q, hq, hqj⟩
          exact ⟨q, by rw [List.getElem?_append_left (by have := a e he hb; omega)]; exact hq, hqj⟩
        · have hi' : i = ps.length := by
            have := (List.getElem?_eq_some_iff.1 hp').1
            rw [hlen] at this; omega
          subst hi'
          rw [ho] at ho'; cases ho'
          rw [List.getElem?_append_right (Nat.le_refl _)] at hp'
          simp at hp'; subst hp'
          refine ⟨h1, fun j hj => ?_⟩
          obtain ⟨e, he, hb, hlt, hc⟩ := h2 j hj
          have hjlt : j < ps.length := by
            rcases hc with rfl | ⟨q, hq, hqj⟩
            · exact hlt
            · have hoe : ∃ oe, ops[e.on]? = some oe := by
                have : ps.length < ops.size := (Array.getElem?_eq_some_iff.1 ho).1
                exact ⟨_, Array.getElem?_eq_getElem (by omega)⟩
              obtain ⟨oe, hoe⟩ := hoe
              have := ((hs e.on oe q hoe hq).2 j hqj).1
              omega
          refine ⟨hjlt, e, he, hb, hc.imp id ?_⟩
          rintro ⟨q, hq, hqj⟩
          exact ⟨q, by rw [List.getElem?_append_left hlt]; exact hq, hqj⟩
      obtain ⟨a, b⟩ := planF_ok l (ps ++ [p]) ps' h (fun i => by
        rw [hlen]
        have := hl (i + 1)
        rw [List.getElem?_cons_succ] at this
        rw [this]; congr 1; omega) hs'
      exact ⟨a, by rw [b, hlen, List.length_cons]; omega⟩
    · cases h

theorem apartAll_ok {X : Cx} {ops : Array Oper} {y : Oper} {p : Nat} {fy : Bool} : ∀ (l : List Oper) (j : Nat), apartAll X ops y p fy l j = true → ∀ m x, l[m]? = some x → p.testBit (j + m) = true ∨ apartA X ops x y fy = true
  | [], _, _, m, x, hx => by simp at hx
  | z :: l, j, h, m, x, hx => by
    simp only [apartAll, Bool.and_eq_true, Bool.or_eq_true] at h
    cases m with
    | zero => simp at hx; subst hx; exact h.1
    | succ m =>
      have := apartAll_ok l (j + 1) h.2 m x (by simpa using hx)
      rw [show j + (m + 1) = j + 1 + m by omega]; exact this

theorem planOk_ok {X : Cx} {ops : Array Oper} {F : Nat} : ∀ (l : List Oper) (ps : List Nat) (i : Nat), planOk X ops F l ps i = true → l.length = ps.length ∧
    ∀ m o p, l[m]? = some o → ps[m]? = some p → apartAll X ops o p (F.testBit (i + m)) (ops.toList.take (i + m)) 0 = true ∧ X.kind o.op ≠ .bad ∧ (F.testBit (i + m) = true → X.kind o.op = .alloc)
  | [], [], _, _ => ⟨rfl, fun m o p h => by simp at h⟩
  | [], _ :: _, _, h => by simp [planOk] at h
  | _ :: _, [], _, h => by simp [planOk] at h
  | o :: l, p :: ps, i, h => by
    simp only [planOk, Bool.and_eq_true, decide_eq_true_eq] at h
    obtain ⟨a, b⟩ := planOk_ok l ps (i + 1) h.2
    refine ⟨by simp [a], fun m o' p' ho hp => ?_⟩
    cases m with
    | zero =>
      simp at ho hp; subst ho hp
      refine ⟨h.1.1.1, h.1.1.2, fun hF => ?_⟩
      have hal := h.1.2
      rw [Nat.add_zero] at hF
      rw [hF] at hal
      simp only [Bool.not_true, Bool.false_or] at hal
      unfold isAl at hal
      split at hal
      · assumption
      · cases hal
    | succ m =>
      have := b m o' p' (by simpa using ho) (by simpa using hp)
      rw [show i + (m + 1) = i + 1 + m by omega]; exact this

/-- A region's plan. -/
structure PlanOk (X : Cx) (ops : Array Oper) (ps : List Nat) (F : Nat) : Prop where
  len : ps.length = ops.size
  spec : PSpec ops ps
  apart : ∀ (i j : Nat) (x y : Oper) (p : Nat), j < i → ops[j]? = some x → ops[i]? = some y → ps[i]? = some p → p.testBit j = true ∨ apartA X ops x y (F.testBit i) = true
  kind : ∀ (i : Nat) (o : Oper), ops[i]? = some o → X.kind o.op ≠ .bad
  flo : ∀ (i : Nat) (o : Oper), ops[i]? = some o → F.testBit i = true → X.kind o.op = .alloc

theorem planAt_ok {X : Cx} {ops : Array Oper} {qs ps : List Nat} {F G : Nat} (hq : planF ops.toList [] = some qs) (h : planAt X ops qs G = some (ps, F)) : PlanOk X ops ps F := by
  unfold planAt at h
  cases hb : planOk X ops G ops.toList qs 0 with
  | false => rw [hb, cond_false] at h; cases h
  | true =>
    rw [hb, cond_true] at h; cases h
    obtain ⟨a, b⟩ := planF_ok (ops := ops) _ _ _ hq (fun i => by simp) (fun i o p _ hp => by simp at hp)
    obtain ⟨c, d⟩ := planOk_ok _ _ _ hb
    have hp : ∀ (i : Nat) (o : Oper), ops[i]? = some o → ∃ p : Nat, qs[i]? = some p := by
      intro i o ho
      have hi := (Array.getElem?_eq_some_iff.1 ho).1
      exact ⟨_, List.getElem?_eq_getElem (by rw [← c]; simpa using hi)⟩
    refine ⟨by rw [← c]; simp, a, fun i j x y p hji hx hy hp => ?_, fun i o ho => ?_, fun i o ho hF => ?_⟩
    · have := (d i y p (by simpa using hy) hp).1
      have hx' : (ops.toList.take (0 + i))[j]? = some x := by
        rw [Nat.zero_add, List.getElem?_take_of_lt hji]; simpa using hx
      have r := apartAll_ok _ _ this j x hx'
      simpa using r
    · obtain ⟨p, hp⟩ := hp i o ho
      exact (d i o p (by simpa using ho) hp).2.1
    · obtain ⟨p, hp⟩ := hp i o ho
      exact (d i o p (by simpa using ho) hp).2.2 (by simpa using hF)

theorem plan_ok {X : Cx} {ops : Array Oper} {ps : List Nat} {F : Nat} (h : plan X ops = some (ps, F)) : PlanOk X ops ps F := by
  unfold plan at h
  split at h
  · rename_i qs hq
    split at h <;> exact planAt_ok hq h
  · cases h

end Go.Ev

namespace Go.Ev
variable [Gho]

section
variable {X : Cx} {call : Callf} {n : Nat} {ops : Array Oper} {F : Nat} {fs : List Nat} {c0 : Nat}

/-- The states of the run in the order of the text. -/
theorem trace_of : ∀ (r : List Oper) (ps : List Nat) (i : Nat) (s d : DSt), evDraw X call n ops F fs c0 r ps i s = some d →
    ∃ (f : Nat → DSt) (v : Nat → Value), f i = s ∧ f (i + r.length) = d ∧
      ∀ m, m < r.length → ∃ o p, r[m]? = some o ∧ ps[m]? = some p ∧ stepD X call n ops F fs c0 o p (i + m) (f (i + m)) = some (v (i + m), f (i + m + 1))
  | [], [], i, s, d, h => by
    simp only [evDraw] at h; cases h
    exact ⟨fun _ => s, fun _ => undef, rfl, rfl, fun m hm => by simp at hm⟩
  | [], _ :: _, i, s, d, h => by simp [evDraw] at h
  | _ :: _, [], i, s, d, h => by simp [evDraw] at h
  | o :: r, p :: ps, i, s, d, h => by
    simp only [evDraw] at h
    split at h
    · rename_i u s' hs
      obtain ⟨f, v, h1, h2, h3⟩ := trace_of r ps (i + 1) s' d h
      refine ⟨fun j => if j = i then s else f j, fun j => if j = i then u else v j, by simp, ?_, fun m hm => ?_⟩
      · show (if i + (o :: r).length = i then s else f (i + (o :: r).length)) = d
        rw [if_neg (by rw [List.length_cons]; omega), ← h2]
        congr 1
        rw [List.length_cons]; omega
      · cases m with
        | zero =>
          refine ⟨o, p, rfl, rfl, ?_⟩
          show stepD X call n ops F fs c0 o p i (if i = i then s else f i) = some (if i = i then u else v i, if i + 1 = i then s else f (i + 1))
          rw [if_pos rfl, if_pos rfl, if_neg (by omega), h1]; exact hs
        | succ m =>
          obtain ⟨o', p', a, b, c⟩ := h3 m (by simpa using hm)
          refine ⟨o', p', by simpa using a, by simpa using b, ?_⟩
          show stepD X call n ops F fs c0 o' p' (i + (m + 1)) (if i + (m + 1) = i then s else f (i + (m + 1))) = some (if i + (m + 1) = i then u else v (i + (m + 1)), if i + (m + 1) + 1 = i then s else f (i + (m + 1) + 1))
          rw [if_neg (by omega), if_neg (by omega), if_neg (by omega), show i + (m + 1) = i + 1 + m by omega]
          exact c
    · cases h

/-- What a step of that run is. -/
inductive StepIs (X : Cx) (call : Callf) (ops : Array Oper) (F : Nat) (fs : List Nat) (c0 : Nat) (o : Oper) (p i : Nat) (s s' : DSt) (v : Value) : Prop where
  | skip (h : wantedA ops s.env o = some false) (hv : v = undefA) (hH : s'.H = s.H) (hc : s'.c = s.c) (hw : s'.ws = s.ws) (he : s'.es = s.es) (hr : s'.rs = s.rs)
  | read (h : wantedA ops s.env o = some true) (hk : X.kind o.op = .read) (hv : evVal X (evE X ops o s.env) o.op (strip c0 p fs s.H) = some v) (hH : s'.H = s.H) (hc : s'.c = s.c) (hw : s'.ws = s.ws) (he : s'.es = s.es)
      (hr : s'.rs = ⟨i, p, fun H => evVal X (evE X ops o s.env) o.op (strip c0 p fs H), v, s.ws.length⟩ :: s.rs)
  | pure (h : wantedA ops s.env o = some true) (hk : X.kind o.op = .pure) (hv : evPureO X (evE X ops o s.env) o.op = some v) (hH : s'.H = s.H) (hc : s'.c = s.c) (hw : s'.ws = s.ws) (he : s'.es = s.es) (hr : s'.rs = s.rs)
  | flt (ob : AObj) (mk : Nat → Value) (h : wantedA ops s.env o = some true) (hF : F.testBit i = true) (hv : evAlloc X (evE X ops o s.env) o.op = some (ob, mk)) (hvv : v = mk (c0 + i)) (hlt : c0 + i < 90000000000000)
      (hH : s'.H = s.H.set (c0 + i) ob) (hc : s'.c = s.c) (hw : s'.ws = s.ws) (he : s'.es = s.es) (hr : s'.rs = s.rs)
  | mem (h : wantedA ops s.env o = some true) (hk : memK (X.kind o.op) = true) (hF : F.testBit i = false) (hv : evOper X call (evE X ops o s.env) o.op (c0 + i) s.H s.c = some (v, s'.H, s'.c)) (hw : s'.ws = i :: s.ws)
      (he : s'.es = (s.ws.length, s.H) :: s.es) (hr : s'.rs = s.rs)

theorem stepD_is {o : Oper} {p i : Nat} {s s' : DSt} {v : Value} (hb : X.kind o.op ≠ .bad) (h : stepD X call n ops F fs c0 o p i s = some (v, s')) :
    putE n s.env o.dst v = some s'.env ∧ StepIs X call ops F fs c0 o p i s s' v := by
  unfold stepD at h
  split at h
  · cases h
  · rename_i hw
    split at h
    · rename_i env hp
      cases h
      exact ⟨hp, .skip hw rfl rfl rfl rfl rfl rfl⟩
    · cases h
  · rename_i hw
    split at h
    · rename_i hk
      split at h
      · rename_i u hu
        split at h
        · rename_i env hp
          cases h
          exact ⟨hp, .read hw hk hu rfl rfl rfl rfl rfl⟩
        · cases h
      · cases h
    · rename_i kd hk
      cases hF : F.testBit i with
      | true =>
        rw [hF, cond_true] at h
        split at h
        · rename_i ob mk hal
          cases hlt : Nat.blt (c0 + i) 90000000000000 with
          | false => rw [hlt, cond_false] at h; cases h
          | true =>
            rw [hlt, cond_true] at h
            split at h
            · rename_i env hp
              cases h
              exact ⟨hp, .flt ob mk hw hF hal rfl (by simpa [Nat.blt_eq] using hlt) rfl rfl rfl rfl rfl⟩
            · cases h
        · cases h
      | false =>
        rw [hF, cond_false] at h
        split at h
        · rename_i u H c hu
          split at h
          · rename_i env hp
            cases hm : memK (X.kind o.op) with
            | true =>
              rw [hm, cond_true] at h
              cases h
              exact ⟨hp, .mem hw hm hF hu rfl rfl rfl⟩
            | false =>
              rw [hm, cond_false] at h
              cases h
              have hpure : X.kind o.op = .pure := by
                cases hkk : X.kind o.op <;> simp [memK, hkk] at hm hb hk ⊢
              unfold evOper at hu
              rw [hpure] at hu
              simp only [Option.map_eq_some_iff] at hu
              obtain ⟨q, hq, he⟩ := hu
              cases he
              exact ⟨hp, .pure hw hpure hq rfl rfl rfl rfl rfl⟩
          · cases h
        · cases h

/-- The run in the order of the text, as facts. -/
structure Text (X : Cx) (call : Callf) (n : Nat) (ops : Array Oper) (ps : List Nat) (F : Nat) (fs : List Nat) (c0 : Nat) (f : Nat → DSt) (v : Nat → Value) : Prop where
  step : ∀ i o p, ops[i]? = some o → ps[i]? = some p → putE n (f i).env o.dst (v i) = some (f (i + 1)).env ∧ StepIs X call ops F fs c0 o p i (f i) (f (i + 1)) (v i)

/-- A float of the run, and the object that it makes. -/
def Flo (ops : Array Oper) (F c0 : Nat) (f : Nat → DSt) (m : Nat) (ob : AObj) : Prop :=
  F.testBit m = true ∧ (∃ o, ops[m]? = some o ∧ wantedA ops (f m).env o = some true) ∧ c0 + m < 90000000000000 ∧ (f (m + 1)).H = (f m).H.set (c0 + m) ob

variable {ps : List Nat} {f : Nat → DSt} {v : Nat → Value} (T : Text X call n ops ps F fs c0 f v) (hp : PlanOk X ops ps F) (h0 : (f 0).ws = [] ∧ (f 0).es = [] ∧ (f 0).rs = [])

theorem Flo.eq {m : Nat} {a b : AObj} (h : Flo ops F c0 f m a) (k : Flo ops F c0 f m b) : a = b := by
  obtain ⟨_, _, hl, h⟩ := h
  obtain ⟨_, _, _, k⟩ := k
  have e1 : (f (m + 1)).H.get (c0 + m) = some a := by rw [h, Tr.set, Tr.get_put_eq _ _ _ _ hl, if_pos rfl]
  have e2 : (f (m + 1)).H.get (c0 + m) = some b := by rw [k, Tr.set, Tr.get_put_eq _ _ _ _ hl, if_pos rfl]
  rw [e1] at e2; cases e2; rfl

include T hp

theorem Text.at {i : Nat} (hi : i < ops.size) : ∃ o p, ops[i]? = some o ∧ ps[i]? = some p ∧ putE n (f i).env o.dst (v i) = some (f (i + 1)).env ∧ StepIs X call ops F fs c0 o p i (f i) (f (i + 1)) (v i) := by
  have ho : ops[i]? = some ops[i] := Array.getElem?_eq_getElem hi
  have hi' : i < ps.length := by rw [hp.len]; exact hi
  have hpp : ps[i]? = some ps[i] := List.getElem?_eq_getElem hi'
  exact ⟨_, _, ho, hpp, T.step i _ _ ho hpp⟩

theorem Text.ws_step {i : Nat} (hi : i < ops.size) : ((f (i + 1)).ws = (f i).ws ∧ (f (i + 1)).c = (f i).c ∧ ∀ n o, (f (i + 1)).H.get n = some o → (f i).H.get n = some o ∨ (n = c0 + i ∧ Flo ops F c0 f i o)) ∨ (f (i + 1)).ws = i :: (f i).ws := by
  obtain ⟨o, p, ho, _, _, hs⟩ := T.at hp hi
  cases hs with
  | skip _ _ hH hc hw _ _ => exact .inl ⟨hw, hc, fun n o h => .inl (hH ▸ h)⟩
  | read _ _ _ hH hc hw _ _ => exact .inl ⟨hw, hc, fun n o h => .inl (hH ▸ h)⟩
  | pure _ _ _ hH hc hw _ _ => exact .inl ⟨hw, hc, fun n o h => .inl (hH ▸ h)⟩
  | flt ob mk hwa hF _ _ hlt hH hc hw _ _ =>
    refine .inl ⟨hw, hc, fun n o' h => ?_⟩
    rw [hH] at h
    rcases Tr.get_put h with ⟨a, b⟩ | ⟨_, b⟩
    · cases b; exact .inr ⟨a, hF, ⟨o, ho, hwa⟩, hlt, hH⟩
    · exact .inl b
  | mem _ _ _ _ hw _ _ => exact .inr hw

theorem Text.ws_len {i j : Nat} (hij : i ≤ j) (hj : j ≤ ops.size) : (f i).ws.length ≤ (f j).ws.length ∧ ((f i).ws.length = (f j).ws.length → (f i).ws = (f j).ws ∧ (f i).c = (f j).c ∧
    ∀ n o, (f j).H.get n = some o → (f i).H.get n = some o ∨ ∃ m, i ≤ m ∧ m < j ∧ n = c0 + m ∧ Flo ops F c0 f m o) := by
  induction j with
  | zero =>
    have : i = 0 := by omega
    subst this
    exact ⟨Nat.le_refl _, fun _ => ⟨rfl, rfl, fun _ _ h => .inl h⟩⟩
  | succ j ih =>
    by_cases e : i = j + 1
    · subst e; exact ⟨Nat.le_refl _, fun _ => ⟨rfl, rfl, fun _ _ h => .inl h⟩⟩
    · obtain ⟨a, b⟩ := ih (by omega) (by omega)
      rcases T.ws_step hp (show j < ops.size by omega) with ⟨h1, h2, h3⟩ | h1
      · rw [h1, h2]
        refine ⟨a, fun hl => ?_⟩
        obtain ⟨b1, b2, b3⟩ := b hl
        refine ⟨b1, b2, fun n o h => ?_⟩
        rcases h3 n o h with g | ⟨g1, g2⟩
        · rcases b3 n o g with g | ⟨m, m1, m2, m3, m4⟩
          · exact .inl g
          · exact .inr ⟨m, m1, by omega, m3, m4⟩
        · exact .inr ⟨j, by omega, by omega, g1, g2⟩
      · rw [h1, List.length_cons]
        exact ⟨by omega, fun h => by omega⟩

/-- The places of operations on memory: those ahead of i. -/
theorem Text.ws_mem {i : Nat} (h00 : (f 0).ws = []) (hi : i ≤ ops.size) : ∀ x, x ∈ (f i).ws ↔ x < i ∧ (f (x + 1)).ws = x :: (f x).ws := by
  induction i with
  | zero => intro x; rw [h00]; simp
  | succ i ih =>
    intro x
    have ih' := ih (by omega) x
    rcases T.ws_step hp (show i < ops.size by omega) with ⟨h1, _, _⟩ | h1
    · rw [h1, ih']
      constructor
      · rintro ⟨a, b⟩; exact ⟨by omega, b⟩
      · rintro ⟨a, b⟩
        refine ⟨?_, b⟩
        rcases Nat.lt_or_ge x i with q | q
        · exact q
        · have : x = i := by omega
          subst this
          rw [h1] at b
          have := congrArg List.length b
          simp at this
    · rw [h1, List.mem_cons, ih']
      constructor
      · rintro (rfl | ⟨a, b⟩)
        · exact ⟨by omega, h1⟩
        · exact ⟨by omega, b⟩
      · rintro ⟨a, b⟩
        rcases Nat.lt_or_ge x i with q | q
        · exact .inr ⟨q, b⟩
        · exact .inl (by omega)

theorem Text.es_mem {i : Nat} (hi : i ≤ ops.size) : ∀ x, x < i → (f (x + 1)).ws = x :: (f x).ws → ((f x).ws.length, (f x).H) ∈ (f i).es := by
  induction i with
  | zero => intro x hx; omega
  | succ i ih =>
    intro x hx hw
    obtain ⟨o, p, _, _, _, hs⟩ := T.at hp (show i < ops.size by omega)
    have old : (f (i + 1)).es = (f i).es ∨ (f (i + 1)).es = ((f i).ws.length, (f i).H) :: (f i).es := by
      cases hs with
      | skip _ _ _ _ _ he _ => exact .inl he
      | read _ _ _ _ _ _ he _ => exact .inl he
      | pure _ _ _ _ _ _ he _ => exact .inl he
      | flt _ _ _ _ _ _ _ _ _ _ he _ => exact .inl he
      | mem _ _ _ _ _ he _ => exact .inr he
    by_cases e : x = i
    · subst e
      have hmem : (f (x + 1)).es = ((f x).ws.length, (f x).H) :: (f x).es := by
        cases hs with
        | skip _ _ _ _ hw' _ _ => rw [hw'] at hw; have := congrArg List.length hw; simp at this
        | read _ _ _ _ _ hw' _ _ => rw [hw'] at hw; have := congrArg List.length hw; simp at this
        | pure _ _ _ _ _ hw' _ _ => rw [hw'] at hw; have := congrArg List.length hw; simp at this
        | flt _ _ _ _ _ _ _ _ _ hw' _ _ => rw [hw'] at hw; have := congrArg List.length hw; simp at this
        | mem _ _ _ _ _ he _ => exact he
      rw [hmem]; simp
    · have := ih (by omega) x (by omega) hw
      rcases old with h | h <;> rw [h]
      · exact this
      · exact List.mem_cons_of_mem _ this

/-- At each level there is a place. -/
theorem Text.level {i k : Nat} (h00 : (f 0).ws = []) (hi : i ≤ ops.size) (hk : k < (f i).ws.length) : ∃ x, x < i ∧ (f (x + 1)).ws = x :: (f x).ws ∧ (f x).ws.length = k := by
  induction i with
  | zero => rw [h00] at hk; simp at hk
  | succ i ih =>
    rcases T.ws_step hp (show i < ops.size by omega) with ⟨h1, _, _⟩ | h1
    · rw [h1] at hk
      obtain ⟨x, a, b, c⟩ := ih (by omega) hk
      exact ⟨x, by omega, b, c⟩
    · rw [h1, List.length_cons] at hk
      by_cases e : k = (f i).ws.length
      · exact ⟨i, by omega, h1, e.symm⟩
      · obtain ⟨x, a, b, c⟩ := ih (by omega) (by omega)
        exact ⟨x, by omega, b, c⟩

theorem Text.rs_mem {i x : Nat} (hi : i ≤ ops.size) (hx : x < i) {r : Rd} (hr : r ∈ (f (x + 1)).rs) : r ∈ (f i).rs := by
  induction i with
  | zero => omega
  | succ i ih =>
    by_cases e : x = i
    · subst e; exact hr
    · have := ih (by omega) (by omega)
      obtain ⟨o, p, _, _, _, hs⟩ := T.at hp (show i < ops.size by omega)
      cases hs with
      | skip _ _ _ _ _ _ h => rw [h]; exact this
      | read _ _ _ _ _ _ _ h => rw [h]; exact List.mem_cons_of_mem _ this
      | pure _ _ _ _ _ _ _ h => rw [h]; exact this
      | flt _ _ _ _ _ _ _ _ _ _ _ h => rw [h]; exact this
      | mem _ _ _ _ _ _ h => rw [h]; exact this

theorem putE_get {n : Nat} {env env' : Env} {dst : Option Tmp} {u : Value} (h : putE n env dst u = some env') {t : Nat} {x : Value} (hx : env'.get t = some x) :
    (dst = some t ∧ x = u) ∨ (dst ≠ some t ∧ env.get t = some x) := by
  unfold putE at h
  split at h
  · cases h; exact .inr ⟨by simp, hx⟩
  · rename_i d
    cases hb : Nat.blt d n with
    | false => rw [hb, cond_false] at h; cases h
    | true =>
      rw [hb, cond_true] at h; cases h
      rcases Tr.get_put hx with ⟨a, b⟩ | ⟨a, b⟩
      · cases b; exact .inl ⟨by rw [a], rfl⟩
      · exact .inr ⟨fun e => a (by cases e; rfl), b⟩

/-- A slot at a place of the text: what the last operation ahead gave it, or what it was. -/
theorem Text.slot {i t : Nat} (hi : i ≤ ops.size) {u : Value} (hu : (f i).env.get t = some u) :
    (∃ j o, j < i ∧ ops[j]? = some o ∧ o.dst = some t ∧ u = v j ∧ ∀ j' o', j < j' → j' < i → ops[j']? = some o' → o'.dst ≠ some t) ∨
    ((f 0).env.get t = some u ∧ ∀ j o, j < i → ops[j]? = some o → o.dst ≠ some t) := by
  induction i generalizing u with
  | zero => exact .inr ⟨hu, fun j o h => by omega⟩
  | succ i ih =>
    obtain ⟨o, p, ho, _, hpe, _⟩ := T.at hp (show i < ops.size by omega)
    rcases putE_get T hp hpe hu with ⟨a, b⟩ | ⟨a, b⟩
    · exact .inl ⟨i, o, by omega, ho, a, b, fun j' o' h1 h2 => by omega⟩
    · rcases ih (by omega) b with ⟨j, o', h1, h2, h3, h4, h5⟩ | ⟨h1, h2⟩
      · refine .inl ⟨j, o', by omega, h2, h3, h4, fun j' o'' q1 q2 q3 => ?_⟩
        by_cases e : j' = i
        · subst e; rw [ho] at q3; cases q3; exact a
        · exact h5 j' o'' q1 (by omega) q3
      · refine .inr ⟨h1, fun j o' q1 q2 => ?_⟩
        by_cases e : j = i
        · subst e; rw [ho] at q2; cases q2; exact a
        · exact h2 j o' (by omega) q2

end
end Go.Ev

namespace Go.Ev
variable [Gho]

theorem countP_mono {f g : Nat → Bool} : ∀ (l : List Nat), (∀ x ∈ l, f x = true → g x = true) → countP f l ≤ countP g l
  | [], _ => Nat.le_refl _
  | x :: l, h => by
    have ih := countP_mono (f := f) (g := g) l (fun y hy => h y (List.mem_cons_of_mem _ hy))
    simp only [countP]
    cases hf : f x with
    | false => cases g x <;> simp <;> omega
    | true => rw [h x (by simp) hf]; simp only [cond_true]; omega
theorem countP_congr {f g : Nat → Bool} (l : List Nat) (h : ∀ x ∈ l, f x = g x) : countP f l = countP g l :=
  Nat.le_antisymm (countP_mono l fun x hx hf => by rw [← h x hx]; exact hf) (countP_mono l fun x hx hf => by rw [h x hx]; exact hf)
theorem countP_all {f : Nat → Bool} : ∀ (l : List Nat), (∀ x ∈ l, f x = true) → countP f l = l.length
  | [], _ => rfl
  | x :: l, h => by
    simp only [countP, h x (by simp), cond_true, List.length_cons]
    rw [countP_all l (fun y hy => h y (List.mem_cons_of_mem _ hy))]

section
variable {X : Cx} {call : Callf} {n : Nat} {ops : Array Oper} {F : Nat} {fs : List Nat} {c0 : Nat} {ps : List Nat} {f : Nat → DSt} {v : Nat → Value}

theorem Text.count (T : Text X call n ops ps F fs c0 f v) (hp : PlanOk X ops ps F) (h00 : (f 0).ws = []) {S : Nat → Bool} {i : Nat} (hi : i ≤ ops.size) (hS : ∀ x ∈ (f ops.size).ws, (S x = true ↔ x < i)) :
    countP S (f ops.size).ws = (f i).ws.length := by
  have key : ∀ d j, j = i + d → j ≤ ops.size → countP S (f j).ws = (f i).ws.length := by
    intro d
    induction d with
    | zero =>
      intro j hj hjN
      have hji : j = i := by omega
      subst hji
      refine countP_all _ fun x hx => ?_
      have hx' := (T.ws_mem hp h00 hjN x).1 hx
      exact (hS x ((T.ws_mem hp h00 (Nat.le_refl _) x).2 ⟨by omega, hx'.2⟩)).2 hx'.1
    | succ d ih =>
      intro j hj hjN
      obtain ⟨j, rfl⟩ : ∃ m, j = m + 1 := ⟨j - 1, by omega⟩
      have ih' := ih j (by omega) (by omega)
      rcases T.ws_step hp (show j < ops.size by omega) with ⟨h1, _, _⟩ | h1
      · rw [h1]; exact ih'
      · rw [h1]
        simp only [countP]
        have hSj : S j = false := by
          cases hc : S j with
          | false => rfl
          | true =>
            have := (hS j ((T.ws_mem hp h00 (Nat.le_refl _) j).2 ⟨by omega, h1⟩)).1 hc
            omega
        rw [hSj, cond_false]; exact ih'
  exact key (ops.size - i) ops.size (by omega) (Nat.le_refl _)

/-- The names when the operations of S are done, those on memory that are no floats being just those ahead of q: the heap there, and the floats behind that are done. -/
def Names (ops : Array Oper) (F c0 : Nat) (f : Nat → DSt) (S : Nat → Bool) (q : Nat) (n : Nat) (o : AObj) : Prop :=
  (f q).H.get n = some o ∨ ∃ m, q ≤ m ∧ n = c0 + m ∧ S m = true ∧ Flo ops F c0 f m o

/-- How far the operations on memory are. -/
structure Level (ops : Array Oper) (F : Nat) (c0 : Nat) (f : Nat → DSt) (ρ0 : Rn) (w0 : World) (S : Nat → Bool) (ρ : Rn) (w : World) (q : Nat) : Prop where
  le : q ≤ ops.size
  len : (f q).ws.length = countP S (f ops.size).ws
  last : q = 0 ∨ ∃ x, q = x + 1 ∧ (f (x + 1)).ws = x :: (f x).ws ∧ S x = true
  go : GoesR ρ0 (f 0).H w0 ρ (Names ops F c0 f S q) w
  below : ρ.Below (f q).c
  room : c0 + ops.size ≤ (f q).c
  dis : ∀ m o, q ≤ m → S m = true → Flo ops F c0 f m o → (f q).H.get (c0 + m) = none

/-- What holds when the operations of S are done. -/
structure Inv (X : Cx) (n : Nat) (ops : Array Oper) (ps : List Nat) (F : Nat) (c0 : Nat) (f : Nat → DSt) (v : Nat → Value) (ρ0 : Rn) (w0 : World) (S : Nat → Bool) (ρ : Rn) (tmps : Array Value) (w : World) : Prop where
  closed : ∀ (i : Nat) (p : Nat) (j : Nat), S i = true → ps[i]? = some p → p.testBit j = true → S j = true
  inn : ∀ i, S i = true → i < ops.size
  size : tmps.size = n
  envA : ∀ t u, (∀ (j : Nat) (o : Oper), S j = true → ops[j]? = some o → o.dst ≠ some t) → (f 0).env.get t = some u → ∃ u', tmps[t]? = some u' ∧ VRel ρ u u'
  envB : ∀ (j : Nat) (o : Oper) t, S j = true → ops[j]? = some o → o.dst = some t → (∀ (j' : Nat) (o' : Oper), j < j' → S j' = true → ops[j']? = some o' → o'.dst ≠ some t) → t < n →
    ∃ u', tmps[t]? = some u' ∧ VRel ρ (v j) u'
  lvl : ∃ q, Level ops F c0 f ρ0 w0 S ρ w q
  fresh : ∀ j, j < ops.size → S j = false → ρ (c0 + j) = none
  old : ∀ m, m < c0 → ρ m = ρ0 m

variable (T : Text X call n ops ps F fs c0 f v) (hp : PlanOk X ops ps F) (h0 : (f 0).ws = [] ∧ (f 0).es = [] ∧ (f 0).rs = [])
  (hrd : ∀ r ∈ (f ops.size).rs, ∀ E ∈ ((f ops.size).ws.length, (f ops.size).H) :: (f ops.size).es, rdOk (f ops.size).ws ps r E = true)
include T hp h0

/-- The slots that an operation looks at. -/
theorem Inv.looks {ρ0 ρ : Rn} {w0 w : World} {S : Nat → Bool} {tmps : Array Value} (I : Inv X n ops ps F c0 f v ρ0 w0 S ρ tmps w) {i p : Nat} {o : Oper} (ho : ops[i]? = some o) (hpi : ps[i]? = some p)
    (hready : ∀ j, p.testBit j = true → S j = true) (hno : S i = false) {t : Tmp} (ht : t ∈ o.looksAt ops) {u : Value} (hu : (f i).env.get t = some u) : ∃ u', tmps[t]? = some u' ∧ VRel ρ u u' := by
  have hi : i < ops.size := (Array.getElem?_eq_some_iff.1 ho).1
  -- a writer of the slot that is done stands ahead in the text
  have done_lt : ∀ j oj, S j = true → ops[j]? = some oj → oj.dst = some t → j < i := by
    intro j oj hj hoj hd
    rcases Nat.lt_trichotomy j i with q | q | q
    · exact q
    · subst q; rw [hno] at hj; cases hj
    · have hpj : ∃ pj : Nat, ps[j]? = some pj := ⟨_, List.getElem?_eq_getElem (by rw [hp.len]; exact I.inn j hj)⟩
      obtain ⟨pj, hpj⟩ := hpj
      rcases hp.apart j i o oj pj q ho hoj hpj with h | h
      · have := I.closed j pj i hj hpj h
        rw [hno] at this; cases this
      · unfold apartA at h
        rw [Bool.and_eq_true] at h
        obtain ⟨_, _, h3⟩ := Oper.apart_spec h.1
        exact absurd ht (h3 t hd)
  -- a writer ahead in the text is done
  have lt_done : ∀ j oj, j < i → ops[j]? = some oj → oj.dst = some t → S j = true := by
    intro j oj hj hoj hd
    rcases hp.apart i j oj o p hj hoj ho hpi with h | h
    · exact hready j h
    · unfold apartA at h
      rw [Bool.and_eq_true] at h
      obtain ⟨h1, _, _⟩ := Oper.apart_spec h.1
      exact absurd ht (h1 t hd)
  rcases T.slot hp (Nat.le_of_lt hi) hu with ⟨j, oj, h1, h2, h3, h4, h5⟩ | ⟨h1, h2⟩
  · have hj := lt_done j oj h1 h2 h3
    rw [h4]
    refine I.envB j oj t hj h2 h3 (fun j' o' q1 q2 q3 q4 => h5 j' o' q1 (done_lt j' o' q2 q3 q4) q3 q4) ?_
    -- the slot is one of the frame's
    obtain ⟨oj', pj, hoj, _, hpe, _⟩ := T.at hp (show j < ops.size by omega)
    rw [h2] at hoj; cases hoj
    unfold putE at hpe
    rw [h3] at hpe
    simp only at hpe
    cases hb : Nat.blt t n with
    | false => rw [hb, cond_false] at hpe; cases hpe
    | true => simpa [Nat.blt_eq] using hb
  · exact I.envA t u (fun j oj q1 q2 q3 => h2 j oj (done_lt j oj q1 q2 q3) q2 q3) h1

/-- The slots behind an operation. -/
theorem Inv.put {ρ0 ρ ρ' : Rn} {w0 w : World} {S : Nat → Bool} {tmps : Array Value} (I : Inv X n ops ps F c0 f v ρ0 w0 S ρ tmps w) {i p : Nat} {o : Oper} (ho : ops[i]? = some o) (hpi : ps[i]? = some p)
    (hready : ∀ j, p.testBit j = true → S j = true) (hno : S i = false) (hx : ρ.Ext ρ') {v' : Value} (hv : VRel ρ' (v i) v') :
    (putT tmps o.dst v').size = n ∧
    (∀ t u, (∀ (j : Nat) (oj : Oper), (S j || decide (j = i)) = true → ops[j]? = some oj → oj.dst ≠ some t) → (f 0).env.get t = some u → ∃ u', (putT tmps o.dst v')[t]? = some u' ∧ VRel ρ' u u') ∧
    (∀ (j : Nat) (oj : Oper) t, (S j || decide (j = i)) = true → ops[j]? = some oj → oj.dst = some t → (∀ (j' : Nat) (o' : Oper), j < j' → (S j' || decide (j' = i)) = true → ops[j']? = some o' → o'.dst ≠ some t) → t < n →
      ∃ u', (putT tmps o.dst v')[t]? = some u' ∧ VRel ρ' (v j) u') := by
  have hi : i < ops.size := (Array.getElem?_eq_some_iff.1 ho).1
  have other : ∀ t, o.dst ≠ some t → (putT tmps o.dst v')[t]? = tmps[t]? := by
    intro t ht
    unfold putT
    split
    · rename_i d hd
      rw [Array.getElem?_setIfInBounds_ne (fun e => ht (by rw [hd, e]))]
    · rfl
  refine ⟨?_, ?_, ?_⟩
  · unfold putT; split <;> simp [I.size]
  · intro t u hn hu
    have hne : o.dst ≠ some t := hn i o (by simp) ho
    rw [other t hne]
    obtain ⟨u', h1, h2⟩ := I.envA t u (fun j oj hj => hn j oj (by simp [hj])) hu
    exact ⟨u', h1, h2.mono hx⟩
  · intro j oj t hj hoj hd hmax htn
    by_cases e : j = i
    · subst e
      rw [ho] at hoj; cases hoj
      refine ⟨v', ?_, hv⟩
      unfold putT
      rw [hd]
      simp only
      rw [Array.getElem?_setIfInBounds_self_of_lt (by rw [I.size]; exact htn)]
    · have hSj : S j = true := by simpa [e] using hj
      have hne : o.dst ≠ some t := by
        intro hc
        rcases Nat.lt_or_ge j i with q | q
        · exact hmax i o q (by simp) ho hc
        · have hlt : i < j := by omega
          have hpj : ∃ pj : Nat, ps[j]? = some pj := ⟨_, List.getElem?_eq_getElem (by rw [hp.len]; exact I.inn j hSj)⟩
          obtain ⟨pj, hpj⟩ := hpj
          rcases hp.apart j i o oj pj hlt ho hoj hpj with h | h
          · have := I.closed j pj i hSj hpj h
            rw [hno] at this; cases this
          · unfold apartA at h
            rw [Bool.and_eq_true] at h
            obtain ⟨_, h2, _⟩ := Oper.apart_spec h.1
            exact h2 t hc hd
      rw [other t hne]
      obtain ⟨u', h1, h2⟩ := I.envB j oj t hSj hoj hd (fun j' o' q1 q2 q3 => hmax j' o' q1 (by simp [q2]) q3) htn
      exact ⟨u', h1, h2.mono hx⟩

end
end Go.Ev

namespace Go.Ev
variable [Gho]

theorem evO_rest {X : Cx} {ρ : Rn} {env : Env} {fr : Frame} (hg : GRel X ρ) {x : Operand} (hx : ∀ t, x ≠ .tmp t) {u : Value} (h : evO X env x = some u) : VRel ρ u (fr.eval x) := by
  have he : EnvRel ρ fr.tmps.size .nil fr.tmps := ⟨rfl, fun t v hv => by cases hv⟩
  cases x with
  | tmp t => exact absurd rfl (hx t)
  | const c => exact evO_ok (X := X) he hg (.const c) u h
  | global g => exact evO_ok (X := X) he hg (.global g) u h
  | func g => exact evO_ok (X := X) he hg (.func g) u h

theorem evE_ok {X : Cx} {ρ : Rn} {ops : Array Oper} {o : Oper} {env : Env} {fr : Frame} (hg : GRel X ρ) (h : ∀ t ∈ o.looksAt ops, ∀ u, env.get t = some u → ∃ u', fr.tmps[t]? = some u' ∧ VRel ρ u u') :
    OpRel ρ (evE X ops o env) fr.eval := by
  intro x u hx
  unfold evE at hx
  split at hx
  · rename_i t
    cases hb : (o.looksAt ops).elem t with
    | false => rw [hb, cond_false] at hx; cases hx
    | true =>
      rw [hb, cond_true] at hx
      obtain ⟨u', h1, h2⟩ := h t (List.elem_iff.1 hb) u hx
      show VRel ρ u (fr.tmps.getD t undef)
      rw [Array.getD_eq_getD_getElem?, h1]; exact h2
  · rename_i hne
    exact evO_rest hg (fun t e => hne t e) hx

theorem wanted_ok' {ρ : Rn} {env : Env} {tmps : Array Value} {ops : Array Oper} {o : Oper} (he : ∀ t ∈ o.looksAt ops, ∀ u, env.get t = some u → ∃ u', tmps[t]? = some u' ∧ VRel ρ u u') {b : Bool}
    (h : wantedA ops env o = some b) : Region.wanted o (yielded ops tmps) = b := by
  unfold wantedA at h
  unfold Region.wanted
  split at h
  · rename_i hg; cases h; rw [hg]
  · rename_i j b' hg
    rw [hg]
    simp only
    unfold yielded
    split at h
    · rename_i hd; cases h; rw [hd]; rfl
    · rename_i d hd
      rw [hd]
      simp only [Option.bind_some]
      have hin : d ∈ o.looksAt ops := by
        unfold Oper.looksAt
        rw [hg]
        simp [hd]
      split at h
      · rename_i c hv
        cases h
        obtain ⟨v', hv', hr⟩ := he d hin _ hv
        rw [hv', hr.unbool]
        cases c <;> cases b' <;> rfl
      · rename_i c hv
        cases h
        obtain ⟨v', hv', hr⟩ := he d hin _ hv
        obtain ⟨c', rfl, _⟩ := hr.untup
        rw [hv']; rfl
      · cases h

theorem nodefer {X : Cx} {o : Oper} (h : X.kind o.op ≠ .bad) : ∀ c, o.op ≠ .defer c := fun c hc => h (by rw [hc]; rfl)

theorem strip_get {c0 p : Nat} : ∀ (l : List Nat) (H : Heap) (n : Nat) (o : AObj), (strip c0 p l H).get n = some o → H.get n = some o ∧ ∀ j ∈ l, p.testBit j = false → n ≠ c0 + j
  | [], H, n, o, h => ⟨h, fun j hj => by simp at hj⟩
  | j :: l, H, n, o, h => by
    obtain ⟨a, b⟩ := strip_get l _ n o h
    cases hp : p.testBit j with
    | true =>
      rw [hp, cond_true] at a
      refine ⟨a, fun j' hj' hp' => ?_⟩
      rcases List.mem_cons.1 hj' with rfl | hm
      · rw [hp] at hp'; cases hp'
      · exact b j' hm hp'
    | false =>
      rw [hp, cond_false] at a
      rcases Tr.get_put a with ⟨_, c⟩ | ⟨c, d⟩
      · cases c
      · refine ⟨d, fun j' hj' hp' => ?_⟩
        rcases List.mem_cons.1 hj' with rfl | hm
        · exact c
        · exact b j' hm hp'

theorem floatsOf_mem {F N m : Nat} (h : F.testBit m = true) (hm : m < N) : m ∈ floatsOf F N := by
  unfold floatsOf
  cases hb : Nat.beq F 0 with
  | true =>
    have : F = 0 := Nat.eq_of_beq_eq_true hb
    subst this
    simp at h
  | false =>
    rw [cond_false, List.mem_filter]
    exact ⟨List.mem_range.2 hm, h⟩

section
variable {X : Cx} {call : Callf} {n : Nat} {ops : Array Oper} {F : Nat} {fs : List Nat} {c0 : Nat} {ps : List Nat} {f : Nat → DSt} {v : Nat → Value}
variable (T : Text X call n ops ps F fs c0 f v) (hp : PlanOk X ops ps F) (h0 : (f 0).ws = [] ∧ (f 0).es = [] ∧ (f 0).rs = [])
include T hp h0

theorem Text.isMem {x : Nat} (hx : x ∈ (f ops.size).ws) : ∃ o, ops[x]? = some o ∧ memK (X.kind o.op) = true ∧ F.testBit x = false := by
  obtain ⟨h1, h2⟩ := (T.ws_mem hp h0.1 (Nat.le_refl _) x).1 hx
  obtain ⟨o, p, ho, _, _, hs⟩ := T.at hp h1
  have no : (f (x + 1)).ws = (f x).ws → False := fun h => by
    rw [h] at h2; have := congrArg List.length h2; simp at this
  cases hs with
  | skip _ _ _ _ hw _ _ => exact (no hw).elim
  | read _ _ _ _ _ hw _ _ => exact (no hw).elim
  | pure _ _ _ _ _ hw _ _ => exact (no hw).elim
  | flt _ _ _ _ _ _ _ _ _ hw _ _ => exact (no hw).elim
  | mem _ hk hF _ _ _ _ => exact ⟨o, ho, hk, hF⟩

variable {ρ0 ρ : Rn} {w0 w : World} {S : Nat → Bool} {tmps : Array Value}

theorem Inv.mem_iff (I : Inv X n ops ps F c0 f v ρ0 w0 S ρ tmps w) {i p : Nat} {o : Oper} (ho : ops[i]? = some o) (hpi : ps[i]? = some p)
    (hready : ∀ j, p.testBit j = true → S j = true) (hno : S i = false) (hk : memK (X.kind o.op) = true) (hF : F.testBit i = false) : ∀ x ∈ (f ops.size).ws, (S x = true ↔ x < i) := by
  intro x hx
  obtain ⟨ox, hox, hkx, hFx⟩ := T.isMem hp h0 hx
  constructor
  · intro hSx
    rcases Nat.lt_trichotomy x i with q | q | q
    · exact q
    · subst q; rw [hno] at hSx; cases hSx
    · obtain ⟨px, hpx⟩ : ∃ px : Nat, ps[x]? = some px := ⟨_, List.getElem?_eq_getElem (by rw [hp.len]; exact I.inn x hSx)⟩
      rcases hp.apart x i o ox px q ho hox hpx with h | h
      · have := I.closed x px i hSx hpx h
        rw [hno] at this; cases this
      · unfold apartA at h
        rw [hk, hkx, hFx] at h
        simp at h
  · intro hlt
    rcases hp.apart i x ox o p hlt hox ho hpi with h | h
    · exact hready x h
    · unfold apartA at h
      rw [hk, hkx, hF] at h
      simp at h

/-- A float that is not done stands behind. -/
theorem Inv.float_ge (I : Inv X n ops ps F c0 f v ρ0 w0 S ρ tmps w) {q : Nat} (L : Level ops F c0 f ρ0 w0 S ρ w q) {i : Nat} {o : Oper} (ho : ops[i]? = some o) (hno : S i = false) (hF : F.testBit i = true) : q ≤ i := by
  rcases L.last with rfl | ⟨x, rfl, hx, hSx⟩
  · exact Nat.zero_le _
  · have hx1 : x < ops.size := I.inn x hSx
    have hin : x ∈ (f ops.size).ws := (T.ws_mem hp h0.1 (Nat.le_refl _) x).2 ⟨hx1, hx⟩
    obtain ⟨ox, hox, hkx, hFx⟩ := T.isMem hp h0 hin
    rcases Nat.lt_trichotomy i x with c | c | c
    · exfalso
      obtain ⟨px, hpx⟩ : ∃ px : Nat, ps[x]? = some px := ⟨_, List.getElem?_eq_getElem (by rw [hp.len]; exact hx1)⟩
      rcases hp.apart x i o ox px c ho hox hpx with h | h
      · have := I.closed x px i hSx hpx h
        rw [hno] at this; cases this
      · unfold apartA at h
        rw [hkx, hFx, hp.flo i o ho hF] at h
        simp [memK] at h
    · subst c; rw [hno] at hSx; cases hSx
    · omega

/-- A part of a heap of the text, at the level that is reached: names that are there. -/
theorem Level.names {q : Nat} (L : Level ops F c0 f ρ0 w0 S ρ w q) {i : Nat} (hi : i ≤ ops.size) (hlen : (f i).ws.length = (f q).ws.length) {n : Nat} {o : AObj} (hn : (f i).H.get n = some o)
    (hd : ∀ m, q ≤ m → m < i → n = c0 + m → Flo ops F c0 f m o → S m = true) : Names ops F c0 f S q n o := by
  rcases Nat.lt_or_ge i q with c | c
  · exfalso
    rcases L.last with rfl | ⟨x, rfl, hx, _⟩
    · omega
    · have h1 := (T.ws_len hp (show i ≤ x by omega) (by have := L.le; omega)).1
      rw [hx, List.length_cons] at hlen
      omega
  · rcases ((T.ws_len hp c hi).2 hlen.symm).2.2 n o hn with h | ⟨m, m1, m2, m3, m4⟩
    · exact .inl h
    · exact .inr ⟨m, m1, m3, hd m m1 m2 m3 m4, m4⟩

omit T hp h0 in
/-- An operation that is none on memory: the level stays. -/
theorem Level.stay {q : Nat} (L : Level ops F c0 f ρ0 w0 S ρ w q) {i : Nat} (hnf : ∀ o, ¬ Flo ops F c0 f i o) (hc : countP (fun j => S j || decide (j = i)) (f ops.size).ws = countP S (f ops.size).ws) :
    Level ops F c0 f ρ0 w0 (fun j => S j || decide (j = i)) ρ w q where
  le := L.le
  len := by rw [hc]; exact L.len
  last := L.last.imp id fun ⟨x, a, b, c⟩ => ⟨x, a, b, by simp [c]⟩
  go := L.go.sub fun n o h => by
    rcases h with h | ⟨m, m1, m2, m3, m4⟩
    · exact .inl h
    · refine .inr ⟨m, m1, m2, ?_, m4⟩
      simp only [Bool.or_eq_true, decide_eq_true_eq] at m3
      rcases m3 with h | rfl
      · exact h
      · exact (hnf o m4).elim
  below := L.below
  room := L.room
  dis := fun m o m1 m2 m3 => by
    simp only [Bool.or_eq_true, decide_eq_true_eq] at m2
    rcases m2 with h | rfl
    · exact L.dis m o m1 h m3
    · exact (hnf o m3).elim

theorem Inv.next (I : Inv X n ops ps F c0 f v ρ0 w0 S ρ tmps w) {i p : Nat} {o : Oper} (ho : ops[i]? = some o) (hpi : ps[i]? = some p)
    (hready : ∀ j, p.testBit j = true → S j = true) (hno : S i = false) {ρ' : Rn} {v' : Value} {w' : World} (hx : ρ.Ext ρ') (hv : VRel ρ' (v i) v')
    (hl : ∃ q, Level ops F c0 f ρ0 w0 (fun j => S j || decide (j = i)) ρ' w' q)
    (hne : ∀ m, m < c0 + ops.size → m ≠ c0 + i → ρ' m = ρ m) :
    Inv X n ops ps F c0 f v ρ0 w0 (fun j => S j || decide (j = i)) ρ' (putT tmps o.dst v') w' := by
  have hi : i < ops.size := (Array.getElem?_eq_some_iff.1 ho).1
  obtain ⟨a, b, c⟩ := I.put T hp h0 ho hpi hready hno hx hv
  refine ⟨fun j pj x hj hpj hb => ?_, fun j hj => ?_, a, b, c, hl, fun j hj hS => ?_, fun m hm => ?_⟩
  · simp only [Bool.or_eq_true, decide_eq_true_eq] at hj ⊢
    rcases hj with hj | rfl
    · exact .inl (I.closed j pj x hj hpj hb)
    · rw [hpi] at hpj; cases hpj
      exact .inl (hready x hb)
  · simp only [Bool.or_eq_true, decide_eq_true_eq] at hj
    rcases hj with hj | rfl
    · exact I.inn j hj
    · exact hi
  · simp only [Bool.or_eq_false_iff, decide_eq_false_iff_not] at hS
    rw [hne _ (by omega) (by omega)]
    exact I.fresh j hj hS.1
  · rw [hne m (by omega) (by omega)]
    exact I.old m hm

variable (hrd : ∀ r ∈ (f ops.size).rs, ∀ E ∈ ((f ops.size).ws.length, (f ops.size).H) :: (f ops.size).es, rdOk (f ops.size).ws ps r E = true)

theorem Inv.entry {q : Nat} (hq : q ≤ ops.size) : ∃ x, x ≤ ops.size ∧ (f x).ws.length = (f q).ws.length ∧ ((f x).ws.length, (f x).H) ∈ ((f ops.size).ws.length, (f ops.size).H) :: (f ops.size).es := by
  obtain ⟨a, _⟩ := T.ws_len hp hq (Nat.le_refl _)
  by_cases e : (f q).ws.length = (f ops.size).ws.length
  · exact ⟨ops.size, Nat.le_refl _, e.symm, by simp⟩
  · obtain ⟨x, h1, h2, h3⟩ := T.level hp h0.1 (Nat.le_refl _) (show (f q).ws.length < (f ops.size).ws.length by omega)
    have hin := T.es_mem hp (Nat.le_refl _) x h1 h2
    exact ⟨x, Nat.le_of_lt h1, h3, List.mem_cons_of_mem _ hin⟩

include hrd
theorem Inv.step (ok : X.Ok) (hcs : CallSound X call) (hfs : fs = floatsOf F ops.size) (I : Inv X n ops ps F c0 f v ρ0 w0 S ρ tmps w) (hg : GRel X ρ) {i p : Nat} {o : Oper} (ho : ops[i]? = some o) (hpi : ps[i]? = some p)
    (hready : ∀ j, p.testBit j = true → S j = true) (hno : S i = false) {fr : Frame} {cs : List Frame} {k : List Item} {rest : List Nat} (hm : fr.mode = .run)
    (ht : fr.todo = .inRegion ops (i :: rest) :: k) (htm : fr.tmps = tmps) :
    ∃ ρ' tmps' w', Steps X.P (lone fr cs w) (lone { fr with tmps := tmps', todo := .inRegion ops rest :: k } cs w') ∧
      Inv X n ops ps F c0 f v ρ0 w0 (fun j => S j || decide (j = i)) ρ' tmps' w' ∧ GRel X ρ' := by
  subst htm
  have hi : i < ops.size := (Array.getElem?_eq_some_iff.1 ho).1
  have hlk : ∀ t ∈ o.looksAt ops, ∀ u, (f i).env.get t = some u → ∃ u', fr.tmps[t]? = some u' ∧ VRel ρ u u' := fun t ht u hu => I.looks T hp h0 ho hpi hready hno ht hu
  have hop : OpRel ρ (evE X ops o (f i).env) fr.eval := evE_ok hg hlk
  obtain ⟨o', p', ho', hpi', hpe, hs⟩ := T.at hp hi
  rw [ho] at ho'; cases ho'
  rw [hpi] at hpi'; cases hpi'
  obtain ⟨q, L⟩ := I.lvl
  -- an operation that is none on memory: how many have been stays
  have same : (f (i + 1)).ws = (f i).ws → countP (fun j => S j || decide (j = i)) (f ops.size).ws = countP S (f ops.size).ws := by
    intro hw
    refine countP_congr _ fun x hx => ?_
    have hxi : x ≠ i := by
      rintro rfl
      have := ((T.ws_mem hp h0.1 (Nat.le_refl _) x).1 hx).2
      rw [hw] at this
      have := congrArg List.length this
      simp at this
    simp [hxi]
  have nofl : X.kind o.op ≠ .alloc → ∀ ob, ¬ Flo ops F c0 f i ob := fun hk ob h => hk (hp.flo i o ho h.1)
  cases hs with
  | skip hwa hv hH hc hw he hr =>
    have hwt := wanted_ok' hlk hwa
    have hund : VRel ρ (v i) undef := by rw [hv]; exact .tupA ⟨rfl, fun i x y h => by simp at h⟩
    have hnf : ∀ ob, ¬ Flo ops F c0 f i ob := fun ob h => by
      obtain ⟨_, ⟨o2, ho2, hw2⟩, _⟩ := h
      rw [ho] at ho2; cases ho2
      rw [hwa] at hw2; cases hw2
    exact ⟨ρ, _, w, .one (stp_opSkip hm ht ho hwt), I.next T hp h0 ho hpi hready hno (.refl ρ) hund ⟨q, L.stay hnf (same hw)⟩ fun _ _ _ => rfl, hg⟩
  | pure hwa hk hv hH hc hw he hr =>
    have hwt := wanted_ok' hlk hwa
    obtain ⟨v', hgv, hvr⟩ := evPureO_ok ok hop hg w hv
    exact ⟨ρ, _, w, .one (stp_opValue hm (nodefer (by rw [hk]; decide)) ht ho hwt hgv (.inl rfl)), I.next T hp h0 ho hpi hready hno (.refl ρ) hvr ⟨q, L.stay (nofl (by rw [hk]; decide)) (same hw)⟩ fun _ _ _ => rfl, hg⟩
  | read hwa hk hv hH hc hw he hr =>
    have hwt := wanted_ok' hlk hwa
    -- a heap of the text without the floats that need not be done
    have part : ∀ x, x ≤ ops.size → (f x).ws.length = (f q).ws.length → WRel ρ (strip c0 p fs (f x).H) w := by
      intro x hx hlen
      refine L.go.wrel fun n ob hn => ?_
      obtain ⟨g1, g2⟩ := strip_get _ _ _ _ hn
      refine L.names T hp h0 hx hlen g1 fun m _ _ hnm hfl => ?_
      cases hb : p.testBit m with
      | true => exact hready m hb
      | false =>
        obtain ⟨om, hom, _⟩ := hfl.2.1
        exact (g2 m (by rw [hfs]; exact floatsOf_mem hfl.1 (Array.getElem?_eq_some_iff.1 hom).1) hb hnm).elim
    obtain ⟨x, hx, hxl, hent⟩ := Inv.entry T hp h0 L.le
    have hval : ∃ y, y ≤ ops.size ∧ (f y).ws.length = (f q).ws.length ∧ evVal X (evE X ops o (f i).env) o.op (strip c0 p fs (f y).H) = some (v i) := by
      have hin : (⟨i, p, fun H => evVal X (evE X ops o (f i).env) o.op (strip c0 p fs H), v i, (f i).ws.length⟩ : Rd) ∈ (f ops.size).rs := T.rs_mem hp (Nat.le_refl _) hi (by rw [hr]; simp)
      have := hrd _ hin _ hent
      unfold rdOk at this
      simp only [Bool.or_eq_true] at this
      rcases this with ((hd | hd) | hd) | hd
      · have e : (f x).ws.length = (f i).ws.length := Nat.eq_of_beq_eq_true hd
        exact ⟨i, Nat.le_of_lt hi, by rw [← e, hxl], hv⟩
      · have hlt : (f x).ws.length < countP (fun x => p.testBit x) (f ops.size).ws := by simpa [Nat.blt_eq] using hd
        have := countP_mono (f := fun x => p.testBit x) (g := S) (f ops.size).ws (fun x _ hx => hready x hx)
        have := L.len
        omega
      · have hlt : countP (fun x => !((ps[x]?).getD 0).testBit i) (f ops.size).ws < (f x).ws.length := by simpa [Nat.blt_eq] using hd
        have := countP_mono (f := S) (g := fun x => !((ps[x]?).getD 0).testBit i) (f ops.size).ws (fun x _ hx => by
          obtain ⟨px, hpx⟩ : ∃ px : Nat, ps[x]? = some px := ⟨_, List.getElem?_eq_getElem (by rw [hp.len]; exact I.inn x hx)⟩
          rw [hpx]
          simp only [Option.getD_some, Bool.not_eq_true', ← Bool.not_eq_true]
          intro hb
          have := I.closed x px i hx hpx hb
          rw [hno] at this; cases this)
        have := L.len
        omega
      · refine ⟨x, hx, hxl, ?_⟩
        split at hd
        · rename_i u hu
          rw [hu, vEq_eq _ _ _ hd]
        · cases hd
    obtain ⟨y, hy, hyl, hval⟩ := hval
    have hgv := evVal_ok ok hop hg (part y hy hyl) hval
    obtain ⟨v', hgv, hvr⟩ := hgv
    exact ⟨ρ, _, w, .one (stp_opValue hm (nodefer (by rw [hk]; decide)) ht ho hwt hgv (.inl rfl)), I.next T hp h0 ho hpi hready hno (.refl ρ) hvr ⟨q, L.stay (nofl (by rw [hk]; decide)) (same hw)⟩ fun _ _ _ => rfl, hg⟩
  | flt ob mk hwa hF hal hvv hlt hH hc hw he hr =>
    have hwt := wanted_ok' hlk hwa
    have hk : X.kind o.op = .alloc := hp.flo i o ho hF
    have hqi := I.float_ge T hp h0 L ho hno hF
    have hfresh := I.fresh i hi hno
    have hnil : WRel ρ .nil w := L.go.wrel (fun _ _ h => (by cases h))
    obtain ⟨Lc, v', w', hrun, hgo, hv⟩ := evAlloc_ok ok hop hnil hal (c0 + i) hfresh
    have hfl : Flo ops F c0 f i ob := ⟨hF, ⟨o, ho, hwa⟩, hlt, hH⟩
    have hrelq : ∀ m o', q ≤ m → Flo ops F c0 f m o' → (f q).H.get (c0 + i) = none := by
      intro _ _ _ _
      cases hh : (f q).H.get (c0 + i) with
      | none => rfl
      | some z =>
        obtain ⟨La, _, hLa, _⟩ := L.go.obj _ _ (show Names ops F c0 f S q (c0 + i) z from .inl hh)
        rw [hfresh] at hLa; cases hLa
    refine ⟨ρ.add (c0 + i) Lc, _, w', .one (stp_opValue hm (nodefer (by rw [hk]; decide)) ht ho hwt hrun (.inl rfl)), I.next T hp h0 ho hpi hready hno hgo.ext (by rw [hvv]; exact hv) ⟨q, ?_⟩ (fun m _ hmn => Rn.add_ne hmn), hg.goes hgo⟩
    refine ⟨L.le, by rw [same hw]; exact L.len, L.last.imp id fun ⟨x, a, b, c⟩ => ⟨x, a, b, by simp [c]⟩, ?_, L.below.add (by have := L.room; omega), L.room, ?_⟩
    · refine L.go.frame (H := .nil) (fun _ _ h => (by cases h)) hgo fun n o' h => ?_
      rcases h with h | ⟨m, m1, m2, m3, m4⟩
      · exact .inr ⟨.inl h, rfl⟩
      · simp only [Bool.or_eq_true, decide_eq_true_eq] at m3
        rcases m3 with h | rfl
        · exact .inr ⟨.inr ⟨m, m1, m2, h, m4⟩, rfl⟩
        · cases m4.eq hfl
          refine .inl ?_
          rw [m2, Tr.set, Tr.get_put_eq _ _ _ _ hlt, if_pos rfl]
    · intro m o' m1 m2 m3
      simp only [Bool.or_eq_true, decide_eq_true_eq] at m2
      rcases m2 with h | rfl
      · exact L.dis m o' m1 h m3
      · exact hrelq m o' m1 m3
  | mem hwa hk hF hv hw he hr =>
    have hwt := wanted_ok' hlk hwa
    have hiff := I.mem_iff T hp h0 ho hpi hready hno hk hF
    have hcnt := T.count hp h0.1 (Nat.le_of_lt hi) hiff
    have hlen : (f i).ws.length = (f q).ws.length := by rw [L.len, hcnt]
    -- every float ahead in the text is done
    have hdone : ∀ m ob, m < i → Flo ops F c0 f m ob → S m = true := by
      intro m ob hmi hfl
      obtain ⟨om, hom, _⟩ := hfl.2.1
      rcases hp.apart i m om o p hmi hom ho hpi with h | h
      · exact hready m h
      · unfold apartA at h
        rw [hk, hF, hp.flo m om hom hfl.1] at h
        simp [memK] at h
    have hsub : ∀ n ob, (f i).H.get n = some ob → Names ops F c0 f S q n ob := fun n ob hn => L.names T hp h0 (Nat.le_of_lt hi) hlen hn fun m _ hmi _ hfl => hdone m ob hmi hfl
    have hqi : q ≤ i := by
      rcases Nat.lt_or_ge i q with c | c
      · exfalso
        rcases L.last with rfl | ⟨x, rfl, hx, _⟩
        · omega
        · have h1 := (T.ws_len hp (show i ≤ x by omega) (by have := L.le; omega)).1
          rw [hx, List.length_cons] at hlen
          omega
      · exact c
    obtain ⟨hwsq, hcq, hHq⟩ := (T.ws_len hp hqi (Nat.le_of_lt hi)).2 hlen.symm
    -- a float behind is no name of the heap here
    have hdis : ∀ m ob, i ≤ m → S m = true → Flo ops F c0 f m ob → (f i).H.get (c0 + m) = none := by
      intro m ob him hS hfl
      cases hh : (f i).H.get (c0 + m) with
      | none => rfl
      | some z =>
        rcases hHq _ _ hh with h | ⟨m', a1, a2, a3, _⟩
        · rw [L.dis m ob (by omega) hS hfl] at h; cases h
        · omega
    have hb : ρ.Below (f i).c := by rw [← hcq]; exact L.below
    have hrm : c0 + ops.size ≤ (f i).c := by rw [← hcq]; exact L.room
    obtain ⟨ρ', v', w', hst, hvr, hgo, hb', hcc, hne⟩ := oper_ok ok hcs (cs := cs) hv hop (L.go.wrel hsub) hb (by omega) (I.fresh i hi hno) hg hm ht ho hwt
    refine ⟨ρ', _, w', hst, I.next T hp h0 ho hpi hready hno hgo.ext hvr ⟨i + 1, hi, ?_, .inr ⟨i, rfl, hw, by simp⟩, ?_, hb', by omega, ?_⟩ (fun m hm' hmne => hne m (by omega) hmne), hg.goes hgo⟩
    · refine (T.count hp h0.1 hi fun x hx => ?_).symm
      simp only [Bool.or_eq_true, decide_eq_true_eq, hiff x hx]
      omega
    · refine L.go.frame hsub hgo fun n ob h => ?_
      rcases h with h | ⟨m, m1, m2, m3, m4⟩
      · exact .inl h
      · simp only [Bool.or_eq_true, decide_eq_true_eq] at m3
        have hS : S m = true := by
          rcases m3 with h | rfl
          · exact h
          · omega
        exact .inr ⟨.inr ⟨m, by omega, m2, hS, m4⟩, by rw [m2]; exact hdis m ob (by omega) hS m4⟩
    · intro m ob m1 m2 m3
      simp only [Bool.or_eq_true, decide_eq_true_eq] at m2
      have hS : S m = true := by
        rcases m2 with h | rfl
        · exact h
        · omega
      exact L.go.apart hsub hgo (show Names ops F c0 f S q (c0 + m) ob from .inr ⟨m, by omega, rfl, hS, m3⟩) (hdis m ob (by omega) hS m3)

end
end Go.Ev

namespace Go.Ev
variable [Gho]

theorem countP_lt {f g : Nat → Bool} : ∀ (l : List Nat), (∀ x ∈ l, f x = true → g x = true) → (∃ x ∈ l, f x = false ∧ g x = true) → countP f l < countP g l
  | [], _, h => by obtain ⟨x, hx, _⟩ := h; simp at hx
  | x :: l, h, hx => by
    have mono := countP_mono (f := f) (g := g) l (fun y hy => h y (List.mem_cons_of_mem _ hy))
    simp only [countP]
    obtain ⟨y, hy, h1, h2⟩ := hx
    rcases List.mem_cons.1 hy with rfl | hy'
    · rw [h1, h2]; simp only [cond_false, cond_true]; omega
    · have ih := countP_lt l (fun y hy => h y (List.mem_cons_of_mem _ hy)) ⟨y, hy', h1, h2⟩
      cases hf : f x with
      | false => cases g x <;> simp <;> omega
      | true => rw [h x (by simp) hf]; simp only [cond_true]; omega
theorem countP_none {f : Nat → Bool} : ∀ (l : List Nat), countP f l = 0 → ∀ x ∈ l, f x = false
  | [], _, x, hx => by simp at hx
  | y :: l, h, x, hx => by
    simp only [countP] at h
    cases hf : f y with
    | true => rw [hf, cond_true] at h; omega
    | false =>
      rw [hf, cond_false] at h
      rcases List.mem_cons.1 hx with rfl | hx'
      · exact hf
      · exact countP_none l h x hx'

section
variable {X : Cx} {call : Callf} {n : Nat} {ops : Array Oper} {F : Nat} {fs : List Nat} {c0 : Nat} {ps : List Nat} {f : Nat → DSt} {v : Nat → Value}
variable (T : Text X call n ops ps F fs c0 f v) (hp : PlanOk X ops ps F) (h0 : (f 0).ws = [] ∧ (f 0).es = [] ∧ (f 0).rs = [])
variable (hrd : ∀ r ∈ (f ops.size).rs, ∀ E ∈ ((f ops.size).ws.length, (f ops.size).H) :: (f ops.size).es, rdOk (f ops.size).ws ps r E = true)

theorem ready_iff {listed : Array Bool} {S : Nat → Bool} (hS : ∀ j, S j = listed.getD j false) (hsz : listed.size = ops.size) {i : Nat} :
    i ∈ Region.ready .any ops listed ↔ ∃ o, ops[i]? = some o ∧ S i = false ∧ ∀ e ∈ o.after.toList, Region.binds .any e = true → S e.on = true := by
  unfold Region.ready
  rw [List.mem_filter, List.mem_range]
  constructor
  · rintro ⟨h1, h2⟩
    rw [Bool.and_eq_true] at h2
    obtain ⟨h2, h3⟩ := h2
    have ho : ops[i]? = some ops[i] := Array.getElem?_eq_getElem h1
    rw [ho] at h3
    refine ⟨_, ho, ?_, fun e he hb => ?_⟩
    · rw [hS]
      have hlt : i < listed.size := by omega
      simp only [Array.getD, hlt, dif_pos, Bool.not_eq_true'] at h2 ⊢
      exact h2
    · simp only [Option.map_some, Option.getD_some, Array.all_eq_true] at h3
      obtain ⟨m, hm, he'⟩ := List.getElem_of_mem he
      have := h3 m (by simpa using hm)
      rw [show ops[i].after[m] = e by simpa using he'] at this
      rw [hb] at this
      rw [hS]; simpa using this
  · rintro ⟨o, ho, h1, h2⟩
    have hlt : i < ops.size := (Array.getElem?_eq_some_iff.1 ho).1
    refine ⟨hlt, ?_⟩
    rw [Bool.and_eq_true]
    constructor
    · rw [hS] at h1
      have hlt' : i < listed.size := by omega
      simp only [Array.getD, hlt', dif_pos, Bool.not_eq_true'] at h1 ⊢
      exact h1
    · rw [ho]
      simp only [Option.map_some, Option.getD_some, Array.all_eq_true]
      intro m hm
      cases hb : Region.binds .any o.after[m] with
      | false => rfl
      | true =>
        have := h2 o.after[m] (by simp) hb
        rw [hS] at this
        simp [this]

include T hp h0 hrd

theorem draw_go (ok : X.Ok) (hcs : CallSound X call) (hfs : fs = floatsOf F ops.size) {ρ0 : Rn} {w0 : World} {cs : List Frame} {k : List Item} : ∀ (fuel t : Nat) (listed : Array Bool) (S : Nat → Bool), (∀ j, S j = listed.getD j false) →
    listed.size = ops.size → countP (fun j => !S j) (List.range ops.size) ≤ fuel → ∀ (ρ : Rn) (w : World) (fr : Frame), Inv X n ops ps F c0 f v ρ0 w0 S ρ fr.tmps w → GRel X ρ → fr.mode = .run →
    fr.todo = .inRegion ops (Region.linearise.go .any ops fuel t listed []) :: k →
    ∃ ρ' tmps' w' S', Steps X.P (lone fr cs w) (lone { fr with tmps := tmps', todo := .inRegion ops [] :: k } cs w') ∧ Inv X n ops ps F c0 f v ρ0 w0 S' ρ' tmps' w' ∧ (∀ j, j < ops.size → S' j = true) := by
  intro fuel
  induction fuel with
  | zero =>
    intro t listed S hS hsz hf ρ w fr I hg hm ht
    have : ({ fr with tmps := fr.tmps, todo := .inRegion ops [] :: k } : Frame) = fr := by
      rw [← show fr.todo = .inRegion ops [] :: k by rw [ht]; simp [Region.linearise.go]]
    refine ⟨ρ, fr.tmps, w, S, by rw [this]; exact .refl _ _, I, fun j hj => ?_⟩
    have := countP_none _ (Nat.le_zero.1 hf) j (List.mem_range.2 hj)
    simpa using this
  | succ fuel ih =>
    intro t listed S hS hsz hf ρ w fr I hg hm ht
    have hgo : Region.linearise.go .any ops (fuel + 1) t listed [] = (match (Region.ready .any ops listed)[t % (Region.ready .any ops listed).length]? with
      | some i => Region.linearise.go .any ops fuel (t / (Region.ready .any ops listed).length) (listed.setIfInBounds i true) [i]
      | none => [].reverse) := rfl
    cases hi : (Region.ready .any ops listed)[t % (Region.ready .any ops listed).length]? with
    | none =>
      rw [hi] at hgo
      have hnil : Region.ready .any ops listed = [] := by
        cases hr : Region.ready .any ops listed with
        | nil => rfl
        | cons x xs =>
          rw [hr] at hi
          have hlt : t % (x :: xs).length < (x :: xs).length := Nat.mod_lt _ (by simp)
          simp at hi
          simp at hlt
          omega
      have all : ∀ m j, j < m → j < ops.size → S j = true := by
        intro m
        induction m with
        | zero => intro j h; omega
        | succ m ihm =>
          intro j hj hjN
          by_cases e : j < m
          · exact ihm j e hjN
          · cases hc : S j with
            | true => rfl
            | false =>
              have ho : ops[j]? = some ops[j] := Array.getElem?_eq_getElem hjN
              obtain ⟨pj, hpj⟩ : ∃ pj : Nat, ps[j]? = some pj := ⟨_, List.getElem?_eq_getElem (by rw [hp.len]; exact hjN)⟩
              have := (ready_iff hS hsz).2 ⟨_, ho, hc, fun ed hed hb => ihm ed.on (by have := (hp.spec j _ pj ho hpj).1 ed hed hb; omega) (by have := (hp.spec j _ pj ho hpj).1 ed hed hb; omega)⟩
              rw [hnil] at this
              simp at this
      have : ({ fr with tmps := fr.tmps, todo := .inRegion ops [] :: k } : Frame) = fr := by
        rw [← show fr.todo = .inRegion ops [] :: k by rw [ht, hgo]; rfl]
      exact ⟨ρ, fr.tmps, w, S, by rw [this]; exact .refl _ _, I, fun j hj => all (j + 1) j (Nat.lt_succ_self j) hj⟩
    | some i =>
      rw [hi] at hgo
      simp only at hgo
      rw [linearise_go_acc _ _ _ _ _ [i], List.reverse_singleton, List.singleton_append] at hgo
      obtain ⟨o, ho, hno, hedge⟩ := (ready_iff hS hsz).1 (List.mem_of_getElem? hi)
      have hlt : i < ops.size := (Array.getElem?_eq_some_iff.1 ho).1
      obtain ⟨p, hpi⟩ : ∃ p : Nat, ps[i]? = some p := ⟨_, List.getElem?_eq_getElem (by rw [hp.len]; exact hlt)⟩
      have hready : ∀ j, p.testBit j = true → S j = true := by
        intro j hj
        obtain ⟨_, e, he, hb, hc⟩ := (hp.spec i o p ho hpi).2 j hj
        rcases hc with rfl | ⟨q, hq, hqj⟩
        · exact hedge e he hb
        · exact I.closed e.on q j (hedge e he hb) hq hqj
      obtain ⟨ρ₁, tmps₁, w₁, hst, I₁, hx⟩ := I.step T hp h0 hrd ok hcs hfs (cs := cs) hg ho hpi hready hno hm (by rw [ht, hgo]) rfl
      obtain ⟨ρ', tmps', w', S', hst', I', hall⟩ := ih (t / (Region.ready .any ops listed).length) (listed.setIfInBounds i true) (fun j => S j || decide (j = i)) (fun j => by
          simp only [Array.getD_eq_getD_getElem?]
          by_cases e : j = i
          · subst e; rw [Array.getElem?_setIfInBounds_self_of_lt (by omega)]; simp
          · rw [Array.getElem?_setIfInBounds_ne (fun h => e h.symm), hS j, Array.getD_eq_getD_getElem?]; simp [e]) (by simp [hsz]) (by
          have := countP_lt (f := fun j => !(S j || decide (j = i))) (g := fun j => !S j) (List.range ops.size) (fun x _ h => by simp at h ⊢; exact h.1) ⟨i, List.mem_range.2 hlt, by simp, by simp [hno]⟩
          omega) ρ₁ w₁ { fr with tmps := tmps₁, todo := .inRegion ops (Region.linearise.go .any ops fuel (t / (Region.ready .any ops listed).length) (listed.setIfInBounds i true) []) :: k } I₁ hx hm rfl
      exact ⟨ρ', tmps', w', S', hst.trans hst', I', hall⟩

end

/-- A region that draws its order. -/
theorem draw_ok {X : Cx} (ok : X.Ok) {call : Callf} (hcs : CallSound X call) {n id : Nat} {ops : Array Oper} {s s' : St} (h : evRegionD X call n ops s = some s') {ρ : Rn} {w : World} {fr : Frame} {cs : List Frame} {k : List Item}
    (he : EnvRel ρ n s.env fr.tmps) (hw : WRel ρ s.H w) (hb : ρ.Below s.c) (hg : GRel X ρ) (hm : fr.mode = .run) (ht : fr.todo = .code (.region id ops true) :: k) :
    ∃ ρ' tmps' w', Steps X.P (lone fr cs w) (lone { fr with tmps := tmps', todo := k } cs w') ∧ EnvRel ρ' n s'.env tmps' ∧ Goes ρ s.H w ρ' s'.H w' ∧ ρ'.Below s'.c ∧ s.c ≤ s'.c ∧ (∀ m, m < s.c → ρ' m = ρ m) ∧ s'.ds = s.ds := by
  unfold evRegionD at h
  split at h
  · cases h
  · rename_i ps F hps
    have hp := plan_ok hps
    split at h
    · cases h
    · rename_i d hd
      cases hall : (d.rs.all fun r => ((d.ws.length, d.H) :: d.es).all (rdOk d.ws ps r)) with
      | false => rw [hall, cond_false] at h; cases h
      | true =>
        rw [hall, cond_true] at h
        cases h
        obtain ⟨f, v, hf0, hfN, hstep⟩ := trace_of _ _ _ _ _ hd
        have hN : f ops.size = d := by simpa using hfN
        have T : Text X call n ops ps F (floatsOf F ops.size) s.c f v := ⟨fun i o p ho hpi => by
          have hi : i < ops.toList.length := by simpa using (Array.getElem?_eq_some_iff.1 ho).1
          obtain ⟨o', p', h1, h2, h3⟩ := hstep i hi
          rw [show ops.toList[i]? = ops[i]? by simp, ho] at h1; cases h1
          rw [hpi] at h2; cases h2
          rw [Nat.zero_add] at h3
          exact stepD_is (hp.kind i o ho) h3⟩
        have h0 : (f 0).ws = [] ∧ (f 0).es = [] ∧ (f 0).rs = [] := by rw [hf0]; exact ⟨rfl, rfl, rfl⟩
        have hrd : ∀ r ∈ (f ops.size).rs, ∀ E ∈ ((f ops.size).ws.length, (f ops.size).H) :: (f ops.size).es, rdOk (f ops.size).ws ps r E = true := by
          rw [hN]
          intro r hr E hE
          exact List.all_eq_true.1 (List.all_eq_true.1 hall r hr) E hE
        have hgd := Goes.draw hw (w.drawn + 1)
        have hsch : Region.schedule (X.P.follows .mixedOrders) ops (w.tape w.drawn (.order fr.fn id)) = Region.linearise.go .any ops ops.size (w.tape w.drawn (.order fr.fn id)) (Array.replicate ops.size false) [] := by
          simp only [Region.schedule, ok.mx, Bool.true_or, if_true]; rfl
        have I0 : Inv X n ops ps F s.c f v ρ { w with drawn := w.drawn + 1 } (fun _ => false) ρ fr.tmps { w with drawn := w.drawn + 1 } := by
          refine ⟨fun i p j h => by simp at h, fun i h => by simp at h, he.1, fun t u _ hu => ?_, fun j o t h => by simp at h, ⟨0, Nat.zero_le _, ?_, .inl rfl, ?_, ?_, ?_, ?_⟩, fun j _ _ => hb _ (by omega), fun _ _ => rfl⟩
          · rw [hf0] at hu; exact he.2 t u hu
          · rw [h0.1]
            have : ∀ l, countP (fun _ => false) l = 0 := by intro l; induction l with | nil => rfl | cons x l ih => simpa [countP] using ih
            rw [this]; rfl
          · rw [hf0]
            exact .refl hgd.rel fun n o h => by
              rcases h with h | ⟨m, _, _, h, _⟩
              · rw [hf0] at h; exact h
              · cases h
          · rw [hf0]; exact hb.mono (Nat.le_add_right _ _)
          · rw [hf0]; exact Nat.le_refl _
          · intro m o _ h; cases h
        obtain ⟨ρ', tmps', w', S', hst, I', hS'⟩ := draw_go T hp h0 hrd ok hcs rfl (cs := cs) (k := k) ops.size (w.tape w.drawn (.order fr.fn id)) (Array.replicate ops.size false) (fun _ => false) (fun j => by
            by_cases hj : j < ops.size <;> simp [Array.getD_eq_getD_getElem?, Array.getElem?_replicate, hj]) (by simp) (by
            have : ∀ l : List Nat, countP (fun _ => !false) l ≤ l.length := by intro l; induction l with | nil => exact Nat.le_refl _ | cons x l ih => simpa [countP] using ih
            simpa using this (List.range ops.size)) ρ { w with drawn := w.drawn + 1 } { fr with todo := .inRegion ops (Region.schedule (X.P.follows .mixedOrders) ops (w.tape w.drawn (.order fr.fn id))) :: k } I0 hg hm (by rw [hsch])
        have hcnt := T.count hp h0.1 (Nat.le_refl _) (S := S') (fun x hx => by
          have := ((T.ws_mem hp h0.1 (Nat.le_refl _) x).1 hx).1
          simp [this, hS' x this])
        obtain ⟨q, L⟩ := I'.lvl
        have hlen : (f ops.size).ws.length = (f q).ws.length := by rw [L.len, hcnt]
        have l4 : Goes ρ (f 0).H { w with drawn := w.drawn + 1 } ρ' (f ops.size).H w' := L.go.goes fun n o hn => L.names T hp h0 (Nat.le_refl _) hlen hn fun m _ hm _ _ => hS' m hm
        have hcq := ((T.ws_len hp L.le (Nat.le_refl _)).2 hlen.symm).2.1
        have l2 : ρ'.Below (f ops.size).c := by rw [← hcq]; exact L.below
        have l3 : s.c + ops.size ≤ (f ops.size).c := by rw [← hcq]; exact L.room
        refine ⟨ρ', tmps', w', .head (stp_draw hm ht) (hst.trans (.one (stp_regionEnd hm rfl))), ?_, ?_, ?_, ?_, I'.old, rfl⟩
        · refine ⟨I'.size, fun t u hu => ?_⟩
          simp only at hu
          rw [← hN] at hu
          rcases T.slot hp (Nat.le_refl _) hu with ⟨j, o, h1, h2, h3, h4, h5⟩ | ⟨h1, h2⟩
          · rw [h4]
            refine I'.envB j o t (hS' j h1) h2 h3 (fun j' o' q1 q2 q3 => h5 j' o' q1 (I'.inn j' q2) q3) ?_
            obtain ⟨oj', pj, hoj, _, hpe, _⟩ := T.at hp h1
            rw [h2] at hoj; cases hoj
            unfold putE at hpe
            rw [h3] at hpe
            simp only at hpe
            cases hbb : Nat.blt t n with
            | false => rw [hbb, cond_false] at hpe; cases hpe
            | true => simpa [Nat.blt_eq] using hbb
          · exact I'.envA t u (fun j o q1 q2 q3 => h2 j o (I'.inn j q1) q2 q3) h1
        · rw [hN] at l4
          rw [hf0] at l4
          exact hgd.trans l4
        · rw [hN] at l2; exact l2
        · rw [hN] at l3
          simp only
          omega

end Go.Ev

namespace Go.Ev
variable [Gho]

/-- How statements end in the machine. -/
def Ends (P : Program) (fr : Frame) (cs : List Frame) (w : World) (k : List Item) (tmps' : Array Value) (df' : List Deferred) (w' : World) : AEx → Prop
  | .normal => Steps P (lone fr cs w) (lone { fr with tmps := tmps', todo := k, defers := df' } cs w')
  | .exit id => ∃ td, exitTo id td = exitTo id k ∧ Steps P (lone fr cs w) (lone { fr with tmps := tmps', todo := .code (.exit id) :: td, defers := df' } cs w')
  | .ret => ∃ td, Steps P (lone fr cs w) (lone { fr with tmps := tmps', todo := .code .ret :: td, defers := df' } cs w')

theorem Ends.pre {P : Program} {fr fr₁ : Frame} {cs : List Frame} {w w₁ : World} {k : List Item} {tmps' : Array Value} {df' : List Deferred} {w' : World} {ex : AEx} (h : Steps P (lone fr cs w) (lone fr₁ cs w₁))
    (he : ∀ t td df, ({ fr₁ with tmps := t, todo := td, defers := df } : Frame) = { fr with tmps := t, todo := td, defers := df }) (hk : Ends P fr₁ cs w₁ k tmps' df' w' ex) : Ends P fr cs w k tmps' df' w' ex := by
  cases ex with
  | normal => exact h.trans (by rw [← he]; exact hk)
  | exit id => obtain ⟨td, h1, h2⟩ := hk; exact ⟨td, h1, h.trans (by rw [← he]; exact h2)⟩
  | ret => obtain ⟨td, h2⟩ := hk; exact ⟨td, h.trans (by rw [← he]; exact h2)⟩

/-- The deferred calls. -/
inductive DRel (ρ : Rn) : List DE → List Deferred → Prop where
  | nil : DRel ρ [] []
  | cons {n : Nat} {d : Deferred} {ds : List DE} {df : List Deferred} (h : ∃ L, ρ n = some L ∧ d = { target := .collected L.block, args := #[] }) (t : DRel ρ ds df) : DRel ρ (.mark n :: ds) (d :: df)
  | call {f : FuncId} {args : List Value} {first cap : Array Value} {ds : List DE} {df : List Deferred} (h : LRel ρ args (first.toList ++ cap.toList)) (t : DRel ρ ds df) :
      DRel ρ (.call f args :: ds) ({ target := .fn (.func f) cap, args := first } :: df)
theorem DRel.mono {ρ ρ' : Rn} (hx : ρ.Ext ρ') {ds : List DE} {df : List Deferred} (h : DRel ρ ds df) : DRel ρ' ds df := by
  induction h with
  | nil => exact .nil
  | cons h _ ih => exact .cons (let ⟨L, a, b⟩ := h; ⟨L, hx _ _ a, b⟩) ih
  | call h _ ih => exact .call (h.mono hx) ih

/-- In a round of which loop. -/
def RoRel (ρ : Rn) : Option Nat → Option Nat → Prop
  | none, none => True
  | some l, some b => ∃ L, ρ l = some L ∧ L.block = b
  | _, _ => False
theorem RoRel.mono {ρ ρ' : Rn} (hx : ρ.Ext ρ') {a b : Option Nat} (h : RoRel ρ a b) : RoRel ρ' a b := by
  cases a <;> cases b <;> simp only [RoRel] at h ⊢
  obtain ⟨L, h1, h2⟩ := h
  exact ⟨L, hx _ _ h1, h2⟩

theorem clos_eq {ρ : Rn} {v v' : Value} (h : VRel ρ v v') (hc : clos v = true) : v' = v := by
  have arr : ∀ {a b : Array Value}, ARel ρ a b → a.toList.all clos1 = true → b = a := by
    intro a b hab hall
    refine Array.ext hab.1.symm fun i h1 h2 => ?_
    exact closed_eq (hab.2 i a[i] b[i] (Array.getElem?_eq_getElem h2) (Array.getElem?_eq_getElem h1)) (List.all_eq_true.1 hall _ (by simp))
  have h' := h
  cases h with
  | agg h1 h2 => rw [arr ⟨h1, h2⟩ hc]
  | tuple h1 h2 => rw [arr ⟨h1, h2⟩ hc]
  | _ => exact closed_eq h' hc

def CodeSound (X : Cx) (rec : Rec) : Prop :=
  ∀ fx code s ex s', rec fx code s = some (ex, s') → ∀ (ρ : Rn) (fr : Frame) (cs : List Frame) (w : World) (k : List Item), EnvRel ρ fx.n s.env fr.tmps → WRel ρ s.H w → ρ.Below s.c → GRel X ρ → fr.mode = .run →
    fr.fn = fx.fn → RoRel ρ fx.ro fr.roundOf → DRel ρ s.ds fr.defers → (fr.todo = .code code :: k ∨ ∃ b, code = .loop b ∧ fr.todo = .inLoop b :: k) →
    ∃ ρ' tmps' df' w', EnvRel ρ' fx.n s'.env tmps' ∧ Goes ρ s.H w ρ' s'.H w' ∧ ρ'.Below s'.c ∧ s.c ≤ s'.c ∧ (∀ m, m < s.c → ρ' m = ρ m) ∧ DRel ρ' s'.ds df' ∧ Ends X.P fr cs w k tmps' df' w' ex

/-- A loop's record is another one. -/
theorem Goes.loop {ρ : Rn} {H : Heap} {w : World} (h : WRel ρ H w) {l : Nat} {L : Loc} {st : LoopState} {pe : Option Code} {fn : FuncId} {env : Env} {n : Nat} {params : Array Tmp} {assign body : Code} {d : Nat} {r : Loop}
    (hn : H.get l = some (.loop st pe fn env n params assign body d)) (hL : ρ l = some L) (hr : w.heap[L.block]? = some (.loop r)) (ho : ORel ρ L (.loop st pe fn env n params assign body d) (.loop r)) (st' : LoopState) (pe' : Option Code) :
    Goes ρ H w ρ (H.set l (.loop st' pe' fn env n params assign body d)) (w.putObj L.block (.loop { r with state := st', pending := pe' })) := by
  obtain ⟨_, _, a, b⟩ := ho
  exact Goes.update h hn hL rfl rfl rfl ⟨rfl, rfl, a, b⟩

theorem loop_obj {ρ : Rn} {H : Heap} {w : World} (h : WRel ρ H w) {l : Nat} {L : Loc} {st : LoopState} {pe : Option Code} {fn : FuncId} {env : Env} {n : Nat} {params : Array Tmp} {assign body : Code} {d : Nat}
    (hn : H.get l = some (.loop st pe fn env n params assign body d)) (hL : ρ l = some L) : ∃ r, w.heap[L.block]? = some (.loop r) ∧ ORel ρ L (.loop st pe fn env n params assign body d) (.loop r) := by
  obtain ⟨L', o', h1, h2, h3⟩ := h.obj l _ hn
  rw [hL] at h1; cases h1
  cases o' with
  | loop r => exact ⟨r, h2, h3⟩
  | _ => exact h3.elim

theorem fr_atR (fr : Frame) (hm : fr.mode = .run) (todo : List Item) (ht : fr.todo = todo) : fr = fr.atR { tmps := fr.tmps, defers := fr.defers } todo := by
  obtain ⟨a, b, c, d, e, f, g⟩ := fr
  simp only at hm ht
  subst hm ht
  rfl

section
variable {X : Cx} (ok : X.Ok)
include ok

/-- A loop over a function: the one call, and what is behind it. 'hin': the machine's step into the call. -/
theorem loop_ok {call : Callf} (hcs : CallSound X call) {v : Value} {l : Nat} {H1 : Heap} {c1 : Nat} {s : St} {ex : AEx} {s' : St} (h : evLoop X call v l H1 c1 s = some (ex, s')) {ρ : Rn} {w0 w : World} (hw : WRel ρ H1 w) (hb : ρ.Below c1) (hg : GRel X ρ)
    {fr : Frame} {g : Operand} (hv : VRel ρ v (fr.eval g)) {L : Loc} (hL : ρ l = some L) {cs : List Frame} {k : List Item} {a : Act} (ha : a = { tmps := fr.tmps, defers := fr.defers }) (hm : fr.mode = .run) {d : List Deferred}
    (hin : ∀ {q : Deferred} {f : FuncId} {args : Array Value}, ((resolve a.eval (rangeCall g L.block) 0).run X.P w = .ok q w ∧ (invoke q.target q.args).run X.P w = .ok (.enter f args) w) →
      step X.P (lone fr cs w0) = .next (lone (Frame.enter X.P f args .normal) (fr.atR { a with defers := d ++ a.defers } (.inRangeFunc L.block :: k) :: cs) w))
    (hdr : DRel ρ s.ds (d ++ fr.defers)) :
    ∃ ρ' df' w', s'.env = s.env ∧ Goes ρ H1 w ρ' s'.H w' ∧ ρ'.Below s'.c ∧ c1 ≤ s'.c ∧ (∀ m, m < c1 → ρ' m = ρ m) ∧ DRel ρ' s'.ds df' ∧ Ends X.P fr cs w0 k fr.tmps df' w' ex := by
  unfold evLoop at h
  split at h
  · rename_i f args htg
    cases hhb : hasBody X f with
    | false => rw [hhb, cond_false] at h; cases h
    | true =>
      rw [hhb, cond_true] at h
      split at h
      · rename_i u H' c' hcall
        -- the call's arguments
        have harg : ∃ args' : List Value, LRel ρ args args' ∧ ∃ q : Deferred, (resolve a.eval (rangeCall g L.block) 0).run X.P w = .ok q w ∧ (invoke q.target q.args).run X.P w = (callFunc f args'.toArray).run X.P w := by
          unfold tgtOf at htg
          split at htg
          · rename_i f2 first cap
            cases htg
            have hev : a.eval g = fr.eval g := by subst ha; rfl
            generalize hrf : fr.eval g = y at hv
            cases hv with
            | func hfn h1 h2 h3 h4 =>
            rename_i fn' first' cap'
            cases hfn
            refine ⟨first'.toList ++ [.func (.yield L.block) #[] #[]] ++ cap'.toList, ((ARel.list ⟨h1, h3⟩).append (.cons (.func (.yield hL) rfl rfl (fun i x y h => by simp at h) (fun i x y h => by simp at h)) (.nil ρ))).append (ARel.list ⟨h2, h4⟩), ?_⟩
            refine ⟨{ target := .fn (.func f) cap', args := first' ++ #[.func (.yield L.block) #[] #[]] }, ?_, ?_⟩
            · unfold resolve
              simp only [hev, hrf, Deferred.ofValue, Sem.run_pure]
              rw [show Array.map a.eval #[Operand.const (Value.func (Fn.yield L.block) #[] #[])] = #[Value.func (Fn.yield L.block) #[] #[]] by rw [Array.map_singleton]; rfl]
            · simp only [invoke]
              congr 1
              congr 1
              apply Array.ext'
              simp
          · cases htg
          · cases htg
        obtain ⟨args', hl, q, hq1, hq2⟩ := harg
        obtain ⟨ρ₁, v₁, w₁, hen, hvr, hgo, hb₁, hcc, hne⟩ := hcs.2 f args H1 c1 u H' c' hcall ρ w args' (fr.atR { a with defers := d ++ a.defers } (.inRangeFunc L.block :: k) :: cs) hl hw hb hg
        have hen2 : (callFunc f args'.toArray).run X.P w = .ok (.enter f args'.toArray) w ∧ ∃ fr', Steps X.P (lone (Frame.enter X.P f args'.toArray .normal) (fr.atR { a with defers := d ++ a.defers } (.inRangeFunc L.block :: k) :: cs) w)
            (lone fr' (fr.atR { a with defers := d ++ a.defers } (.inRangeFunc L.block :: k) :: cs) w₁) ∧ fr'.fn = f ∧ fr'.leaving X.P w₁ (.returned v₁) := by
          rcases hen with h1 | h1
          · exfalso
            unfold hasBody at hhb
            split at hhb
            · rename_i gg hgg
              obtain ⟨bb, hbb⟩ := Option.isSome_iff_exists.1 hhb
              unfold callFunc at h1
              simp only [Sem.run_bind, run_program, Result.andThen_ok, ok.fn f gg hgg] at h1
              cases hn : (gg.name == "runtime.NumGoroutine") <;> simp [hbb, hn] at h1
            · cases hhb
          · exact h1
        obtain ⟨hce, fr', hst, hfn, hlv⟩ := hen2
        have s1 := hin ⟨hq1, hq2.trans hce⟩
        have s2 := step_leave_returned (c := fr.atR { a with defers := d ++ a.defers } (.inRangeFunc L.block :: k)) (cs := cs) hlv
        rw [finish_atR_inRangeFunc] at s2
        split at h
        · rename_i st pend fn2 env2 n2 ps2 as2 bo2 d2 hl2
          have hL₁ : ρ₁ l = some L := hgo.ext _ _ hL
          obtain ⟨r, hr, hor⟩ := loop_obj hgo.rel hl2 hL₁
          obtain ⟨hst2, hpe, _⟩ := hor
          cases hbz : decide (st = .busy) with
          | true => rw [hbz, cond_true] at h; cases h
          | false =>
            rw [hbz, cond_false] at h
            have hnb : r.state ≠ .busy := by rw [hst2]; simpa using hbz
            have s3 := stepR_endRangeFunc (b := fr) (a := { a with defers := d ++ a.defers }) (k := k) (cs := cs) (run_endLoop (P := X.P) hr hnb)
            have gf := fun o => Goes.free hgo.rel hl2 hL₁ o
            generalize hob : Obj.loop { r with state := .exhausted } = ob at s3
            have all := Steps.head s1 (hst.trans (.head s2 (.one s3)))
            have hfrm : ∀ td, fr.atR { a with defers := d ++ a.defers } td = { fr with tmps := fr.tmps, todo := td, defers := d ++ fr.defers } := by
              intro td
              subst ha
              obtain ⟨b1, b2, b3, b4, b5, b6, b7⟩ := fr
              simp only at hm
              subst hm
              rfl
            rw [hpe, hfrm] at all
            have done : ∀ s2 : St, s2 = { s with H := H'.put l none, c := c' } → Goes ρ H1 w ρ₁ s2.H (w₁.putObj L.block ob) ∧ ρ₁.Below s2.c ∧ c1 ≤ s2.c ∧ s2.env = s.env ∧ DRel ρ₁ s2.ds (d ++ fr.defers) := by
              rintro _ rfl
              exact ⟨hgo.trans (gf ob), hb₁, hcc, rfl, hdr.mono hgo.ext⟩
            split at h
            · cases h
              obtain ⟨q1, q2, q3, q4, q5⟩ := done _ rfl
              exact ⟨ρ₁, d ++ fr.defers, _, q4, q1, q2, q3, hne, q5, all⟩
            · cases h
              obtain ⟨q1, q2, q3, q4, q5⟩ := done _ rfl
              exact ⟨ρ₁, d ++ fr.defers, _, q4, q1, q2, q3, hne, q5, k, rfl, all⟩
            · cases h
              obtain ⟨q1, q2, q3, q4, q5⟩ := done _ rfl
              exact ⟨ρ₁, d ++ fr.defers, _, q4, q1, q2, q3, hne, q5, k, all⟩
            · cases h
        · cases h
      · cases h
  · cases h

omit ok in
theorem deferOf_ok {l : List Oper} {t : Tmp} {f : FuncId} {a b : Array Operand} (h : deferOf l = some (t, f, a, b)) :
    ∃ ty1 p1 a1 ats ty2 p2 a2, l = [⟨some t, .makeFunc (.func f) a b, ty1, p1, a1, none⟩, ⟨none, .defer ⟨.value (.tmp t), #[], ats⟩, ty2, p2, a2, none⟩] := by
  unfold deferOf at h
  split at h
  · rename_i t0 f0 a0 b0 ty1 p1 a1 u ats ty2 p2 a2
    cases hb : Nat.beq t0 u with
    | false => rw [hb, cond_false] at h; cases h
    | true =>
      rw [hb, cond_true] at h
      cases h
      have := Nat.eq_of_beq_eq_true hb
      subst this
      exact ⟨_, _, _, _, _, _, _, rfl⟩
  · cases h

omit ok in
theorem defer_ok {ops : Array Oper} {t : Tmp} {f : FuncId} {a b : Array Operand} (hd : deferOf ops.toList = some (t, f, a, b)) {fx : Fx} (hrn : fx.ro = none) {s s' : St} (h : evDefer X fx.n t f a b s = some s') {ρ : Rn} {w : World} {fr : Frame} {cs : List Frame} {k : List Item} {id : Nat}
    (he : EnvRel ρ fx.n s.env fr.tmps) (hw : WRel ρ s.H w) (hb : ρ.Below s.c) (hg : GRel X ρ) (hm : fr.mode = .run) (hro : RoRel ρ fx.ro fr.roundOf) (hdr : DRel ρ s.ds fr.defers) (ht : fr.todo = .code (.region id ops false) :: k) :
    ∃ tmps' df', EnvRel ρ fx.n s'.env tmps' ∧ s'.H = s.H ∧ s'.c = s.c ∧ DRel ρ s'.ds df' ∧ True ∧ True ∧ Ends X.P fr cs w k tmps' df' w .normal := by
  obtain ⟨ty1, p1, a1, ats, ty2, p2, a2, hl⟩ := deferOf_ok hd
  have hops : ops = #[⟨some t, .makeFunc (.func f) a b, ty1, p1, a1, none⟩, ⟨none, .defer ⟨.value (.tmp t), #[], ats⟩, ty2, p2, a2, none⟩] := Array.ext' hl
  subst hops
  unfold evDefer at h
  split at h
  · rename_i x y hx hy
    split at h
    · rename_i env hpe
      cases h
      have hr := evO_ok (X := X) he hg
      have h1 := (evL_ok hr a.toList x hx).arr
      have h2 := (evL_ok hr b.toList y hy).arr
      have hv : VRel ρ (.func (.func f) ⟨x⟩ ⟨y⟩) (.func (.func f) (a.map fr.eval) (b.map fr.eval)) := by
        refine .func (.func _) ?_ ?_ ?_ ?_
        · have := h1.1; simpa using this
        · have := h2.1; simpa using this
        · intro i u v hu hv; exact h1.2 i u v hu (by simpa using hv)
        · intro i u v hu hv; exact h2.2 i u v hu (by simpa using hv)
      have he' := putE_ok he hpe hv
      refine ⟨_, { target := .fn (.func f) (b.map fr.eval), args := a.map fr.eval } :: fr.defers, he', rfl, rfl, .call ?_ hdr, trivial, trivial, ?_⟩
      · exact (evL_ok hr a.toList x hx).append (evL_ok hr b.toList y hy) |> fun q => by simpa using q
      · have hro' : fr.roundOf = none := by
          rw [hrn] at hro
          cases hfr : fr.roundOf with
          | none => rfl
          | some l => rw [hfr] at hro; exact hro.elim
        have htn : t < fx.n := by
          unfold putE at hpe
          simp only at hpe
          cases hbt : Nat.blt t fx.n with
          | false => rw [hbt, cond_false] at hpe; cases hpe
          | true => simpa [Nat.blt_eq] using hbt
        have hsz : fr.tmps.size = fx.n := he.1
        refine Steps.head (stp_region hm ht) ?_
        refine Steps.head (stp_opValue (o := ⟨some t, .makeFunc (.func f) a b, ty1, p1, a1, none⟩) (v := .func (.func f) (a.map fr.eval) (b.map fr.eval)) (w' := w) (ops := #[⟨some t, .makeFunc (.func f) a b, ty1, p1, a1, none⟩, ⟨none, .defer ⟨.value (.tmp t), #[], ats⟩, ty2, p2, a2, none⟩]) (i := 0) (rest := [1]) (k := k) hm (by simp) rfl rfl rfl rfl (.inl rfl)) ?_
        refine Steps.head (stp_opDefer (o := ⟨none, .defer ⟨.value (.tmp t), #[], ats⟩, ty2, p2, a2, none⟩) (d := { target := .fn (.func f) (b.map fr.eval), args := a.map fr.eval }) (ops := #[⟨some t, .makeFunc (.func f) a b, ty1, p1, a1, none⟩, ⟨none, .defer ⟨.value (.tmp t), #[], ats⟩, ty2, p2, a2, none⟩]) (i := 1) (rest := []) (k := k) hm hro' rfl rfl rfl ?_) ?_
        · unfold execOp resolve
          simp [Frame.eval, putT, hsz, htn, Deferred.ofValue]
        · exact .one (stp_regionEnd hm rfl)
    · cases h
  · cases h

theorem code_ok {call : Callf} {rec : Rec} (hcs : CallSound X call) (hrec : CodeSound X rec) : CodeSound X (fun fx => evCode X call (rec fx) fx) := by
  intro fx code s ex s' h ρ fr cs w k he hw hb hg hm hfn hro hdr ht
  have notloop : ∀ c, code = c → (∀ b, c ≠ .loop b) → fr.todo = .code c :: k := by
    intro c hc hn
    subst hc
    rcases ht with h | ⟨b, h, _⟩
    · exact h
    · exact absurd h (hn b)
  cases code with
  | skip =>
    simp only [evCode] at h; cases h
    have ht := notloop _ rfl (by simp)
    exact ⟨ρ, fr.tmps, fr.defers, w, he, .refl hw, hb, Nat.le_refl _, fun _ _ => rfl, hdr, .one (stp_skip hm ht)⟩
  | label l =>
    simp only [evCode] at h; cases h
    have ht := notloop _ rfl (by simp)
    exact ⟨ρ, fr.tmps, fr.defers, w, he, .refl hw, hb, Nat.le_refl _, fun _ _ => rfl, hdr, .one (stp_label hm ht)⟩
  | region id ops draw =>
    have ht := notloop _ rfl (by simp)
    simp only [evCode] at h
    cases draw with
    | true =>
      simp only [cond_true, Option.map_eq_some_iff] at h
      obtain ⟨s2, h2, hh⟩ := h
      cases hh
      obtain ⟨ρ', tmps', w', r1, r2, r3, r4, r5, r6, r7⟩ := draw_ok ok hcs (cs := cs) h2 he hw hb hg hm ht
      exact ⟨ρ', tmps', fr.defers, w', r2, r3, r4, r5, r6, by rw [r7]; exact hdr.mono r3.ext, r1⟩
    | false =>
      simp only [cond_false, Option.map_eq_some_iff] at h
      obtain ⟨s2, h2, hh⟩ := h
      cases hh
      unfold evPlainR at h2
      by_cases hdo : ∃ r, deferOf ops.toList = some r
      · obtain ⟨⟨t, f, a, b⟩, hd⟩ := hdo
        rw [hd] at h2
        simp only at h2
        split at h2
        · rename_i hrn
          obtain ⟨t1, t2, r1, r2, r3, r4, r5, r6, r7⟩ := defer_ok hd hrn h2 he hw hb hg hm hro hdr ht
          exact ⟨ρ, t1, t2, w, r1, by rw [r2]; exact .refl hw, by rw [r3]; exact hb, by rw [r3]; exact Nat.le_refl _, fun _ _ => rfl, r4, r7⟩
        · cases h2
      have hdn : deferOf ops.toList = none := by
        cases q : deferOf ops.toList with
        | none => rfl
        | some r => exact absurd ⟨r, q⟩ hdo
      rw [hdn] at h2
      simp only at h2
      obtain ⟨ρ', tmps', w', r1, r2, r3, r4, r5, r6, r7⟩ := ops_ok ok hcs fx.n ops ops.toList 0 s s' h2 (fun i o hi => by simpa using hi) ρ { fr with todo := .inRegion ops (List.range' 0 ops.toList.length) :: k } cs w k
        he hw hb hg hm rfl
      refine ⟨ρ', tmps', fr.defers, w', r2, r3, r4, r5, r6, by rw [r7]; exact hdr.mono r3.ext, ?_⟩
      refine Steps.head (stp_region hm ht) ?_
      rw [List.range_eq_range', show ops.size = ops.toList.length by simp]
      exact r1.trans (.one (stp_regionEnd hm rfl))
  | seq a b =>
    have ht := notloop _ rfl (by simp)
    simp only [evCode] at h
    split at h
    · rename_i s1 h1
      obtain ⟨ρ₁, t₁, d₁, w₁, a1, a2, a3, a4, a5, a6, a7⟩ := hrec fx a s _ s1 h1 ρ { fr with todo := .code a :: .code b :: k } cs w (.code b :: k) he hw hb hg hm hfn hro hdr (.inl rfl)
      obtain ⟨ρ', t', d', w', b1, b2, b3, b4, b5, b6, b7⟩ := hrec fx b s1 ex s' h ρ₁ { fr with tmps := t₁, todo := .code b :: k, defers := d₁ } cs w₁ k a1 a2.rel a3 (hg.goes a2) hm hfn (hro.mono a2.ext) a6 (.inl rfl)
      refine ⟨ρ', t', d', w', b1, a2.trans b2, b3, by omega, fun m hmc => ?_, b6, ?_⟩
      · rw [b5 m (by omega), a5 m hmc]
      · exact Ends.pre (Steps.head (stp_seq hm ht) a7) (fun _ _ _ => rfl) b7
    · rename_i hne
      obtain ⟨ρ', t', d', w', a1, a2, a3, a4, a5, a6, a7⟩ := hrec fx a s ex s' h ρ { fr with todo := .code a :: .code b :: k } cs w (.code b :: k) he hw hb hg hm hfn hro hdr (.inl rfl)
      refine ⟨ρ', t', d', w', a1, a2, a3, a4, a5, a6, ?_⟩
      cases ex with
      | normal => exact absurd h (fun hh => hne s' hh)
      | exit id => obtain ⟨td, h1, h2⟩ := a7; exact ⟨td, h1, .head (stp_seq hm ht) h2⟩
      | ret => obtain ⟨td, h⟩ := a7; exact ⟨td, .head (stp_seq hm ht) h⟩
  | cond c a b =>
    have ht := notloop _ rfl (by simp)
    simp only [evCode] at h
    have hop := evO_ok (X := X) he hg
    have go : ∀ (t : Bool) (y : Code), evO X s.env c = some (.bool t) → y = (if t then a else b) → rec fx y s = some (ex, s') →
        ∃ ρ' tmps' df' w', EnvRel ρ' fx.n s'.env tmps' ∧ Goes ρ s.H w ρ' s'.H w' ∧ ρ'.Below s'.c ∧ s.c ≤ s'.c ∧ (∀ m, m < s.c → ρ' m = ρ m) ∧ DRel ρ' s'.ds df' ∧ Ends X.P fr cs w k tmps' df' w' ex := by
      intro t y hc hy hy'
      have hcv : fr.eval c = .bool t := (hop c _ hc).unbool
      obtain ⟨ρ', t', d', w', a1, a2, a3, a4, a5, a6, a7⟩ := hrec fx y s ex s' hy' ρ { fr with todo := .code y :: k } cs w k he hw hb hg hm hfn hro hdr (.inl rfl)
      have pre := stp_cond hm ht hcv (P := X.P) (cs := cs) (w := w)
      rw [← hy] at pre
      exact ⟨ρ', t', d', w', a1, a2, a3, a4, a5, a6, Ends.pre (.one pre) (fun _ _ _ => rfl) a7⟩
    split at h
    · rename_i hc; exact go true a hc rfl h
    · rename_i hc; exact go false b hc rfl h
    · cases h
  | block id b =>
    have ht := notloop _ rfl (by simp)
    simp only [evCode] at h
    split at h
    · rename_i i s1 h1
      obtain ⟨ρ', t', d', w', a1, a2, a3, a4, a5, a6, a7⟩ := hrec fx b s _ s1 h1 ρ { fr with todo := .code b :: .inBlock id :: k } cs w (.inBlock id :: k) he hw hb hg hm hfn hro hdr (.inl rfl)
      obtain ⟨td, e1, e2⟩ := a7
      cases hbq : Nat.beq i id with
      | true =>
        rw [hbq, cond_true] at h; cases h
        have := Nat.eq_of_beq_eq_true hbq
        subst this
        refine ⟨ρ', t', d', w', a1, a2, a3, a4, a5, a6, Steps.head (stp_block hm ht) (Steps.trans e2 (.one (stp_exit (fr := { fr with tmps := t', todo := .code (.exit i) :: td, defers := d' }) hm rfl ?_)))⟩
        rw [e1]; simp [exitTo]
      | false =>
        rw [hbq, cond_false] at h; cases h
        refine ⟨ρ', t', d', w', a1, a2, a3, a4, a5, a6, td, ?_, .head (stp_block hm ht) e2⟩
        have hne : ¬ id = i := fun e => by rw [e] at hbq; simp at hbq
        rw [e1]
        simp [exitTo, hne]
    · rename_i hne
      obtain ⟨ρ', t', d', w', a1, a2, a3, a4, a5, a6, a7⟩ := hrec fx b s ex s' h ρ { fr with todo := .code b :: .inBlock id :: k } cs w (.inBlock id :: k) he hw hb hg hm hfn hro hdr (.inl rfl)
      refine ⟨ρ', t', d', w', a1, a2, a3, a4, a5, a6, ?_⟩
      cases ex with
      | normal => exact Steps.head (stp_block hm ht) (Steps.trans a7 (.one (stp_inBlock hm rfl)))
      | exit i => exact absurd h (fun hh => hne i s' hh)
      | ret => obtain ⟨td, h⟩ := a7; exact ⟨td, .head (stp_block hm ht) h⟩
  | loop b =>
    have pre : step X.P (lone fr cs w) = .next (lone { fr with todo := .code b :: .inLoop b :: k } cs w) := by
      rcases ht with h | ⟨b', h1, h2⟩
      · exact stp_loop hm h
      · cases h1; exact stp_inLoop hm h2
    simp only [evCode] at h
    split at h
    · rename_i s1 h1
      obtain ⟨ρ₁, t₁, d₁, w₁, a1, a2, a3, a4, a5, a6, a7⟩ := hrec fx b s _ s1 h1 ρ { fr with todo := .code b :: .inLoop b :: k } cs w (.inLoop b :: k) he hw hb hg hm hfn hro hdr (.inl rfl)
      obtain ⟨ρ', t', d', w', b1, b2, b3, b4, b5, b6, b7⟩ := hrec fx (.loop b) s1 ex s' h ρ₁ { fr with tmps := t₁, todo := .inLoop b :: k, defers := d₁ } cs w₁ k a1 a2.rel a3 (hg.goes a2) hm hfn (hro.mono a2.ext) a6 (.inr ⟨b, rfl, rfl⟩)
      refine ⟨ρ', t', d', w', b1, a2.trans b2, b3, by omega, fun m hmc => ?_, b6, ?_⟩
      · rw [b5 m (by omega), a5 m hmc]
      · exact Ends.pre (Steps.head pre a7) (fun _ _ _ => rfl) b7
    · rename_i hne
      obtain ⟨ρ', t', d', w', a1, a2, a3, a4, a5, a6, a7⟩ := hrec fx b s ex s' h ρ { fr with todo := .code b :: .inLoop b :: k } cs w (.inLoop b :: k) he hw hb hg hm hfn hro hdr (.inl rfl)
      refine ⟨ρ', t', d', w', a1, a2, a3, a4, a5, a6, ?_⟩
      cases ex with
      | normal => exact absurd h (fun hh => hne s' hh)
      | exit id => obtain ⟨td, h1, h2⟩ := a7; exact ⟨td, h1, .head pre h2⟩
      | ret => obtain ⟨td, h⟩ := a7; exact ⟨td, .head pre h⟩
  | scope b =>
    have ht := notloop _ rfl (by simp)
    simp only [evCode] at h
    obtain ⟨ρ', t', d', w', a1, a2, a3, a4, a5, a6, a7⟩ := hrec fx b s ex s' h ρ { fr with todo := .code b :: .inScope b :: k } cs w (.inScope b :: k) he hw hb hg hm hfn hro hdr (.inl rfl)
    refine ⟨ρ', t', d', w', a1, a2, a3, a4, a5, a6, ?_⟩
    cases ex with
    | normal => exact Steps.head (stp_scope hm ht) (Steps.trans a7 (.one (stp_inScope hm rfl)))
    | exit i => obtain ⟨td, h1, h2⟩ := a7; exact ⟨td, h1, .head (stp_scope hm ht) h2⟩
    | ret => obtain ⟨td, h⟩ := a7; exact ⟨td, .head (stp_scope hm ht) h⟩
  | exit i =>
    simp only [evCode] at h; cases h
    have ht := notloop _ rfl (by simp)
    refine ⟨ρ, fr.tmps, fr.defers, w, he, .refl hw, hb, Nat.le_refl _, fun _ _ => rfl, hdr, k, rfl, ?_⟩
    rw [← ht]; exact .refl _ _
  | ret =>
    simp only [evCode] at h; cases h
    have ht := notloop _ rfl (by simp)
    refine ⟨ρ, fr.tmps, fr.defers, w, he, .refl hw, hb, Nat.le_refl _, fun _ _ => rfl, hdr, k, ?_⟩
    rw [← ht]; exact .refl _ _
  | rangeFunc g params assign body =>
    have ht := notloop _ rfl (by simp)
    simp only [evCode] at h
    split at h
    · rename_i fv hfv
      have hfvr := evO_ok (X := X) he hg g fv hfv
      split at h
      · -- the outermost loop
        rename_i hron
        have hro0 : fr.roundOf = none := by
          rw [hron] at hro
          cases hh : fr.roundOf with
          | none => rfl
          | some b => rw [hh] at hro; exact hro.elim
        have hlaid := run_enterLoop_outer (P := X.P) (w := w) fr.fn fr.tmps params assign body
        -- two names
        have n1 : ρ s.c = none := hb _ (Nat.le_refl _)
        have g1 := Goes.alloc (L := ⟨w.heap.size, 0, none, none, none⟩) hw n1 rfl (o := .defd) (o' := .deferred (some [])) rfl
        have n2 : (ρ.add s.c ⟨w.heap.size, 0, none, none, none⟩) (s.c + 1) = none := by rw [Rn.add_ne (by omega)]; exact hb _ (by omega)
        have g2 := Goes.alloc (L := ⟨w.heap.size + 1, 0, none, none, none⟩) g1.rel n2 (by simp) (o := .loop .ready none fx.fn s.env fx.n params assign body s.c)
          (o' := .loop { state := .ready, pending := none, fn := fr.fn, tmps := fr.tmps, params, assign, body, defers := w.heap.size })
          ⟨rfl, rfl, hfn, he.mono (g1.ext.trans (Rn.ext_add n2)), rfl, rfl, rfl, ⟨w.heap.size, 0, none, none, none⟩, by rw [Rn.add_ne (by omega), Rn.add_same], rfl⟩
        have gg := g1.trans g2
        have hb2 : ((ρ.add s.c ⟨w.heap.size, 0, none, none, none⟩).add (s.c + 1) ⟨w.heap.size + 1, 0, none, none, none⟩).Below (s.c + 2) := ((hb.mono (by omega)).add (by omega)).add (by omega)
        obtain ⟨ρ', d', w', r1, r2, r3, r4, r5, r6⟩ := loop_ok ok hcs h gg.rel hb2 (hg.goes gg) (hfvr.mono gg.ext) (L := ⟨w.heap.size + 1, 0, none, none, none⟩) (by rw [Rn.add_same]) (fr := fr) (g := g) (cs := cs) (k := k) rfl hm
          (d := [{ target := .collected w.heap.size, args := #[] }]) (fun q => by
            have := stepR_rangeFunc (b := fr) (a := { tmps := fr.tmps, defers := fr.defers }) (k := k) (cs := cs) (by rw [hro0]; exact hlaid) q.1 q.2
            rw [← fr_atR fr hm _ ht] at this
            exact this) (.cons ⟨⟨w.heap.size, 0, none, none, none⟩, by rw [Rn.add_ne (by omega), Rn.add_same], rfl⟩ (hdr.mono gg.ext))
        refine ⟨ρ', fr.tmps, d', w', ?_, gg.trans r2, r3, by omega, fun m hmc => ?_, r6.1, r6.2⟩
        · rw [r1]; exact he.mono (gg.ext.trans r2.ext)
        · rw [r5 m (by omega), Rn.add_ne (by omega), Rn.add_ne (by omega)]
      · rename_i l0 hron
        split at h
        · rename_i st0 pe0 fn0 env0 n0 ps0 as0 bo0 d0 hl0
          have hro0 : ∃ L0, ρ l0 = some L0 ∧ fr.roundOf = some L0.block := by
            rw [hron] at hro
            cases hh : fr.roundOf with
            | none => rw [hh] at hro; exact hro.elim
            | some b => rw [hh] at hro; obtain ⟨L, h1, h2⟩ := hro; exact ⟨L, h1, by rw [h2]⟩
          obtain ⟨L0, hL0, hro0⟩ := hro0
          obtain ⟨r0, hr0, hor⟩ := loop_obj hw hl0 hL0
          have hlaid := run_enterLoop_inner (P := X.P) (w := w) hr0 fr.fn fr.tmps params assign body
          obtain ⟨_, _, _, _, _, _, _, K, hK, hKd⟩ := hor
          have n1 : ρ s.c = none := hb _ (Nat.le_refl _)
          have hKc : (ρ.add s.c ⟨w.heap.size, 0, none, none, none⟩) d0 = some K := Rn.ext_add n1 _ _ hK
          have gg := Goes.alloc (L := ⟨w.heap.size, 0, none, none, none⟩) hw n1 rfl (o := .loop .ready none fx.fn s.env fx.n params assign body d0)
            (o' := .loop { state := .ready, pending := none, fn := fr.fn, tmps := fr.tmps, params, assign, body, defers := r0.defers })
            ⟨rfl, rfl, hfn, he.mono (Rn.ext_add n1), rfl, rfl, rfl, K, hKc, hKd⟩
          have hb2 : (ρ.add s.c ⟨w.heap.size, 0, none, none, none⟩).Below (s.c + 1) := (hb.mono (by omega)).add (by omega)
          obtain ⟨ρ', d', w', r1, r2, r3, r4, r5, r6⟩ := loop_ok ok hcs h gg.rel hb2 (hg.goes gg) (hfvr.mono gg.ext) (L := ⟨w.heap.size, 0, none, none, none⟩) (by rw [Rn.add_same]) (fr := fr) (g := g) (cs := cs) (k := k) rfl hm
            (d := []) (fun q => by
              have := stepR_rangeFunc (b := fr) (a := { tmps := fr.tmps, defers := fr.defers }) (k := k) (cs := cs) (by rw [hro0]; exact hlaid) q.1 q.2
              rw [← fr_atR fr hm _ ht] at this
              exact this) (hdr.mono gg.ext)
          refine ⟨ρ', fr.tmps, d', w', ?_, gg.trans r2, r3, by omega, fun m hmc => ?_, r6.1, r6.2⟩
          · rw [r1]; exact he.mono (gg.ext.trans r2.ext)
          · rw [r5 m (by omega), Rn.add_ne (by omega)]
        · cases h
    · cases h
  | _ => simp [evCode] at h

omit ok in
theorem envOf_get : ∀ (l : List Value) (i : Nat) (e : Env) (t : Nat) (v : Value), (envOf l i e).get t = some v → (∃ j, t = i + j ∧ l[j]? = some v) ∨ e.get t = some v
  | [], i, e, t, v, h => .inr h
  | x :: l, i, e, t, v, h => by
    rcases envOf_get l (i + 1) (e.set i x) t v h with ⟨j, h1, h2⟩ | h1
    · exact .inl ⟨j + 1, by omega, by simpa using h2⟩
    · rcases Tr.get_put h1 with ⟨a, b⟩ | ⟨a, b⟩
      · cases b; exact .inl ⟨0, by omega, rfl⟩
      · exact .inr b

theorem resOf_ok {ρ : Rn} {n : Nat} {env : Env} {tmps : Array Value} (he : EnvRel ρ n env tmps) {H : Heap} {w : World} (hw : WRel ρ H w) : ∀ (rs : List ResultVar) (l : List Value), resOf X env H rs = some l →
    ∃ l' : List Value, (rs.mapM (fun r => match r with
    | .tmp t => pure (tmps.getD t undef)
    | .cell a t => do loadVar t (← asAddr (tmps.getD a undef)) : ResultVar → Sem Value)).run X.P w = .ok l' w ∧ LRel ρ l l'
  | [], l, h => by
    simp only [resOf] at h; cases h
    exact ⟨[], rfl, .nil ρ⟩
  | .tmp t :: rs, l, h => by
    simp only [resOf] at h
    split at h
    · rename_i v hv
      simp only [Option.map_eq_some_iff] at h
      obtain ⟨l1, h1, rfl⟩ := h
      obtain ⟨l', h2, h3⟩ := resOf_ok he hw rs l1 h1
      obtain ⟨v', h4, h5⟩ := he.2 t v hv
      refine ⟨v' :: l', ?_, .cons h5 h3⟩
      rw [List.mapM_cons]
      simp only [Sem.run_bind, Sem.run_pure, Result.andThen_ok, h2]
      rw [Array.getD_eq_getD_getElem?, h4]; rfl
    · cases h
  | .cell a t :: rs, l, h => by
    simp only [resOf] at h
    split at h
    · rename_i b hv
      obtain ⟨v', h4, h5⟩ := he.2 a _ hv
      obtain ⟨b', L, rfl, q1, q2, q3, q4⟩ := h5.unptr
      have key : ∀ v l1, (match X.isAgg t, X.size t with
          | some true, some n => (cellsAt H b n).map fun l => Value.agg ⟨l⟩
          | some false, some _ => match b.spot, H.get b.block with
            | none, some (.cells cs _ _ _) => cs[b.off]?
            | _, _ => none
          | _, _ => none) = some v → resOf X env H rs = some l1 → l = v :: l1 → ∃ l' : List Value, ((.cell a t :: rs : List ResultVar).mapM (fun r => match r with
          | .tmp t => pure (tmps.getD t undef)
          | .cell a t => do loadVar t (← asAddr (tmps.getD a undef)) : ResultVar → Sem Value)).run X.P w = .ok l' w ∧ LRel ρ l l' := by
        intro v l1 hva hl1 hl
        subst hl
        obtain ⟨l', h2, h3⟩ := resOf_ok he hw rs l1 hl1
        obtain ⟨v2, h6, h7⟩ := loadAt_ok ok hw h5 hva
        refine ⟨v2 :: l', ?_, .cons h7 h3⟩
        rw [List.mapM_cons]
        have : (do loadVar t (← asAddr (tmps.getD a undef)) : Sem Value).run X.P w = .ok v2 w := by
          rw [Array.getD_eq_getD_getElem?, h4]
          unfold Instr.loadAt at h6
          simp only [Sem.run_bind, sure_ok, Result.andThen_ok] at h6
          simp only [Option.getD_some, asAddr, pure_bind]
          exact h6
        rw [Sem.run_bind]
        simp only
        rw [this]
        simp only [Result.andThen_ok, Sem.run_bind, h2, Sem.run_pure]
      split at h
      · rename_i n hg hn
        split at h
        · rename_i lc hc
          simp only [Option.map_eq_some_iff] at h
          obtain ⟨l1, h1, rfl⟩ := h
          exact key (.agg ⟨lc⟩) l1 (by simp only [hg, hn, hc]; rfl) h1 rfl
        · cases h
      · rename_i n hg hn
        split at h
        · rename_i cs2 _ _ _ hsp hH
          split at h
          · rename_i v hv2
            simp only [Option.map_eq_some_iff] at h
            obtain ⟨l1, h1, rfl⟩ := h
            exact key v l1 (by simp only [hg, hn, hsp, hH, hv2]) h1 rfl
          · cases h
        · cases h
      · cases h
    · cases h

omit ok in
theorem oneOf_ok {ρ : Rn} {l l' : List Value} (h : LRel ρ l l') : VRel ρ (oneOf l) (if h : l'.toArray.size = 1 then l'.toArray[0] else .tuple l'.toArray) := by
  match l, h with
  | [], h => rw [h.unnil]; exact .tupA (LRel.arr (.nil ρ))
  | [x], h =>
    obtain ⟨y, c, rfl, h1, h2⟩ := h.uncons
    rw [h2.unnil]; exact h1
  | x :: y :: z, h =>
    have hne : ¬ l'.toArray.size = 1 := by have := h.1; simp at this ⊢; omega
    rw [dif_neg hne]
    exact .tupA (LRel.arr h)

omit ok in
theorem envPs_ok {ρ : Rn} {n : Nat} : ∀ (ts : List Tmp) (vs vs' : List Value) (env env' : Env) (tmps : Array Value), envPs n ts vs env = some env' → EnvRel ρ n env tmps → LRel ρ vs vs' →
    ts.length = vs.length ∧ EnvRel ρ n env' ((ts.zip vs').foldl (fun tmps (t, a) => tmps.setIfInBounds t a) tmps)
  | [], [], vs', env, env', tmps, h, he, hl => by
    simp only [envPs] at h; cases h
    exact ⟨rfl, he⟩
  | [], _ :: _, _, _, _, _, h, _, _ => by simp [envPs] at h
  | _ :: _, [], _, _, _, _, h, _, _ => by simp [envPs] at h
  | t :: ts, v :: vs, vs', env, env', tmps, h, he, hl => by
    simp only [envPs] at h
    cases hb : Nat.blt t n with
    | false => rw [hb, cond_false] at h; cases h
    | true =>
      rw [hb, cond_true] at h
      obtain ⟨v', vs2, rfl, h1, h2⟩ := hl.uncons
      obtain ⟨a, b⟩ := envPs_ok ts vs vs2 _ env' (tmps.setIfInBounds t v') h (he.set (by simpa [Nat.blt_eq] using hb) h1) h2
      exact ⟨by simp [a], b⟩

theorem yield_ok {rec : Rec} (hrec : CodeSound X rec) {l : Nat} {args : List Value} {H H' : Heap} {c c' : Nat} {v : Value} (h : evYield rec l args H c = some (v, H', c')) {ρ : Rn} {w : World} {args' : List Value} (fr : Frame) (cs : List Frame) {L : Loc}
    (hL : ρ l = some L) (hl : LRel ρ args args') (hw : WRel ρ H w) (hb : ρ.Below c) (hg : GRel X ρ) :
    ∃ ρ' v' w', Yielded X.P L.block args'.toArray fr cs w w' v' ∧ VRel ρ' v v' ∧ Goes ρ H w ρ' H' w' ∧ ρ'.Below c' ∧ c ≤ c' ∧ ∀ m, m < c → ρ' m = ρ m := by
  unfold evYield at h
  split at h
  · rename_i st pe fn env n params assign body d hl0
    obtain ⟨r, hr, hor⟩ := loop_obj hw hl0 hL
    obtain ⟨_, _, hfn, henv, hps, has, hbo, _⟩ := hor
    split at h
    · rename_i env' hep
      obtain ⟨hlen, henv'⟩ := envPs_ok _ _ _ _ _ _ hep henv hl
      split at h
      · rename_i s1 hs1
        split at h
        · rename_i pe2 fn2 env2 n2 ps2 as2 bo2 d2 hds1 hl1
          split at h
          · rename_i ex s2 hs2
            split at h
            · rename_i st3 pe3 fn3 env3 n3 ps3 as3 bo3 d3 hds2 hl2
              cases h
              have hyt : ∃ tm, (Instr.yield L.block args'.toArray).run X.P w = .ok (.round L.block r.fn tm r.assign r.body) w ∧ EnvRel ρ n env' tm := by
                refine ⟨_, run_yield (P := X.P) (w := w) (args := args'.toArray) hr (by rw [hps]; have := hl.1; simp at hlen ⊢; omega), ?_⟩
                rw [hps, ← Array.foldl_toList, Array.toList_zip]
                exact henv'
              obtain ⟨tm, hy, henv2⟩ := hyt
              rw [hfn, has, hbo] at hy
              -- the assignment
              obtain ⟨ρ₁, t₁, d₁, w₁, a1, a2, a3, a4, a5, a6, a7⟩ := hrec ⟨n, fn, some l⟩ assign _ _ s1 hs1 ρ (Frame.round L.block fn tm assign body .normal) (fr :: cs) w
                [.beginRound, .code body] henv2 hw hb hg rfl rfl ⟨L, hL, rfl⟩ .nil (.inl rfl)
              rw [hds1] at a6
              have hd1 : d₁ = [] := by cases a6; rfl
              subst hd1
              -- the round begins
              have hL₁ : ρ₁ l = some L := a2.ext _ _ hL
              obtain ⟨r1, hr1, hor1⟩ := loop_obj a2.rel hl1 hL₁
              have hready : r1.state = .ready := hor1.1
              have sb := stepR_beginRound (b := Frame.round L.block fn tm assign body .normal) (a := { tmps := t₁, defers := [] }) (k := [.code body]) (cs := fr :: cs)
                rfl (run_beginRound (P := X.P) hr1 hready)
              have gb := Goes.loop a2.rel hl1 hL₁ hr1 hor1 .busy pe2
              have hpe1 : r1.pending = pe2 := hor1.2.1
              have hput : ({ r1 with state := .busy, pending := pe2 } : Loop) = { r1 with state := .busy } := by rw [← hpe1]
              rw [hput] at gb
              -- the body
              obtain ⟨ρ₂, t₂, d₂, w₂, b1, b2, b3, b4, b5, b6, b7⟩ := hrec ⟨n, fn, some l⟩ body _ ex s2 hs2 ρ₁
                ((Frame.round L.block fn tm assign body .normal).atR { tmps := t₁, defers := [] } [.code body]) (fr :: cs) (w₁.putObj L.block (.loop { r1 with state := .busy })) []
                a1 gb.rel a3 (hg.goes a2) rfl rfl ⟨L, hL₁, rfl⟩ (by rw [hds1]; exact .nil) (.inl rfl)
              rw [hds2] at b6
              have hd2 : d₂ = [] := by cases b6; rfl
              subst hd2
              have hL₂ : ρ₂ l = some L := b2.ext _ _ hL₁
              obtain ⟨r2, hr2, hor2⟩ := loop_obj b2.rel hl2 hL₂
              have ge := Goes.loop b2.rel hl2 hL₂ hr2 hor2 (roundEnd ex).1 (roundEnd ex).2.1
              have hgo := ((a2.trans gb).trans b2).trans ge
              refine ⟨ρ₂, .bool (roundEnd ex).2.2, _, ⟨fn, _, assign, body, hy, ?_⟩, .bool _, hgo, b3, by simp only at b4 a4; omega, fun m hmc => ?_⟩
              · refine Steps.trans a7 (.head sb ?_)
                cases ex with
                | normal => exact Steps.trans b7 (.one (stepR_round_end (b := Frame.round L.block fn tm assign body .normal) (a := { tmps := t₂, defers := [] }) rfl rfl (run_endRound (P := X.P) none hr2)))
                | exit i =>
                  obtain ⟨td, h1, h2⟩ := b7
                  exact Steps.trans h2 (.one (stepR_round_exit (b := Frame.round L.block fn tm assign body .normal) (a := { tmps := t₂, defers := [] }) rfl rfl (h1.trans rfl) (run_endRound (P := X.P) (some (.exit i)) hr2)))
                | ret =>
                  obtain ⟨td, h2⟩ := b7
                  exact Steps.trans h2 (.one (stepR_round_ret (b := Frame.round L.block fn tm assign body .normal) (a := { tmps := t₂, defers := [] }) rfl rfl (run_endRound (P := X.P) (some .ret) hr2)))
              · rw [b5 m (by simp only at a4 ⊢; omega), a5 m hmc]
            · cases h
          · cases h
        · cases h
      · cases h
    · cases h
  · cases h

omit ok in
theorem findF_ok {f : FuncId} {as : List Value} {H : Heap} {v : Value} : ∀ (l : List OrF), findF X f as H l = some v → ∃ en ∈ l, en.f = f ∧ en.as = as ∧ romOk X H en.rom = true ∧ en.r = v
  | [], h => by cases h
  | x :: l, h => by
    unfold findF at h
    cases hb : (Nat.beq x.f f && (vEqs (vEq 2) x.as as && romOk X H x.rom)) with
    | true =>
      rw [hb, cond_true] at h; cases h
      simp only [Bool.and_eq_true] at hb
      exact ⟨x, by simp, Nat.eq_of_beq_eq_true hb.1, vEqs_eq (vEq_eq 2) _ _ hb.2.1, hb.2.2, rfl⟩
    | false =>
      rw [hb, cond_false] at h
      obtain ⟨en, h1, h2⟩ := findF_ok l h
      exact ⟨en, List.mem_cons_of_mem _ h1, h2⟩

omit ok in
theorem Goes.of_below {ρ : Rn} {H : Heap} {w w' : World} (hw : WRel ρ H w) (h : Go.RowKit.Below w.heap.size w w') : Goes ρ H w ρ H w' where
  ext := .refl ρ
  rel := ⟨fun n o hn => by
    obtain ⟨L, o', h1, h2, h3⟩ := hw.obj n o hn
    exact ⟨L, o', h1, (h.block _ (Array.getElem?_eq_some_iff.1 h2).1).trans h2, h3⟩, hw.inj, fun n L l b o hL hl hb =>
      let ⟨h1, h2⟩ := hw.ice n L l b o hL hl hb; ⟨(h.block _ (Array.getElem?_eq_some_iff.1 h1).1).trans h1, h2⟩⟩
  gh := .refl ρ w
  size := h.size
  os := h.os
  output := Prod.ext h.output h.tape
  same := fun b hb _ => h.block b hb
  new := fun n o L hn hL => .inr ⟨n, o, L, hn, hL, rfl⟩

/-- A call with unknown values that is known. -/
theorem orf_ok {f : FuncId} {args : List Value} {H : Heap} {c : Nat} {v : Value} (h : findF X f args H X.orf = some v) {ρ : Rn} {w : World} {args' : List Value} {cs : List Frame} (hl : LRel ρ args args') (hw : WRel ρ H w) (hb : ρ.Below c) (hg : GRel X ρ) :
    ∃ ρ' v' w', Entered X.P f args'.toArray cs w w' v' ∧ VRel ρ' v v' ∧ Goes ρ H w ρ' H w' ∧ ρ'.Below c ∧ c ≤ c ∧ ∀ m, m < c → ρ' m = ρ m := by
  obtain ⟨en, h1, rfl, rfl, hro, rfl⟩ := findF_ok _ h
  obtain ⟨⟨g, b, hf, hbody, hnm⟩, hc⟩ := ok.orf en h1
  obtain ⟨e, w', fr', ⟨v', he, hv, hbl⟩, hst, hfn, hlv⟩ := hc ρ hg w args' hl (by
    intro g l hq
    rw [hq] at hro
    unfold romOk at hro
    dsimp only at hro
    rw [Bool.and_eq_true] at hro
    obtain ⟨hlt, hro⟩ := hro
    split at hro
    · rename_i ob cs2 hH
      obtain ⟨L, o', hL, ho, hrel⟩ := hw.obj g _ hH
      rw [hg.1 g (by simpa [Nat.blt_eq] using hlt)] at hL
      cases hL
      have e2 := vEqs_eq (vEq_eq 2) _ _ hro
      subst e2
      have hrel' : o' = ob ∧ (0 : Nat) = 0 ∧ ∃ (cs' : Array Value) (el : TypeId) (fz : Nat × Nat), (ob = .cells cs' el fz ∧ cs'.size = cs2.length) ∧ ∀ (i : Nat) v, cs2[i]? = some v → ∃ v', cs'[i]? = some v' ∧ VRel ρ v v' := by
        cases o' <;> simpa only [ORel] using hrel
      obtain ⟨e1, _, cs', el, fz, ⟨e3, e4⟩, e5⟩ := hrel'
      rw [e1, e3] at ho
      exact ⟨cs', el, fz, ho, e4, e5⟩
    · cases hro) cs
  subst he
  refine ⟨ρ, v', w', .inr ⟨?_, fr', hst, hfn, hlv⟩, hv, .of_below hw hbl, hb, Nat.le_refl _, fun _ _ => rfl⟩
  unfold callFunc
  simp only [Sem.run_bind, run_program, Result.andThen_ok, hf, hnm]
  simp [hbody]

theorem runD_ok {rec : Rec} (hrec : CodeSound X rec) : ∀ (ds : List DE) (H H' : Heap) (c c' : Nat), runD X rec ds H c = some (H', c') → ∀ (ρ : Rn) (w : World) (fr : Frame) (cs : List Frame), WRel ρ H w → DRel ρ ds fr.defers → fr.mode = .returning → ρ.Below c → GRel X ρ →
    ∃ ρ' w', Steps X.P (lone fr cs w) (lone { fr with defers := [] } cs w') ∧ Goes ρ H w ρ' H' w' ∧ ρ'.Below c' ∧ c ≤ c' ∧ ∀ m, m < c → ρ' m = ρ m
  | [], H, H', c, c', h, ρ, w, fr, cs, hw, hd, hm, hb, hg => by
    simp only [runD] at h; cases h
    have : fr.defers = [] := by
      generalize fr.defers = x at hd
      cases hd; rfl
    exact ⟨ρ, w, by rw [← this]; exact .refl _ _, .refl hw, hb, Nat.le_refl _, fun _ _ => rfl⟩
  | .mark n :: ds, H, H', c, c', h, ρ, w, fr, cs, hw, hd, hm, hb, hg => by
    simp only [runD] at h
    split at h
    · rename_i hn
      generalize hdf : fr.defers = x at hd
      cases hd with
      | @cons _ d _ df hd1 hd2 =>
      obtain ⟨L, hL, rfl⟩ := hd1
      obtain ⟨L', o', h1, h2, h3⟩ := hw.obj n _ hn
      rw [hL] at h1; cases h1
      cases o' with
      | deferred c0 =>
        have hc : c0 = some [] := h3
        subst hc
        have gf := Goes.free hw hn hL (.deferred none)
        have s1 := step_collected (P := X.P) (cs := cs) (by rw [hm]; simp) hdf rfl (run_takeDeferred h2)
        obtain ⟨ρ', w', hst, hgo, r1, r2, r3⟩ := runD_ok hrec ds _ H' c c' h ρ (w.putObj L.block (.deferred none)) { fr with defers := [] ++ df } cs gf.rel hd2 hm hb hg
        exact ⟨ρ', w', .head s1 hst, gf.trans hgo, r1, r2, r3⟩
      | _ => exact h3.elim
    · cases h
  | .call f args :: ds, H, H', c, c', h, ρ, w, fr, cs, hw, hd, hm, hb, hg => by
    simp only [runD] at h
    split at h
    · cases h
    · rename_i g hgf
      have hf := ok.fn f g hgf
      cases hnm : (g.name == "runtime.NumGoroutine") with
      | true => rw [hnm, cond_true] at h; cases h
      | false =>
      rw [hnm, cond_false] at h
      split at h
      · cases h
      · rename_i b hbody
        cases hsz : Nat.ble args.length g.ntmps with
        | false => rw [hsz, cond_false] at h; cases h
        | true =>
        rw [hsz, cond_true] at h
        have hle : args.length ≤ g.ntmps := Nat.le_of_ble_eq_true hsz
        generalize hdf : fr.defers = x at hd
        cases hd with
        | @call _ _ first cap _ df hl hd2 =>
        have hlen : (first.toList ++ cap.toList).length = args.length := hl.1.symm
        have hfr : Frame.enter X.P f (first ++ cap) .deferred = { fn := f, tmps := (first ++ cap) ++ Array.replicate (g.ntmps - (first ++ cap).size) undef, todo := [.code b], defers := [], mode := .run, kind := .deferred } := by
          unfold Frame.enter
          simp [hf, hbody]
        have henv : EnvRel ρ g.ntmps (envOf args 0 .nil) ((first ++ cap) ++ Array.replicate (g.ntmps - (first ++ cap).size) undef) := by
          have hq : (first ++ cap).size = args.length := by simpa using hlen
          refine ⟨by rw [Array.size_append, hq, Array.size_replicate]; omega, fun t u hu => ?_⟩
          rcases envOf_get args 0 .nil t u hu with ⟨j, h1, h2⟩ | h1
          · have ht : t = j := by omega
            subst ht
            have hlt : t < args.length := (List.getElem?_eq_some_iff.1 h2).1
            obtain ⟨u', h3, h4⟩ := hl.get h2
            refine ⟨u', ?_, h4⟩
            rw [Array.getElem?_append_left (by omega), ← Array.getElem?_toList, Array.toList_append]
            exact h3
          · cases h1
        have hcall : (invoke (Target.fn (.func f) cap) first).run X.P w = .ok (.enter f (first ++ cap)) w := by
          simp only [invoke]
          unfold callFunc
          simp only [Sem.run_bind, run_program, Result.andThen_ok, hf, hnm]
          simp [hbody]
        have s1 := step_defer (cs := cs) (by rw [hm]; simp) hdf rfl hcall
        have fin : ∀ (ex : AEx) (s : St), rec ⟨g.ntmps, f, none⟩ b { env := envOf args 0 .nil, H := H, c := c, ds := [] } = some (ex, s) → (ex = .normal ∨ ex = .ret) →
            (match s.ds, resOf X s.env s.H g.results.toList with | [], some _ => runD X rec ds s.H s.c | _, _ => none) = some (H', c') →
            ∃ ρ' w', Steps X.P (lone fr cs w) (lone { fr with defers := [] } cs w') ∧ Goes ρ H w ρ' H' w' ∧ ρ'.Below c' ∧ c ≤ c' ∧ ∀ m, m < c → ρ' m = ρ m := by
          intro ex s hs hex hres
          split at hres
          · rename_i l hds hl1
            obtain ⟨ρ1, tmps', df', w1, a1, a2, a3, a4, a5, a6, a7⟩ := hrec ⟨g.ntmps, f, none⟩ b _ ex s hs ρ (Frame.enter X.P f (first ++ cap) .deferred) ({ fr with defers := df } :: cs) w [] (by rw [hfr]; exact henv) hw hb hg (by rw [hfr]) (by rw [hfr]) (by rw [hfr]; trivial)
              (by rw [hfr]; exact .nil) (.inl (by rw [hfr]))
            rw [hds] at a6
            have hd0 : df' = [] := by cases a6; rfl
            subst hd0
            have all : ∃ td, Steps X.P (lone (Frame.enter X.P f (first ++ cap) .deferred) ({ fr with defers := df } :: cs) w) (lone { fn := f, tmps := tmps', todo := td, defers := [], mode := .returning, kind := .deferred } ({ fr with defers := df } :: cs) w1) := by
              rcases hex with rfl | rfl
              · refine ⟨[], Steps.trans a7 (.one ?_)⟩
                rw [hfr]
                exact stp_end rfl rfl rfl
              · obtain ⟨td, a7⟩ := a7
                refine ⟨.code .ret :: td, Steps.trans a7 (.one ?_)⟩
                rw [hfr]
                exact stp_ret rfl rfl rfl
            obtain ⟨td, hst⟩ := all
            obtain ⟨l', r1, r2⟩ := resOf_ok ok a1 a2.rel _ _ hl1
            have hgo : Frame.going X.P { fn := f, tmps := tmps', todo := td, defers := [], mode := .returning, kind := .deferred } w1 (.returned (if h : l'.toArray.size = 1 then l'.toArray[0] else Value.tuple l'.toArray)) := by
              refine ⟨rfl, rfl, g, hf, ?_⟩
              unfold results
              rw [Array.mapM_eq_mapM_toList]
              simp only [Sem.run_bind, Sem.run_map, Sem.run_pure]
              exact congrArg (fun r : Result (List Value) => (r.andThen fun a w' => Result.ok a.toArray w').andThen fun a w' => Result.ok (if h : a.size = 1 then a[0] else Value.tuple a) w') r1
            have s2 := step_going_returned (c := { fr with defers := df }) (cs := cs) rfl hgo
            have hset : settle ({ fr with defers := df } : Frame).mode = .returning := by simp only [hm]; rfl
            have hfr2 : ({ ({ fr with defers := df } : Frame) with mode := settle ({ fr with defers := df } : Frame).mode } : Frame) = { fr with defers := df } := by rw [hset, ← hm]
            rw [hfr2] at s2
            obtain ⟨ρ', w', hst', hgo', b1, b2, b3⟩ := runD_ok hrec ds s.H H' s.c c' hres ρ1 w1 { fr with defers := df } cs a2.rel (hd2.mono a2.ext) hm a3 (hg.goes a2)
            have a4' : c ≤ s.c := a4
            exact ⟨ρ', w', .head s1 (hst.trans (.head s2 hst')), a2.trans hgo', b1, by omega, fun m hmc => (b3 m (by omega)).trans (a5 m hmc)⟩
          · cases hres
        split at h
        · rename_i s hs; exact fin _ s hs (.inl rfl) h
        · rename_i s hs; exact fin _ s hs (.inr rfl) h
        · cases h

theorem plain_ok {rec : Rec} (hrec : CodeSound X rec) : CallSound X (evPlain X rec) := by
  refine ⟨fun l args H c v H' c' h ρ w args' fr cs L hL hl hw hb hg => yield_ok ok hrec h fr cs hL hl hw hb hg, fun f args H c v H' c' h ρ w args' cs hl hw hb hg => ?_⟩
  unfold evPlain at h
  simp only at h
  split at h
  · cases h
  · rename_i g hgf
    have hf := ok.fn f g hgf
    cases hnm : (g.name == "runtime.NumGoroutine") with
    | true => rw [hnm, cond_true] at h; cases h
    | false =>
      rw [hnm, cond_false] at h
      split at h
      · rename_i hbody
        split at h
        · rename_i e hn1 hn2
          cases hne : (g.name == "internal/abi.NoEscape") with
          | true =>
          rw [hne, cond_true] at h
          split at h
          · cases h
            obtain ⟨x', m, rfl, hx, hm⟩ := hl.uncons
            have hm' := hm.unnil
            subst hm'
            refine ⟨ρ, x', w, .inl ?_, hx, .refl hw, hb, Nat.le_refl _, fun _ _ => rfl⟩
            have hfind := noEscape_find (eq_of_beq hne)
            unfold callFunc
            simp only [Sem.run_bind, run_program, Result.andThen_ok, hf, hnm]
            simp [hbody, hn1, hfind, Lib.run_noEscape (P := X.P) w x']
          · cases h
          | false =>
          rw [hne, cond_false] at h
          cases hst : (g.name == "sync/atomic.StoreInt64" || g.name == "sync/atomic.StoreUint32") with
          | true =>
            rw [hst, cond_true] at h
            simp only [Option.map_eq_some_iff] at h
            obtain ⟨⟨v2, H2⟩, hx, he⟩ := h
            cases he
            obtain ⟨w', hrun, hv2, hgo⟩ := storeX_ok (X := X) hw hx hl
            have hfind : Extern.find g = some Extern.Atomic.storeT := by
              rw [Bool.or_eq_true] at hst
              rcases hst with q | q
              · exact find_storeI (eq_of_beq q)
              · exact find_storeU (eq_of_beq q)
            refine ⟨ρ, undef, w', .inl ?_, by rw [hv2]; exact .tupA ⟨rfl, fun i x y h => by simp at h⟩, hgo, hb, Nat.le_refl _, fun _ _ => rfl⟩
            unfold callFunc
            simp only [Sem.run_bind, run_program, Result.andThen_ok, hf, hnm]
            simp [hbody, hn1, hfind, hrun]
          | false =>
          rw [hst, cond_false] at h
          cases hli : (g.name == "sync/atomic.LoadInt64") with
          | true =>
            rw [hli, cond_true] at h
            simp only [Option.map_eq_some_iff] at h
            obtain ⟨v2, hx, he⟩ := h
            cases he
            obtain ⟨hrun, hvr⟩ := loadX_ok (X := X) hw hx hl
            have hfind := find_loadI (eq_of_beq hli)
            refine ⟨ρ, _, w, .inl ?_, hvr, .refl hw, hb, Nat.le_refl _, fun _ _ => rfl⟩
            unfold callFunc
            simp only [Sem.run_bind, run_program, Result.andThen_ok, hf, hnm]
            simp [hbody, hn1, hfind, hrun]
          | false =>
          rw [hli, cond_false] at h
          cases hlu : (g.name == "sync/atomic.LoadUint32") with
          | true =>
            rw [hlu, cond_true] at h
            simp only [Option.map_eq_some_iff] at h
            obtain ⟨v2, hx, he⟩ := h
            cases he
            obtain ⟨hrun, hvr⟩ := loadX_ok (X := X) hw hx hl
            have hfind := find_loadU (eq_of_beq hlu)
            refine ⟨ρ, _, w, .inl ?_, hvr, .refl hw, hb, Nat.le_refl _, fun _ _ => rfl⟩
            unfold callFunc
            simp only [Sem.run_bind, run_program, Result.andThen_ok, hf, hnm]
            simp [hbody, hn1, hfind, hrun]
          | false =>
          rw [hlu, cond_false] at h
          split at h
          · rename_i u hu
            cases hc : (clos u && args.all clos) with
            | false => rw [hc, cond_false] at h; cases h
            | true =>
              rw [hc, cond_true] at h; cases h
              rw [Bool.and_eq_true] at hc
              have hargs : args' = args := by
                refine List.ext_getElem hl.1.symm fun i h1 h2 => ?_
                exact clos_eq (hl.2 i args[i] args'[i] (List.getElem?_eq_getElem h2) (List.getElem?_eq_getElem h1)) (List.all_eq_true.1 hc.2 _ (by simp))
              subst hargs
              refine ⟨ρ, v, w, .inl ?_, clos_rel ρ hc.1, .refl hw, hb, Nat.le_refl _, fun _ _ => rfl⟩
              have hr := pureRun_ok X.P _ _ hu w
              unfold callFunc
              simp only [Sem.run_bind, run_program, Result.andThen_ok, hf, hnm]
              simp [hbody, hn1, hn2, hr]
          · cases h
        · cases h
      · rename_i b hbody
        cases hsz : Nat.ble args.length g.ntmps with
        | false => rw [hsz, cond_false] at h; cases h
        | true =>
          rw [hsz, cond_true] at h
          have hle : args.length ≤ g.ntmps := Nat.le_of_ble_eq_true hsz
          have hlen : args'.length = args.length := hl.1.symm
          have hfr : ∀ kind, Frame.enter X.P f args'.toArray kind = { fn := f, tmps := args'.toArray ++ Array.replicate (g.ntmps - args'.toArray.size) undef, todo := [.code b], defers := [], mode := .run, kind } := by
            intro kind
            unfold Frame.enter
            simp [hf, hbody]
          have henv : EnvRel ρ g.ntmps (envOf args 0 .nil) (args'.toArray ++ Array.replicate (g.ntmps - args'.toArray.size) undef) := by
            refine ⟨by simp; omega, fun t u hu => ?_⟩
            rcases envOf_get args 0 .nil t u hu with ⟨j, h1, h2⟩ | h1
            · have ht : t = j := by omega
              subst ht
              have hlt : t < args.length := (List.getElem?_eq_some_iff.1 h2).1
              obtain ⟨u', h3, h4⟩ := hl.get h2
              refine ⟨u', ?_, h4⟩
              rw [Array.getElem?_append_left (by simp; omega)]
              simpa using h3
            · cases h1
          have hcall : (callFunc f args'.toArray).run X.P w = .ok (.enter f args'.toArray) w := by
            unfold callFunc
            simp only [Sem.run_bind, run_program, Result.andThen_ok, hf, hnm]
            simp [hbody]
          have fin : ∀ (ex : AEx) (s : St), rec ⟨g.ntmps, f, none⟩ b { env := envOf args 0 .nil, H := H, c := c, ds := [] } = some (ex, s) → (ex = .normal ∨ ex = .ret) →
              (match runD X rec s.ds s.H s.c with | some (H', c') => (resOf X s.env H' g.results.toList).map fun l => (oneOf l, H', c') | none => none) = some (v, H', c') →
              ∃ ρ' v' w', Entered X.P f args'.toArray cs w w' v' ∧ VRel ρ' v v' ∧ Goes ρ H w ρ' H' w' ∧ ρ'.Below c' ∧ c ≤ c' ∧ ∀ m, m < c → ρ' m = ρ m := by
            intro ex s hs hex hres
            split at hres
            · rename_i H2 c2 hdrop
              simp only [Option.map_eq_some_iff] at hres
              obtain ⟨l, hl1, hl2⟩ := hres
              cases hl2
              obtain ⟨ρ', tmps', df', w1, a1, a2, a3, a4, a5, a6, a7⟩ := hrec ⟨g.ntmps, f, none⟩ b _ ex s hs ρ (Frame.enter X.P f args'.toArray .normal) cs w [] (by rw [hfr]; exact henv) hw hb hg (by rw [hfr]) (by rw [hfr]) (by rw [hfr]; trivial)
                (by rw [hfr]; exact .nil) (.inl (by rw [hfr]))
              have all : ∃ td, Steps X.P (lone (Frame.enter X.P f args'.toArray .normal) cs w) (lone { fn := f, tmps := tmps', todo := td, defers := df', mode := .returning, kind := .normal } cs w1) := by
                rcases hex with rfl | rfl
                · refine ⟨[], Steps.trans a7 (.one ?_)⟩
                  rw [hfr]
                  exact stp_end rfl rfl rfl
                · obtain ⟨td, a7⟩ := a7
                  refine ⟨.code .ret :: td, Steps.trans a7 (.one ?_)⟩
                  rw [hfr]
                  exact stp_ret rfl rfl rfl
              obtain ⟨td, hst⟩ := all
              obtain ⟨ρ2, w2, hst2, hgo2, b1, b2, b3⟩ := runD_ok ok hrec s.ds s.H H' s.c c' hdrop ρ' w1 { fn := f, tmps := tmps', todo := td, defers := df', mode := .returning, kind := .normal } cs a2.rel a6 rfl a3 (hg.goes a2)
              obtain ⟨l', r1, r2⟩ := resOf_ok ok (a1.mono hgo2.ext) hgo2.rel _ _ hl1
              refine ⟨ρ2, _, w2, .inr ⟨hcall, _, hst.trans hst2, rfl, rfl, rfl, rfl, g, hf, ?_⟩, oneOf_ok r2, a2.trans hgo2, b1, Nat.le_trans a4 b2, fun m hmc => (b3 m (Nat.lt_of_lt_of_le hmc a4)).trans (a5 m hmc)⟩
              unfold results
              rw [Array.mapM_eq_mapM_toList]
              simp only [Sem.run_bind, Sem.run_map, Sem.run_pure]
              exact congrArg (fun r : Result (List Value) => (r.andThen fun a w' => Result.ok a.toArray w').andThen fun a w' => Result.ok (if h : a.size = 1 then a[0] else Value.tuple a) w') r1
            · cases hres
          split at h
          · rename_i s hs; exact fin _ s hs (.inl rfl) h
          · rename_i s hs; exact fin _ s hs (.inr rfl) h
          · cases h

omit ok in
theorem findG_ok {f : FuncId} {h : OrG} : ∀ (l : List OrG), findG f l = some h → h ∈ l ∧ h.f = f
  | [], e => by cases e
  | x :: l, e => by
    unfold findG at e
    cases hb : Nat.beq x.f f with
    | true => rw [hb, cond_true] at e; cases e; exact ⟨by simp, Nat.eq_of_beq_eq_true hb⟩
    | false =>
      rw [hb, cond_false] at e
      obtain ⟨h1, h2⟩ := findG_ok l e
      exact ⟨List.mem_cons_of_mem _ h1, h2⟩

theorem call_ok {rec : Rec} (hrec : CodeSound X rec) : CallSound X (evCall X rec) := by
  have hp := plain_ok ok hrec
  refine ⟨fun l args H c v H' c' h => hp.1 l args H c v H' c' h, fun f args H c v H' c' h ρ w args' cs hl hw hb hg => ?_⟩
  unfold evCall at h
  simp only at h
  split at h
  · rename_i u hu
    cases h
    exact orf_ok ok hu hl hw hb hg
  split at h
  · rename_i q hq
    obtain ⟨h1, rfl⟩ := findG_ok _ hq
    exact ok.org q h1 _ hp args H c v H' c' h ρ w args' cs hl hw hb hg
  · exact hp.2 f args H c v H' c' h ρ w args' cs hl hw hb hg

/-- The evaluator is right, at every depth. -/
theorem run_ok (d : Nat) : CodeSound X (run X d) := by
  induction d with
  | zero => intro fx code s ex s' h; rw [run_zero] at h; cases h
  | succ d ih =>
    intro fx code s ex s' h
    rw [run_succ] at h
    exact code_ok ok (call_ok ok ih) ih fx code s ex s' h

theorem callAt_ok (d : Nat) : CallSound X (callAt X d) := call_ok ok (run_ok ok d)

end
end Go.Ev

namespace Go.Ev
variable [Gho]
open Go.ChangeShapes

/-- Nothing that was there has changed. -/
structure Kept (w w' : World) : Prop where
  size : w.heap.size ≤ w'.heap.size
  os : w'.os = w.os
  output : w'.output = w.output
  same : ∀ b, b < w.heap.size → w'.heap[b]? = w.heap[b]?

theorem Kept.refl (w : World) : Kept w w := ⟨Nat.le_refl _, rfl, rfl, fun _ _ => rfl⟩
theorem Kept.trans {a b c : World} (h : Kept a b) (k : Kept b c) : Kept a c :=
  ⟨Nat.le_trans h.size k.size, k.os.trans h.os, k.output.trans h.output, fun i hi => (k.same i (Nat.lt_of_lt_of_le hi h.size)).trans (h.same i hi)⟩
theorem Kept.keptBut {w w' : World} (h : Kept w w') (may : MemPlace → Prop) : w.keptBut w' may := by
  refine ⟨h.os, h.output, fun i hi => ?_⟩
  rw [h.same i hi]
  generalize w.heap[i]? = x
  cases x with
  | none => rfl
  | some o => cases o <;> first | rfl | exact ⟨rfl, rfl, rfl, fun _ _ => rfl⟩ | exact .inr ⟨rfl, rfl⟩
theorem Kept.frozen {w w' : World} (h : Kept w w') {a : Addr} (ha : a.block < w.heap.size) : w'.frozen? a = w.frozen? a := by
  unfold World.frozen?
  rw [h.same _ ha]
theorem Kept.drew (w : World) : Kept w w.drew := ⟨Nat.le_refl _, rfl, rfl, fun _ _ => rfl⟩
theorem Kept.alloc (w : World) (o : Obj) : Kept w (w.alloc o) := by
  refine ⟨by show w.heap.size ≤ (w.heap.push _).size; simp, rfl, rfl, fun b hb => ?_⟩
  show (w.heap.push _)[b]? = _
  rw [Array.getElem?_push_lt hb]
  exact (Array.getElem?_eq_getElem hb).symm
theorem Kept.of_grown {w w' : World} (h : RowKit.Grown w w') (hc : ∀ b, b < w.heap.size → w'.heap[b]? = w.heap[b]?) : Kept w w' := ⟨h.2.2, h.1.1, h.1.2.1, hc⟩

section
variable {H : Type} {enc : TypeId × Value → H} {P : Program} {W W' : World}

/-- What a law's row asks of its end, where nothing has changed. -/
theorem post_of_kept {f : Func} {s : ChangeSpec} {apart fresh handsOn again : Bool} {args : Array Value} {v : Value} {ds gs : List (DataW H)} {before pa pv : List MemPlace}
    (hW : DataW.Whole enc P f.params.toList s.vars apart W args.toList ds gs before)
    (hres : ∀ (b : Nat) (sp : Nat → Bool) (hd : Bool), DataW.TrodAll enc P W' b sp hd f.resultTypes.toList (v.resultList f.resultTypes.size) (s.fn H (ds ++ gs)).results [])
    (hargs : ∀ sp : Nat → Bool, (∀ p ∈ before, sp p.block = true) → DataW.TrodAll enc P W' 0 sp true f.params.toList args.toList (s.fn H (ds ++ gs)).args pa)
    (hvars : ∀ sp : Nat → Bool, (∀ p ∈ before, sp p.block = true) → DataW.TrodVars enc P W' sp s.vars (s.fn H (ds ++ gs)).vars pv)
    (hps : before = pa ++ pv) (hk : Kept W W')
    (hok : ∀ (j : Nat) (t : TypeId) (r : Value), f.resultTypes[j]? = some t → (v.resultList f.resultTypes.size)[j]? = some r → Value.okWide P W' .any 0 t r) :
    s.post enc P f apart fresh handsOn again W args v W' := by
  have hold : ∀ p ∈ before, (fun b => decide (b < W.heap.size)) p.block = true := fun p hp => by simpa using hW.lt p hp
  have hlt : ∀ p ∈ before, p.block < W.heap.size := fun p hp => hW.lt p hp
  refine ⟨ds, gs, before, [], pa, pv, hW, hres _ _ _, hargs _ hold, hvars _ hold, World.keptBut_mono (fun p hp => ⟨hp, ?_⟩) (hk.keptBut (· ∈ before)), fun _ => ?_⟩
  · rw [hps, List.mem_append] at hp
    exact Or.inr hp
  · obtain ⟨_, _, _, _, _, hz, hn⟩ := hW
    refine ⟨hok, _, _, ([] ++ pa) ++ pv, ⟨[] ++ pa, pv, trodAll_append (hargs _ (fun _ _ => rfl)) (hres _ _ _), hvars _ (fun _ _ => rfl), rfl, ?_, ?_⟩, ?_⟩
    · intro b off hp
      have hb : MemPlace.cell b off ∈ before := by rw [hps]; simpa using hp
      rw [hk.frozen (a := ⟨b, off, none⟩) (hlt _ hb)]
      exact hz b off hb
    · intro ha
      have := hn ha
      rw [hps] at this
      simpa using this
    · intro p hp _
      rw [hps]
      simpa using hp
end

/-- The renaming of the package's variables. -/
def glob (n : Nat) : Rn := fun m => if m < n then some ⟨m, 0, none, none, none⟩ else none
theorem glob_below {n c : Nat} (h : n ≤ c) : (glob n).Below c := fun m hm => if_neg (by omega)
theorem glob_warm (n : Nat) : (glob n).Warm := fun m L h => by
  unfold glob at h
  split at h
  · cases h; rfl
  · cases h
theorem glob_rel {X : Cx} (hs : ∀ r, X.sym r = none) : GRel X (glob X.nG) := ⟨fun g hg => if_pos hg, (fun r v h => by rw [hs] at h; cases h), (glob_warm _).gh⟩

theorem WRel.nothing {ρ : Rn} (hρ : ρ.Warm) (w : World) : WRel ρ .nil w := ⟨(fun n o h => by cases h), (fun n o m p L K h => by cases h), hρ.iced _ _⟩
theorem Goes.kept {ρ ρ' : Rn} {H' : Heap} {w w' : World} (h : Goes ρ .nil w ρ' H' w') : Kept w w' := ⟨h.size, h.os, congrArg Prod.fst h.output, fun b hb => h.same b hb fun n o L hn => by cases hn⟩

/-- A run of the evaluator is a call's contract. -/
theorem calls_of {X : Cx} (ok : X.Ok) {d f : Nat} {args : List Value} {H H' : Heap} {c c' : Nat} {v : Value} (h : callAt X d (.fn f args) H c = some (v, H', c')) {g : Func} {b : Code} (hf : X.P.funcs[f]? = some g) (hb : g.body = some b)
    {ρ : Rn} {w : World} {args' : List Value} (hl : LRel ρ args args') (hw : WRel ρ H w) (hbl : ρ.Below c) (hg : GRel X ρ) :
    Calls X.P f args'.toArray w fun e w' => ∃ ρ' v', e = .returned v' ∧ VRel ρ' v v' ∧ Goes ρ H w ρ' H' w' := by
  intro cs
  obtain ⟨ρ', v', w', hen, hv, hgo, _⟩ := (callAt_ok ok d).2 f args H c v H' c' h ρ w args' cs hl hw hbl hg
  rcases hen with h1 | ⟨_, fr, hst, hfn, hlv⟩
  · exfalso
    unfold callFunc at h1
    simp only [Sem.run_bind, run_program, Result.andThen_ok, hf] at h1
    cases hn : (g.name == "runtime.NumGoroutine") <;> simp [hb, hn] at h1
  · exact ⟨.returned v', w', fr, ⟨ρ', v', rfl, hv, hgo⟩, hst, hfn, hlv⟩

/-- A call of closed values that ends in one, and that reads nothing of what there is. -/
noncomputable def saysOf (X : Cx) (d f : Nat) (args : List Value) (v : Value) : Bool :=
  args.all clos && clos v && (match X.fn.get f with | some g => g.body.isSome | none => false) &&
  (match callAt X d (.fn f args) .nil X.nG with
   | some (u, _) => vEq 3 u v
   | none => false)

theorem calls_closed {P : Program} (hm : P.follows .mixedOrders = true) {d f : Nat} {args : List Value} {v : Value} (h : saysOf (Cx.of P) d f args v = true) (w : World) :
    Calls P f args.toArray w fun e w' => e = .returned v ∧ Kept w w' := by
  have ok := Cx.of_ok P hm
  unfold saysOf at h
  simp only [Bool.and_eq_true] at h
  obtain ⟨⟨⟨ha, hv⟩, hf⟩, hr⟩ := h
  split at hf
  · rename_i g hg
    obtain ⟨b, hb⟩ := Option.isSome_iff_exists.1 hf
    split at hr
    · rename_i u r hu
      obtain ⟨H', c'⟩ := r
      have := vEq_eq _ _ _ hr
      subst this
      have hl : LRel (glob (Cx.of P).nG) args args := ⟨rfl, fun i x y hx hy => by
        rw [hx] at hy; cases hy
        exact clos_rel _ (List.all_eq_true.1 ha x (List.mem_of_getElem? hx))⟩
      refine (calls_of ok hu (ok.fn f g hg) hb hl (WRel.nothing (glob_warm _) w) (glob_below (Nat.le_refl _)) (glob_rel fun _ => rfl)).mono fun e w' ⟨ρ', v', he, hvr, hgo⟩ => ?_
      exact ⟨by rw [he, clos_eq hvr hv], hgo.kept⟩
    · cases hr
  · cases hf

end Go.Ev

namespace Go.Ev
variable [Gho]

/-- Unknown values from a name on. -/
def symsOf (b : Nat) (l : List Value) (r : Nat) : Option Value := if b ≤ r then l[r - b]? else none

/-- A program's context with unknown values. -/
noncomputable def Cx.sy (P : Program) (b : Nat) (l : List Value) (o : List Orc) : Cx := { Cx.of P with sym := symsOf b l, orc := o }

/-- Package-level variables and unknown values, named. -/
def globS (n b : Nat) (l : List Value) : Rn := fun m => if m < n then some ⟨m, 0, none, none, none⟩ else if b ≤ m then (l[m - b]?).map fun v => ⟨0, 0, none, some v, none⟩ else none

theorem globS_below {n b c : Nat} {l : List Value} (h : n ≤ c) (hb : b + l.length ≤ c) : (globS n b l).Below c := by
  intro m hm
  unfold globS
  rw [if_neg (by omega)]
  by_cases h' : b ≤ m
  · rw [if_pos h', List.getElem?_eq_none (by omega)]; rfl
  · rw [if_neg h']
theorem globS_warm (n b : Nat) (l : List Value) : (globS n b l).Warm := fun m L h => by
  unfold globS at h
  split at h
  · cases h; rfl
  · split at h
    · obtain ⟨v, _, rfl⟩ := Option.map_eq_some_iff.1 h; rfl
    · cases h
theorem globS_rel {P : Program} {b : Nat} {l : List Value} {o : List Orc} (h : P.globals.size ≤ b) : GRel (Cx.sy P b l o) (globS P.globals.size b l) := by
  refine ⟨fun g hg => if_pos hg, fun r v hr => ?_, (globS_warm _ _ _).gh⟩
  have hr' : symsOf b l r = some v := hr
  unfold symsOf at hr'
  by_cases hb : b ≤ r
  · rw [if_pos hb] at hr'
    refine ⟨⟨0, 0, none, some v, none⟩, ?_, rfl⟩
    unfold globS
    rw [if_neg (by omega), if_pos hb, hr']; rfl
  · rw [if_neg hb] at hr'; cases hr'
theorem sym_rel {n b : Nat} {l : List Value} {i : Nat} {v : Value} (h : n ≤ b) (hi : l[i]? = some v) (ho : ∀ c, v ≠ .agg c ∧ v ≠ .tuple c) : VRel (globS n b l) (.chan (some (b + i))) v := by
  refine .sym (L := ⟨0, 0, none, some v, none⟩) ?_ rfl ho
  unfold globS
  rw [if_neg (by omega), if_pos (by omega), show b + i - b = i by omega, hi]; rfl

/-- What is asked of a comparison's answer. -/
def OrcOk (X : Cx) (en : Orc) : Prop := ∀ ρ, GRel X ρ → ∀ (x y : Operand) (a' b' : Value), VRel ρ en.a a' → VRel ρ en.b b' → ∀ w, (do eqGuard en.op en.t x y a' b'; Go.binOp en.op en.t a' b' : Sem Value).run X.P w = .ok (.bool en.r) w

theorem Cx.sy_ok {P : Program} (hm : P.follows .mixedOrders = true) {b : Nat} {l : List Value} {o : List Orc} (ho : ∀ en ∈ o, OrcOk (Cx.sy P b l o) en) : (Cx.sy P b l o).Ok :=
  ⟨(Cx.of_ok P hm).ty, (Cx.of_ok P hm).fn, hm, (fun en he => by cases he), (fun en he => by cases he), (fun en he => by cases he), ho⟩

theorem sym_inv {X : Cx} {ρ : Rn} (hg : GRel X ρ) {r : Nat} {v a' : Value} (hs : X.sym r = some v) (h : VRel ρ (.chan (some r)) a') : a' = v := by
  obtain ⟨L, hL, hv⟩ := hg.2.1 r v hs
  cases h with
  | sym h' hs' _ =>
    rw [hL] at h'; cases h'
    rw [hv] at hs'; cases hs'
    rfl

theorem eqGuard_order {op : BinOp} (h : eqOp op = false) (t : TypeId) (x y : Operand) (a b : Value) (P : Program) (w : World) : (eqGuard op t x y a b).run P w = .ok () w := by
  unfold eqGuard
  cases op <;> first | (cases h; done) | rfl

/-- An unknown whole number beside a known one. -/
theorem orc_int {X : Cx} {op : BinOp} {t : TypeId} {r : Nat} {k : IntKind} {x n : Int} {b : Bool} (hs : X.sym r = some (.int k x)) (he : eqOp op = false) (hi : isShift op = false)
    (h : intOp op k x n = some (.bool b)) : OrcOk X ⟨op, t, .chan (some r), .int k n, b⟩ := by
  intro ρ hg o p a' b' ha hb w
  have ha' := sym_inv hg hs ha
  have hb' : b' = .int k n := by cases hb; rfl
  subst ha' hb'
  simp only [Sem.run_bind, eqGuard_order he, Result.andThen_ok]
  exact intOp_int hi h _ _ t rfl rfl

/-- A run with unknown arguments that ends in a known value. -/
noncomputable def saysOrc (X : Cx) (d f : Nat) (args : List Value) (c : Nat) (v : Value) : Bool :=
  clos v && (match X.fn.get f with | some g => g.body.isSome | none => false) &&
  (match callAt X d (.fn f args) .nil c with
   | some (u, _) => vEq 3 u v
   | none => false)

theorem calls_sym {P : Program} {b : Nat} {l : List Value} {o : List Orc} (ok : (Cx.sy P b l o).Ok) {d f c : Nat} {args args' : List Value} {v : Value} (h : saysOrc (Cx.sy P b l o) d f args c v = true)
    (hl : LRel (globS P.globals.size b l) args args') (hn : P.globals.size ≤ b) (hc : b + l.length ≤ c) (w : World) :
    Calls P f args'.toArray w fun e w' => e = .returned v ∧ Kept w w' := by
  unfold saysOrc at h
  simp only [Bool.and_eq_true] at h
  obtain ⟨⟨hv, hf⟩, hr⟩ := h
  split at hf
  · rename_i g hg
    obtain ⟨bd, hb⟩ := Option.isSome_iff_exists.1 hf
    split at hr
    · rename_i u r hu
      obtain ⟨H', c'⟩ := r
      have := vEq_eq _ _ _ hr
      subst this
      refine (calls_of ok hu (ok.fn f g hg) hb hl (WRel.nothing (globS_warm _ _ _) w) (globS_below (by omega) hc) (globS_rel hn)).mono fun e w' ⟨ρ', v', he, hvr, hgo⟩ => ?_
      exact ⟨by rw [he, clos_eq hvr hv], hgo.kept⟩
    · cases hr
  · cases hf

/-! ### Arguments that are structs of cells -/

theorem okWide_cell {P : Program} {w : World} {r : Reach} {base : Nat} {t : TypeId} {cs : Array Value} {ts : List TypeId} (h : Row.okWide P w r base t cs) (hts : P.cellTypes P.depth t = some ts) (hn : cs.size = ts.length)
    {i : Nat} {u : TypeId} (hi : ts[i]? = some u) : ∃ v, cs[i]? = some v ∧ Cell.okWide P w r base u v := by
  obtain ⟨ts', h1, _, h3⟩ := h
  rw [hts] at h1; cases h1
  have hlt : i < ts.length := (List.getElem?_eq_some_iff.1 hi).1
  have hlt' : i < cs.size := by omega
  refine ⟨cs[i], Array.getElem?_eq_getElem hlt', ?_⟩
  obtain ⟨u', hu', hc⟩ := h3 i cs[i] (Array.getElem?_eq_getElem hlt')
  rw [Nat.mod_eq_of_lt hlt, hi] at hu'
  cases hu'
  exact hc
theorem cell_int {P : Program} {w : World} {r : Reach} {base : Nat} {t : TypeId} {k : IntKind} {v : Value} (ht : P.underlying t = some (.int k)) (h : Cell.okWide P w r base t v) : ∃ n, v = .int k n ∧ k.has n := by
  unfold Cell.okWide at h
  rw [ht] at h
  cases v <;> first | (obtain ⟨h1, h2⟩ := (by simpa [Cell.ok, ht] using h); subst h1; exact ⟨_, rfl, h2⟩) | (simp [Cell.ok, ht] at h)
/-- A cell is neither a struct nor a list of results. -/
theorem cell_one {P : Program} {w : World} {r : Reach} {base : Nat} {t : TypeId} {v : Value} (h : Cell.okWide P w r base t v) : ∀ c, v ≠ .agg c ∧ v ≠ .tuple c := by
  intro c
  constructor
  · rintro rfl
    unfold Cell.okWide at h
    split at h
    all_goals first | (rename_i hh; cases hh; done) | (rename_i hh _; cases hh; done) | skip
    all_goals simp [Cell.ok] at h
  · rintro rfl
    unfold Cell.okWide at h
    split at h
    all_goals first | (rename_i hh; cases hh; done) | (rename_i hh _; cases hh; done) | skip
    all_goals simp [Cell.ok] at h

end Go.Ev

namespace Go.Ev
variable [Gho]

/-- A heap of package variables: the name, the model's block, its cells over names. -/
noncomputable def romH : List (Nat × Obj × List Value) → Heap
  | [] => .nil
  | x :: r => (romH r).set x.1 (.rom x.2.1 x.2.2)

theorem romH_get : ∀ {l : List (Nat × Obj × List Value)} {n : Nat} {o : AObj}, (romH l).get n = some o → ∃ x ∈ l, x.1 = n ∧ o = .rom x.2.1 x.2.2
  | [], n, o, h => by cases h
  | x :: r, n, o, h => by
    unfold romH at h
    rcases Tr.get_put h with ⟨a, b⟩ | ⟨_, b⟩
    · cases b
      exact ⟨x, by simp, a.symm, rfl⟩
    · obtain ⟨y, hy, h1, h2⟩ := romH_get b
      exact ⟨y, List.mem_cons_of_mem _ hy, h1, h2⟩

/-- What is asked of such a variable. -/
def RomIs (ρ : Rn) (n : Nat) (w : World) (x : Nat × Obj × List Value) : Prop :=
  x.1 < n ∧ w.heap[x.1]? = some x.2.1 ∧ ∃ (cs' : Array Value) (el : TypeId) (fz : Nat × Nat), (x.2.1 = .cells cs' el fz ∧ cs'.size = x.2.2.length) ∧ ∀ (i : Nat) v, x.2.2[i]? = some v → ∃ v', cs'[i]? = some v' ∧ VRel ρ v v'

theorem romH_rel {n b : Nat} {l : List Value} {w : World} {roms : List (Nat × Obj × List Value)} (h : ∀ x ∈ roms, RomIs (globS n b l) n w x) : WRel (globS n b l) (romH roms) w := by
  have at' : ∀ m o, (romH roms).get m = some o → ∃ x ∈ roms, x.1 = m ∧ o = .rom x.2.1 x.2.2 ∧ globS n b l m = some ⟨m, 0, none, none, none⟩ := by
    intro m o hm
    obtain ⟨x, hx, h1, h2⟩ := romH_get hm
    refine ⟨x, hx, h1, h2, ?_⟩
    have := (h x hx).1
    unfold globS
    rw [if_pos (by omega)]
  refine ⟨fun m o hm => ?_, fun m o k p L K hm hk hL hK he => ?_, (globS_warm _ _ _).iced _ _⟩
  · obtain ⟨x, hx, rfl, rfl, hρ⟩ := at' m o hm
    obtain ⟨_, hw, cs', el, fz, hob, hcs⟩ := h x hx
    refine ⟨_, x.2.1, hρ, hw, ?_⟩
    have : ORel (globS n b l) ⟨x.1, 0, none, none, none⟩ (.rom x.2.1 x.2.2) x.2.1 ↔ (x.2.1 = x.2.1 ∧ (0 : Nat) = 0 ∧ ∃ (cs' : Array Value) (el : TypeId) (fz : Nat × Nat), (x.2.1 = .cells cs' el fz ∧ cs'.size = x.2.2.length) ∧ ∀ (i : Nat) v, x.2.2[i]? = some v → ∃ v', cs'[i]? = some v' ∧ VRel (globS n b l) v v') := by
      generalize x.2.1 = ob
      cases ob <;> simp only [ORel]
    exact this.2 ⟨rfl, rfl, cs', el, fz, hob, hcs⟩
  · obtain ⟨_, _, _, _, h1⟩ := at' m o hm
    obtain ⟨_, _, _, _, h2⟩ := at' k p hk
    rw [h1] at hL; cases hL
    rw [h2] at hK; cases hK
    exact he

theorem rom_inv {ρ : Rn} {L : Loc} {ob o' : Obj} {cs : List Value} (h : ORel ρ L (.rom ob cs) o') : o' = ob := by
  cases o' <;> (simp only [ORel] at h; exact h.1)

/-- Where all that the heap had are such variables, and it has them still, nothing has changed. -/
theorem kept_rom {ρ ρ' : Rn} {H H' : Heap} {w w' : World} (hw : WRel ρ H w) (h : Goes ρ H w ρ' H' w') (hr : ∀ n o, H.get n = some o → (∃ ob cs, o = .rom ob cs) ∧ H'.get n = some o) : Kept w w' := by
  refine ⟨h.size, h.os, congrArg Prod.fst h.output, fun b hb => ?_⟩
  by_cases hx : ∃ n o L, H.get n = some o ∧ ρ n = some L ∧ L.block = b
  · obtain ⟨n, o, L, hn, hL, rfl⟩ := hx
    obtain ⟨⟨ob, cs, rfl⟩, hn'⟩ := hr n o hn
    obtain ⟨K, o', hK, ho, hrel⟩ := hw.obj n _ hn
    rw [hL] at hK; cases hK
    obtain ⟨K, o2, hK, ho2, hrel2⟩ := h.rel.obj n _ hn'
    rw [h.ext n L hL] at hK; cases hK
    rw [ho, ho2, rom_inv hrel, rom_inv hrel2]
  · exact h.same b hb fun n o L hn hL he => hx ⟨n, o, L, hn, hL, he⟩

/-- How a run ends: what it has under some names, if it ends in a value. -/
noncomputable def endOf (X : Cx) (d f : Nat) (args : List Value) (H : Heap) (c : Nat) (v : Value) (ns : List Nat) : Option (List (Option AObj)) :=
  match callAt X d (.fn f args) H c with
  | some (u, H', _) => bif vEq 3 u v then some (ns.map H'.get) else none
  | none => none

theorem calls_rom {P : Program} {b : Nat} {l : List Value} {o : List Orc} (ok : (Cx.sy P b l o).Ok) {d f c : Nat} {args args' : List Value} {v : Value} {roms : List (Nat × Obj × List Value)} (hv : clos v = true) {g : Func} (hf : P.funcs[f]? = some g) (hbd : g.body.isSome = true)
    (h : endOf (Cx.sy P b l o) d f args (romH roms) c v (roms.map (·.1)) = some (roms.map fun x => some (.rom x.2.1 x.2.2)))
    (hl : LRel (globS P.globals.size b l) args args') (hn : P.globals.size ≤ b) (hc : b + l.length ≤ c) (w : World) (hr : ∀ x ∈ roms, RomIs (globS P.globals.size b l) P.globals.size w x) :
    Calls P f args'.toArray w fun e w' => e = .returned v ∧ Kept w w' := by
  unfold endOf at h
  split at h
  · rename_i u H' c' hu
    cases hq : vEq 3 u v with
    | false => rw [hq, cond_false] at h; cases h
    | true =>
      rw [hq, cond_true] at h
      have := vEq_eq _ _ _ hq
      subst this
      obtain ⟨bd, hb⟩ := Option.isSome_iff_exists.1 hbd
      have hw := romH_rel hr
      have hend : ∀ x ∈ roms, H'.get x.1 = some (.rom x.2.1 x.2.2) := by
        have h2 := Option.some.inj h
        rw [List.map_map] at h2
        intro x hx
        exact List.map_inj_left.1 h2 x hx
      refine (calls_of ok hu hf hb hl hw (globS_below (by omega) hc) (globS_rel hn)).mono fun e w' ⟨ρ', v', he, hvr, hgo⟩ => ?_
      refine ⟨by rw [he, clos_eq hvr hv], kept_rom hw hgo fun n o hno => ?_⟩
      obtain ⟨x, hx, rfl, rfl⟩ := romH_get hno
      exact ⟨⟨_, _, rfl⟩, hend x hx⟩
  · cases h

end Go.Ev

namespace Go.Ev
variable [Gho]
open Go.ChangeShapes

theorem op_lss (k : IntKind) (a b : Int) : intOp .lss k a b = some (.bool (decide (a < b))) := by simp only [intOp, intLt_eq]
theorem op_gtr (k : IntKind) (a b : Int) : intOp .gtr k a b = some (.bool (decide (b < a))) := by simp only [intOp, intLt_eq]
theorem op_geq (k : IntKind) (a b : Int) : intOp .geq k a b = some (.bool (!decide (a < b))) := by simp only [intOp, intLt_eq]
theorem op_leq (k : IntKind) (a b : Int) : intOp .leq k a b = some (.bool (!decide (b < a))) := by simp only [intOp, intLt_eq]

theorem Kept.cell {w w' : World} (h : Kept w w') {a : Addr} (ha : a.block < w.heap.size) : w'.cell? a = w.cell? a := by
  unfold World.cell?
  rw [h.same _ ha]
theorem Kept.sameAt {w w' : World} (h : Kept w w') {p : MemPlace} (hp : p.block < w.heap.size) : w.sameAt w' p := by
  cases p with
  | cell b off => exact h.cell (a := ⟨b, off, none⟩) hp
  | map b => exact h.same b hp

/-- Names for the cells of a struct. -/
def symCells (b k n : Nat) : List Value := (List.range n).map fun i => .chan (some (b + (k + i)))

theorem sym_agg {n b : Nat} {l : List Value} (h : n ≤ b) (k : Nat) (cs : List Value) (hcs : ∀ i, i < cs.length → l[k + i]? = cs[i]?) (ho : ∀ v ∈ cs, ∀ c, v ≠ .agg c ∧ v ≠ .tuple c) :
    VRel (globS n b l) (.agg ⟨symCells b k cs.length⟩) (.agg ⟨cs⟩) := by
  refine .agg (by simp [symCells]) fun i x y hx hy => ?_
  have hy' : cs[i]? = some y := by simpa using hy
  have hi : i < cs.length := (List.getElem?_eq_some_iff.1 hy').1
  have hx' : x = .chan (some (b + (k + i))) := by
    have : (symCells b k cs.length)[i]? = some x := by simpa using hx
    simp [symCells, hi] at this
    exact this.symm
  subst hx'
  exact sym_rel h (by rw [hcs i hi]; exact hy') (ho y (List.mem_of_getElem? hy'))

theorem structCells {P : Program} {w : World} {r : Reach} {base : Nat} {t : TypeId} {fs : Array Field} {v : Value} (ht : P.underlying t = some (.struct fs)) (h : Value.okWide P w r base t v) :
    ∃ cs, v = .agg cs ∧ cs.size = P.cellsOf t ∧ Row.okWide P w r base t cs := by
  unfold Value.okWide at h
  rw [ht] at h
  exact h

theorem okWide_ones {P : Program} {w : World} {r : Reach} {base : Nat} {t : TypeId} {cs : Array Value} {ts : List TypeId} (h : Row.okWide P w r base t cs) (hts : P.cellTypes P.depth t = some ts) (hn : cs.size = ts.length) :
    ∀ v ∈ cs.toList, ∀ c, v ≠ .agg c ∧ v ≠ .tuple c := by
  intro v hv
  obtain ⟨i, hi⟩ := List.mem_iff_getElem?.1 hv
  have hi' : cs[i]? = some v := by simpa using hi
  have hlt : i < cs.size := (Array.getElem?_eq_some_iff.1 hi').1
  obtain ⟨u, hu, hc⟩ := okWide_cell h hts hn (i := i) (u := ts[i]'(by omega)) (List.getElem?_eq_getElem _)
  rw [hi'] at hu; cases hu
  exact cell_one hc

theorem arr_of {cs : Array Value} {l : List Value} (hn : cs.size = l.length) (h : ∀ i, i < l.length → cs[i]? = l[i]?) : cs = ⟨l⟩ := by
  apply Array.ext_getElem?
  intro i
  by_cases hi : i < l.length
  · rw [h i hi]; simp
  · rw [Array.getElem?_eq_none (by omega)]
    simp [hi]

/-- Arguments read behind the call as they read before. -/
theorem Kept.trod {H : Type} {enc : TypeId × Value → H} {P : Program} {t : TypeId} (hl : laidOutB P = true) (hr : P.readableRec t = true) (hrow : t < P.types.size) {W W' : World} {base : Nat} {sp : Nat → Bool} {v : Value} {d : DataW H} {ps : List MemPlace}
    (h : DataW.Trod enc P W base (fun _ => true) true t v d ps) (hk : Kept W W') (hlt : ∀ x ∈ ps, x.block < W.heap.size) (hs : ∀ x ∈ ps, sp x.block = true) : DataW.Trod enc P W' base sp true t v d ps :=
  WideElems.Trod_stays hl hr hrow h (fun x hx => hk.sameAt (hlt x hx)) hs

/-- One of a row's closed facts: its integer kinds. -/
def jfKinds (P : Program) (fn : Func) (c : OpenClaim) : Bool := (c.kinds == (if c.domain.isEmpty then [] else fn.params.toList.map fun t => match P.underlying t with | some (.int k) => some k | _ => none))
/-- A row's closed facts, one by one. -/
theorem joinedFacts_of {P : Program} {f : FuncId} {fn : Func} {s : ChangeSpec} {c : OpenClaim}
    (h1 : (c.wf (OpenSpec.ofChange s)) = true) (h2 : (laidOutB P) = true) (h3 : (mapsRowed P) = true) (h4 : (fn.params.all (P.readableRec ·)) = true) (h5 : (namedTie P c.named s.vars) = true) (h6 : ((c.stops == [])) = true) (h7 : ((P.stops == [])) = true) (h8 : ((c.knobs == [])) = true) (h9 : ((P.stopKnobs == [])) = true) (h10 : ((c.inPlace == P.inPlace f)) = true) (h11 : ((c.unfollowed == P.unfollowed f)) = true) (h12 : ((c.recurses == P.recurses f)) = true) (h13 : ((c.named == P.varsNamed f)) = true) (h14 : ((c.maps == (fn.params.toList ++ s.plain.varTypes P).any (P.mapsRec ·))) = true) (h15 : ((c.ifaces == (fn.params.toList ++ s.plain.varTypes P).any (P.ifacesRec ·))) = true) (h16 : ((c.mapsOut == P.mapsAmong fn.resultTypes.toList)) = true) (h17 : ((c.loops == (fn.params.toList ++ s.plain.varTypes P).any (P.loopsFrom ·))) = true) (h18 : ((c.wideKeys == (fn.params.toList ++ s.plain.varTypes P ++ fn.resultTypes.toList).any (P.wideKeysFrom ·))) = true) (h19 : (s.vars.all (P.varReadable ·)) = true) (h20 : (fn.resultTypes.all (fun t => P.readableRec t && decide (t < P.types.size))) = true) (h21 : ((c.ifacesOut == fn.resultTypes.toList.any (P.ifacesRec ·))) = true) (h22 : ((c.loopsOut == fn.resultTypes.toList.any (P.loopsFrom ·))) = true) (h23 : ((c.plainKeys == P.plainKeys)) = true) (h24 : (c.shortTexts.isNone) = true) (h25 : (P.stopsHeard) = true) (h26 : (P.mayEnter) = true) (h27 : ((c.lifted == P.liftsFinal)) = true) (h28 : ((P.make == some c.make)) = true) (h29 : (jfKinds P fn c) = true) (h30 : ((c.pinned == c.pinnedBy)) = true) (h31 : ((c.veiled == (fn.params.toList ++ s.plain.varTypes P ++ fn.resultTypes.toList).any (P.veiledRec ·))) = true) (h32 : (c.veiledFits P fn.params.toList (fn.params.toList ++ s.plain.varTypes P ++ fn.resultTypes.toList)) = true) : joinedFacts P f fn s c = true := by
  unfold joinedFacts
  unfold jfKinds at h29
  simp only [Bool.and_eq_true]
  exact ⟨⟨⟨⟨⟨⟨⟨⟨⟨⟨⟨⟨⟨⟨⟨⟨⟨⟨⟨⟨⟨⟨⟨⟨⟨⟨⟨⟨⟨⟨⟨h1, h2⟩, h3⟩, h4⟩, h5⟩, h6⟩, h7⟩, h8⟩, h9⟩, h10⟩, h11⟩, h12⟩, h13⟩, h14⟩, h15⟩, h16⟩, h17⟩, h18⟩, h19⟩, h20⟩, h21⟩, h22⟩, h23⟩, h24⟩, h25⟩, h26⟩, h27⟩, h28⟩, h29⟩, h30⟩, h31⟩, h32⟩

end Go.Ev

namespace Go.Ev
variable [Gho]

theorem laidVars_get {P : Program} {w : World} : ∀ (laid : List (String × DataW Unit)) (ps : List MemPlace), DataW.LaidVars P w laid ps → ∀ (k : Nat) (n : String) (d : DataW Unit), laid[k]? = some (n, d) →
    ∃ g t cs fuel p, P.globalNamed n = some g ∧ (P.globals[g]?).map (·.type) = some t ∧ w.var? P n = some cs ∧ DataW.trod (fun _ => ()) P w 0 (fun _ => true) false fuel t cs.toList = some (d, p)
  | [], _, _, k, n, d, hk => by simp at hk
  | (m, e) :: r, ps, h, k, n, d, hk => by
    unfold DataW.LaidVars at h
    obtain ⟨g, t, cs, fuel, p, q, h1, h2, h3, h4, h5, _⟩ := h
    cases k with
    | zero => simp at hk; obtain ⟨rfl, rfl⟩ := hk; exact ⟨g, t, cs, fuel, p, h1, h2, h3, h4⟩
    | succ k => exact laidVars_get r q h5 k n d (by simpa using hk)

theorem laid_iface {P : Program} {laid : List (String × DataW Unit)} {w : World} (h : laidMetH P laid w) (hp : (laid.filter fun x => x.2.handleName?.isSome) = []) {k : Nat} {n : String} {d : DataW Unit} (hk : laid[k]? = some (n, d)) {g : Nat}
    (hg : P.globalNamed n = some g) {t : TypeId} (ht : (P.globals[g]?).map (·.type) = some t) {ms} (hu : P.underlying t = some (.interface ms)) :
    ∃ v el fz, w.heap[g]? = some (.cells #[v] el fz) ∧ ∀ c, v ≠ .agg c ∧ v ≠ .tuple c := by
  unfold laidMetH at h
  rw [hp] at h
  obtain ⟨ps, hv, _⟩ := h
  obtain ⟨g', t', cs, fuel, p, h1, h2, h3, h4⟩ := laidVars_get laid ps hv k n d hk
  rw [hg] at h1; cases h1
  rw [ht] at h2; cases h2
  have hone : ∃ v, cs = #[v] ∧ ∀ c, v ≠ .agg c ∧ v ≠ .tuple c := by
    cases fuel with
    | zero => simp [DataW.trod] at h4
    | succ fuel =>
      unfold DataW.trod at h4
      rw [hu] at h4
      obtain ⟨l⟩ := cs
      rcases l with _ | ⟨v, _ | ⟨u, l⟩⟩
      · simp at h4
      · refine ⟨v, rfl, ?_⟩
        cases v <;> first | (intro c; constructor <;> intro e <;> cases e; done) | simp at h4
      · cases v <;> simp at h4
  obtain ⟨v, rfl, ho⟩ := hone
  unfold World.var? at h3
  rw [hg] at h3
  simp only [Option.bind_some] at h3
  split at h3
  · rename_i c el fz hc
    cases h3
    exact ⟨v, el, fz, hc, ho⟩
  · cases h3

theorem rom_iface {n b : Nat} {l : List Value} {w : World} {g i : Nat} {v : Value} {el : TypeId} {fz : Nat × Nat} (hn : n ≤ b) (hg : g < n) (hw : w.heap[g]? = some (.cells #[v] el fz)) (hi : l[i]? = some v) (ho : ∀ c, v ≠ .agg c ∧ v ≠ .tuple c) :
    RomIs (globS n b l) n w (g, .cells #[v] el fz, [.chan (some (b + i))]) := by
  refine ⟨hg, hw, #[v], el, fz, ⟨rfl, rfl⟩, fun j u hj => ?_⟩
  cases j with
  | zero =>
    simp at hj
    subst hj
    exact ⟨v, rfl, sym_rel hn hi ho⟩
  | succ j => simp at hj

end Go.Ev
