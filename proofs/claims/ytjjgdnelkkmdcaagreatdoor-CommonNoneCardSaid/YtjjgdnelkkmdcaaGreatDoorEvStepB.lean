/-
  Calls; an operation in the machine; operations in the order of the text.
-/
import Derived.Test.YtjjgdnelkkmdcaaGreatDoorEvStepA
set_option linter.all false
namespace Go.Ev

/-- A call's own run: a value at once, or a function that is entered and comes to its leaving. -/
def Entered (P : Program) (f : FuncId) (args' : Array Value) (cs : List Frame) (w w' : World) (v' : Value) : Prop :=
  ((callFunc f args').run P w = .ok (.value v') w') ∨
  ((callFunc f args').run P w = .ok (.enter f args') w ∧
    ∃ fr', Steps P (lone (Frame.enter P f args' .normal) cs w) (lone fr' cs w') ∧ fr'.fn = f ∧ fr'.leaving P w' (.returned v'))

/-- A round of a loop over a function, in the machine. -/
def Yielded (P : Program) (l : Nat) (args' : Array Value) (fr : Frame) (cs : List Frame) (w w' : World) (v' : Value) : Prop :=
  ∃ f tmps assign body, (Instr.yield l args').run P w = .ok (.round l f tmps assign body) w ∧
    Steps P (lone (Frame.round l f tmps assign body .normal) (fr :: cs) w) (lone (fr.finish v') cs w')

def CallSound (X : Cx) (call : Callf) : Prop :=
  (∀ l args H c v H' c', call (.yield l args) H c = some (v, H', c') → ∀ (ρ : Rn) (w : World) (args' : List Value) (fr : Frame) (cs : List Frame) (L : Loc), ρ l = some L → LRel ρ args args' → WRel ρ H w → ρ.Below c → GRel X ρ →
    ∃ ρ' v' w', Yielded X.P L.block args'.toArray fr cs w w' v' ∧ VRel ρ' v v' ∧ Goes ρ H w ρ' H' w' ∧ ρ'.Below c' ∧ c ≤ c' ∧ ∀ m, m < c → ρ' m = ρ m) ∧
  ∀ f args H c v H' c', call (.fn f args) H c = some (v, H', c') → ∀ (ρ : Rn) (w : World) (args' : List Value) (cs : List Frame), LRel ρ args args' → WRel ρ H w → ρ.Below c → GRel X ρ →
    ∃ ρ' v' w', Entered X.P f args'.toArray cs w w' v' ∧ VRel ρ' v v' ∧ Goes ρ H w ρ' H' w' ∧ ρ'.Below c' ∧ c ≤ c' ∧ ∀ m, m < c → ρ' m = ρ m

section
variable {X : Cx} (ok : X.Ok) {ρ : Rn}
include ok

omit ok in
theorem tgt_yield {e : Operand → Option Value} {r : Operand → Value} (hr : OpRel ρ e r) {k : Call} {l : Nat} {args : List Value} (h : evTgt X e k = some (.yield l args))
    {o : Oper} (ho : o.op = .call k) (w : World) : ∃ (args' : List Value) (L : Loc), ρ l = some L ∧ LRel ρ args args' ∧ (execOp r o).run X.P w = (Instr.yield L.block args'.toArray).run X.P w := by
  unfold evTgt at h
  unfold execOp
  rw [ho]
  simp only
  unfold resolve
  split at h
  · rename_i fo hcal
    split at h
    · rename_i v as hv has
      rw [hcal]
      simp only
      unfold tgtOf at h
      split at h
      · cases h
      · rename_i l2 args2
        cases h
        have hvr := hr fo _ hv
        have hl := evL_ok hr k.args.toList _ has
        generalize hrf : r fo = y at hvr
        cases hvr with
        | func hfn h1 h2 h3 h4 =>
        rename_i fn' first' cap'
        cases hfn with
        | yield hL =>
        rename_i L
        have e1 : first' = #[] := Array.eq_empty_of_size_eq_zero h1.symm
        have e2 : cap' = #[] := Array.eq_empty_of_size_eq_zero h2.symm
        subst e1 e2
        refine ⟨k.args.toList.map r, L, hL, hl, ?_⟩
        simp only [Deferred.ofValue, pure_bind, invoke]
        congr 1
        congr 1
        apply Array.ext'
        simp
      · cases h
    · cases h
  · split at h
    · split at h
      · split at h
        · split at h
          · split at h <;> cases h
          · cases h
        · cases h
      · cases h
    · cases h
  · cases h

theorem follow_ok (w : World) : ∀ (path : List FieldStep) (t : TypeId) (v v' : Value) (xt : TypeId) (u : Value), X.followA path t v = some (xt, u) → VRel ρ v v' →
    ∃ u', (follow path t (.val v')).run X.P w = .ok (xt, .val u') w ∧ VRel ρ u u'
  | [], t, v, v', xt, u, h, hv => by
    unfold Cx.followA at h
    cases h
    exact ⟨v', rfl, hv⟩
  | s :: r, t, v, v', xt, u, h, hv => by
    cases v with
    | agg cs =>
      obtain ⟨cs', rfl, ha⟩ := hv.unagg
      unfold Cx.followA at h
      cases hd : s.deref with
      | true => rw [hd, cond_true] at h; cases h
      | false =>
        rw [hd, cond_false] at h
        split at h
        · rename_i fs hu
          split at h
          · rename_i fd hf
            split at h
            · rename_i v1 hp
              obtain ⟨v1', hrun, hv1⟩ := part_ok ok hp ha.list w
              obtain ⟨u', hgo, hur⟩ := follow_ok w r fd.type v1 v1' xt u h hv1
              refine ⟨u', ?_, hur⟩
              unfold follow
              simp only [Sem.run_bind, run_under ok hu, Result.andThen_ok, hf, hd]
              simp only [Bool.false_eq_true, if_false, Sem.run_bind, hrun, Result.andThen_ok]
              exact hgo
            · cases h
          · cases h
        · cases h
    | _ => cases h

theorem tgt_ok {e : Operand → Option Value} {r : Operand → Value} (hr : OpRel ρ e r) {k : Call} {f : FuncId} {args : List Value} (h : evTgt X e k = some (.fn f args))
    {o : Oper} (ho : o.op = .call k) (w : World) : ∃ args' : List Value, LRel ρ args args' ∧ (execOp r o).run X.P w = (callFunc f args'.toArray).run X.P w := by
  unfold evTgt at h
  unfold execOp
  rw [ho]
  simp only
  unfold resolve
  split at h
  · rename_i fo hcal
    split at h
    · rename_i v as hv has
      rw [hcal]
      simp only
      unfold tgtOf at h
      split at h
      · rename_i g first cap
        cases h
        have hvr := hr fo _ hv
        have hl := evL_ok hr k.args.toList as has
        generalize hrf : r fo = y at hvr
        cases hvr with
        | func hfn h1 h2 h3 h4 =>
        rename_i fn' first' cap'
        cases hfn
        refine ⟨first'.toList ++ k.args.toList.map r ++ cap'.toList, ((ARel.list ⟨h1, h3⟩).append hl).append (ARel.list ⟨h2, h4⟩), ?_⟩
        simp only [Deferred.ofValue, pure_bind, invoke]
        congr 1
        congr 1
        apply Array.ext'
        simp
      · cases h
      · cases h
    · cases h
  · rename_i ro name hcal
    split at h
    · rename_i t v as hv has
      split at h
      · rename_i i hi
        split at h
        · rename_i m hfind
          have hvr := hr ro _ hv
          have hl := evL_ok hr k.args.toList as has
          generalize hrf : r ro = y at hvr
          cases hvr with
          | @iface _ _ v' hvv =>
          have hfa : i.methods.find? (fun m => m.name == name) = some m := by rw [← Array.find?_toList]; exact hfind
          rw [hcal]
          simp only [pure_bind, invoke]
          rw [hrf]
          have e0 : (#[Value.iface t v'] ++ Array.map r k.args)[0]? = some (.iface t v') := by
            rw [Array.getElem?_append_left (by simp)]; rfl
          have e1 : (#[Value.iface t v'] ++ Array.map r k.args).extract 1 (#[Value.iface t v'] ++ Array.map r k.args).size = Array.map r k.args := by
            apply Array.ext'
            simp only [Array.toList_extract, Array.toList_append, Array.size_append, Array.toList_map, List.extract_eq_take_drop, List.size_toArray, List.length_cons, List.length_nil, Array.size_map, List.cons_append, List.nil_append, List.drop_succ_cons, List.drop_zero]
            exact List.take_of_length_le (by simp)
          rw [e0]
          simp only [e1]
          unfold callMethod
          split at h
          · rename_i xt u hfol
            obtain ⟨u', hfr, hur⟩ := follow_ok ok w m.path.toList t v v' xt u hfol hvv
            have fin : ∀ (g : FuncId) (pr : Bool), m.func = some (g, pr) → (∃ d, X.under xt = some d ∧ ((pr = true ∧ ∃ z, d = .pointer z) ∨ (pr = false ∧ ∀ z, d ≠ .pointer z))) →
                (do let (f, receiver) ← method ((← program).types.size + Made.depth) t v' name; callFunc f (#[receiver] ++ Array.map r k.args) : Sem Next).run X.P w = (callFunc g (u' :: k.args.toList.map r).toArray).run X.P w := by
              intro g pr hf hd
              have hmeth : (method (X.P.types.size + Made.depth) t v' name).run X.P w = .ok (g, u') w := by
                have hpos : X.P.types.size + Made.depth = (X.P.types.size + 99) + 1 := by unfold Made.depth; omega
                rw [hpos]
                unfold method
                simp only [Sem.run_bind, run_info ok hi, Result.andThen_ok, hfa, hfr, hf]
                unfold receiverAt
                obtain ⟨d, hu, hcase⟩ := hd
                rcases hcase with ⟨rfl, z, rfl⟩ | ⟨rfl, hne⟩
                · simp [run_under ok hu, Place.get]
                · cases d <;> first | (exact absurd rfl (hne _)) | simp [run_under ok hu, Place.get]
              simp only [Sem.run_bind, run_program, Result.andThen_ok, hmeth]
              congr 1
              congr 1
              apply Array.ext'
              simp
            split at h
            · rename_i g z hf hu
              cases h
              exact ⟨u' :: k.args.toList.map r, .cons hur hl, fin _ true hf ⟨_, hu, .inl ⟨rfl, z, rfl⟩⟩⟩
            · cases h
            · rename_i g d hne hf hu
              cases h
              refine ⟨u' :: k.args.toList.map r, .cons hur hl, fin _ false hf ⟨d, hu, .inr ⟨rfl, fun z e => ?_⟩⟩⟩
              subst e
              exact hne _ rfl
            · cases h
          · cases h
        · cases h
      · cases h
    · cases h
  · cases h

/-- An operation in the machine. -/
theorem oper_ok {call : Callf} (hcs : CallSound X call) {o : Oper} {nm : Nat} {e : Operand → Option Value} {H H' : Heap} {c c' : Nat} {v : Value} (h : evOper X call e o.op nm H c = some (v, H', c'))
    {fr : Frame} {cs : List Frame} {w : World} {ops : Array Oper} {i : Nat} {rest : List Nat} {k : List Item} (hr : OpRel ρ e fr.eval) (hw : WRel ρ H w) (hb : ρ.Below c) (hnm : nm < c) (hno : ρ nm = none)
    (hg : GRel X ρ) (hm : fr.mode = .run) (ht : fr.todo = .inRegion ops (i :: rest) :: k) (ho : ops[i]? = some o) (hwt : Region.wanted o (yielded ops fr.tmps) = true) :
    ∃ ρ' v' w', Steps X.P (lone fr cs w) (lone { fr with tmps := putT fr.tmps o.dst v', todo := .inRegion ops rest :: k } cs w') ∧ VRel ρ' v v' ∧ Goes ρ H w ρ' H' w' ∧ ρ'.Below c' ∧ c ≤ c' ∧
      (∀ m, m < c → m ≠ nm → ρ' m = ρ m) := by
  have hro : ∀ c, o.op ≠ .defer c := fun d hd => by
    unfold evOper Cx.kind at h
    rw [hd] at h
    cases h
  unfold evOper at h
  split at h
  · -- pure
    simp only [Option.map_eq_some_iff] at h
    obtain ⟨u, hu, hh⟩ := h
    cases hh
    obtain ⟨v', hgv, hv⟩ := evPure_ok ok hr hu w
    exact ⟨ρ, v', w, .one (stp_opValue hm hro ht ho hwt hgv (.inl rfl)), hv, .refl hw, hb, Nat.le_refl _, fun _ _ _ => rfl⟩
  · -- read
    simp only [Option.map_eq_some_iff] at h
    obtain ⟨u, hu, hh⟩ := h
    cases hh
    have hgv := evVal_ok ok hr hg hw hu
    obtain ⟨v', hgv, hv⟩ := hgv
    exact ⟨ρ, v', w, .one (stp_opValue hm hro ht ho hwt hgv (.inl rfl)), hv, .refl hw, hb, Nat.le_refl _, fun _ _ _ => rfl⟩
  · -- alloc
    simp only [Option.map_eq_some_iff] at h
    obtain ⟨⟨ob, mk⟩, hu, hh⟩ := h
    cases hh
    obtain ⟨L, v', w', hrun, hgo, hv⟩ := evAlloc_ok ok hr hw hu nm hno
    exact ⟨ρ.add nm L, v', w', .one (stp_opValue hm hro ht ho hwt hrun (.inl rfl)), hv, hgo, hb.add hnm, Nat.le_refl _, fun m _ hmn => Rn.add_ne hmn⟩
  · -- write
    simp only [Option.map_eq_some_iff] at h
    obtain ⟨⟨u, H2⟩, hu, hh⟩ := h
    cases hh
    obtain ⟨ρ', nx, v', w', hrun, hnx, hv, hgo, hne⟩ := evWr_ok ok hr hw hno hu
    refine ⟨ρ', v', w', .one (stp_opValue hm hro ht ho hwt hrun hnx), hv, hgo, fun m hmc => ?_, Nat.le_refl _, fun m _ hmn => hne m hmn⟩
    rw [hne m (by omega)]; exact hb m hmc
  · -- call
    split at h
    · rename_i q hk hq
      split at h
      · rename_i t htg
        cases t with
        | yield l args =>
          obtain ⟨args', L, hL, hl, hrun⟩ := tgt_yield hr htg hq w
          obtain ⟨ρ', v', w', ⟨f, tmps, assign, body, hy, hst⟩, hv, hgo, hb', hcc, hne⟩ := hcs.1 l args H c v H' c' h ρ w args' fr cs L hL hl hw hb hg
          refine ⟨ρ', v', w', ?_, hv, hgo, hb', hcc, fun m hmc _ => hne m hmc⟩
          rw [← finish_eq ht ho]
          exact .head (stp_opRound hm hro ht ho hwt (hrun.trans hy)) hst
        | fn f args =>
          obtain ⟨args', hl, hrun⟩ := tgt_ok ok hr htg hq w
          obtain ⟨ρ', v', w', hen, hv, hgo, hb', hcc, hne⟩ := hcs.2 f args H c v H' c' h ρ w args' (fr :: cs) hl hw hb hg
          refine ⟨ρ', v', w', ?_, hv, hgo, hb', hcc, fun m hmc _ => hne m hmc⟩
          rcases hen with h1 | ⟨h1, h2⟩
          · exact .one (stp_opValue hm hro ht ho hwt (hrun.trans h1) (.inl rfl))
          · obtain ⟨fr', hst, hfn, hlv⟩ := h2
            refine .head (stp_opEnter hm hro ht ho hwt (hrun.trans h1)) (hst.trans ?_)
            rw [← finish_eq ht ho]
            exact .one (step_leave_returned hlv)
      · cases h
    · cases h
  · cases h

/-- Operations in the order of the text. -/
theorem ops_ok {call : Callf} (hcs : CallSound X call) (n : Nat) (ops : Array Oper) : ∀ (l : List Oper) (j : Nat) (s s' : St), evOps X call n ops l s = some s' → (∀ i o, l[i]? = some o → ops[j + i]? = some o) →
    ∀ (ρ : Rn) (fr : Frame) (cs : List Frame) (w : World) (k : List Item), EnvRel ρ n s.env fr.tmps → WRel ρ s.H w → ρ.Below s.c → GRel X ρ → fr.mode = .run →
    fr.todo = .inRegion ops (List.range' j l.length) :: k →
    ∃ ρ' tmps' w', Steps X.P (lone fr cs w) (lone { fr with tmps := tmps', todo := .inRegion ops [] :: k } cs w') ∧ EnvRel ρ' n s'.env tmps' ∧ Goes ρ s.H w ρ' s'.H w' ∧ ρ'.Below s'.c ∧ s.c ≤ s'.c ∧
      (∀ m, m < s.c → ρ' m = ρ m) ∧ s'.ds = s.ds
  | [], j, s, s', h, hl, ρ, fr, cs, w, k, he, hw, hb, hg, hm, ht => by
    simp only [evOps] at h; cases h
    have : ({ fr with tmps := fr.tmps, todo := .inRegion ops [] :: k } : Frame) = fr := by rw [← show fr.todo = .inRegion ops [] :: k from ht]
    exact ⟨ρ, fr.tmps, w, by rw [this]; exact .refl _ _, he, .refl hw, hb, Nat.le_refl _, fun _ _ => rfl, rfl⟩
  | o :: l, j, s, s', h, hl, ρ, fr, cs, w, k, he, hw, hb, hg, hm, ht => by
    have ho : ops[j]? = some o := by simpa using hl 0 o rfl
    have hl' : ∀ i o, l[i]? = some o → ops[j + 1 + i]? = some o := fun i o hi => by
      have := hl (i + 1) o (by simpa using hi)
      rw [show j + 1 + i = j + (i + 1) by omega]; exact this
    have ht' : fr.todo = .inRegion ops (j :: List.range' (j + 1) l.length) :: k := by rw [ht]; simp [List.range'_succ]
    simp only [evOps] at h
    split at h
    · cases h
    · rename_i hwa
      split at h
      · rename_i env hpe
        have hwt := wanted_ok he hwa
        have hund : VRel ρ undefA undef := .tupA ⟨rfl, fun i x y h => by simp at h⟩
        have he' := putE_ok he hpe hund
        obtain ⟨ρ', tmps', w', hst, r1, r2, r3, r4, r5, r6⟩ := ops_ok hcs n ops l (j + 1) _ s' h hl' ρ { fr with tmps := putT fr.tmps o.dst undef, todo := .inRegion ops (List.range' (j + 1) l.length) :: k } cs w k
          he' hw hb hg hm rfl
        exact ⟨ρ', tmps', w', .head (stp_opSkip hm ht' ho hwt) hst, r1, r2, r3, r4, r5, r6⟩
      · cases h
    · rename_i hwa
      split at h
      · rename_i v H c hop
        split at h
        · rename_i env hpe
          have hwt := wanted_ok he hwa
          obtain ⟨ρ₁, v', w₁, hst₁, hv, hgo, hb₁, hcc, hne⟩ := oper_ok ok hcs (cs := cs) hop (evO_ok he hg) hw (hb.mono (Nat.le_succ _)) (Nat.lt_succ_self _) (hb _ (Nat.le_refl _)) hg hm ht' ho hwt
          have he' := putE_ok (he.mono hgo.ext) hpe hv
          obtain ⟨ρ', tmps', w', hst, r1, r2, r3, r4, r5, r6⟩ := ops_ok hcs n ops l (j + 1) _ s' h hl' ρ₁ { fr with tmps := putT fr.tmps o.dst v', todo := .inRegion ops (List.range' (j + 1) l.length) :: k } cs w₁ k
            he' hgo.rel hb₁ (hg.mono hgo.ext) hm rfl
          refine ⟨ρ', tmps', w', hst₁.trans hst, r1, hgo.trans r2, r3, ?_, fun m hmc => ?_, r6⟩
          · simp only at r4; omega
          · rw [r5 m (by simp only; omega), hne m (by omega) (by omega)]
        · cases h
      · cases h

end
end Go.Ev
