/-
  Statements and calls in the machine.
-/
import Derived.Test.YtjjgdnelkkmdcaaGreatDoorEvStepG
import Derived.RangeFuncRecord
import Derived.RangeFuncNested
set_option linter.all false
namespace Go.Ev

/-- How statements end in the machine. -/
def Ends (P : Program) (fr : Frame) (cs : List Frame) (w : World) (k : List Item) (tmps' : Array Value) (df' : List Deferred) (w' : World) : AEx → Prop
  | .normal => Steps P (lone fr cs w) (lone { fr with tmps := tmps', todo := k, defers := df' } cs w')
  | .exit id => ∃ td, exitTo id td = exitTo id k ∧ Steps P (lone fr cs w) (lone { fr with tmps := tmps', todo := .code (.exit id) :: td, defers := df' } cs w')
  | .ret => ∃ td, Steps P (lone fr cs w) (lone { fr with tmps := tmps', todo := .code .ret :: td, defers := df' } cs w')

theorem Ends.pre {P : Program} {fr fr₁ : Frame} {cs : List Frame} {w w₁ : World} {k : List Item} {tmps' : Array Value} {df' : List Deferred} {w' : World} {ex : AEx} (h : Steps P (lone fr cs w) (lone fr₁ cs w₁))
    (he : ∀ t td df, ({ fr₁ with tmps := t, todo := td, defers := df } : Frame) = { fr with tmps := t, todo := td, defers := df }) (hk : Ends P fr₁ cs w₁ k tmps' df' w' ex) : Ends P fr cs w k tmps' df' w' ex := by
  cases ex with
  | normal => exact h.trans (by rw [← he]; exact hk)
  | exit id => obtain ⟨td, h1, h2⟩ := hk; exact ⟨td, h1, h.trans (by rw [← he]; exact h2)⟩
  | ret => obtain ⟨td, h2⟩ := hk; exact ⟨td, h.trans (by rw [← he]; exact h2)⟩

/-- The blocks of deferred calls of a function's loops over functions. -/
inductive DRel (ρ : Rn) : List Nat → List Deferred → Prop where
  | nil : DRel ρ [] []
  | cons {n : Nat} {d : Deferred} {ds : List Nat} {df : List Deferred} (h : ∃ L, ρ n = some L ∧ d = { target := .collected L.block, args := #[] }) (t : DRel ρ ds df) : DRel ρ (n :: ds) (d :: df)
theorem DRel.mono {ρ ρ' : Rn} (hx : ρ.Ext ρ') {ds : List Nat} {df : List Deferred} (h : DRel ρ ds df) : DRel ρ' ds df := by
  induction h with
  | nil => exact .nil
  | cons h _ ih => exact .cons (let ⟨L, a, b⟩ := h; ⟨L, hx _ _ a, b⟩) ih

/-- In a round of which loop. -/
def RoRel (ρ : Rn) : Option Nat → Option Nat → Prop
  | none, none => True
  | some l, some b => ∃ L, ρ l = some L ∧ L.block = b
  | _, _ => False
theorem RoRel.mono {ρ ρ' : Rn} (hx : ρ.Ext ρ') {a b : Option Nat} (h : RoRel ρ a b) : RoRel ρ' a b := by
  cases a <;> cases b <;> simp only [RoRel] at h ⊢
  obtain ⟨L, h1, h2⟩ := h
  exact ⟨L, hx _ _ h1, h2⟩

theorem clos_eq {ρ : Rn} {v v' : Value} (h : VRel ρ v v') (hc : clos v = true) : v' = v := by
  have arr : ∀ {a b : Array Value}, ARel ρ a b → a.toList.all clos1 = true → b = a := by
    intro a b hab hall
    refine Array.ext hab.1.symm fun i h1 h2 => ?_
    exact closed_eq (hab.2 i a[i] b[i] (Array.getElem?_eq_getElem h2) (Array.getElem?_eq_getElem h1)) (List.all_eq_true.1 hall _ (by simp))
  have h' := h
  cases h with
  | agg h1 h2 => rw [arr ⟨h1, h2⟩ hc]
  | tuple h1 h2 => rw [arr ⟨h1, h2⟩ hc]
  | _ => exact closed_eq h' hc

def CodeSound (X : Cx) (rec : Rec) : Prop :=
  ∀ fx code s ex s', rec fx code s = some (ex, s') → ∀ (ρ : Rn) (fr : Frame) (cs : List Frame) (w : World) (k : List Item), EnvRel ρ fx.n s.env fr.tmps → WRel ρ s.H w → ρ.Below s.c → GRel X ρ → fr.mode = .run →
    fr.fn = fx.fn → RoRel ρ fx.ro fr.roundOf → DRel ρ s.ds fr.defers → (fr.todo = .code code :: k ∨ ∃ b, code = .loop b ∧ fr.todo = .inLoop b :: k) →
    ∃ ρ' tmps' df' w', EnvRel ρ' fx.n s'.env tmps' ∧ Goes ρ s.H w ρ' s'.H w' ∧ ρ'.Below s'.c ∧ s.c ≤ s'.c ∧ (∀ m, m < s.c → ρ' m = ρ m) ∧ DRel ρ' s'.ds df' ∧ Ends X.P fr cs w k tmps' df' w' ex

/-- A loop's record is another one. -/
theorem Goes.loop {ρ : Rn} {H : Heap} {w : World} (h : WRel ρ H w) {l : Nat} {L : Loc} {st : LoopState} {pe : Option Code} {fn : FuncId} {env : Env} {n : Nat} {params : Array Tmp} {assign body : Code} {d : Nat} {r : Loop}
    (hn : H.get l = some (.loop st pe fn env n params assign body d)) (hL : ρ l = some L) (hr : w.heap[L.block]? = some (.loop r)) (ho : ORel ρ L (.loop st pe fn env n params assign body d) (.loop r)) (st' : LoopState) (pe' : Option Code) :
    Goes ρ H w ρ (H.set l (.loop st' pe' fn env n params assign body d)) (w.putObj L.block (.loop { r with state := st', pending := pe' })) := by
  obtain ⟨_, _, a, b⟩ := ho
  exact Goes.update h hn hL rfl rfl rfl ⟨rfl, rfl, a, b⟩

theorem loop_obj {ρ : Rn} {H : Heap} {w : World} (h : WRel ρ H w) {l : Nat} {L : Loc} {st : LoopState} {pe : Option Code} {fn : FuncId} {env : Env} {n : Nat} {params : Array Tmp} {assign body : Code} {d : Nat}
    (hn : H.get l = some (.loop st pe fn env n params assign body d)) (hL : ρ l = some L) : ∃ r, w.heap[L.block]? = some (.loop r) ∧ ORel ρ L (.loop st pe fn env n params assign body d) (.loop r) := by
  obtain ⟨L', o', h1, h2, h3⟩ := h.obj l _ hn
  rw [hL] at h1; cases h1
  cases o' with
  | loop r => exact ⟨r, h2, h3⟩
  | _ => exact h3.elim

theorem fr_atR (fr : Frame) (hm : fr.mode = .run) (todo : List Item) (ht : fr.todo = todo) : fr = fr.atR { tmps := fr.tmps, defers := fr.defers } todo := by
  obtain ⟨a, b, c, d, e, f, g⟩ := fr
  simp only at hm ht
  subst hm ht
  rfl

section
variable {X : Cx} (ok : X.Ok)
include ok

/-- A loop over a function: the one call, and what is behind it. 'hin': the machine's step into the call. -/
theorem loop_ok {call : Callf} (hcs : CallSound X call) {v : Value} {l : Nat} {H1 : Heap} {c1 : Nat} {s : St} {ex : AEx} {s' : St} (h : evLoop X call v l H1 c1 s = some (ex, s')) {ρ : Rn} {w0 w : World} (hw : WRel ρ H1 w) (hb : ρ.Below c1) (hg : GRel X ρ)
    {fr : Frame} {g : Operand} (hv : VRel ρ v (fr.eval g)) {L : Loc} (hL : ρ l = some L) {cs : List Frame} {k : List Item} {a : Act} (ha : a = { tmps := fr.tmps, defers := fr.defers }) (hm : fr.mode = .run) {d : List Deferred}
    (hin : ∀ {q : Deferred} {f : FuncId} {args : Array Value}, ((resolve a.eval (rangeCall g L.block) 0).run X.P w = .ok q w ∧ (invoke q.target q.args).run X.P w = .ok (.enter f args) w) →
      step X.P (lone fr cs w0) = .next (lone (Frame.enter X.P f args .normal) (fr.atR { a with defers := d ++ a.defers } (.inRangeFunc L.block :: k) :: cs) w))
    (hdr : DRel ρ s.ds (d ++ fr.defers)) :
    ∃ ρ' df' w', s'.env = s.env ∧ Goes ρ H1 w ρ' s'.H w' ∧ ρ'.Below s'.c ∧ c1 ≤ s'.c ∧ (∀ m, m < c1 → ρ' m = ρ m) ∧ DRel ρ' s'.ds df' ∧ Ends X.P fr cs w0 k fr.tmps df' w' ex := by
  unfold evLoop at h
  split at h
  · rename_i f args htg
    cases hhb : hasBody X f with
    | false => rw [hhb, cond_false] at h; cases h
    | true =>
      rw [hhb, cond_true] at h
      split at h
      · rename_i u H' c' hcall
        -- the call's arguments
        have harg : ∃ args' : List Value, LRel ρ args args' ∧ ∃ q : Deferred, (resolve a.eval (rangeCall g L.block) 0).run X.P w = .ok q w ∧ (invoke q.target q.args).run X.P w = (callFunc f args'.toArray).run X.P w := by
          unfold tgtOf at htg
          split at htg
          · rename_i f2 first cap
            cases htg
            have hev : a.eval g = fr.eval g := by subst ha; rfl
            generalize hrf : fr.eval g = y at hv
            cases hv with
            | func hfn h1 h2 h3 h4 =>
            rename_i fn' first' cap'
            cases hfn
            refine ⟨first'.toList ++ [.func (.yield L.block) #[] #[]] ++ cap'.toList, ((ARel.list ⟨h1, h3⟩).append (.cons (.func (.yield hL) rfl rfl (fun i x y h => by simp at h) (fun i x y h => by simp at h)) (.nil ρ))).append (ARel.list ⟨h2, h4⟩), ?_⟩
            refine ⟨{ target := .fn (.func f) cap', args := first' ++ #[.func (.yield L.block) #[] #[]] }, ?_, ?_⟩
            · unfold resolve
              simp only [hev, hrf, Deferred.ofValue, Sem.run_pure]
              rw [show Array.map a.eval #[Operand.const (Value.func (Fn.yield L.block) #[] #[])] = #[Value.func (Fn.yield L.block) #[] #[]] by rw [Array.map_singleton]; rfl]
            · simp only [invoke]
              congr 1
              congr 1
              apply Array.ext'
              simp
          · cases htg
          · cases htg
        obtain ⟨args', hl, q, hq1, hq2⟩ := harg
        obtain ⟨ρ₁, v₁, w₁, hen, hvr, hgo, hb₁, hcc, hne⟩ := hcs.2 f args H1 c1 u H' c' hcall ρ w args' (fr.atR { a with defers := d ++ a.defers } (.inRangeFunc L.block :: k) :: cs) hl hw hb hg
        have hen2 : (callFunc f args'.toArray).run X.P w = .ok (.enter f args'.toArray) w ∧ ∃ fr', Steps X.P (lone (Frame.enter X.P f args'.toArray .normal) (fr.atR { a with defers := d ++ a.defers } (.inRangeFunc L.block :: k) :: cs) w)
            (lone fr' (fr.atR { a with defers := d ++ a.defers } (.inRangeFunc L.block :: k) :: cs) w₁) ∧ fr'.fn = f ∧ fr'.leaving X.P w₁ (.returned v₁) := by
          rcases hen with h1 | h1
          · exfalso
            unfold hasBody at hhb
            split at hhb
            · rename_i gg hgg
              obtain ⟨bb, hbb⟩ := Option.isSome_iff_exists.1 hhb
              unfold callFunc at h1
              simp only [Sem.run_bind, run_program, Result.andThen_ok, ok.fn f gg hgg] at h1
              cases hn : (gg.name == "runtime.NumGoroutine") <;> simp [hbb, hn] at h1
            · cases hhb
          · exact h1
        obtain ⟨hce, fr', hst, hfn, hlv⟩ := hen2
        have s1 := hin ⟨hq1, hq2.trans hce⟩
        have s2 := step_leave_returned (c := fr.atR { a with defers := d ++ a.defers } (.inRangeFunc L.block :: k)) (cs := cs) hlv
        rw [finish_atR_inRangeFunc] at s2
        split at h
        · rename_i st pend fn2 env2 n2 ps2 as2 bo2 d2 hl2
          have hL₁ : ρ₁ l = some L := hgo.ext _ _ hL
          obtain ⟨r, hr, hor⟩ := loop_obj hgo.rel hl2 hL₁
          obtain ⟨hst2, hpe, _⟩ := hor
          cases hbz : decide (st = .busy) with
          | true => rw [hbz, cond_true] at h; cases h
          | false =>
            rw [hbz, cond_false] at h
            have hnb : r.state ≠ .busy := by rw [hst2]; simpa using hbz
            have s3 := stepR_endRangeFunc (b := fr) (a := { a with defers := d ++ a.defers }) (k := k) (cs := cs) (run_endLoop (P := X.P) hr hnb)
            have gf := fun o => Goes.free hgo.rel hl2 hL₁ o
            generalize hob : Obj.loop { r with state := .exhausted } = ob at s3
            have all := Steps.head s1 (hst.trans (.head s2 (.one s3)))
            have hfrm : ∀ td, fr.atR { a with defers := d ++ a.defers } td = { fr with tmps := fr.tmps, todo := td, defers := d ++ fr.defers } := by
              intro td
              subst ha
              obtain ⟨b1, b2, b3, b4, b5, b6, b7⟩ := fr
              simp only at hm
              subst hm
              rfl
            rw [hpe, hfrm] at all
            have done : ∀ s2 : St, s2 = { s with H := H'.put l none, c := c' } → Goes ρ H1 w ρ₁ s2.H (w₁.putObj L.block ob) ∧ ρ₁.Below s2.c ∧ c1 ≤ s2.c ∧ s2.env = s.env ∧ DRel ρ₁ s2.ds (d ++ fr.defers) := by
              rintro _ rfl
              exact ⟨hgo.trans (gf ob), hb₁, hcc, rfl, hdr.mono hgo.ext⟩
            split at h
            · cases h
              obtain ⟨q1, q2, q3, q4, q5⟩ := done _ rfl
              exact ⟨ρ₁, d ++ fr.defers, _, q4, q1, q2, q3, hne, q5, all⟩
            · cases h
              obtain ⟨q1, q2, q3, q4, q5⟩ := done _ rfl
              exact ⟨ρ₁, d ++ fr.defers, _, q4, q1, q2, q3, hne, q5, k, rfl, all⟩
            · cases h
              obtain ⟨q1, q2, q3, q4, q5⟩ := done _ rfl
              exact ⟨ρ₁, d ++ fr.defers, _, q4, q1, q2, q3, hne, q5, k, all⟩
            · cases h
        · cases h
      · cases h
  · cases h

theorem code_ok {call : Callf} {rec : Rec} (hcs : CallSound X call) (hrec : CodeSound X rec) : CodeSound X (fun fx => evCode X call (rec fx) fx) := by
  intro fx code s ex s' h ρ fr cs w k he hw hb hg hm hfn hro hdr ht
  have notloop : ∀ c, code = c → (∀ b, c ≠ .loop b) → fr.todo = .code c :: k := by
    intro c hc hn
    subst hc
    rcases ht with h | ⟨b, h, _⟩
    · exact h
    · exact absurd h (hn b)
  cases code with
  | skip =>
    simp only [evCode] at h; cases h
    have ht := notloop _ rfl (by simp)
    exact ⟨ρ, fr.tmps, fr.defers, w, he, .refl hw, hb, Nat.le_refl _, fun _ _ => rfl, hdr, .one (stp_skip hm ht)⟩
  | label l =>
    simp only [evCode] at h; cases h
    have ht := notloop _ rfl (by simp)
    exact ⟨ρ, fr.tmps, fr.defers, w, he, .refl hw, hb, Nat.le_refl _, fun _ _ => rfl, hdr, .one (stp_label hm ht)⟩
  | region id ops draw =>
    have ht := notloop _ rfl (by simp)
    simp only [evCode] at h
    cases draw with
    | true =>
      simp only [cond_true, Option.map_eq_some_iff] at h
      obtain ⟨s2, h2, hh⟩ := h
      cases hh
      obtain ⟨ρ', tmps', w', r1, r2, r3, r4, r5, r6, r7⟩ := draw_ok ok hcs (cs := cs) h2 he hw hb hg hm ht
      exact ⟨ρ', tmps', fr.defers, w', r2, r3, r4, r5, r6, by rw [r7]; exact hdr.mono r3.ext, r1⟩
    | false =>
      simp only [cond_false, Option.map_eq_some_iff] at h
      obtain ⟨s2, h2, hh⟩ := h
      cases hh
      obtain ⟨ρ', tmps', w', r1, r2, r3, r4, r5, r6, r7⟩ := ops_ok ok hcs fx.n ops ops.toList 0 s s' h2 (fun i o hi => by simpa using hi) ρ { fr with todo := .inRegion ops (List.range' 0 ops.toList.length) :: k } cs w k
        he hw hb hg hm rfl
      refine ⟨ρ', tmps', fr.defers, w', r2, r3, r4, r5, r6, by rw [r7]; exact hdr.mono r3.ext, ?_⟩
      refine Steps.head (stp_region hm ht) ?_
      rw [List.range_eq_range', show ops.size = ops.toList.length by simp]
      exact r1.trans (.one (stp_regionEnd hm rfl))
  | seq a b =>
    have ht := notloop _ rfl (by simp)
    simp only [evCode] at h
    split at h
    · rename_i s1 h1
      obtain ⟨ρ₁, t₁, d₁, w₁, a1, a2, a3, a4, a5, a6, a7⟩ := hrec fx a s _ s1 h1 ρ { fr with todo := .code a :: .code b :: k } cs w (.code b :: k) he hw hb hg hm hfn hro hdr (.inl rfl)
      obtain ⟨ρ', t', d', w', b1, b2, b3, b4, b5, b6, b7⟩ := hrec fx b s1 ex s' h ρ₁ { fr with tmps := t₁, todo := .code b :: k, defers := d₁ } cs w₁ k a1 a2.rel a3 (hg.mono a2.ext) hm hfn (hro.mono a2.ext) a6 (.inl rfl)
      refine ⟨ρ', t', d', w', b1, a2.trans b2, b3, by omega, fun m hmc => ?_, b6, ?_⟩
      · rw [b5 m (by omega), a5 m hmc]
      · exact Ends.pre (Steps.head (stp_seq hm ht) a7) (fun _ _ _ => rfl) b7
    · rename_i hne
      obtain ⟨ρ', t', d', w', a1, a2, a3, a4, a5, a6, a7⟩ := hrec fx a s ex s' h ρ { fr with todo := .code a :: .code b :: k } cs w (.code b :: k) he hw hb hg hm hfn hro hdr (.inl rfl)
      refine ⟨ρ', t', d', w', a1, a2, a3, a4, a5, a6, ?_⟩
      cases ex with
      | normal => exact absurd h (fun hh => hne s' hh)
      | exit id => obtain ⟨td, h1, h2⟩ := a7; exact ⟨td, h1, .head (stp_seq hm ht) h2⟩
      | ret => obtain ⟨td, h⟩ := a7; exact ⟨td, .head (stp_seq hm ht) h⟩
  | cond c a b =>
    have ht := notloop _ rfl (by simp)
    simp only [evCode] at h
    have hop := evO_ok (X := X) he hg
    have go : ∀ (t : Bool) (y : Code), evO X s.env c = some (.bool t) → y = (if t then a else b) → rec fx y s = some (ex, s') →
        ∃ ρ' tmps' df' w', EnvRel ρ' fx.n s'.env tmps' ∧ Goes ρ s.H w ρ' s'.H w' ∧ ρ'.Below s'.c ∧ s.c ≤ s'.c ∧ (∀ m, m < s.c → ρ' m = ρ m) ∧ DRel ρ' s'.ds df' ∧ Ends X.P fr cs w k tmps' df' w' ex := by
      intro t y hc hy hy'
      have hcv : fr.eval c = .bool t := (hop c _ hc).unbool
      obtain ⟨ρ', t', d', w', a1, a2, a3, a4, a5, a6, a7⟩ := hrec fx y s ex s' hy' ρ { fr with todo := .code y :: k } cs w k he hw hb hg hm hfn hro hdr (.inl rfl)
      have pre := stp_cond hm ht hcv (P := X.P) (cs := cs) (w := w)
      rw [← hy] at pre
      exact ⟨ρ', t', d', w', a1, a2, a3, a4, a5, a6, Ends.pre (.one pre) (fun _ _ _ => rfl) a7⟩
    split at h
    · rename_i hc; exact go true a hc rfl h
    · rename_i hc; exact go false b hc rfl h
    · cases h
  | block id b =>
    have ht := notloop _ rfl (by simp)
    simp only [evCode] at h
    split at h
    · rename_i i s1 h1
      obtain ⟨ρ', t', d', w', a1, a2, a3, a4, a5, a6, a7⟩ := hrec fx b s _ s1 h1 ρ { fr with todo := .code b :: .inBlock id :: k } cs w (.inBlock id :: k) he hw hb hg hm hfn hro hdr (.inl rfl)
      obtain ⟨td, e1, e2⟩ := a7
      cases hbq : Nat.beq i id with
      | true =>
        rw [hbq, cond_true] at h; cases h
        have := Nat.eq_of_beq_eq_true hbq
        subst this
        refine ⟨ρ', t', d', w', a1, a2, a3, a4, a5, a6, Steps.head (stp_block hm ht) (Steps.trans e2 (.one (stp_exit (fr := { fr with tmps := t', todo := .code (.exit i) :: td, defers := d' }) hm rfl ?_)))⟩
        rw [e1]; simp [exitTo]
      | false =>
        rw [hbq, cond_false] at h; cases h
        refine ⟨ρ', t', d', w', a1, a2, a3, a4, a5, a6, td, ?_, .head (stp_block hm ht) e2⟩
        have hne : ¬ id = i := fun e => by rw [e] at hbq; simp at hbq
        rw [e1]
        simp [exitTo, hne]
    · rename_i hne
      obtain ⟨ρ', t', d', w', a1, a2, a3, a4, a5, a6, a7⟩ := hrec fx b s ex s' h ρ { fr with todo := .code b :: .inBlock id :: k } cs w (.inBlock id :: k) he hw hb hg hm hfn hro hdr (.inl rfl)
      refine ⟨ρ', t', d', w', a1, a2, a3, a4, a5, a6, ?_⟩
      cases ex with
      | normal => exact Steps.head (stp_block hm ht) (Steps.trans a7 (.one (stp_inBlock hm rfl)))
      | exit i => exact absurd h (fun hh => hne i s' hh)
      | ret => obtain ⟨td, h⟩ := a7; exact ⟨td, .head (stp_block hm ht) h⟩
  | loop b =>
    have pre : step X.P (lone fr cs w) = .next (lone { fr with todo := .code b :: .inLoop b :: k } cs w) := by
      rcases ht with h | ⟨b', h1, h2⟩
      · exact stp_loop hm h
      · cases h1; exact stp_inLoop hm h2
    simp only [evCode] at h
    split at h
    · rename_i s1 h1
      obtain ⟨ρ₁, t₁, d₁, w₁, a1, a2, a3, a4, a5, a6, a7⟩ := hrec fx b s _ s1 h1 ρ { fr with todo := .code b :: .inLoop b :: k } cs w (.inLoop b :: k) he hw hb hg hm hfn hro hdr (.inl rfl)
      obtain ⟨ρ', t', d', w', b1, b2, b3, b4, b5, b6, b7⟩ := hrec fx (.loop b) s1 ex s' h ρ₁ { fr with tmps := t₁, todo := .inLoop b :: k, defers := d₁ } cs w₁ k a1 a2.rel a3 (hg.mono a2.ext) hm hfn (hro.mono a2.ext) a6 (.inr ⟨b, rfl, rfl⟩)
      refine ⟨ρ', t', d', w', b1, a2.trans b2, b3, by omega, fun m hmc => ?_, b6, ?_⟩
      · rw [b5 m (by omega), a5 m hmc]
      · exact Ends.pre (Steps.head pre a7) (fun _ _ _ => rfl) b7
    · rename_i hne
      obtain ⟨ρ', t', d', w', a1, a2, a3, a4, a5, a6, a7⟩ := hrec fx b s ex s' h ρ { fr with todo := .code b :: .inLoop b :: k } cs w (.inLoop b :: k) he hw hb hg hm hfn hro hdr (.inl rfl)
      refine ⟨ρ', t', d', w', a1, a2, a3, a4, a5, a6, ?_⟩
      cases ex with
      | normal => exact absurd h (fun hh => hne s' hh)
      | exit id => obtain ⟨td, h1, h2⟩ := a7; exact ⟨td, h1, .head pre h2⟩
      | ret => obtain ⟨td, h⟩ := a7; exact ⟨td, .head pre h⟩
  | scope b =>
    have ht := notloop _ rfl (by simp)
    simp only [evCode] at h
    obtain ⟨ρ', t', d', w', a1, a2, a3, a4, a5, a6, a7⟩ := hrec fx b s ex s' h ρ { fr with todo := .code b :: .inScope b :: k } cs w (.inScope b :: k) he hw hb hg hm hfn hro hdr (.inl rfl)
    refine ⟨ρ', t', d', w', a1, a2, a3, a4, a5, a6, ?_⟩
    cases ex with
    | normal => exact Steps.head (stp_scope hm ht) (Steps.trans a7 (.one (stp_inScope hm rfl)))
    | exit i => obtain ⟨td, h1, h2⟩ := a7; exact ⟨td, h1, .head (stp_scope hm ht) h2⟩
    | ret => obtain ⟨td, h⟩ := a7; exact ⟨td, .head (stp_scope hm ht) h⟩
  | exit i =>
    simp only [evCode] at h; cases h
    have ht := notloop _ rfl (by simp)
    refine ⟨ρ, fr.tmps, fr.defers, w, he, .refl hw, hb, Nat.le_refl _, fun _ _ => rfl, hdr, k, rfl, ?_⟩
    rw [← ht]; exact .refl _ _
  | ret =>
    simp only [evCode] at h; cases h
    have ht := notloop _ rfl (by simp)
    refine ⟨ρ, fr.tmps, fr.defers, w, he, .refl hw, hb, Nat.le_refl _, fun _ _ => rfl, hdr, k, ?_⟩
    rw [← ht]; exact .refl _ _
  | rangeFunc g params assign body =>
    have ht := notloop _ rfl (by simp)
    simp only [evCode] at h
    split at h
    · rename_i fv hfv
      have hfvr := evO_ok (X := X) he hg g fv hfv
      split at h
      · -- the outermost loop
        rename_i hron
        have hro0 : fr.roundOf = none := by
          rw [hron] at hro
          cases hh : fr.roundOf with
          | none => rfl
          | some b => rw [hh] at hro; exact hro.elim
        have hlaid := run_enterLoop_outer (P := X.P) (w := w) fr.fn fr.tmps params assign body
        -- two names
        have n1 : ρ s.c = none := hb _ (Nat.le_refl _)
        have g1 := Goes.alloc (L := ⟨w.heap.size, 0, none, none⟩) hw n1 rfl (o := .defd) (o' := .deferred (some [])) rfl
        have n2 : (ρ.add s.c ⟨w.heap.size, 0, none, none⟩) (s.c + 1) = none := by rw [Rn.add_ne (by omega)]; exact hb _ (by omega)
        have g2 := Goes.alloc (L := ⟨w.heap.size + 1, 0, none, none⟩) g1.rel n2 (by simp) (o := .loop .ready none fx.fn s.env fx.n params assign body s.c)
          (o' := .loop { state := .ready, pending := none, fn := fr.fn, tmps := fr.tmps, params, assign, body, defers := w.heap.size })
          ⟨rfl, rfl, hfn, he.mono (g1.ext.trans (Rn.ext_add n2)), rfl, rfl, rfl, ⟨w.heap.size, 0, none, none⟩, by rw [Rn.add_ne (by omega), Rn.add_same], rfl⟩
        have gg := g1.trans g2
        have hb2 : ((ρ.add s.c ⟨w.heap.size, 0, none, none⟩).add (s.c + 1) ⟨w.heap.size + 1, 0, none, none⟩).Below (s.c + 2) := ((hb.mono (by omega)).add (by omega)).add (by omega)
        obtain ⟨ρ', d', w', r1, r2, r3, r4, r5, r6⟩ := loop_ok ok hcs h gg.rel hb2 (hg.mono gg.ext) (hfvr.mono gg.ext) (L := ⟨w.heap.size + 1, 0, none, none⟩) (by rw [Rn.add_same]) (fr := fr) (g := g) (cs := cs) (k := k) rfl hm
          (d := [{ target := .collected w.heap.size, args := #[] }]) (fun q => by
            have := stepR_rangeFunc (b := fr) (a := { tmps := fr.tmps, defers := fr.defers }) (k := k) (cs := cs) (by rw [hro0]; exact hlaid) q.1 q.2
            rw [← fr_atR fr hm _ ht] at this
            exact this) (.cons ⟨⟨w.heap.size, 0, none, none⟩, by rw [Rn.add_ne (by omega), Rn.add_same], rfl⟩ (hdr.mono gg.ext))
        refine ⟨ρ', fr.tmps, d', w', ?_, gg.trans r2, r3, by omega, fun m hmc => ?_, r6.1, r6.2⟩
        · rw [r1]; exact he.mono (gg.ext.trans r2.ext)
        · rw [r5 m (by omega), Rn.add_ne (by omega), Rn.add_ne (by omega)]
      · rename_i l0 hron
        split at h
        · rename_i st0 pe0 fn0 env0 n0 ps0 as0 bo0 d0 hl0
          have hro0 : ∃ L0, ρ l0 = some L0 ∧ fr.roundOf = some L0.block := by
            rw [hron] at hro
            cases hh : fr.roundOf with
            | none => rw [hh] at hro; exact hro.elim
            | some b => rw [hh] at hro; obtain ⟨L, h1, h2⟩ := hro; exact ⟨L, h1, by rw [h2]⟩
          obtain ⟨L0, hL0, hro0⟩ := hro0
          obtain ⟨r0, hr0, hor⟩ := loop_obj hw hl0 hL0
          have hlaid := run_enterLoop_inner (P := X.P) (w := w) hr0 fr.fn fr.tmps params assign body
          obtain ⟨_, _, _, _, _, _, _, K, hK, hKd⟩ := hor
          have n1 : ρ s.c = none := hb _ (Nat.le_refl _)
          have hKc : (ρ.add s.c ⟨w.heap.size, 0, none, none⟩) d0 = some K := Rn.ext_add n1 _ _ hK
          have gg := Goes.alloc (L := ⟨w.heap.size, 0, none, none⟩) hw n1 rfl (o := .loop .ready none fx.fn s.env fx.n params assign body d0)
            (o' := .loop { state := .ready, pending := none, fn := fr.fn, tmps := fr.tmps, params, assign, body, defers := r0.defers })
            ⟨rfl, rfl, hfn, he.mono (Rn.ext_add n1), rfl, rfl, rfl, K, hKc, hKd⟩
          have hb2 : (ρ.add s.c ⟨w.heap.size, 0, none, none⟩).Below (s.c + 1) := (hb.mono (by omega)).add (by omega)
          obtain ⟨ρ', d', w', r1, r2, r3, r4, r5, r6⟩ := loop_ok ok hcs h gg.rel hb2 (hg.mono gg.ext) (hfvr.mono gg.ext) (L := ⟨w.heap.size, 0, none, none⟩) (by rw [Rn.add_same]) (fr := fr) (g := g) (cs := cs) (k := k) rfl hm
            (d := []) (fun q => by
              have := stepR_rangeFunc (b := fr) (a := { tmps := fr.tmps, defers := fr.defers }) (k := k) (cs := cs) (by rw [hro0]; exact hlaid) q.1 q.2
              rw [← fr_atR fr hm _ ht] at this
              exact this) (hdr.mono gg.ext)
          refine ⟨ρ', fr.tmps, d', w', ?_, gg.trans r2, r3, by omega, fun m hmc => ?_, r6.1, r6.2⟩
          · rw [r1]; exact he.mono (gg.ext.trans r2.ext)
          · rw [r5 m (by omega), Rn.add_ne (by omega)]
        · cases h
    · cases h
  | _ => simp [evCode] at h

omit ok in
theorem envOf_get : ∀ (l : List Value) (i : Nat) (e : Env) (t : Nat) (v : Value), (envOf l i e).get t = some v → (∃ j, t = i + j ∧ l[j]? = some v) ∨ e.get t = some v
  | [], i, e, t, v, h => .inr h
  | x :: l, i, e, t, v, h => by
    rcases envOf_get l (i + 1) (e.set i x) t v h with ⟨j, h1, h2⟩ | h1
    · exact .inl ⟨j + 1, by omega, by simpa using h2⟩
    · rcases Tr.get_put h1 with ⟨a, b⟩ | ⟨a, b⟩
      · cases b; exact .inl ⟨0, by omega, rfl⟩
      · exact .inr b

theorem resOf_ok {ρ : Rn} {n : Nat} {env : Env} {tmps : Array Value} (he : EnvRel ρ n env tmps) {H : Heap} {w : World} (hw : WRel ρ H w) : ∀ (rs : List ResultVar) (l : List Value), resOf X env H rs = some l →
    ∃ l' : List Value, (rs.mapM (fun r => match r with
    | .tmp t => pure (tmps.getD t undef)
    | .cell a t => do loadVar t (← asAddr (tmps.getD a undef)) : ResultVar → Sem Value)).run X.P w = .ok l' w ∧ LRel ρ l l'
  | [], l, h => by
    simp only [resOf] at h; cases h
    exact ⟨[], rfl, .nil ρ⟩
  | .tmp t :: rs, l, h => by
    simp only [resOf] at h
    split at h
    · rename_i v hv
      simp only [Option.map_eq_some_iff] at h
      obtain ⟨l1, h1, rfl⟩ := h
      obtain ⟨l', h2, h3⟩ := resOf_ok he hw rs l1 h1
      obtain ⟨v', h4, h5⟩ := he.2 t v hv
      refine ⟨v' :: l', ?_, .cons h5 h3⟩
      rw [List.mapM_cons]
      simp only [Sem.run_bind, Sem.run_pure, Result.andThen_ok, h2]
      rw [Array.getD_eq_getD_getElem?, h4]; rfl
    · cases h
  | .cell a t :: rs, l, h => by
    simp only [resOf] at h
    split at h
    · rename_i b hv
      obtain ⟨v', h4, h5⟩ := he.2 a _ hv
      obtain ⟨b', L, rfl, q1, q2, q3, q4⟩ := h5.unptr
      have key : ∀ v l1, (match X.isAgg t, X.size t with
          | some true, some n => (cellsAt H b n).map fun l => Value.agg ⟨l⟩
          | some false, some _ => match b.spot, H.get b.block with
            | none, some (.cells cs _ _ _) => cs[b.off]?
            | _, _ => none
          | _, _ => none) = some v → resOf X env H rs = some l1 → l = v :: l1 → ∃ l' : List Value, ((.cell a t :: rs : List ResultVar).mapM (fun r => match r with
          | .tmp t => pure (tmps.getD t undef)
          | .cell a t => do loadVar t (← asAddr (tmps.getD a undef)) : ResultVar → Sem Value)).run X.P w = .ok l' w ∧ LRel ρ l l' := by
        intro v l1 hva hl1 hl
        subst hl
        obtain ⟨l', h2, h3⟩ := resOf_ok he hw rs l1 hl1
        obtain ⟨v2, h6, h7⟩ := loadAt_ok ok hw h5 hva
        refine ⟨v2 :: l', ?_, .cons h7 h3⟩
        rw [List.mapM_cons]
        have : (do loadVar t (← asAddr (tmps.getD a undef)) : Sem Value).run X.P w = .ok v2 w := by
          rw [Array.getD_eq_getD_getElem?, h4]
          unfold Instr.loadAt at h6
          simp only [Sem.run_bind, sure_ok, Result.andThen_ok] at h6
          simp only [Option.getD_some, asAddr, pure_bind]
          exact h6
        rw [Sem.run_bind]
        simp only
        rw [this]
        simp only [Result.andThen_ok, Sem.run_bind, h2, Sem.run_pure]
      split at h
      · rename_i n hg hn
        split at h
        · rename_i lc hc
          simp only [Option.map_eq_some_iff] at h
          obtain ⟨l1, h1, rfl⟩ := h
          exact key (.agg ⟨lc⟩) l1 (by simp only [hg, hn, hc]; rfl) h1 rfl
        · cases h
      · rename_i n hg hn
        split at h
        · rename_i cs2 _ _ _ hsp hH
          split at h
          · rename_i v hv2
            simp only [Option.map_eq_some_iff] at h
            obtain ⟨l1, h1, rfl⟩ := h
            exact key v l1 (by simp only [hg, hn, hsp, hH, hv2]) h1 rfl
          · cases h
        · cases h
      · cases h
    · cases h

omit ok in
theorem oneOf_ok {ρ : Rn} {l l' : List Value} (h : LRel ρ l l') : VRel ρ (oneOf l) (if h : l'.toArray.size = 1 then l'.toArray[0] else .tuple l'.toArray) := by
  match l, h with
  | [], h => rw [h.unnil]; exact .tupA (LRel.arr (.nil ρ))
  | [x], h =>
    obtain ⟨y, c, rfl, h1, h2⟩ := h.uncons
    rw [h2.unnil]; exact h1
  | x :: y :: z, h =>
    have hne : ¬ l'.toArray.size = 1 := by have := h.1; simp at this ⊢; omega
    rw [dif_neg hne]
    exact .tupA (LRel.arr h)

omit ok in
theorem dropD_ok : ∀ (ds : List Nat) (H H' : Heap), dropD ds H = some H' → ∀ (ρ : Rn) (w : World) (fr : Frame) (cs : List Frame), WRel ρ H w → DRel ρ ds fr.defers → fr.mode ≠ .run →
    ∃ w', Steps X.P (lone fr cs w) (lone { fr with defers := [] } cs w') ∧ Goes ρ H w ρ H' w'
  | [], H, H', h, ρ, w, fr, cs, hw, hd, hm => by
    simp only [dropD] at h; cases h
    have : fr.defers = [] := by
      generalize fr.defers = x at hd
      cases hd; rfl
    exact ⟨w, by rw [← this]; exact .refl _ _, .refl hw⟩
  | n :: ds, H, H', h, ρ, w, fr, cs, hw, hd, hm => by
    simp only [dropD] at h
    split at h
    · rename_i hn
      generalize hdf : fr.defers = x at hd
      cases hd with
      | @cons _ d _ df hd1 hd2 =>
      obtain ⟨L, hL, rfl⟩ := hd1
      obtain ⟨L', o', h1, h2, h3⟩ := hw.obj n _ hn
      rw [hL] at h1; cases h1
      cases o' with
      | deferred c =>
        have hc : c = some [] := h3
        subst hc
        have gf := Goes.free hw hn hL (.deferred none)
        have s1 := step_collected (P := X.P) (cs := cs) hm hdf rfl (run_takeDeferred h2)
        obtain ⟨w', hst, hgo⟩ := dropD_ok ds _ H' h ρ (w.putObj L.block (.deferred none)) { fr with defers := [] ++ df } cs gf.rel hd2 hm
        exact ⟨w', .head s1 hst, gf.trans hgo⟩
      | _ => exact h3.elim
    · cases h

omit ok in
theorem envPs_ok {ρ : Rn} {n : Nat} : ∀ (ts : List Tmp) (vs vs' : List Value) (env env' : Env) (tmps : Array Value), envPs n ts vs env = some env' → EnvRel ρ n env tmps → LRel ρ vs vs' →
    ts.length = vs.length ∧ EnvRel ρ n env' ((ts.zip vs').foldl (fun tmps (t, a) => tmps.setIfInBounds t a) tmps)
  | [], [], vs', env, env', tmps, h, he, hl => by
    simp only [envPs] at h; cases h
    exact ⟨rfl, he⟩
  | [], _ :: _, _, _, _, _, h, _, _ => by simp [envPs] at h
  | _ :: _, [], _, _, _, _, h, _, _ => by simp [envPs] at h
  | t :: ts, v :: vs, vs', env, env', tmps, h, he, hl => by
    simp only [envPs] at h
    cases hb : Nat.blt t n with
    | false => rw [hb, cond_false] at h; cases h
    | true =>
      rw [hb, cond_true] at h
      obtain ⟨v', vs2, rfl, h1, h2⟩ := hl.uncons
      obtain ⟨a, b⟩ := envPs_ok ts vs vs2 _ env' (tmps.setIfInBounds t v') h (he.set (by simpa [Nat.blt_eq] using hb) h1) h2
      exact ⟨by simp [a], b⟩

theorem yield_ok {rec : Rec} (hrec : CodeSound X rec) {l : Nat} {args : List Value} {H H' : Heap} {c c' : Nat} {v : Value} (h : evYield rec l args H c = some (v, H', c')) {ρ : Rn} {w : World} {args' : List Value} (fr : Frame) (cs : List Frame) {L : Loc}
    (hL : ρ l = some L) (hl : LRel ρ args args') (hw : WRel ρ H w) (hb : ρ.Below c) (hg : GRel X ρ) :
    ∃ ρ' v' w', Yielded X.P L.block args'.toArray fr cs w w' v' ∧ VRel ρ' v v' ∧ Goes ρ H w ρ' H' w' ∧ ρ'.Below c' ∧ c ≤ c' ∧ ∀ m, m < c → ρ' m = ρ m := by
  unfold evYield at h
  split at h
  · rename_i st pe fn env n params assign body d hl0
    obtain ⟨r, hr, hor⟩ := loop_obj hw hl0 hL
    obtain ⟨_, _, hfn, henv, hps, has, hbo, _⟩ := hor
    split at h
    · rename_i env' hep
      obtain ⟨hlen, henv'⟩ := envPs_ok _ _ _ _ _ _ hep henv hl
      split at h
      · rename_i s1 hs1
        split at h
        · rename_i pe2 fn2 env2 n2 ps2 as2 bo2 d2 hds1 hl1
          split at h
          · rename_i ex s2 hs2
            split at h
            · rename_i st3 pe3 fn3 env3 n3 ps3 as3 bo3 d3 hds2 hl2
              cases h
              have hyt : ∃ tm, (Instr.yield L.block args'.toArray).run X.P w = .ok (.round L.block r.fn tm r.assign r.body) w ∧ EnvRel ρ n env' tm := by
                refine ⟨_, run_yield (P := X.P) (w := w) (args := args'.toArray) hr (by rw [hps]; have := hl.1; simp at hlen ⊢; omega), ?_⟩
                rw [hps, ← Array.foldl_toList, Array.toList_zip]
                exact henv'
              obtain ⟨tm, hy, henv2⟩ := hyt
              rw [hfn, has, hbo] at hy
              -- the assignment
              obtain ⟨ρ₁, t₁, d₁, w₁, a1, a2, a3, a4, a5, a6, a7⟩ := hrec ⟨n, fn, some l⟩ assign _ _ s1 hs1 ρ (Frame.round L.block fn tm assign body .normal) (fr :: cs) w
                [.beginRound, .code body] henv2 hw hb hg rfl rfl ⟨L, hL, rfl⟩ .nil (.inl rfl)
              rw [hds1] at a6
              have hd1 : d₁ = [] := by cases a6; rfl
              subst hd1
              -- the round begins
              have hL₁ : ρ₁ l = some L := a2.ext _ _ hL
              obtain ⟨r1, hr1, hor1⟩ := loop_obj a2.rel hl1 hL₁
              have hready : r1.state = .ready := hor1.1
              have sb := stepR_beginRound (b := Frame.round L.block fn tm assign body .normal) (a := { tmps := t₁, defers := [] }) (k := [.code body]) (cs := fr :: cs)
                rfl (run_beginRound (P := X.P) hr1 hready)
              have gb := Goes.loop a2.rel hl1 hL₁ hr1 hor1 .busy pe2
              have hpe1 : r1.pending = pe2 := hor1.2.1
              have hput : ({ r1 with state := .busy, pending := pe2 } : Loop) = { r1 with state := .busy } := by rw [← hpe1]
              rw [hput] at gb
              -- the body
              obtain ⟨ρ₂, t₂, d₂, w₂, b1, b2, b3, b4, b5, b6, b7⟩ := hrec ⟨n, fn, some l⟩ body _ ex s2 hs2 ρ₁
                ((Frame.round L.block fn tm assign body .normal).atR { tmps := t₁, defers := [] } [.code body]) (fr :: cs) (w₁.putObj L.block (.loop { r1 with state := .busy })) []
                a1 gb.rel a3 (hg.mono a2.ext) rfl rfl ⟨L, hL₁, rfl⟩ (by rw [hds1]; exact .nil) (.inl rfl)
              rw [hds2] at b6
              have hd2 : d₂ = [] := by cases b6; rfl
              subst hd2
              have hL₂ : ρ₂ l = some L := b2.ext _ _ hL₁
              obtain ⟨r2, hr2, hor2⟩ := loop_obj b2.rel hl2 hL₂
              have ge := Goes.loop b2.rel hl2 hL₂ hr2 hor2 (roundEnd ex).1 (roundEnd ex).2.1
              have hgo := ((a2.trans gb).trans b2).trans ge
              refine ⟨ρ₂, .bool (roundEnd ex).2.2, _, ⟨fn, _, assign, body, hy, ?_⟩, .bool _, hgo, b3, by simp only at b4 a4; omega, fun m hmc => ?_⟩
              · refine Steps.trans a7 (.head sb ?_)
                cases ex with
                | normal => exact Steps.trans b7 (.one (stepR_round_end (b := Frame.round L.block fn tm assign body .normal) (a := { tmps := t₂, defers := [] }) rfl rfl (run_endRound (P := X.P) none hr2)))
                | exit i =>
                  obtain ⟨td, h1, h2⟩ := b7
                  exact Steps.trans h2 (.one (stepR_round_exit (b := Frame.round L.block fn tm assign body .normal) (a := { tmps := t₂, defers := [] }) rfl rfl (h1.trans rfl) (run_endRound (P := X.P) (some (.exit i)) hr2)))
                | ret =>
                  obtain ⟨td, h2⟩ := b7
                  exact Steps.trans h2 (.one (stepR_round_ret (b := Frame.round L.block fn tm assign body .normal) (a := { tmps := t₂, defers := [] }) rfl rfl (run_endRound (P := X.P) (some .ret) hr2)))
              · rw [b5 m (by simp only at a4 ⊢; omega), a5 m hmc]
            · cases h
          · cases h
        · cases h
      · cases h
    · cases h
  · cases h

theorem call_ok {rec : Rec} (hrec : CodeSound X rec) : CallSound X (evCall X rec) := by
  refine ⟨fun l args H c v H' c' h ρ w args' fr cs L hL hl hw hb hg => yield_ok ok hrec h fr cs hL hl hw hb hg, fun f args H c v H' c' h ρ w args' cs hl hw hb hg => ?_⟩
  unfold evCall at h
  simp only at h
  split at h
  · cases h
  · rename_i g hgf
    have hf := ok.fn f g hgf
    cases hnm : (g.name == "runtime.NumGoroutine") with
    | true => rw [hnm, cond_true] at h; cases h
    | false =>
      rw [hnm, cond_false] at h
      split at h
      · rename_i hbody
        split at h
        · rename_i e hn1 hn2
          cases hne : (g.name == "internal/abi.NoEscape") with
          | true =>
          rw [hne, cond_true] at h
          split at h
          · cases h
            obtain ⟨x', m, rfl, hx, hm⟩ := hl.uncons
            have hm' := hm.unnil
            subst hm'
            refine ⟨ρ, x', w, .inl ?_, hx, .refl hw, hb, Nat.le_refl _, fun _ _ => rfl⟩
            have hfind := noEscape_find (eq_of_beq hne)
            unfold callFunc
            simp only [Sem.run_bind, run_program, Result.andThen_ok, hf, hnm]
            simp [hbody, hn1, hfind, Lib.run_noEscape (P := X.P) w x']
          · cases h
          | false =>
          rw [hne, cond_false] at h
          cases hst : (g.name == "sync/atomic.StoreInt64" || g.name == "sync/atomic.StoreUint32") with
          | true =>
            rw [hst, cond_true] at h
            simp only [Option.map_eq_some_iff] at h
            obtain ⟨⟨v2, H2⟩, hx, he⟩ := h
            cases he
            obtain ⟨w', hrun, hv2, hgo⟩ := storeX_ok (X := X) hw hx hl
            have hfind : Extern.find g = some Extern.Atomic.storeT := by
              rw [Bool.or_eq_true] at hst
              rcases hst with q | q
              · exact find_storeI (eq_of_beq q)
              · exact find_storeU (eq_of_beq q)
            refine ⟨ρ, undef, w', .inl ?_, by rw [hv2]; exact .tupA ⟨rfl, fun i x y h => by simp at h⟩, hgo, hb, Nat.le_refl _, fun _ _ => rfl⟩
            unfold callFunc
            simp only [Sem.run_bind, run_program, Result.andThen_ok, hf, hnm]
            simp [hbody, hn1, hfind, hrun]
          | false =>
          rw [hst, cond_false] at h
          cases hli : (g.name == "sync/atomic.LoadInt64") with
          | true =>
            rw [hli, cond_true] at h
            simp only [Option.map_eq_some_iff] at h
            obtain ⟨v2, hx, he⟩ := h
            cases he
            obtain ⟨hrun, hvr⟩ := loadX_ok (X := X) hw hx hl
            have hfind := find_loadI (eq_of_beq hli)
            refine ⟨ρ, _, w, .inl ?_, hvr, .refl hw, hb, Nat.le_refl _, fun _ _ => rfl⟩
            unfold callFunc
            simp only [Sem.run_bind, run_program, Result.andThen_ok, hf, hnm]
            simp [hbody, hn1, hfind, hrun]
          | false =>
          rw [hli, cond_false] at h
          cases hlu : (g.name == "sync/atomic.LoadUint32") with
          | true =>
            rw [hlu, cond_true] at h
            simp only [Option.map_eq_some_iff] at h
            obtain ⟨v2, hx, he⟩ := h
            cases he
            obtain ⟨hrun, hvr⟩ := loadX_ok (X := X) hw hx hl
            have hfind := find_loadU (eq_of_beq hlu)
            refine ⟨ρ, _, w, .inl ?_, hvr, .refl hw, hb, Nat.le_refl _, fun _ _ => rfl⟩
            unfold callFunc
            simp only [Sem.run_bind, run_program, Result.andThen_ok, hf, hnm]
            simp [hbody, hn1, hfind, hrun]
          | false =>
          rw [hlu, cond_false] at h
          split at h
          · rename_i u hu
            cases hc : (clos u && args.all clos) with
            | false => rw [hc, cond_false] at h; cases h
            | true =>
              rw [hc, cond_true] at h; cases h
              rw [Bool.and_eq_true] at hc
              have hargs : args' = args := by
                refine List.ext_getElem hl.1.symm fun i h1 h2 => ?_
                exact clos_eq (hl.2 i args[i] args'[i] (List.getElem?_eq_getElem h2) (List.getElem?_eq_getElem h1)) (List.all_eq_true.1 hc.2 _ (by simp))
              subst hargs
              refine ⟨ρ, v, w, .inl ?_, clos_rel ρ hc.1, .refl hw, hb, Nat.le_refl _, fun _ _ => rfl⟩
              have hr := pureRun_ok X.P _ _ hu w
              unfold callFunc
              simp only [Sem.run_bind, run_program, Result.andThen_ok, hf, hnm]
              simp [hbody, hn1, hn2, hr]
          · cases h
        · cases h
      · rename_i b hbody
        cases hsz : Nat.ble args.length g.ntmps with
        | false => rw [hsz, cond_false] at h; cases h
        | true =>
          rw [hsz, cond_true] at h
          have hle : args.length ≤ g.ntmps := Nat.le_of_ble_eq_true hsz
          have hlen : args'.length = args.length := hl.1.symm
          have hfr : ∀ kind, Frame.enter X.P f args'.toArray kind = { fn := f, tmps := args'.toArray ++ Array.replicate (g.ntmps - args'.toArray.size) undef, todo := [.code b], defers := [], mode := .run, kind } := by
            intro kind
            unfold Frame.enter
            simp [hf, hbody]
          have henv : EnvRel ρ g.ntmps (envOf args 0 .nil) (args'.toArray ++ Array.replicate (g.ntmps - args'.toArray.size) undef) := by
            refine ⟨by simp; omega, fun t u hu => ?_⟩
            rcases envOf_get args 0 .nil t u hu with ⟨j, h1, h2⟩ | h1
            · have ht : t = j := by omega
              subst ht
              have hlt : t < args.length := (List.getElem?_eq_some_iff.1 h2).1
              obtain ⟨u', h3, h4⟩ := hl.get h2
              refine ⟨u', ?_, h4⟩
              rw [Array.getElem?_append_left (by simp; omega)]
              simpa using h3
            · cases h1
          have hcall : (callFunc f args'.toArray).run X.P w = .ok (.enter f args'.toArray) w := by
            unfold callFunc
            simp only [Sem.run_bind, run_program, Result.andThen_ok, hf, hnm]
            simp [hbody]
          have fin : ∀ (ex : AEx) (s : St), rec ⟨g.ntmps, f, none⟩ b { env := envOf args 0 .nil, H := H, c := c, ds := [] } = some (ex, s) → (ex = .normal ∨ ex = .ret) →
              (match dropD s.ds s.H with | some H' => (resOf X s.env H' g.results.toList).map fun l => (oneOf l, H', s.c) | none => none) = some (v, H', c') →
              ∃ ρ' v' w', Entered X.P f args'.toArray cs w w' v' ∧ VRel ρ' v v' ∧ Goes ρ H w ρ' H' w' ∧ ρ'.Below c' ∧ c ≤ c' ∧ ∀ m, m < c → ρ' m = ρ m := by
            intro ex s hs hex hres
            split at hres
            · rename_i H2 hdrop
              simp only [Option.map_eq_some_iff] at hres
              obtain ⟨l, hl1, hl2⟩ := hres
              cases hl2
              obtain ⟨ρ', tmps', df', w1, a1, a2, a3, a4, a5, a6, a7⟩ := hrec ⟨g.ntmps, f, none⟩ b _ ex s hs ρ (Frame.enter X.P f args'.toArray .normal) cs w [] (by rw [hfr]; exact henv) hw hb hg (by rw [hfr]) (by rw [hfr]) (by rw [hfr]; trivial)
                (by rw [hfr]; exact .nil) (.inl (by rw [hfr]))
              have all : ∃ td, Steps X.P (lone (Frame.enter X.P f args'.toArray .normal) cs w) (lone { fn := f, tmps := tmps', todo := td, defers := df', mode := .returning, kind := .normal } cs w1) := by
                rcases hex with rfl | rfl
                · refine ⟨[], Steps.trans a7 (.one ?_)⟩
                  rw [hfr]
                  exact stp_end rfl rfl rfl
                · obtain ⟨td, a7⟩ := a7
                  refine ⟨.code .ret :: td, Steps.trans a7 (.one ?_)⟩
                  rw [hfr]
                  exact stp_ret rfl rfl rfl
              obtain ⟨td, hst⟩ := all
              obtain ⟨w2, hst2, hgo2⟩ := dropD_ok (X := X) s.ds s.H H' hdrop ρ' w1 { fn := f, tmps := tmps', todo := td, defers := df', mode := .returning, kind := .normal } cs a2.rel a6 (by simp)
              obtain ⟨l', r1, r2⟩ := resOf_ok ok a1 hgo2.rel _ _ hl1
              refine ⟨ρ', _, w2, .inr ⟨hcall, _, hst.trans hst2, rfl, rfl, rfl, rfl, g, hf, ?_⟩, oneOf_ok r2, a2.trans hgo2, a3, a4, a5⟩
              unfold results
              rw [Array.mapM_eq_mapM_toList]
              simp only [Sem.run_bind, Sem.run_map, Sem.run_pure]
              exact congrArg (fun r : Result (List Value) => (r.andThen fun a w' => Result.ok a.toArray w').andThen fun a w' => Result.ok (if h : a.size = 1 then a[0] else Value.tuple a) w') r1
            · cases hres
          split at h
          · rename_i s hs; exact fin _ s hs (.inl rfl) h
          · rename_i s hs; exact fin _ s hs (.inr rfl) h
          · cases h

/-- The evaluator is right, at every depth. -/
theorem run_ok (d : Nat) : CodeSound X (run X d) := by
  induction d with
  | zero => intro fx code s ex s' h; rw [run_zero] at h; cases h
  | succ d ih =>
    intro fx code s ex s' h
    rw [run_succ] at h
    exact code_ok ok (call_ok ok ih) ih fx code s ex s' h

theorem callAt_ok (d : Nat) : CallSound X (callAt X d) := call_ok ok (run_ok ok d)

end
end Go.Ev
