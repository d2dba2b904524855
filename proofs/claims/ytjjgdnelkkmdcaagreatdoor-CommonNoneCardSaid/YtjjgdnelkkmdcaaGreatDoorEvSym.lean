/-
  A run with unknown arguments: names for them, and what comparisons with them come to.
-/
import Derived.Test.YtjjgdnelkkmdcaaGreatDoorEvCalls
set_option linter.all false
namespace Go.Ev

/-- Unknown values from a name on. -/
def symsOf (b : Nat) (l : List Value) (r : Nat) : Option Value := if b ≤ r then l[r - b]? else none

/-- A program's context with unknown values. -/
noncomputable def Cx.sy (P : Program) (b : Nat) (l : List Value) (o : List Orc) : Cx := { Cx.of P with sym := symsOf b l, orc := o }

/-- Package-level variables and unknown values, named. -/
def globS (n b : Nat) (l : List Value) : Rn := fun m => if m < n then some ⟨m, 0, none, none⟩ else if b ≤ m then (l[m - b]?).map fun v => ⟨0, 0, none, some v⟩ else none

theorem globS_below {n b c : Nat} {l : List Value} (h : n ≤ c) (hb : b + l.length ≤ c) : (globS n b l).Below c := by
  intro m hm
  unfold globS
  rw [if_neg (by omega)]
  by_cases h' : b ≤ m
  · rw [if_pos h', List.getElem?_eq_none (by omega)]; rfl
  · rw [if_neg h']
theorem globS_rel {P : Program} {b : Nat} {l : List Value} {o : List Orc} (h : P.globals.size ≤ b) : GRel (Cx.sy P b l o) (globS P.globals.size b l) := by
  refine ⟨fun g hg => if_pos hg, fun r v hr => ?_⟩
  have hr' : symsOf b l r = some v := hr
  unfold symsOf at hr'
  by_cases hb : b ≤ r
  · rw [if_pos hb] at hr'
    refine ⟨⟨0, 0, none, some v⟩, ?_, rfl⟩
    unfold globS
    rw [if_neg (by omega), if_pos hb, hr']; rfl
  · rw [if_neg hb] at hr'; cases hr'
theorem sym_rel {n b : Nat} {l : List Value} {i : Nat} {v : Value} (h : n ≤ b) (hi : l[i]? = some v) (ho : ∀ c, v ≠ .agg c ∧ v ≠ .tuple c) : VRel (globS n b l) (.chan (some (b + i))) v := by
  refine .sym (L := ⟨0, 0, none, some v⟩) ?_ rfl ho
  unfold globS
  rw [if_neg (by omega), if_pos (by omega), show b + i - b = i by omega, hi]; rfl

/-- What is asked of a comparison's answer. -/
def OrcOk (X : Cx) (en : Orc) : Prop := ∀ ρ, GRel X ρ → ∀ (x y : Operand) (a' b' : Value), VRel ρ en.a a' → VRel ρ en.b b' → ∀ w, (do eqGuard en.op en.t x y a' b'; Go.binOp en.op en.t a' b' : Sem Value).run X.P w = .ok (.bool en.r) w

theorem Cx.sy_ok {P : Program} (hm : P.follows .mixedOrders = true) {b : Nat} {l : List Value} {o : List Orc} (ho : ∀ en ∈ o, OrcOk (Cx.sy P b l o) en) : (Cx.sy P b l o).Ok :=
  ⟨(Cx.of_ok P hm).ty, (Cx.of_ok P hm).fn, hm, ho⟩

theorem sym_inv {X : Cx} {ρ : Rn} (hg : GRel X ρ) {r : Nat} {v a' : Value} (hs : X.sym r = some v) (h : VRel ρ (.chan (some r)) a') : a' = v := by
  obtain ⟨L, hL, hv⟩ := hg.2 r v hs
  cases h with
  | sym h' hs' _ =>
    rw [hL] at h'; cases h'
    rw [hv] at hs'; cases hs'
    rfl

theorem eqGuard_order {op : BinOp} (h : eqOp op = false) (t : TypeId) (x y : Operand) (a b : Value) (P : Program) (w : World) : (eqGuard op t x y a b).run P w = .ok () w := by
  unfold eqGuard
  cases op <;> first | (cases h; done) | rfl

/-- An unknown whole number beside a known one. -/
theorem orc_int {X : Cx} {op : BinOp} {t : TypeId} {r : Nat} {k : IntKind} {x n : Int} {b : Bool} (hs : X.sym r = some (.int k x)) (he : eqOp op = false) (hi : isShift op = false)
    (h : intOp op k x n = some (.bool b)) : OrcOk X ⟨op, t, .chan (some r), .int k n, b⟩ := by
  intro ρ hg o p a' b' ha hb w
  have ha' := sym_inv hg hs ha
  have hb' : b' = .int k n := by cases hb; rfl
  subst ha' hb'
  simp only [Sem.run_bind, eqGuard_order he, Result.andThen_ok]
  exact intOp_int hi h _ _ t rfl rfl

/-- A run with unknown arguments that ends in a known value. -/
noncomputable def saysOrc (X : Cx) (d f : Nat) (args : List Value) (c : Nat) (v : Value) : Bool :=
  clos v && (match X.fn.get f with | some g => g.body.isSome | none => false) &&
  (match callAt X d (.fn f args) .nil c with
   | some (u, _) => vEq 3 u v
   | none => false)

theorem calls_sym {P : Program} {b : Nat} {l : List Value} {o : List Orc} (ok : (Cx.sy P b l o).Ok) {d f c : Nat} {args args' : List Value} {v : Value} (h : saysOrc (Cx.sy P b l o) d f args c v = true)
    (hl : LRel (globS P.globals.size b l) args args') (hn : P.globals.size ≤ b) (hc : b + l.length ≤ c) (w : World) :
    Calls P f args'.toArray w fun e w' => e = .returned v ∧ Kept w w' := by
  unfold saysOrc at h
  simp only [Bool.and_eq_true] at h
  obtain ⟨⟨hv, hf⟩, hr⟩ := h
  split at hf
  · rename_i g hg
    obtain ⟨bd, hb⟩ := Option.isSome_iff_exists.1 hf
    split at hr
    · rename_i u r hu
      obtain ⟨H', c'⟩ := r
      have := vEq_eq _ _ _ hr
      subst this
      refine (calls_of ok hu (ok.fn f g hg) hb hl (WRel.nothing _ w) (globS_below (by omega) hc) (globS_rel hn)).mono fun e w' ⟨ρ', v', he, hvr, hgo⟩ => ?_
      exact ⟨by rw [he, clos_eq hvr hv], hgo.kept⟩
    · cases hr
  · cases hf

/-! ### Arguments that are structs of cells -/

theorem okWide_cell {P : Program} {w : World} {r : Reach} {base : Nat} {t : TypeId} {cs : Array Value} {ts : List TypeId} (h : Row.okWide P w r base t cs) (hts : P.cellTypes P.depth t = some ts) (hn : cs.size = ts.length)
    {i : Nat} {u : TypeId} (hi : ts[i]? = some u) : ∃ v, cs[i]? = some v ∧ Cell.okWide P w r base u v := by
  obtain ⟨ts', h1, _, h3⟩ := h
  rw [hts] at h1; cases h1
  have hlt : i < ts.length := (List.getElem?_eq_some_iff.1 hi).1
  have hlt' : i < cs.size := by omega
  refine ⟨cs[i], Array.getElem?_eq_getElem hlt', ?_⟩
  obtain ⟨u', hu', hc⟩ := h3 i cs[i] (Array.getElem?_eq_getElem hlt')
  rw [Nat.mod_eq_of_lt hlt, hi] at hu'
  cases hu'
  exact hc
theorem cell_int {P : Program} {w : World} {r : Reach} {base : Nat} {t : TypeId} {k : IntKind} {v : Value} (ht : P.underlying t = some (.int k)) (h : Cell.okWide P w r base t v) : ∃ n, v = .int k n ∧ k.has n := by
  unfold Cell.okWide at h
  rw [ht] at h
  cases v <;> first | (obtain ⟨h1, h2⟩ := (by simpa [Cell.ok, ht] using h); subst h1; exact ⟨_, rfl, h2⟩) | (simp [Cell.ok, ht] at h)
/-- A cell is neither a struct nor a list of results. -/
theorem cell_one {P : Program} {w : World} {r : Reach} {base : Nat} {t : TypeId} {v : Value} (h : Cell.okWide P w r base t v) : ∀ c, v ≠ .agg c ∧ v ≠ .tuple c := by
  intro c
  constructor
  · rintro rfl
    unfold Cell.okWide at h
    split at h
    all_goals first | (rename_i hh; cases hh; done) | (rename_i hh _; cases hh; done) | skip
    all_goals simp [Cell.ok] at h
  · rintro rfl
    unfold Cell.okWide at h
    split at h
    all_goals first | (rename_i hh; cases hh; done) | (rename_i hh _; cases hh; done) | skip
    all_goals simp [Cell.ok] at h

end Go.Ev
