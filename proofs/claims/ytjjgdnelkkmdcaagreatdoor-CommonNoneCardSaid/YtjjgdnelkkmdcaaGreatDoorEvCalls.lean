/-
  What a run of the evaluator says of the machine: a call's contract.
-/
import Derived.Test.YtjjgdnelkkmdcaaGreatDoorEvRun
import Derived.ChangeSame
import Derived.RowKit3
set_option linter.all false
namespace Go.Ev
open Go.ChangeShapes

/-- Nothing that was there has changed. -/
structure Kept (w w' : World) : Prop where
  size : w.heap.size ≤ w'.heap.size
  os : w'.os = w.os
  output : w'.output = w.output
  same : ∀ b, b < w.heap.size → w'.heap[b]? = w.heap[b]?

theorem Kept.refl (w : World) : Kept w w := ⟨Nat.le_refl _, rfl, rfl, fun _ _ => rfl⟩
theorem Kept.trans {a b c : World} (h : Kept a b) (k : Kept b c) : Kept a c :=
  ⟨Nat.le_trans h.size k.size, k.os.trans h.os, k.output.trans h.output, fun i hi => (k.same i (Nat.lt_of_lt_of_le hi h.size)).trans (h.same i hi)⟩
theorem Kept.keptBut {w w' : World} (h : Kept w w') (may : MemPlace → Prop) : w.keptBut w' may := by
  refine ⟨h.os, h.output, fun i hi => ?_⟩
  rw [h.same i hi]
  generalize w.heap[i]? = x
  cases x with
  | none => rfl
  | some o => cases o <;> first | rfl | exact ⟨rfl, rfl, rfl, fun _ _ => rfl⟩ | exact .inr ⟨rfl, rfl⟩
theorem Kept.frozen {w w' : World} (h : Kept w w') {a : Addr} (ha : a.block < w.heap.size) : w'.frozen? a = w.frozen? a := by
  unfold World.frozen?
  rw [h.same _ ha]
theorem Kept.drew (w : World) : Kept w w.drew := ⟨Nat.le_refl _, rfl, rfl, fun _ _ => rfl⟩
theorem Kept.alloc (w : World) (o : Obj) : Kept w (w.alloc o) := by
  refine ⟨by show w.heap.size ≤ (w.heap.push _).size; simp, rfl, rfl, fun b hb => ?_⟩
  show (w.heap.push _)[b]? = _
  rw [Array.getElem?_push_lt hb]
  exact (Array.getElem?_eq_getElem hb).symm
theorem Kept.of_grown {w w' : World} (h : RowKit.Grown w w') (hc : ∀ b, b < w.heap.size → w'.heap[b]? = w.heap[b]?) : Kept w w' := ⟨h.2.2, h.1.1, h.1.2.1, hc⟩

section
variable {H : Type} {enc : TypeId × Value → H} {P : Program} {W W' : World}

/-- What a law's row asks of its end, where nothing has changed. -/
theorem post_of_kept {f : Func} {s : ChangeSpec} {apart fresh handsOn again : Bool} {args : Array Value} {v : Value} {ds gs : List (DataW H)} {before pa pv : List MemPlace}
    (hW : DataW.Whole enc P f.params.toList s.vars apart W args.toList ds gs before)
    (hres : ∀ (b : Nat) (sp : Nat → Bool) (hd : Bool), DataW.TrodAll enc P W' b sp hd f.resultTypes.toList (v.resultList f.resultTypes.size) (s.fn H (ds ++ gs)).results [])
    (hargs : ∀ sp : Nat → Bool, (∀ p ∈ before, sp p.block = true) → DataW.TrodAll enc P W' 0 sp true f.params.toList args.toList (s.fn H (ds ++ gs)).args pa)
    (hvars : ∀ sp : Nat → Bool, (∀ p ∈ before, sp p.block = true) → DataW.TrodVars enc P W' sp s.vars (s.fn H (ds ++ gs)).vars pv)
    (hps : before = pa ++ pv) (hk : Kept W W')
    (hok : ∀ (j : Nat) (t : TypeId) (r : Value), f.resultTypes[j]? = some t → (v.resultList f.resultTypes.size)[j]? = some r → Value.okWide P W' .any 0 t r) :
    s.post enc P f apart fresh handsOn again W args v W' := by
  have hold : ∀ p ∈ before, (fun b => decide (b < W.heap.size)) p.block = true := fun p hp => by simpa using hW.lt p hp
  have hlt : ∀ p ∈ before, p.block < W.heap.size := fun p hp => hW.lt p hp
  refine ⟨ds, gs, before, [], pa, pv, hW, hres _ _ _, hargs _ hold, hvars _ hold, World.keptBut_mono (fun p hp => ⟨hp, ?_⟩) (hk.keptBut (· ∈ before)), fun _ => ?_⟩
  · rw [hps, List.mem_append] at hp
    exact Or.inr hp
  · obtain ⟨_, _, _, _, _, hz, hn⟩ := hW
    refine ⟨hok, _, _, ([] ++ pa) ++ pv, ⟨[] ++ pa, pv, trodAll_append (hargs _ (fun _ _ => rfl)) (hres _ _ _), hvars _ (fun _ _ => rfl), rfl, ?_, ?_⟩, ?_⟩
    · intro b off hp
      have hb : MemPlace.cell b off ∈ before := by rw [hps]; simpa using hp
      rw [hk.frozen (a := ⟨b, off, none⟩) (hlt _ hb)]
      exact hz b off hb
    · intro ha
      have := hn ha
      rw [hps] at this
      simpa using this
    · intro p hp _
      rw [hps]
      simpa using hp
end

/-- The renaming of the package's variables. -/
def glob (n : Nat) : Rn := fun m => if m < n then some ⟨m, 0, none, none⟩ else none
theorem glob_below {n c : Nat} (h : n ≤ c) : (glob n).Below c := fun m hm => if_neg (by omega)
theorem glob_rel {X : Cx} (hs : ∀ r, X.sym r = none) : GRel X (glob X.nG) := ⟨fun g hg => if_pos hg, fun r v h => by rw [hs] at h; cases h⟩

theorem WRel.nothing (ρ : Rn) (w : World) : WRel ρ .nil w := ⟨(fun n o h => by cases h), (fun n o m p L K h => by cases h)⟩
theorem Goes.kept {ρ ρ' : Rn} {H' : Heap} {w w' : World} (h : Goes ρ .nil w ρ' H' w') : Kept w w' := ⟨h.size, h.os, h.output, fun b hb => h.same b hb fun n o L hn => by cases hn⟩

/-- A run of the evaluator is a call's contract. -/
theorem calls_of {X : Cx} (ok : X.Ok) {d f : Nat} {args : List Value} {H H' : Heap} {c c' : Nat} {v : Value} (h : callAt X d (.fn f args) H c = some (v, H', c')) {g : Func} {b : Code} (hf : X.P.funcs[f]? = some g) (hb : g.body = some b)
    {ρ : Rn} {w : World} {args' : List Value} (hl : LRel ρ args args') (hw : WRel ρ H w) (hbl : ρ.Below c) (hg : GRel X ρ) :
    Calls X.P f args'.toArray w fun e w' => ∃ ρ' v', e = .returned v' ∧ VRel ρ' v v' ∧ Goes ρ H w ρ' H' w' := by
  intro cs
  obtain ⟨ρ', v', w', hen, hv, hgo, _⟩ := (callAt_ok ok d).2 f args H c v H' c' h ρ w args' cs hl hw hbl hg
  rcases hen with h1 | ⟨_, fr, hst, hfn, hlv⟩
  · exfalso
    unfold callFunc at h1
    simp only [Sem.run_bind, run_program, Result.andThen_ok, hf] at h1
    cases hn : (g.name == "runtime.NumGoroutine") <;> simp [hb, hn] at h1
  · exact ⟨.returned v', w', fr, ⟨ρ', v', rfl, hv, hgo⟩, hst, hfn, hlv⟩

/-- A call of closed values that ends in one, and that reads nothing of what there is. -/
noncomputable def saysOf (X : Cx) (d f : Nat) (args : List Value) (v : Value) : Bool :=
  args.all clos && clos v && (match X.fn.get f with | some g => g.body.isSome | none => false) &&
  (match callAt X d (.fn f args) .nil X.nG with
   | some (u, _) => vEq 3 u v
   | none => false)

theorem calls_closed {P : Program} (hm : P.follows .mixedOrders = true) {d f : Nat} {args : List Value} {v : Value} (h : saysOf (Cx.of P) d f args v = true) (w : World) :
    Calls P f args.toArray w fun e w' => e = .returned v ∧ Kept w w' := by
  have ok := Cx.of_ok P hm
  unfold saysOf at h
  simp only [Bool.and_eq_true] at h
  obtain ⟨⟨⟨ha, hv⟩, hf⟩, hr⟩ := h
  split at hf
  · rename_i g hg
    obtain ⟨b, hb⟩ := Option.isSome_iff_exists.1 hf
    split at hr
    · rename_i u r hu
      obtain ⟨H', c'⟩ := r
      have := vEq_eq _ _ _ hr
      subst this
      have hl : LRel (glob (Cx.of P).nG) args args := ⟨rfl, fun i x y hx hy => by
        rw [hx] at hy; cases hy
        exact clos_rel _ (List.all_eq_true.1 ha x (List.mem_of_getElem? hx))⟩
      refine (calls_of ok hu (ok.fn f g hg) hb hl (WRel.nothing _ w) (glob_below (Nat.le_refl _)) (glob_rel fun _ => rfl)).mono fun e w' ⟨ρ', v', he, hvr, hgo⟩ => ?_
      exact ⟨by rw [he, clos_eq hvr hv], hgo.kept⟩
    · cases hr
  · cases hf

end Go.Ev
