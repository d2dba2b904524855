/-
  Equality, numbers, strings, conversions: what the evaluator says of them is true of the model.
-/
import Derived.Test.YtjjgdnelkkmdcaaGreatDoorEvSndA
set_option linter.all false
namespace Go.Ev

section
variable {X : Cx} (ok : X.Ok) {ρ : Rn}
include ok

theorem eqFs_ok {xs ys : List Value} {xs' ys' : Array Value} (hx : LRel ρ xs xs'.toList) (hy : LRel ρ ys ys'.toList) (w : World) (eq : TypeId → Value → Value → Option Bool) (d : Nat)
    (heq : ∀ t a b r a' b', eq t a b = some r → VRel ρ a a' → VRel ρ b b' → (Op.equalIn d t a' b').run X.P w = .ok r w) :
    ∀ (fs : List Field) (r : Bool), X.eqFs eq xs ys fs = some r →
    ((forIn fs ((none, ()) : Option Bool × Unit) fun (f : Field) _ =>
      if f.name = "_" then pure (ForInStep.yield (none, ()))
      else do
        let a ← part f.type xs' f.offset
        let b ← part f.type ys' f.offset
        let c ← Op.equalIn d f.type a b
        if c = false then pure (ForInStep.done (some false, ())) else pure (ForInStep.yield (none, ())) : Sem (Option Bool × Unit))).run X.P w = .ok (if r then none else some false, ()) w
  | [], r, h => by
    simp only [Cx.eqFs] at h; cases h
    simp
  | f :: fs, r, h => by
    simp only [Cx.eqFs] at h
    rw [List.forIn_cons]
    by_cases hn : f.name = "_"
    · rw [if_pos hn] at h
      simp only [hn, if_true, pure_bind]
      exact eqFs_ok hx hy w eq d heq fs r h
    · rw [if_neg hn] at h
      simp only [hn, if_false]
      cases ha : X.part f.type f.offset xs with
      | none => rw [ha] at h; simp at h
      | some a =>
        cases hb : X.part f.type f.offset ys with
        | none => rw [ha, hb] at h; simp at h
        | some b =>
          rw [ha, hb] at h
          simp only at h
          obtain ⟨a', ra, va⟩ := part_ok ok ha hx w
          obtain ⟨b', rb, vb⟩ := part_ok ok hb hy w
          cases hc : eq f.type a b with
          | none => rw [hc] at h; simp at h
          | some c =>
            rw [hc] at h
            simp only [bind_assoc, Sem.run_bind, ra, rb, Result.andThen_ok, heq _ _ _ _ _ _ hc va vb]
            cases c with
            | true =>
              simp only at h
              simp only [Bool.true_eq_false, if_false]
              exact eqFs_ok hx hy w eq d heq fs r h
            | false =>
              simp only at h; cases h
              simp

theorem eqEs_ok {xs ys : List Value} {xs' ys' : Array Value} (hx : LRel ρ xs xs'.toList) (hy : LRel ρ ys ys'.toList) (w : World) (eq : TypeId → Value → Value → Option Bool) (d el s : Nat)
    (heq : ∀ t a b r a' b', eq t a b = some r → VRel ρ a a' → VRel ρ b b' → (Op.equalIn d t a' b').run X.P w = .ok r w) :
    ∀ (n i : Nat) (r : Bool), X.eqEs eq el s xs ys n i = some r →
    ((forIn (List.range' i n) ((none, ()) : Option Bool × Unit) fun (i : Nat) _ => do
        let a ← part el xs' (i * s)
        let b ← part el ys' (i * s)
        let c ← Op.equalIn d el a b
        if c = false then pure (ForInStep.done (some false, ())) else pure (ForInStep.yield (none, ())) : Sem (Option Bool × Unit))).run X.P w = .ok (if r then none else some false, ()) w
  | 0, i, r, h => by
    simp only [Cx.eqEs] at h; cases h
    simp
  | n + 1, i, r, h => by
    simp only [Cx.eqEs] at h
    rw [List.range'_succ, List.forIn_cons]
    cases ha : X.part el (i * s) xs with
    | none => rw [ha] at h; simp at h
    | some a =>
      cases hb : X.part el (i * s) ys with
      | none => rw [ha, hb] at h; simp at h
      | some b =>
        rw [ha, hb] at h
        simp only at h
        obtain ⟨a', ra, va⟩ := part_ok ok ha hx w
        obtain ⟨b', rb, vb⟩ := part_ok ok hb hy w
        cases hc : eq el a b with
        | none => rw [hc] at h; simp at h
        | some c =>
          rw [hc] at h
          simp only [bind_assoc, Sem.run_bind, ra, rb, Result.andThen_ok, heq _ _ _ _ _ _ hc va vb]
          cases c with
          | true =>
            simp only at h
            simp only [Bool.true_eq_false, if_false]
            exact eqEs_ok hx hy w eq d el s heq n (i + 1) r h
          | false =>
            simp only at h; cases h
            simp

omit ok in
theorem VRel.unint {k : IntKind} {n : Int} {v : Value} (h : VRel ρ (.int k n) v) : v = .int k n := by cases h; rfl
omit ok in
theorem VRel.unbool {b : Bool} {v : Value} (h : VRel ρ (.bool b) v) : v = .bool b := by cases h; rfl
omit ok in
theorem VRel.unstr {s : ByteArray} {v : Value} (h : VRel ρ (.string s) v) : v = .string s := by cases h; rfl
omit ok in
theorem VRel.unptr {a : Addr} {v : Value} (h : VRel ρ (.pointer (some a)) v) : ∃ a' L, v = .pointer (some a') ∧ ρ a.block = some L ∧ a'.block = L.block ∧ a'.off = a.off + L.shift ∧ a'.spot = a.spot := by
  cases h with | ptr h hb ho hs => exact ⟨_, _, rfl, h, hb, ho, hs⟩

theorem eqV_ok (w : World) : ∀ (d D : Nat) (t : TypeId) (x y x' y' : Value) (r : Bool), d ≤ D → X.eqV d t x y = some r → VRel ρ x x' → VRel ρ y y' → (Op.equalIn D t x' y').run X.P w = .ok r w
  | 0, _, _, _, _, _, _, _, _, h, _, _ => by simp [Cx.eqV] at h
  | d + 1, 0, _, _, _, _, _, _, hd, _, _, _ => by omega
  | d + 1, D + 1, t, x, y, x', y', r, hd, h, hx, hy => by
    have ih := eqV_ok w d D
    simp only [Cx.eqV] at h
    cases hu : X.under t with
    | none => rw [hu] at h; cases h
    | some u =>
      rw [hu] at h
      simp only at h
      unfold Op.equalIn
      simp only [Sem.run_bind, run_under ok hu, Result.andThen_ok]
      split at h
      · cases hx; cases hy; cases h; simp
      · rename_i k a j b
        cases hx; cases hy
        by_cases e : k = j
        · subst e; simp at h; subst h; simp [intEq_eq]
        · simp [e] at h
      · rename_i k a j b
        cases hx; cases hy
        by_cases e : k = j
        · subst e; simp at h; subst h; simp
        · simp [e] at h
      · cases hx; cases hy; cases h
        rename_i a b
        have e : (a == b) = eqB a.data.toList b.data.toList := by
          have e0 : (a == b) = (a.data == b.data) := by cases a; cases b; rfl
          rw [e0, eqB_eq, Bool.eq_iff_iff, beq_iff_eq, beq_iff_eq]
          exact ⟨fun h => by rw [h], fun h => Array.ext' h⟩
        simp [e]
      · cases hx
        cases hy with
        | ptrNil => cases h; simp
        | ptr _ _ _ _ => cases h; simp
      · cases hy
        cases hx with
        | ptr _ _ _ _ => cases h; simp
      · rename_i el a b
        obtain ⟨a', L, rfl, ha, hab, hao, has⟩ := hx.unptr
        obtain ⟨b', K, rfl, hb, hbb, hbo, hbs⟩ := hy.unptr
        cases hs : X.size el with
        | none => rw [hs] at h; simp at h
        | some n =>
          rw [hs] at h
          cases n with
          | zero => simp at h
          | succ n =>
            simp only at h
            cases hc : (Nat.beq a.block b.block && decide (a.spot = none) && decide (b.spot = none)) with
            | false => rw [hc, cond_false] at h; cases h
            | true =>
              rw [hc, cond_true] at h; cases h
              simp only [Bool.and_eq_true, decide_eq_true_eq] at hc
              have hbl : a.block = b.block := Nat.eq_of_beq_eq_true hc.1.1
              have hLK : L = K := by rw [hbl, hb] at ha; cases ha; rfl
              subst hLK
              simp only [Sem.run_bind, run_size ok hs, Result.andThen_ok]
              rw [if_pos (by simp)]
              unfold sameAddr
              have e1 : (a'.block == b'.block) = true := by simp [hab, hbb]
              rw [e1]
              simp only [if_true, Sem.run_pure]
              congr 1
              rw [nbeq, Bool.eq_iff_iff, beq_iff_eq, decide_eq_true_eq]
              obtain ⟨ab, ao, as⟩ := a'
              obtain ⟨bb, bo, bs⟩ := b'
              simp only [Addr.mk.injEq] at *
              constructor
              · rintro ⟨_, h, _⟩; omega
              · intro h; exact ⟨by omega, by omega, by rw [has, hbs, hc.1.2, hc.2]⟩
      · cases hx; cases hy; cases h; simp
      · cases hx; cases hy; cases h; simp
      · cases hx; cases hy; cases h; simp
      · rename_i tx vx ty vy
        cases hx with
        | iface _ hvx =>
        cases hy with
        | iface _ hvy =>
        cases hc : Nat.beq tx ty with
        | false =>
          rw [hc, cond_false] at h; cases h
          have : tx ≠ ty := fun e => by rw [Tr.beq_true' e] at hc; cases hc
          simp [this]
        | true =>
          rw [hc, cond_true] at h
          have e := Nat.eq_of_beq_eq_true hc
          subst e
          cases hi : X.ty.get tx with
          | none => rw [hi] at h; cases h
          | some i =>
            rw [hi] at h; simp only at h
            cases hcm : i.comparable with
            | false => rw [hcm, cond_false] at h; cases h
            | true =>
              rw [hcm, cond_true] at h
              simp only [ne_eq, not_true_eq_false, if_false, Sem.run_bind, run_info ok hi, Result.andThen_ok, hcm, Bool.not_true, Bool.false_eq_true, Sem.run_pure]
              exact ih tx vx vy _ _ r (by omega) h hvx hvy
      · rename_i fs xs ys
        obtain ⟨xs', rfl, hxs⟩ := hx.unagg
        obtain ⟨ys', rfl, hys⟩ := hy.unagg
        cases hst : X.P.stoodInHeld t with
        | true => rw [hst, cond_true] at h; cases h
        | false =>
          rw [hst, cond_false] at h
          have key := eqFs_ok ok hxs.list hys.list w (X.eqV d) D (fun t a b r a' b' he va vb => ih t a b a' b' r (by omega) he va vb) fs.toList r h
          rw [Array.forIn_toList] at key
          simp only [Sem.run_bind, run_program, Result.andThen_ok, hst, Bool.false_eq_true, if_false, ne_eq, ite_not, Bool.not_eq_true', pure_bind, bind_assoc, Sem.run_pure]
          rw [key]
          cases r <;> simp
      · rename_i n el xs ys
        obtain ⟨xs', rfl, hxs⟩ := hx.unagg
        obtain ⟨ys', rfl, hys⟩ := hy.unagg
        cases hs : X.size el with
        | none => rw [hs] at h; cases h
        | some s =>
          rw [hs] at h; simp only at h
          have key := eqEs_ok ok hxs.list hys.list w (X.eqV d) D el s (fun t a b r a' b' he va vb => ih t a b a' b' r (by omega) he va vb) n 0 r h
          simp only [Sem.run_bind, run_size ok hs, Result.andThen_ok, Std.Legacy.Range.forIn_eq_forIn_range', Std.Legacy.Range.size, Bool.not_eq_true', pure_bind, bind_assoc, Sem.run_pure]
          simp at key ⊢
          rw [key]
          cases r <;> simp
      · cases hx
        cases hy with
        | sliceNil _ _ => cases h; simp
        | slice _ _ _ _ _ => cases h; simp
      · cases hy
        cases hx with
        | slice _ _ _ _ _ => cases h; simp
      · cases hx
        cases hy with
        | mapNil => cases h; simp
        | map _ => cases h; simp
      · cases hy
        cases hx with
        | map _ => cases h; simp
      · cases hx; cases hy; cases h; simp
      · cases hx; cases hy; cases h; simp
      · cases hx; cases hy; cases h; simp
      · cases h
end
end Go.Ev
