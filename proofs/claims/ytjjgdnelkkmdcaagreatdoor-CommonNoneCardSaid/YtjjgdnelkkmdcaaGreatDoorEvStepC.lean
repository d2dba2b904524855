/-
  A region that draws its order: whatever order is drawn, it comes to what the evaluator found in the order of the text.
-/
import Derived.Test.YtjjgdnelkkmdcaaGreatDoorEvStepB
set_option linter.all false
namespace Go.Ev

/-! ### The plan -/

theorem predsOf_ok {i : Nat} {ps : List Nat} : ∀ (es : List Edge) (p : Nat), predsOf i es ps = some p →
    (∀ e ∈ es, Region.binds .any e = true → e.on < i) ∧
    (∀ j, p.testBit j = true → ∃ e ∈ es, Region.binds .any e = true ∧ e.on < i ∧ (j = e.on ∨ ∃ q, ps[e.on]? = some q ∧ q.testBit j = true))
  | [], p, h => by
    simp only [predsOf] at h; cases h
    exact ⟨fun e he => by simp at he, fun j hj => by simp at hj⟩
  | e :: es, p, h => by
    unfold predsOf at h
    have skip : Region.binds .any e = false → predsOf i es ps = some p →
        (∀ e' ∈ e :: es, Region.binds .any e' = true → e'.on < i) ∧
        (∀ j, p.testBit j = true → ∃ e' ∈ e :: es, Region.binds .any e' = true ∧ e'.on < i ∧ (j = e'.on ∨ ∃ q, ps[e'.on]? = some q ∧ q.testBit j = true)) := by
      intro hb hp
      obtain ⟨h1, h2⟩ := predsOf_ok es p hp
      refine ⟨fun e' he' hb' => ?_, fun j hj => ?_⟩
      · rcases List.mem_cons.1 he' with rfl | hm
        · rw [hb] at hb'; cases hb'
        · exact h1 e' hm hb'
      · obtain ⟨e', hm, r⟩ := h2 j hj
        exact ⟨e', List.mem_cons_of_mem _ hm, r⟩
    split at h
    · rename_i hg
      exact skip (by unfold Region.binds; rw [hg]; rfl) h
    · rename_i hg
      exact skip (by unfold Region.binds; rw [hg]; rfl) h
    · rename_i hn1 hn2
      have hb : Region.binds .any e = true := by
        unfold Region.binds
        split
        · rename_i hg; exact absurd hg (hn1 _)
        · rename_i hg; exact absurd hg (hn2 _)
        · rfl
      cases hlt : Nat.blt e.on i with
      | false => rw [hlt, cond_false] at h; cases h
      | true =>
        rw [hlt, cond_true] at h
        have hlt' : e.on < i := by simpa [Nat.blt_eq] using hlt
        split at h
        · rename_i q r hq hr
          cases h
          obtain ⟨h1, h2⟩ := predsOf_ok es r hr
          refine ⟨fun e' he' hb' => ?_, fun j hj => ?_⟩
          · rcases List.mem_cons.1 he' with rfl | hm
            · exact hlt'
            · exact h1 e' hm hb'
          · have hj' : ((q ||| 2 ^ e.on) ||| r).testBit j = true := hj
            simp only [Nat.testBit_or, Bool.or_eq_true, Nat.testBit_two_pow, decide_eq_true_eq] at hj'
            rcases hj' with (hj' | hj') | hj'
            · exact ⟨e, by simp, hb, hlt', .inr ⟨q, hq, hj'⟩⟩
            · exact ⟨e, by simp, hb, hlt', .inl hj'.symm⟩
            · obtain ⟨e', hm, r⟩ := h2 j hj'
              exact ⟨e', List.mem_cons_of_mem _ hm, r⟩
        · cases h

/-- What a list of preds says of the operations ahead. -/
def PSpec (ops : Array Oper) (ps : List Nat) : Prop :=
  ∀ i o p, ops[i]? = some o → ps[i]? = some p → (∀ e ∈ o.after.toList, Region.binds .any e = true → e.on < i) ∧
    ∀ j, p.testBit j = true → j < i ∧ ∃ e ∈ o.after.toList, Region.binds .any e = true ∧ (j = e.on ∨ ∃ q, ps[e.on]? = some q ∧ q.testBit j = true)

theorem planF_ok {ops : Array Oper} : ∀ (l : List Oper) (ps ps' : List Nat), planF l ps = some ps' → (∀ i, l[i]? = ops[ps.length + i]?) → PSpec ops ps → PSpec ops ps' ∧ ps'.length = ps.length + l.length
  | [], ps, ps', h, _, hs => by
    simp only [planF] at h; cases h
    exact ⟨hs, by simp⟩
  | o :: l, ps, ps', h, hl, hs => by
    simp only [planF] at h
    split at h
    · rename_i p hp
      obtain ⟨h1, h2⟩ := predsOf_ok _ _ hp
      have ho : ops[ps.length]? = some o := by have := hl 0; simpa using this.symm
      have hlen : (ps ++ [p]).length = ps.length + 1 := by simp
      have hs' : PSpec ops (ps ++ [p]) := by
        intro i o' p' ho' hp'
        by_cases hi : i < ps.length
        · rw [List.getElem?_append_left hi] at hp'
          obtain ⟨a, b⟩ := hs i o' p' ho' hp'
          refine ⟨a, fun j hj => ?_⟩
          obtain ⟨c, e, he, hb, hc⟩ := b j hj
          refine ⟨c, e, he, hb, hc.imp id ?_⟩
          rintro ⟨q, hq, hqj⟩
          exact ⟨q, by rw [List.getElem?_append_left (by have := a e he hb; omega)]; exact hq, hqj⟩
        · have hi' : i = ps.length := by
            have := (List.getElem?_eq_some_iff.1 hp').1
            rw [hlen] at this; omega
          subst hi'
          rw [ho] at ho'; cases ho'
          rw [List.getElem?_append_right (Nat.le_refl _)] at hp'
          simp at hp'; subst hp'
          refine ⟨h1, fun j hj => ?_⟩
          obtain ⟨e, he, hb, hlt, hc⟩ := h2 j hj
          have hjlt : j < ps.length := by
            rcases hc with rfl | ⟨q, hq, hqj⟩
            · exact hlt
            · have hoe : ∃ oe, ops[e.on]? = some oe := by
                have : ps.length < ops.size := (Array.getElem?_eq_some_iff.1 ho).1
                exact ⟨_, Array.getElem?_eq_getElem (by omega)⟩
              obtain ⟨oe, hoe⟩ := hoe
              have := ((hs e.on oe q hoe hq).2 j hqj).1
              omega
          refine ⟨hjlt, e, he, hb, hc.imp id ?_⟩
          rintro ⟨q, hq, hqj⟩
          exact ⟨q, by rw [List.getElem?_append_left hlt]; exact hq, hqj⟩
      obtain ⟨a, b⟩ := planF_ok l (ps ++ [p]) ps' h (fun i => by
        rw [hlen]
        have := hl (i + 1)
        rw [List.getElem?_cons_succ] at this
        rw [this]; congr 1; omega) hs'
      exact ⟨a, by rw [b, hlen, List.length_cons]; omega⟩
    · cases h

theorem apartAll_ok {X : Cx} {ops : Array Oper} {y : Oper} {p : Nat} {fy : Bool} : ∀ (l : List Oper) (j : Nat), apartAll X ops y p fy l j = true → ∀ m x, l[m]? = some x → p.testBit (j + m) = true ∨ apartA X ops x y fy = true
  | [], _, _, m, x, hx => by simp at hx
  | z :: l, j, h, m, x, hx => by
    simp only [apartAll, Bool.and_eq_true, Bool.or_eq_true] at h
    cases m with
    | zero => simp at hx; subst hx; exact h.1
    | succ m =>
      have := apartAll_ok l (j + 1) h.2 m x (by simpa using hx)
      rw [show j + (m + 1) = j + 1 + m by omega]; exact this

theorem planOk_ok {X : Cx} {ops : Array Oper} {F : Nat} : ∀ (l : List Oper) (ps : List Nat) (i : Nat), planOk X ops F l ps i = true → l.length = ps.length ∧
    ∀ m o p, l[m]? = some o → ps[m]? = some p → apartAll X ops o p (F.testBit (i + m)) (ops.toList.take (i + m)) 0 = true ∧ X.kind o.op ≠ .bad ∧ (F.testBit (i + m) = true → X.kind o.op = .alloc)
  | [], [], _, _ => ⟨rfl, fun m o p h => by simp at h⟩
  | [], _ :: _, _, h => by simp [planOk] at h
  | _ :: _, [], _, h => by simp [planOk] at h
  | o :: l, p :: ps, i, h => by
    simp only [planOk, Bool.and_eq_true, decide_eq_true_eq] at h
    obtain ⟨a, b⟩ := planOk_ok l ps (i + 1) h.2
    refine ⟨by simp [a], fun m o' p' ho hp => ?_⟩
    cases m with
    | zero =>
      simp at ho hp; subst ho hp
      refine ⟨h.1.1.1, h.1.1.2, fun hF => ?_⟩
      have hal := h.1.2
      rw [Nat.add_zero] at hF
      rw [hF] at hal
      simp only [Bool.not_true, Bool.false_or] at hal
      unfold isAl at hal
      split at hal
      · assumption
      · cases hal
    | succ m =>
      have := b m o' p' (by simpa using ho) (by simpa using hp)
      rw [show i + (m + 1) = i + 1 + m by omega]; exact this

/-- A region's plan. -/
structure PlanOk (X : Cx) (ops : Array Oper) (ps : List Nat) (F : Nat) : Prop where
  len : ps.length = ops.size
  spec : PSpec ops ps
  apart : ∀ (i j : Nat) (x y : Oper) (p : Nat), j < i → ops[j]? = some x → ops[i]? = some y → ps[i]? = some p → p.testBit j = true ∨ apartA X ops x y (F.testBit i) = true
  kind : ∀ (i : Nat) (o : Oper), ops[i]? = some o → X.kind o.op ≠ .bad
  flo : ∀ (i : Nat) (o : Oper), ops[i]? = some o → F.testBit i = true → X.kind o.op = .alloc

theorem planAt_ok {X : Cx} {ops : Array Oper} {qs ps : List Nat} {F G : Nat} (hq : planF ops.toList [] = some qs) (h : planAt X ops qs G = some (ps, F)) : PlanOk X ops ps F := by
  unfold planAt at h
  cases hb : planOk X ops G ops.toList qs 0 with
  | false => rw [hb, cond_false] at h; cases h
  | true =>
    rw [hb, cond_true] at h; cases h
    obtain ⟨a, b⟩ := planF_ok (ops := ops) _ _ _ hq (fun i => by simp) (fun i o p _ hp => by simp at hp)
    obtain ⟨c, d⟩ := planOk_ok _ _ _ hb
    have hp : ∀ (i : Nat) (o : Oper), ops[i]? = some o → ∃ p : Nat, qs[i]? = some p := by
      intro i o ho
      have hi := (Array.getElem?_eq_some_iff.1 ho).1
      exact ⟨_, List.getElem?_eq_getElem (by rw [← c]; simpa using hi)⟩
    refine ⟨by rw [← c]; simp, a, fun i j x y p hji hx hy hp => ?_, fun i o ho => ?_, fun i o ho hF => ?_⟩
    · have := (d i y p (by simpa using hy) hp).1
      have hx' : (ops.toList.take (0 + i))[j]? = some x := by
        rw [Nat.zero_add, List.getElem?_take_of_lt hji]; simpa using hx
      have r := apartAll_ok _ _ this j x hx'
      simpa using r
    · obtain ⟨p, hp⟩ := hp i o ho
      exact (d i o p (by simpa using ho) hp).2.1
    · obtain ⟨p, hp⟩ := hp i o ho
      exact (d i o p (by simpa using ho) hp).2.2 (by simpa using hF)

theorem plan_ok {X : Cx} {ops : Array Oper} {ps : List Nat} {F : Nat} (h : plan X ops = some (ps, F)) : PlanOk X ops ps F := by
  unfold plan at h
  split at h
  · rename_i qs hq
    split at h <;> exact planAt_ok hq h
  · cases h

end Go.Ev
