/-
  A region that draws its order: one operation, whichever comes next.
-/
import Derived.Test.YtjjgdnelkkmdcaaGreatDoorEvStepD
import Derived.Test.YtjjgdnelkkmdcaaGreatDoorEvFrm
set_option linter.all false
namespace Go.Ev

theorem countP_mono {f g : Nat → Bool} : ∀ (l : List Nat), (∀ x ∈ l, f x = true → g x = true) → countP f l ≤ countP g l
  | [], _ => Nat.le_refl _
  | x :: l, h => by
    have ih := countP_mono (f := f) (g := g) l (fun y hy => h y (List.mem_cons_of_mem _ hy))
    simp only [countP]
    cases hf : f x with
    | false => cases g x <;> simp <;> omega
    | true => rw [h x (by simp) hf]; simp only [cond_true]; omega
theorem countP_congr {f g : Nat → Bool} (l : List Nat) (h : ∀ x ∈ l, f x = g x) : countP f l = countP g l :=
  Nat.le_antisymm (countP_mono l fun x hx hf => by rw [← h x hx]; exact hf) (countP_mono l fun x hx hf => by rw [h x hx]; exact hf)
theorem countP_all {f : Nat → Bool} : ∀ (l : List Nat), (∀ x ∈ l, f x = true) → countP f l = l.length
  | [], _ => rfl
  | x :: l, h => by
    simp only [countP, h x (by simp), cond_true, List.length_cons]
    rw [countP_all l (fun y hy => h y (List.mem_cons_of_mem _ hy))]

section
variable {X : Cx} {call : Callf} {n : Nat} {ops : Array Oper} {F : Nat} {fs : List Nat} {c0 : Nat} {ps : List Nat} {f : Nat → DSt} {v : Nat → Value}

theorem Text.count (T : Text X call n ops ps F fs c0 f v) (hp : PlanOk X ops ps F) (h00 : (f 0).ws = []) {S : Nat → Bool} {i : Nat} (hi : i ≤ ops.size) (hS : ∀ x ∈ (f ops.size).ws, (S x = true ↔ x < i)) :
    countP S (f ops.size).ws = (f i).ws.length := by
  have key : ∀ d j, j = i + d → j ≤ ops.size → countP S (f j).ws = (f i).ws.length := by
    intro d
    induction d with
    | zero =>
      intro j hj hjN
      have hji : j = i := by omega
      subst hji
      refine countP_all _ fun x hx => ?_
      have hx' := (T.ws_mem hp h00 hjN x).1 hx
      exact (hS x ((T.ws_mem hp h00 (Nat.le_refl _) x).2 ⟨by omega, hx'.2⟩)).2 hx'.1
    | succ d ih =>
      intro j hj hjN
      obtain ⟨j, rfl⟩ : ∃ m, j = m + 1 := ⟨j - 1, by omega⟩
      have ih' := ih j (by omega) (by omega)
      rcases T.ws_step hp (show j < ops.size by omega) with ⟨h1, _, _⟩ | h1
      · rw [h1]; exact ih'
      · rw [h1]
        simp only [countP]
        have hSj : S j = false := by
          cases hc : S j with
          | false => rfl
          | true =>
            have := (hS j ((T.ws_mem hp h00 (Nat.le_refl _) j).2 ⟨by omega, h1⟩)).1 hc
            omega
        rw [hSj, cond_false]; exact ih'
  exact key (ops.size - i) ops.size (by omega) (Nat.le_refl _)

/-- The names when the operations of S are done, those on memory that are no floats being just those ahead of q: the heap there, and the floats behind that are done. -/
def Names (ops : Array Oper) (F c0 : Nat) (f : Nat → DSt) (S : Nat → Bool) (q : Nat) (n : Nat) (o : AObj) : Prop :=
  (f q).H.get n = some o ∨ ∃ m, q ≤ m ∧ n = c0 + m ∧ S m = true ∧ Flo ops F c0 f m o

/-- How far the operations on memory are. -/
structure Level (ops : Array Oper) (F : Nat) (c0 : Nat) (f : Nat → DSt) (ρ0 : Rn) (w0 : World) (S : Nat → Bool) (ρ : Rn) (w : World) (q : Nat) : Prop where
  le : q ≤ ops.size
  len : (f q).ws.length = countP S (f ops.size).ws
  last : q = 0 ∨ ∃ x, q = x + 1 ∧ (f (x + 1)).ws = x :: (f x).ws ∧ S x = true
  go : GoesR ρ0 (f 0).H w0 ρ (Names ops F c0 f S q) w
  below : ρ.Below (f q).c
  room : c0 + ops.size ≤ (f q).c
  dis : ∀ m o, q ≤ m → S m = true → Flo ops F c0 f m o → (f q).H.get (c0 + m) = none

/-- What holds when the operations of S are done. -/
structure Inv (X : Cx) (n : Nat) (ops : Array Oper) (ps : List Nat) (F : Nat) (c0 : Nat) (f : Nat → DSt) (v : Nat → Value) (ρ0 : Rn) (w0 : World) (S : Nat → Bool) (ρ : Rn) (tmps : Array Value) (w : World) : Prop where
  closed : ∀ (i : Nat) (p : Nat) (j : Nat), S i = true → ps[i]? = some p → p.testBit j = true → S j = true
  inn : ∀ i, S i = true → i < ops.size
  size : tmps.size = n
  envA : ∀ t u, (∀ (j : Nat) (o : Oper), S j = true → ops[j]? = some o → o.dst ≠ some t) → (f 0).env.get t = some u → ∃ u', tmps[t]? = some u' ∧ VRel ρ u u'
  envB : ∀ (j : Nat) (o : Oper) t, S j = true → ops[j]? = some o → o.dst = some t → (∀ (j' : Nat) (o' : Oper), j < j' → S j' = true → ops[j']? = some o' → o'.dst ≠ some t) → t < n →
    ∃ u', tmps[t]? = some u' ∧ VRel ρ (v j) u'
  lvl : ∃ q, Level ops F c0 f ρ0 w0 S ρ w q
  fresh : ∀ j, j < ops.size → S j = false → ρ (c0 + j) = none
  old : ∀ m, m < c0 → ρ m = ρ0 m

variable (T : Text X call n ops ps F fs c0 f v) (hp : PlanOk X ops ps F) (h0 : (f 0).ws = [] ∧ (f 0).es = [] ∧ (f 0).rs = [])
  (hrd : ∀ r ∈ (f ops.size).rs, ∀ E ∈ ((f ops.size).ws.length, (f ops.size).H) :: (f ops.size).es, rdOk (f ops.size).ws ps r E = true)
include T hp h0

/-- The slots that an operation looks at. -/
theorem Inv.looks {ρ0 ρ : Rn} {w0 w : World} {S : Nat → Bool} {tmps : Array Value} (I : Inv X n ops ps F c0 f v ρ0 w0 S ρ tmps w) {i p : Nat} {o : Oper} (ho : ops[i]? = some o) (hpi : ps[i]? = some p)
    (hready : ∀ j, p.testBit j = true → S j = true) (hno : S i = false) {t : Tmp} (ht : t ∈ o.looksAt ops) {u : Value} (hu : (f i).env.get t = some u) : ∃ u', tmps[t]? = some u' ∧ VRel ρ u u' := by
  have hi : i < ops.size := (Array.getElem?_eq_some_iff.1 ho).1
  -- a writer of the slot that is done stands ahead in the text
  have done_lt : ∀ j oj, S j = true → ops[j]? = some oj → oj.dst = some t → j < i := by
    intro j oj hj hoj hd
    rcases Nat.lt_trichotomy j i with q | q | q
    · exact q
    · subst q; rw [hno] at hj; cases hj
    · have hpj : ∃ pj : Nat, ps[j]? = some pj := ⟨_, List.getElem?_eq_getElem (by rw [hp.len]; exact I.inn j hj)⟩
      obtain ⟨pj, hpj⟩ := hpj
      rcases hp.apart j i o oj pj q ho hoj hpj with h | h
      · have := I.closed j pj i hj hpj h
        rw [hno] at this; cases this
      · unfold apartA at h
        rw [Bool.and_eq_true] at h
        obtain ⟨_, _, h3⟩ := Oper.apart_spec h.1
        exact absurd ht (h3 t hd)
  -- a writer ahead in the text is done
  have lt_done : ∀ j oj, j < i → ops[j]? = some oj → oj.dst = some t → S j = true := by
    intro j oj hj hoj hd
    rcases hp.apart i j oj o p hj hoj ho hpi with h | h
    · exact hready j h
    · unfold apartA at h
      rw [Bool.and_eq_true] at h
      obtain ⟨h1, _, _⟩ := Oper.apart_spec h.1
      exact absurd ht (h1 t hd)
  rcases T.slot hp (Nat.le_of_lt hi) hu with ⟨j, oj, h1, h2, h3, h4, h5⟩ | ⟨h1, h2⟩
  · have hj := lt_done j oj h1 h2 h3
    rw [h4]
    refine I.envB j oj t hj h2 h3 (fun j' o' q1 q2 q3 q4 => h5 j' o' q1 (done_lt j' o' q2 q3 q4) q3 q4) ?_
    -- the slot is one of the frame's
    obtain ⟨oj', pj, hoj, _, hpe, _⟩ := T.at hp (show j < ops.size by omega)
    rw [h2] at hoj; cases hoj
    unfold putE at hpe
    rw [h3] at hpe
    simp only at hpe
    cases hb : Nat.blt t n with
    | false => rw [hb, cond_false] at hpe; cases hpe
    | true => simpa [Nat.blt_eq] using hb
  · exact I.envA t u (fun j oj q1 q2 q3 => h2 j oj (done_lt j oj q1 q2 q3) q2 q3) h1

/-- The slots behind an operation. -/
theorem Inv.put {ρ0 ρ ρ' : Rn} {w0 w : World} {S : Nat → Bool} {tmps : Array Value} (I : Inv X n ops ps F c0 f v ρ0 w0 S ρ tmps w) {i p : Nat} {o : Oper} (ho : ops[i]? = some o) (hpi : ps[i]? = some p)
    (hready : ∀ j, p.testBit j = true → S j = true) (hno : S i = false) (hx : ρ.Ext ρ') {v' : Value} (hv : VRel ρ' (v i) v') :
    (putT tmps o.dst v').size = n ∧
    (∀ t u, (∀ (j : Nat) (oj : Oper), (S j || decide (j = i)) = true → ops[j]? = some oj → oj.dst ≠ some t) → (f 0).env.get t = some u → ∃ u', (putT tmps o.dst v')[t]? = some u' ∧ VRel ρ' u u') ∧
    (∀ (j : Nat) (oj : Oper) t, (S j || decide (j = i)) = true → ops[j]? = some oj → oj.dst = some t → (∀ (j' : Nat) (o' : Oper), j < j' → (S j' || decide (j' = i)) = true → ops[j']? = some o' → o'.dst ≠ some t) → t < n →
      ∃ u', (putT tmps o.dst v')[t]? = some u' ∧ VRel ρ' (v j) u') := by
  have hi : i < ops.size := (Array.getElem?_eq_some_iff.1 ho).1
  have other : ∀ t, o.dst ≠ some t → (putT tmps o.dst v')[t]? = tmps[t]? := by
    intro t ht
    unfold putT
    split
    · rename_i d hd
      rw [Array.getElem?_setIfInBounds_ne (fun e => ht (by rw [hd, e]))]
    · rfl
  refine ⟨?_, ?_, ?_⟩
  · unfold putT; split <;> simp [I.size]
  · intro t u hn hu
    have hne : o.dst ≠ some t := hn i o (by simp) ho
    rw [other t hne]
    obtain ⟨u', h1, h2⟩ := I.envA t u (fun j oj hj => hn j oj (by simp [hj])) hu
    exact ⟨u', h1, h2.mono hx⟩
  · intro j oj t hj hoj hd hmax htn
    by_cases e : j = i
    · subst e
      rw [ho] at hoj; cases hoj
      refine ⟨v', ?_, hv⟩
      unfold putT
      rw [hd]
      simp only
      rw [Array.getElem?_setIfInBounds_self_of_lt (by rw [I.size]; exact htn)]
    · have hSj : S j = true := by simpa [e] using hj
      have hne : o.dst ≠ some t := by
        intro hc
        rcases Nat.lt_or_ge j i with q | q
        · exact hmax i o q (by simp) ho hc
        · have hlt : i < j := by omega
          have hpj : ∃ pj : Nat, ps[j]? = some pj := ⟨_, List.getElem?_eq_getElem (by rw [hp.len]; exact I.inn j hSj)⟩
          obtain ⟨pj, hpj⟩ := hpj
          rcases hp.apart j i o oj pj hlt ho hoj hpj with h | h
          · have := I.closed j pj i hSj hpj h
            rw [hno] at this; cases this
          · unfold apartA at h
            rw [Bool.and_eq_true] at h
            obtain ⟨_, h2, _⟩ := Oper.apart_spec h.1
            exact h2 t hc hd
      rw [other t hne]
      obtain ⟨u', h1, h2⟩ := I.envB j oj t hSj hoj hd (fun j' o' q1 q2 q3 => hmax j' o' q1 (by simp [q2]) q3) htn
      exact ⟨u', h1, h2.mono hx⟩

end
end Go.Ev
