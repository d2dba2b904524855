/-
  The run of a region in the order of the text, step by step, and what it says.
-/
import Derived.Test.YtjjgdnelkkmdcaaGreatDoorEvStepC
set_option linter.all false
namespace Go.Ev

section
variable {X : Cx} {call : Callf} {n : Nat} {ops : Array Oper} {F : Nat} {fs : List Nat} {c0 : Nat}

/-- The states of the run in the order of the text. -/
theorem trace_of : ∀ (r : List Oper) (ps : List Nat) (i : Nat) (s d : DSt), evDraw X call n ops F fs c0 r ps i s = some d →
    ∃ (f : Nat → DSt) (v : Nat → Value), f i = s ∧ f (i + r.length) = d ∧
      ∀ m, m < r.length → ∃ o p, r[m]? = some o ∧ ps[m]? = some p ∧ stepD X call n ops F fs c0 o p (i + m) (f (i + m)) = some (v (i + m), f (i + m + 1))
  | [], [], i, s, d, h => by
    simp only [evDraw] at h; cases h
    exact ⟨fun _ => s, fun _ => undef, rfl, rfl, fun m hm => by simp at hm⟩
  | [], _ :: _, i, s, d, h => by simp [evDraw] at h
  | _ :: _, [], i, s, d, h => by simp [evDraw] at h
  | o :: r, p :: ps, i, s, d, h => by
    simp only [evDraw] at h
    split at h
    · rename_i u s' hs
      obtain ⟨f, v, h1, h2, h3⟩ := trace_of r ps (i + 1) s' d h
      refine ⟨fun j => if j = i then s else f j, fun j => if j = i then u else v j, by simp, ?_, fun m hm => ?_⟩
      · show (if i + (o :: r).length = i then s else f (i + (o :: r).length)) = d
        rw [if_neg (by rw [List.length_cons]; omega), ← h2]
        congr 1
        rw [List.length_cons]; omega
      · cases m with
        | zero =>
          refine ⟨o, p, rfl, rfl, ?_⟩
          show stepD X call n ops F fs c0 o p i (if i = i then s else f i) = some (if i = i then u else v i, if i + 1 = i then s else f (i + 1))
          rw [if_pos rfl, if_pos rfl, if_neg (by omega), h1]; exact hs
        | succ m =>
          obtain ⟨o', p', a, b, c⟩ := h3 m (by simpa using hm)
          refine ⟨o', p', by simpa using a, by simpa using b, ?_⟩
          show stepD X call n ops F fs c0 o' p' (i + (m + 1)) (if i + (m + 1) = i then s else f (i + (m + 1))) = some (if i + (m + 1) = i then u else v (i + (m + 1)), if i + (m + 1) + 1 = i then s else f (i + (m + 1) + 1))
          rw [if_neg (by omega), if_neg (by omega), if_neg (by omega), show i + (m + 1) = i + 1 + m by omega]
          exact c
    · cases h

/-- What a step of that run is. -/
inductive StepIs (X : Cx) (call : Callf) (ops : Array Oper) (F : Nat) (fs : List Nat) (c0 : Nat) (o : Oper) (p i : Nat) (s s' : DSt) (v : Value) : Prop where
  | skip (h : wantedA ops s.env o = some false) (hv : v = undefA) (hH : s'.H = s.H) (hc : s'.c = s.c) (hw : s'.ws = s.ws) (he : s'.es = s.es) (hr : s'.rs = s.rs)
  | read (h : wantedA ops s.env o = some true) (hk : X.kind o.op = .read) (hv : evVal X (evE X ops o s.env) o.op (strip c0 p fs s.H) = some v) (hH : s'.H = s.H) (hc : s'.c = s.c) (hw : s'.ws = s.ws) (he : s'.es = s.es)
      (hr : s'.rs = ⟨i, p, fun H => evVal X (evE X ops o s.env) o.op (strip c0 p fs H), v, s.ws.length⟩ :: s.rs)
  | pure (h : wantedA ops s.env o = some true) (hk : X.kind o.op = .pure) (hv : evPure X (evE X ops o s.env) o.op = some v) (hH : s'.H = s.H) (hc : s'.c = s.c) (hw : s'.ws = s.ws) (he : s'.es = s.es) (hr : s'.rs = s.rs)
  | flt (ob : AObj) (mk : Nat → Value) (h : wantedA ops s.env o = some true) (hF : F.testBit i = true) (hv : evAlloc X (evE X ops o s.env) o.op = some (ob, mk)) (hvv : v = mk (c0 + i)) (hlt : c0 + i < 90000000000000)
      (hH : s'.H = s.H.set (c0 + i) ob) (hc : s'.c = s.c) (hw : s'.ws = s.ws) (he : s'.es = s.es) (hr : s'.rs = s.rs)
  | mem (h : wantedA ops s.env o = some true) (hk : memK (X.kind o.op) = true) (hF : F.testBit i = false) (hv : evOper X call (evE X ops o s.env) o.op (c0 + i) s.H s.c = some (v, s'.H, s'.c)) (hw : s'.ws = i :: s.ws)
      (he : s'.es = (s.ws.length, s.H) :: s.es) (hr : s'.rs = s.rs)

theorem stepD_is {o : Oper} {p i : Nat} {s s' : DSt} {v : Value} (hb : X.kind o.op ≠ .bad) (h : stepD X call n ops F fs c0 o p i s = some (v, s')) :
    putE n s.env o.dst v = some s'.env ∧ StepIs X call ops F fs c0 o p i s s' v := by
  unfold stepD at h
  split at h
  · cases h
  · rename_i hw
    split at h
    · rename_i env hp
      cases h
      exact ⟨hp, .skip hw rfl rfl rfl rfl rfl rfl⟩
    · cases h
  · rename_i hw
    split at h
    · rename_i hk
      split at h
      · rename_i u hu
        split at h
        · rename_i env hp
          cases h
          exact ⟨hp, .read hw hk hu rfl rfl rfl rfl rfl⟩
        · cases h
      · cases h
    · rename_i kd hk
      cases hF : F.testBit i with
      | true =>
        rw [hF, cond_true] at h
        split at h
        · rename_i ob mk hal
          cases hlt : Nat.blt (c0 + i) 90000000000000 with
          | false => rw [hlt, cond_false] at h; cases h
          | true =>
            rw [hlt, cond_true] at h
            split at h
            · rename_i env hp
              cases h
              exact ⟨hp, .flt ob mk hw hF hal rfl (by simpa [Nat.blt_eq] using hlt) rfl rfl rfl rfl rfl⟩
            · cases h
        · cases h
      | false =>
        rw [hF, cond_false] at h
        split at h
        · rename_i u H c hu
          split at h
          · rename_i env hp
            cases hm : memK (X.kind o.op) with
            | true =>
              rw [hm, cond_true] at h
              cases h
              exact ⟨hp, .mem hw hm hF hu rfl rfl rfl⟩
            | false =>
              rw [hm, cond_false] at h
              cases h
              have hpure : X.kind o.op = .pure := by
                cases hkk : X.kind o.op <;> simp [memK, hkk] at hm hb hk ⊢
              unfold evOper at hu
              rw [hpure] at hu
              simp only [Option.map_eq_some_iff] at hu
              obtain ⟨q, hq, he⟩ := hu
              cases he
              exact ⟨hp, .pure hw hpure hq rfl rfl rfl rfl rfl⟩
          · cases h
        · cases h

/-- The run in the order of the text, as facts. -/
structure Text (X : Cx) (call : Callf) (n : Nat) (ops : Array Oper) (ps : List Nat) (F : Nat) (fs : List Nat) (c0 : Nat) (f : Nat → DSt) (v : Nat → Value) : Prop where
  step : ∀ i o p, ops[i]? = some o → ps[i]? = some p → putE n (f i).env o.dst (v i) = some (f (i + 1)).env ∧ StepIs X call ops F fs c0 o p i (f i) (f (i + 1)) (v i)

/-- A float of the run, and the object that it makes. -/
def Flo (ops : Array Oper) (F c0 : Nat) (f : Nat → DSt) (m : Nat) (ob : AObj) : Prop :=
  F.testBit m = true ∧ (∃ o, ops[m]? = some o ∧ wantedA ops (f m).env o = some true) ∧ c0 + m < 90000000000000 ∧ (f (m + 1)).H = (f m).H.set (c0 + m) ob

variable {ps : List Nat} {f : Nat → DSt} {v : Nat → Value} (T : Text X call n ops ps F fs c0 f v) (hp : PlanOk X ops ps F) (h0 : (f 0).ws = [] ∧ (f 0).es = [] ∧ (f 0).rs = [])

theorem Flo.eq {m : Nat} {a b : AObj} (h : Flo ops F c0 f m a) (k : Flo ops F c0 f m b) : a = b := by
  obtain ⟨_, _, hl, h⟩ := h
  obtain ⟨_, _, _, k⟩ := k
  have e1 : (f (m + 1)).H.get (c0 + m) = some a := by rw [h, Tr.set, Tr.get_put_eq _ _ _ _ hl, if_pos rfl]
  have e2 : (f (m + 1)).H.get (c0 + m) = some b := by rw [k, Tr.set, Tr.get_put_eq _ _ _ _ hl, if_pos rfl]
  rw [e1] at e2; cases e2; rfl

include T hp

theorem Text.at {i : Nat} (hi : i < ops.size) : ∃ o p, ops[i]? = some o ∧ ps[i]? = some p ∧ putE n (f i).env o.dst (v i) = some (f (i + 1)).env ∧ StepIs X call ops F fs c0 o p i (f i) (f (i + 1)) (v i) := by
  have ho : ops[i]? = some ops[i] := Array.getElem?_eq_getElem hi
  have hi' : i < ps.length := by rw [hp.len]; exact hi
  have hpp : ps[i]? = some ps[i] := List.getElem?_eq_getElem hi'
  exact ⟨_, _, ho, hpp, T.step i _ _ ho hpp⟩

theorem Text.ws_step {i : Nat} (hi : i < ops.size) : ((f (i + 1)).ws = (f i).ws ∧ (f (i + 1)).c = (f i).c ∧ ∀ n o, (f (i + 1)).H.get n = some o → (f i).H.get n = some o ∨ (n = c0 + i ∧ Flo ops F c0 f i o)) ∨ (f (i + 1)).ws = i :: (f i).ws := by
  obtain ⟨o, p, ho, _, _, hs⟩ := T.at hp hi
  cases hs with
  | skip _ _ hH hc hw _ _ => exact .inl ⟨hw, hc, fun n o h => .inl (hH ▸ h)⟩
  | read _ _ _ hH hc hw _ _ => exact .inl ⟨hw, hc, fun n o h => .inl (hH ▸ h)⟩
  | pure _ _ _ hH hc hw _ _ => exact .inl ⟨hw, hc, fun n o h => .inl (hH ▸ h)⟩
  | flt ob mk hwa hF _ _ hlt hH hc hw _ _ =>
    refine .inl ⟨hw, hc, fun n o' h => ?_⟩
    rw [hH] at h
    rcases Tr.get_put h with ⟨a, b⟩ | ⟨_, b⟩
    · cases b; exact .inr ⟨a, hF, ⟨o, ho, hwa⟩, hlt, hH⟩
    · exact .inl b
  | mem _ _ _ _ hw _ _ => exact .inr hw

theorem Text.ws_len {i j : Nat} (hij : i ≤ j) (hj : j ≤ ops.size) : (f i).ws.length ≤ (f j).ws.length ∧ ((f i).ws.length = (f j).ws.length → (f i).ws = (f j).ws ∧ (f i).c = (f j).c ∧
    ∀ n o, (f j).H.get n = some o → (f i).H.get n = some o ∨ ∃ m, i ≤ m ∧ m < j ∧ n = c0 + m ∧ Flo ops F c0 f m o) := by
  induction j with
  | zero =>
    have : i = 0 := by omega
    subst this
    exact ⟨Nat.le_refl _, fun _ => ⟨rfl, rfl, fun _ _ h => .inl h⟩⟩
  | succ j ih =>
    by_cases e : i = j + 1
    · subst e; exact ⟨Nat.le_refl _, fun _ => ⟨rfl, rfl, fun _ _ h => .inl h⟩⟩
    · obtain ⟨a, b⟩ := ih (by omega) (by omega)
      rcases T.ws_step hp (show j < ops.size by omega) with ⟨h1, h2, h3⟩ | h1
      · rw [h1, h2]
        refine ⟨a, fun hl => ?_⟩
        obtain ⟨b1, b2, b3⟩ := b hl
        refine ⟨b1, b2, fun n o h => ?_⟩
        rcases h3 n o h with g | ⟨g1, g2⟩
        · rcases b3 n o g with g | ⟨m, m1, m2, m3, m4⟩
          · exact .inl g
          · exact .inr ⟨m, m1, by omega, m3, m4⟩
        · exact .inr ⟨j, by omega, by omega, g1, g2⟩
      · rw [h1, List.length_cons]
        exact ⟨by omega, fun h => by omega⟩

/-- The places of operations on memory: those ahead of i. -/
theorem Text.ws_mem {i : Nat} (h00 : (f 0).ws = []) (hi : i ≤ ops.size) : ∀ x, x ∈ (f i).ws ↔ x < i ∧ (f (x + 1)).ws = x :: (f x).ws := by
  induction i with
  | zero => intro x; rw [h00]; simp
  | succ i ih =>
    intro x
    have ih' := ih (by omega) x
    rcases T.ws_step hp (show i < ops.size by omega) with ⟨h1, _, _⟩ | h1
    · rw [h1, ih']
      constructor
      · rintro ⟨a, b⟩; exact ⟨by omega, b⟩
      · rintro ⟨a, b⟩
        refine ⟨?_, b⟩
        rcases Nat.lt_or_ge x i with q | q
        · exact q
        · have : x = i := by omega
          subst this
          rw [h1] at b
          have := congrArg List.length b
          simp at this
    · rw [h1, List.mem_cons, ih']
      constructor
      · rintro (rfl | ⟨a, b⟩)
        · exact ⟨by omega, h1⟩
        · exact ⟨by omega, b⟩
      · rintro ⟨a, b⟩
        rcases Nat.lt_or_ge x i with q | q
        · exact .inr ⟨q, b⟩
        · exact .inl (by omega)

theorem Text.es_mem {i : Nat} (hi : i ≤ ops.size) : ∀ x, x < i → (f (x + 1)).ws = x :: (f x).ws → ((f x).ws.length, (f x).H) ∈ (f i).es := by
  induction i with
  | zero => intro x hx; omega
  | succ i ih =>
    intro x hx hw
    obtain ⟨o, p, _, _, _, hs⟩ := T.at hp (show i < ops.size by omega)
    have old : (f (i + 1)).es = (f i).es ∨ (f (i + 1)).es = ((f i).ws.length, (f i).H) :: (f i).es := by
      cases hs with
      | skip _ _ _ _ _ he _ => exact .inl he
      | read _ _ _ _ _ _ he _ => exact .inl he
      | pure _ _ _ _ _ _ he _ => exact .inl he
      | flt _ _ _ _ _ _ _ _ _ _ he _ => exact .inl he
      | mem _ _ _ _ _ he _ => exact .inr he
    by_cases e : x = i
    · subst e
      have hmem : (f (x + 1)).es = ((f x).ws.length, (f x).H) :: (f x).es := by
        cases hs with
        | skip _ _ _ _ hw' _ _ => rw [hw'] at hw; have := congrArg List.length hw; simp at this
        | read _ _ _ _ _ hw' _ _ => rw [hw'] at hw; have := congrArg List.length hw; simp at this
        | pure _ _ _ _ _ hw' _ _ => rw [hw'] at hw; have := congrArg List.length hw; simp at this
        | flt _ _ _ _ _ _ _ _ _ hw' _ _ => rw [hw'] at hw; have := congrArg List.length hw; simp at this
        | mem _ _ _ _ _ he _ => exact he
      rw [hmem]; simp
    · have := ih (by omega) x (by omega) hw
      rcases old with h | h <;> rw [h]
      · exact this
      · exact List.mem_cons_of_mem _ this

/-- At each level there is a place. -/
theorem Text.level {i k : Nat} (h00 : (f 0).ws = []) (hi : i ≤ ops.size) (hk : k < (f i).ws.length) : ∃ x, x < i ∧ (f (x + 1)).ws = x :: (f x).ws ∧ (f x).ws.length = k := by
  induction i with
  | zero => rw [h00] at hk; simp at hk
  | succ i ih =>
    rcases T.ws_step hp (show i < ops.size by omega) with ⟨h1, _, _⟩ | h1
    · rw [h1] at hk
      obtain ⟨x, a, b, c⟩ := ih (by omega) hk
      exact ⟨x, by omega, b, c⟩
    · rw [h1, List.length_cons] at hk
      by_cases e : k = (f i).ws.length
      · exact ⟨i, by omega, h1, e.symm⟩
      · obtain ⟨x, a, b, c⟩ := ih (by omega) (by omega)
        exact ⟨x, by omega, b, c⟩

theorem Text.rs_mem {i x : Nat} (hi : i ≤ ops.size) (hx : x < i) {r : Rd} (hr : r ∈ (f (x + 1)).rs) : r ∈ (f i).rs := by
  induction i with
  | zero => omega
  | succ i ih =>
    by_cases e : x = i
    · subst e; exact hr
    · have := ih (by omega) (by omega)
      obtain ⟨o, p, _, _, _, hs⟩ := T.at hp (show i < ops.size by omega)
      cases hs with
      | skip _ _ _ _ _ _ h => rw [h]; exact this
      | read _ _ _ _ _ _ _ h => rw [h]; exact List.mem_cons_of_mem _ this
      | pure _ _ _ _ _ _ _ h => rw [h]; exact this
      | flt _ _ _ _ _ _ _ _ _ _ _ h => rw [h]; exact this
      | mem _ _ _ _ _ _ h => rw [h]; exact this

theorem putE_get {n : Nat} {env env' : Env} {dst : Option Tmp} {u : Value} (h : putE n env dst u = some env') {t : Nat} {x : Value} (hx : env'.get t = some x) :
    (dst = some t ∧ x = u) ∨ (dst ≠ some t ∧ env.get t = some x) := by
  unfold putE at h
  split at h
  · cases h; exact .inr ⟨by simp, hx⟩
  · rename_i d
    cases hb : Nat.blt d n with
    | false => rw [hb, cond_false] at h; cases h
    | true =>
      rw [hb, cond_true] at h; cases h
      rcases Tr.get_put hx with ⟨a, b⟩ | ⟨a, b⟩
      · cases b; exact .inl ⟨by rw [a], rfl⟩
      · exact .inr ⟨fun e => a (by cases e; rfl), b⟩

/-- A slot at a place of the text: what the last operation ahead gave it, or what it was. -/
theorem Text.slot {i t : Nat} (hi : i ≤ ops.size) {u : Value} (hu : (f i).env.get t = some u) :
    (∃ j o, j < i ∧ ops[j]? = some o ∧ o.dst = some t ∧ u = v j ∧ ∀ j' o', j < j' → j' < i → ops[j']? = some o' → o'.dst ≠ some t) ∨
    ((f 0).env.get t = some u ∧ ∀ j o, j < i → ops[j]? = some o → o.dst ≠ some t) := by
  induction i generalizing u with
  | zero => exact .inr ⟨hu, fun j o h => by omega⟩
  | succ i ih =>
    obtain ⟨o, p, ho, _, hpe, _⟩ := T.at hp (show i < ops.size by omega)
    rcases putE_get T hp hpe hu with ⟨a, b⟩ | ⟨a, b⟩
    · exact .inl ⟨i, o, by omega, ho, a, b, fun j' o' h1 h2 => by omega⟩
    · rcases ih (by omega) b with ⟨j, o', h1, h2, h3, h4, h5⟩ | ⟨h1, h2⟩
      · refine .inl ⟨j, o', by omega, h2, h3, h4, fun j' o'' q1 q2 q3 => ?_⟩
        by_cases e : j' = i
        · subst e; rw [ho] at q3; cases q3; exact a
        · exact h5 j' o'' q1 (by omega) q3
      · refine .inr ⟨h1, fun j o' q1 q2 => ?_⟩
        by_cases e : j = i
        · subst e; rw [ho] at q2; cases q2; exact a
        · exact h2 j o' (by omega) q2

end
end Go.Ev
