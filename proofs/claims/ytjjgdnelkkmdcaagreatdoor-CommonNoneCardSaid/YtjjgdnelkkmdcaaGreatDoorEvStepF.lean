/-
  A region that draws its order: an operation that is ready, done.
-/
import Derived.Test.YtjjgdnelkkmdcaaGreatDoorEvStepE
set_option linter.all false
namespace Go.Ev

theorem evO_rest {X : Cx} {ρ : Rn} {env : Env} {fr : Frame} (hg : GRel X ρ) {x : Operand} (hx : ∀ t, x ≠ .tmp t) {u : Value} (h : evO X env x = some u) : VRel ρ u (fr.eval x) := by
  have he : EnvRel ρ fr.tmps.size .nil fr.tmps := ⟨rfl, fun t v hv => by cases hv⟩
  cases x with
  | tmp t => exact absurd rfl (hx t)
  | const c => exact evO_ok (X := X) he hg (.const c) u h
  | global g => exact evO_ok (X := X) he hg (.global g) u h
  | func g => exact evO_ok (X := X) he hg (.func g) u h

theorem evE_ok {X : Cx} {ρ : Rn} {ops : Array Oper} {o : Oper} {env : Env} {fr : Frame} (hg : GRel X ρ) (h : ∀ t ∈ o.looksAt ops, ∀ u, env.get t = some u → ∃ u', fr.tmps[t]? = some u' ∧ VRel ρ u u') :
    OpRel ρ (evE X ops o env) fr.eval := by
  intro x u hx
  unfold evE at hx
  split at hx
  · rename_i t
    cases hb : (o.looksAt ops).elem t with
    | false => rw [hb, cond_false] at hx; cases hx
    | true =>
      rw [hb, cond_true] at hx
      obtain ⟨u', h1, h2⟩ := h t (List.elem_iff.1 hb) u hx
      show VRel ρ u (fr.tmps.getD t undef)
      rw [Array.getD_eq_getD_getElem?, h1]; exact h2
  · rename_i hne
    exact evO_rest hg (fun t e => hne t e) hx

theorem wanted_ok' {ρ : Rn} {env : Env} {tmps : Array Value} {ops : Array Oper} {o : Oper} (he : ∀ t ∈ o.looksAt ops, ∀ u, env.get t = some u → ∃ u', tmps[t]? = some u' ∧ VRel ρ u u') {b : Bool}
    (h : wantedA ops env o = some b) : Region.wanted o (yielded ops tmps) = b := by
  unfold wantedA at h
  unfold Region.wanted
  split at h
  · rename_i hg; cases h; rw [hg]
  · rename_i j b' hg
    rw [hg]
    simp only
    unfold yielded
    split at h
    · rename_i hd; cases h; rw [hd]; rfl
    · rename_i d hd
      rw [hd]
      simp only [Option.bind_some]
      have hin : d ∈ o.looksAt ops := by
        unfold Oper.looksAt
        rw [hg]
        simp [hd]
      split at h
      · rename_i c hv
        cases h
        obtain ⟨v', hv', hr⟩ := he d hin _ hv
        rw [hv', hr.unbool]
        cases c <;> cases b' <;> rfl
      · rename_i c hv
        cases h
        obtain ⟨v', hv', hr⟩ := he d hin _ hv
        obtain ⟨c', rfl, _⟩ := hr.untup
        rw [hv']; rfl
      · cases h

theorem nodefer {X : Cx} {o : Oper} (h : X.kind o.op ≠ .bad) : ∀ c, o.op ≠ .defer c := fun c hc => h (by rw [hc]; rfl)

theorem strip_get {c0 p : Nat} : ∀ (l : List Nat) (H : Heap) (n : Nat) (o : AObj), (strip c0 p l H).get n = some o → H.get n = some o ∧ ∀ j ∈ l, p.testBit j = false → n ≠ c0 + j
  | [], H, n, o, h => ⟨h, fun j hj => by simp at hj⟩
  | j :: l, H, n, o, h => by
    obtain ⟨a, b⟩ := strip_get l _ n o h
    cases hp : p.testBit j with
    | true =>
      rw [hp, cond_true] at a
      refine ⟨a, fun j' hj' hp' => ?_⟩
      rcases List.mem_cons.1 hj' with rfl | hm
      · rw [hp] at hp'; cases hp'
      · exact b j' hm hp'
    | false =>
      rw [hp, cond_false] at a
      rcases Tr.get_put a with ⟨_, c⟩ | ⟨c, d⟩
      · cases c
      · refine ⟨d, fun j' hj' hp' => ?_⟩
        rcases List.mem_cons.1 hj' with rfl | hm
        · exact c
        · exact b j' hm hp'

theorem floatsOf_mem {F N m : Nat} (h : F.testBit m = true) (hm : m < N) : m ∈ floatsOf F N := by
  unfold floatsOf
  cases hb : Nat.beq F 0 with
  | true =>
    have : F = 0 := Nat.eq_of_beq_eq_true hb
    subst this
    simp at h
  | false =>
    rw [cond_false, List.mem_filter]
    exact ⟨List.mem_range.2 hm, h⟩

section
variable {X : Cx} {call : Callf} {n : Nat} {ops : Array Oper} {F : Nat} {fs : List Nat} {c0 : Nat} {ps : List Nat} {f : Nat → DSt} {v : Nat → Value}
variable (T : Text X call n ops ps F fs c0 f v) (hp : PlanOk X ops ps F) (h0 : (f 0).ws = [] ∧ (f 0).es = [] ∧ (f 0).rs = [])
include T hp h0

theorem Text.isMem {x : Nat} (hx : x ∈ (f ops.size).ws) : ∃ o, ops[x]? = some o ∧ memK (X.kind o.op) = true ∧ F.testBit x = false := by
  obtain ⟨h1, h2⟩ := (T.ws_mem hp h0.1 (Nat.le_refl _) x).1 hx
  obtain ⟨o, p, ho, _, _, hs⟩ := T.at hp h1
  have no : (f (x + 1)).ws = (f x).ws → False := fun h => by
    rw [h] at h2; have := congrArg List.length h2; simp at this
  cases hs with
  | skip _ _ _ _ hw _ _ => exact (no hw).elim
  | read _ _ _ _ _ hw _ _ => exact (no hw).elim
  | pure _ _ _ _ _ hw _ _ => exact (no hw).elim
  | flt _ _ _ _ _ _ _ _ _ hw _ _ => exact (no hw).elim
  | mem _ hk hF _ _ _ _ => exact ⟨o, ho, hk, hF⟩

variable {ρ0 ρ : Rn} {w0 w : World} {S : Nat → Bool} {tmps : Array Value}

theorem Inv.mem_iff (I : Inv X n ops ps F c0 f v ρ0 w0 S ρ tmps w) {i p : Nat} {o : Oper} (ho : ops[i]? = some o) (hpi : ps[i]? = some p)
    (hready : ∀ j, p.testBit j = true → S j = true) (hno : S i = false) (hk : memK (X.kind o.op) = true) (hF : F.testBit i = false) : ∀ x ∈ (f ops.size).ws, (S x = true ↔ x < i) := by
  intro x hx
  obtain ⟨ox, hox, hkx, hFx⟩ := T.isMem hp h0 hx
  constructor
  · intro hSx
    rcases Nat.lt_trichotomy x i with q | q | q
    · exact q
    · subst q; rw [hno] at hSx; cases hSx
    · obtain ⟨px, hpx⟩ : ∃ px : Nat, ps[x]? = some px := ⟨_, List.getElem?_eq_getElem (by rw [hp.len]; exact I.inn x hSx)⟩
      rcases hp.apart x i o ox px q ho hox hpx with h | h
      · have := I.closed x px i hSx hpx h
        rw [hno] at this; cases this
      · unfold apartA at h
        rw [hk, hkx, hFx] at h
        simp at h
  · intro hlt
    rcases hp.apart i x ox o p hlt hox ho hpi with h | h
    · exact hready x h
    · unfold apartA at h
      rw [hk, hkx, hF] at h
      simp at h

/-- A float that is not done stands behind. -/
theorem Inv.float_ge (I : Inv X n ops ps F c0 f v ρ0 w0 S ρ tmps w) {q : Nat} (L : Level ops F c0 f ρ0 w0 S ρ w q) {i : Nat} {o : Oper} (ho : ops[i]? = some o) (hno : S i = false) (hF : F.testBit i = true) : q ≤ i := by
  rcases L.last with rfl | ⟨x, rfl, hx, hSx⟩
  · exact Nat.zero_le _
  · have hx1 : x < ops.size := I.inn x hSx
    have hin : x ∈ (f ops.size).ws := (T.ws_mem hp h0.1 (Nat.le_refl _) x).2 ⟨hx1, hx⟩
    obtain ⟨ox, hox, hkx, hFx⟩ := T.isMem hp h0 hin
    rcases Nat.lt_trichotomy i x with c | c | c
    · exfalso
      obtain ⟨px, hpx⟩ : ∃ px : Nat, ps[x]? = some px := ⟨_, List.getElem?_eq_getElem (by rw [hp.len]; exact hx1)⟩
      rcases hp.apart x i o ox px c ho hox hpx with h | h
      · have := I.closed x px i hSx hpx h
        rw [hno] at this; cases this
      · unfold apartA at h
        rw [hkx, hFx, hp.flo i o ho hF] at h
        simp [memK] at h
    · subst c; rw [hno] at hSx; cases hSx
    · omega

/-- A part of a heap of the text, at the level that is reached: names that are there. -/
theorem Level.names {q : Nat} (L : Level ops F c0 f ρ0 w0 S ρ w q) {i : Nat} (hi : i ≤ ops.size) (hlen : (f i).ws.length = (f q).ws.length) {n : Nat} {o : AObj} (hn : (f i).H.get n = some o)
    (hd : ∀ m, q ≤ m → m < i → n = c0 + m → Flo ops F c0 f m o → S m = true) : Names ops F c0 f S q n o := by
  rcases Nat.lt_or_ge i q with c | c
  · exfalso
    rcases L.last with rfl | ⟨x, rfl, hx, _⟩
    · omega
    · have h1 := (T.ws_len hp (show i ≤ x by omega) (by have := L.le; omega)).1
      rw [hx, List.length_cons] at hlen
      omega
  · rcases ((T.ws_len hp c hi).2 hlen.symm).2.2 n o hn with h | ⟨m, m1, m2, m3, m4⟩
    · exact .inl h
    · exact .inr ⟨m, m1, m3, hd m m1 m2 m3 m4, m4⟩

omit T hp h0 in
/-- An operation that is none on memory: the level stays. -/
theorem Level.stay {q : Nat} (L : Level ops F c0 f ρ0 w0 S ρ w q) {i : Nat} (hnf : ∀ o, ¬ Flo ops F c0 f i o) (hc : countP (fun j => S j || decide (j = i)) (f ops.size).ws = countP S (f ops.size).ws) :
    Level ops F c0 f ρ0 w0 (fun j => S j || decide (j = i)) ρ w q where
  le := L.le
  len := by rw [hc]; exact L.len
  last := L.last.imp id fun ⟨x, a, b, c⟩ => ⟨x, a, b, by simp [c]⟩
  go := L.go.sub fun n o h => by
    rcases h with h | ⟨m, m1, m2, m3, m4⟩
    · exact .inl h
    · refine .inr ⟨m, m1, m2, ?_, m4⟩
      simp only [Bool.or_eq_true, decide_eq_true_eq] at m3
      rcases m3 with h | rfl
      · exact h
      · exact (hnf o m4).elim
  below := L.below
  room := L.room
  dis := fun m o m1 m2 m3 => by
    simp only [Bool.or_eq_true, decide_eq_true_eq] at m2
    rcases m2 with h | rfl
    · exact L.dis m o m1 h m3
    · exact (hnf o m3).elim

theorem Inv.next (I : Inv X n ops ps F c0 f v ρ0 w0 S ρ tmps w) {i p : Nat} {o : Oper} (ho : ops[i]? = some o) (hpi : ps[i]? = some p)
    (hready : ∀ j, p.testBit j = true → S j = true) (hno : S i = false) {ρ' : Rn} {v' : Value} {w' : World} (hx : ρ.Ext ρ') (hv : VRel ρ' (v i) v')
    (hl : ∃ q, Level ops F c0 f ρ0 w0 (fun j => S j || decide (j = i)) ρ' w' q)
    (hne : ∀ m, m < c0 + ops.size → m ≠ c0 + i → ρ' m = ρ m) :
    Inv X n ops ps F c0 f v ρ0 w0 (fun j => S j || decide (j = i)) ρ' (putT tmps o.dst v') w' := by
  have hi : i < ops.size := (Array.getElem?_eq_some_iff.1 ho).1
  obtain ⟨a, b, c⟩ := I.put T hp h0 ho hpi hready hno hx hv
  refine ⟨fun j pj x hj hpj hb => ?_, fun j hj => ?_, a, b, c, hl, fun j hj hS => ?_, fun m hm => ?_⟩
  · simp only [Bool.or_eq_true, decide_eq_true_eq] at hj ⊢
    rcases hj with hj | rfl
    · exact .inl (I.closed j pj x hj hpj hb)
    · rw [hpi] at hpj; cases hpj
      exact .inl (hready x hb)
  · simp only [Bool.or_eq_true, decide_eq_true_eq] at hj
    rcases hj with hj | rfl
    · exact I.inn j hj
    · exact hi
  · simp only [Bool.or_eq_false_iff, decide_eq_false_iff_not] at hS
    rw [hne _ (by omega) (by omega)]
    exact I.fresh j hj hS.1
  · rw [hne m (by omega) (by omega)]
    exact I.old m hm

variable (hrd : ∀ r ∈ (f ops.size).rs, ∀ E ∈ ((f ops.size).ws.length, (f ops.size).H) :: (f ops.size).es, rdOk (f ops.size).ws ps r E = true)

theorem Inv.entry {q : Nat} (hq : q ≤ ops.size) : ∃ x, x ≤ ops.size ∧ (f x).ws.length = (f q).ws.length ∧ ((f x).ws.length, (f x).H) ∈ ((f ops.size).ws.length, (f ops.size).H) :: (f ops.size).es := by
  obtain ⟨a, _⟩ := T.ws_len hp hq (Nat.le_refl _)
  by_cases e : (f q).ws.length = (f ops.size).ws.length
  · exact ⟨ops.size, Nat.le_refl _, e.symm, by simp⟩
  · obtain ⟨x, h1, h2, h3⟩ := T.level hp h0.1 (Nat.le_refl _) (show (f q).ws.length < (f ops.size).ws.length by omega)
    have hin := T.es_mem hp (Nat.le_refl _) x h1 h2
    exact ⟨x, Nat.le_of_lt h1, h3, List.mem_cons_of_mem _ hin⟩

include hrd
theorem Inv.step (ok : X.Ok) (hcs : CallSound X call) (hfs : fs = floatsOf F ops.size) (I : Inv X n ops ps F c0 f v ρ0 w0 S ρ tmps w) (hg : GRel X ρ) {i p : Nat} {o : Oper} (ho : ops[i]? = some o) (hpi : ps[i]? = some p)
    (hready : ∀ j, p.testBit j = true → S j = true) (hno : S i = false) {fr : Frame} {cs : List Frame} {k : List Item} {rest : List Nat} (hm : fr.mode = .run)
    (ht : fr.todo = .inRegion ops (i :: rest) :: k) (htm : fr.tmps = tmps) :
    ∃ ρ' tmps' w', Steps X.P (lone fr cs w) (lone { fr with tmps := tmps', todo := .inRegion ops rest :: k } cs w') ∧
      Inv X n ops ps F c0 f v ρ0 w0 (fun j => S j || decide (j = i)) ρ' tmps' w' ∧ ρ.Ext ρ' := by
  subst htm
  have hi : i < ops.size := (Array.getElem?_eq_some_iff.1 ho).1
  have hlk : ∀ t ∈ o.looksAt ops, ∀ u, (f i).env.get t = some u → ∃ u', fr.tmps[t]? = some u' ∧ VRel ρ u u' := fun t ht u hu => I.looks T hp h0 ho hpi hready hno ht hu
  have hop : OpRel ρ (evE X ops o (f i).env) fr.eval := evE_ok hg hlk
  obtain ⟨o', p', ho', hpi', hpe, hs⟩ := T.at hp hi
  rw [ho] at ho'; cases ho'
  rw [hpi] at hpi'; cases hpi'
  obtain ⟨q, L⟩ := I.lvl
  -- an operation that is none on memory: how many have been stays
  have same : (f (i + 1)).ws = (f i).ws → countP (fun j => S j || decide (j = i)) (f ops.size).ws = countP S (f ops.size).ws := by
    intro hw
    refine countP_congr _ fun x hx => ?_
    have hxi : x ≠ i := by
      rintro rfl
      have := ((T.ws_mem hp h0.1 (Nat.le_refl _) x).1 hx).2
      rw [hw] at this
      have := congrArg List.length this
      simp at this
    simp [hxi]
  have nofl : X.kind o.op ≠ .alloc → ∀ ob, ¬ Flo ops F c0 f i ob := fun hk ob h => hk (hp.flo i o ho h.1)
  cases hs with
  | skip hwa hv hH hc hw he hr =>
    have hwt := wanted_ok' hlk hwa
    have hund : VRel ρ (v i) undef := by rw [hv]; exact .tupA ⟨rfl, fun i x y h => by simp at h⟩
    have hnf : ∀ ob, ¬ Flo ops F c0 f i ob := fun ob h => by
      obtain ⟨_, ⟨o2, ho2, hw2⟩, _⟩ := h
      rw [ho] at ho2; cases ho2
      rw [hwa] at hw2; cases hw2
    exact ⟨ρ, _, w, .one (stp_opSkip hm ht ho hwt), I.next T hp h0 ho hpi hready hno (.refl ρ) hund ⟨q, L.stay hnf (same hw)⟩ fun _ _ _ => rfl, .refl ρ⟩
  | pure hwa hk hv hH hc hw he hr =>
    have hwt := wanted_ok' hlk hwa
    obtain ⟨v', hgv, hvr⟩ := evPure_ok ok hop hv w
    exact ⟨ρ, _, w, .one (stp_opValue hm (nodefer (by rw [hk]; decide)) ht ho hwt hgv (.inl rfl)), I.next T hp h0 ho hpi hready hno (.refl ρ) hvr ⟨q, L.stay (nofl (by rw [hk]; decide)) (same hw)⟩ fun _ _ _ => rfl, .refl ρ⟩
  | read hwa hk hv hH hc hw he hr =>
    have hwt := wanted_ok' hlk hwa
    -- a heap of the text without the floats that need not be done
    have part : ∀ x, x ≤ ops.size → (f x).ws.length = (f q).ws.length → WRel ρ (strip c0 p fs (f x).H) w := by
      intro x hx hlen
      refine L.go.wrel fun n ob hn => ?_
      obtain ⟨g1, g2⟩ := strip_get _ _ _ _ hn
      refine L.names T hp h0 hx hlen g1 fun m _ _ hnm hfl => ?_
      cases hb : p.testBit m with
      | true => exact hready m hb
      | false =>
        obtain ⟨om, hom, _⟩ := hfl.2.1
        exact (g2 m (by rw [hfs]; exact floatsOf_mem hfl.1 (Array.getElem?_eq_some_iff.1 hom).1) hb hnm).elim
    obtain ⟨x, hx, hxl, hent⟩ := Inv.entry T hp h0 L.le
    have hval : ∃ y, y ≤ ops.size ∧ (f y).ws.length = (f q).ws.length ∧ evVal X (evE X ops o (f i).env) o.op (strip c0 p fs (f y).H) = some (v i) := by
      have hin : (⟨i, p, fun H => evVal X (evE X ops o (f i).env) o.op (strip c0 p fs H), v i, (f i).ws.length⟩ : Rd) ∈ (f ops.size).rs := T.rs_mem hp (Nat.le_refl _) hi (by rw [hr]; simp)
      have := hrd _ hin _ hent
      unfold rdOk at this
      simp only [Bool.or_eq_true] at this
      rcases this with ((hd | hd) | hd) | hd
      · have e : (f x).ws.length = (f i).ws.length := Nat.eq_of_beq_eq_true hd
        exact ⟨i, Nat.le_of_lt hi, by rw [← e, hxl], hv⟩
      · have hlt : (f x).ws.length < countP (fun x => p.testBit x) (f ops.size).ws := by simpa [Nat.blt_eq] using hd
        have := countP_mono (f := fun x => p.testBit x) (g := S) (f ops.size).ws (fun x _ hx => hready x hx)
        have := L.len
        omega
      · have hlt : countP (fun x => !((ps[x]?).getD 0).testBit i) (f ops.size).ws < (f x).ws.length := by simpa [Nat.blt_eq] using hd
        have := countP_mono (f := S) (g := fun x => !((ps[x]?).getD 0).testBit i) (f ops.size).ws (fun x _ hx => by
          obtain ⟨px, hpx⟩ : ∃ px : Nat, ps[x]? = some px := ⟨_, List.getElem?_eq_getElem (by rw [hp.len]; exact I.inn x hx)⟩
          rw [hpx]
          simp only [Option.getD_some, Bool.not_eq_true', ← Bool.not_eq_true]
          intro hb
          have := I.closed x px i hx hpx hb
          rw [hno] at this; cases this)
        have := L.len
        omega
      · refine ⟨x, hx, hxl, ?_⟩
        split at hd
        · rename_i u hu
          rw [hu, vEq_eq _ _ _ hd]
        · cases hd
    obtain ⟨y, hy, hyl, hval⟩ := hval
    have hgv := evVal_ok ok hop hg (part y hy hyl) hval
    obtain ⟨v', hgv, hvr⟩ := hgv
    exact ⟨ρ, _, w, .one (stp_opValue hm (nodefer (by rw [hk]; decide)) ht ho hwt hgv (.inl rfl)), I.next T hp h0 ho hpi hready hno (.refl ρ) hvr ⟨q, L.stay (nofl (by rw [hk]; decide)) (same hw)⟩ fun _ _ _ => rfl, .refl ρ⟩
  | flt ob mk hwa hF hal hvv hlt hH hc hw he hr =>
    have hwt := wanted_ok' hlk hwa
    have hk : X.kind o.op = .alloc := hp.flo i o ho hF
    have hqi := I.float_ge T hp h0 L ho hno hF
    have hfresh := I.fresh i hi hno
    have hnil : WRel ρ .nil w := ⟨fun _ _ h => (by cases h), fun _ _ _ _ _ _ h => (by cases h)⟩
    obtain ⟨Lc, v', w', hrun, hgo, hv⟩ := evAlloc_ok ok hop hnil hal (c0 + i) hfresh
    have hfl : Flo ops F c0 f i ob := ⟨hF, ⟨o, ho, hwa⟩, hlt, hH⟩
    have hrelq : ∀ m o', q ≤ m → Flo ops F c0 f m o' → (f q).H.get (c0 + i) = none := by
      intro _ _ _ _
      cases hh : (f q).H.get (c0 + i) with
      | none => rfl
      | some z =>
        obtain ⟨La, _, hLa, _⟩ := L.go.obj _ _ (show Names ops F c0 f S q (c0 + i) z from .inl hh)
        rw [hfresh] at hLa; cases hLa
    refine ⟨ρ.add (c0 + i) Lc, _, w', .one (stp_opValue hm (nodefer (by rw [hk]; decide)) ht ho hwt hrun (.inl rfl)), I.next T hp h0 ho hpi hready hno hgo.ext (by rw [hvv]; exact hv) ⟨q, ?_⟩ (fun m _ hmn => Rn.add_ne hmn), hgo.ext⟩
    refine ⟨L.le, by rw [same hw]; exact L.len, L.last.imp id fun ⟨x, a, b, c⟩ => ⟨x, a, b, by simp [c]⟩, ?_, L.below.add (by have := L.room; omega), L.room, ?_⟩
    · refine L.go.frame (H := .nil) (fun _ _ h => (by cases h)) hgo fun n o' h => ?_
      rcases h with h | ⟨m, m1, m2, m3, m4⟩
      · exact .inr ⟨.inl h, rfl⟩
      · simp only [Bool.or_eq_true, decide_eq_true_eq] at m3
        rcases m3 with h | rfl
        · exact .inr ⟨.inr ⟨m, m1, m2, h, m4⟩, rfl⟩
        · cases m4.eq hfl
          refine .inl ?_
          rw [m2, Tr.set, Tr.get_put_eq _ _ _ _ hlt, if_pos rfl]
    · intro m o' m1 m2 m3
      simp only [Bool.or_eq_true, decide_eq_true_eq] at m2
      rcases m2 with h | rfl
      · exact L.dis m o' m1 h m3
      · exact hrelq m o' m1 m3
  | mem hwa hk hF hv hw he hr =>
    have hwt := wanted_ok' hlk hwa
    have hiff := I.mem_iff T hp h0 ho hpi hready hno hk hF
    have hcnt := T.count hp h0.1 (Nat.le_of_lt hi) hiff
    have hlen : (f i).ws.length = (f q).ws.length := by rw [L.len, hcnt]
    -- every float ahead in the text is done
    have hdone : ∀ m ob, m < i → Flo ops F c0 f m ob → S m = true := by
      intro m ob hmi hfl
      obtain ⟨om, hom, _⟩ := hfl.2.1
      rcases hp.apart i m om o p hmi hom ho hpi with h | h
      · exact hready m h
      · unfold apartA at h
        rw [hk, hF, hp.flo m om hom hfl.1] at h
        simp [memK] at h
    have hsub : ∀ n ob, (f i).H.get n = some ob → Names ops F c0 f S q n ob := fun n ob hn => L.names T hp h0 (Nat.le_of_lt hi) hlen hn fun m _ hmi _ hfl => hdone m ob hmi hfl
    have hqi : q ≤ i := by
      rcases Nat.lt_or_ge i q with c | c
      · exfalso
        rcases L.last with rfl | ⟨x, rfl, hx, _⟩
        · omega
        · have h1 := (T.ws_len hp (show i ≤ x by omega) (by have := L.le; omega)).1
          rw [hx, List.length_cons] at hlen
          omega
      · exact c
    obtain ⟨hwsq, hcq, hHq⟩ := (T.ws_len hp hqi (Nat.le_of_lt hi)).2 hlen.symm
    -- a float behind is no name of the heap here
    have hdis : ∀ m ob, i ≤ m → S m = true → Flo ops F c0 f m ob → (f i).H.get (c0 + m) = none := by
      intro m ob him hS hfl
      cases hh : (f i).H.get (c0 + m) with
      | none => rfl
      | some z =>
        rcases hHq _ _ hh with h | ⟨m', a1, a2, a3, _⟩
        · rw [L.dis m ob (by omega) hS hfl] at h; cases h
        · omega
    have hb : ρ.Below (f i).c := by rw [← hcq]; exact L.below
    have hrm : c0 + ops.size ≤ (f i).c := by rw [← hcq]; exact L.room
    obtain ⟨ρ', v', w', hst, hvr, hgo, hb', hcc, hne⟩ := oper_ok ok hcs (cs := cs) hv hop (L.go.wrel hsub) hb (by omega) (I.fresh i hi hno) hg hm ht ho hwt
    refine ⟨ρ', _, w', hst, I.next T hp h0 ho hpi hready hno hgo.ext hvr ⟨i + 1, hi, ?_, .inr ⟨i, rfl, hw, by simp⟩, ?_, hb', by omega, ?_⟩ (fun m hm' hmne => hne m (by omega) hmne), hgo.ext⟩
    · refine (T.count hp h0.1 hi fun x hx => ?_).symm
      simp only [Bool.or_eq_true, decide_eq_true_eq, hiff x hx]
      omega
    · refine L.go.frame hsub hgo fun n ob h => ?_
      rcases h with h | ⟨m, m1, m2, m3, m4⟩
      · exact .inl h
      · simp only [Bool.or_eq_true, decide_eq_true_eq] at m3
        have hS : S m = true := by
          rcases m3 with h | rfl
          · exact h
          · omega
        exact .inr ⟨.inr ⟨m, by omega, m2, hS, m4⟩, by rw [m2]; exact hdis m ob (by omega) hS m4⟩
    · intro m ob m1 m2 m3
      simp only [Bool.or_eq_true, decide_eq_true_eq] at m2
      have hS : S m = true := by
        rcases m2 with h | rfl
        · exact h
        · omega
      exact L.go.apart hsub hgo (show Names ops F c0 f S q (c0 + m) ob from .inr ⟨m, by omega, rfl, hS, m3⟩) (hdis m ob (by omega) hS m3)

end
end Go.Ev
