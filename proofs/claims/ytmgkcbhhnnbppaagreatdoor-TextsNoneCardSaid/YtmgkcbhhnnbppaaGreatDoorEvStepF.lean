/-
  A region that draws its order: an operation that is ready, done.
-/
import Derived.Test.YtmgkcbhhnnbppaaGreatDoorEvStepE
set_option linter.all false
namespace Go.Ev

theorem evO_rest {X : Cx} {ρ : Rn} {env : Env} {fr : Frame} (hg : GRel X ρ) {x : Operand} (hx : ∀ t, x ≠ .tmp t) {u : Value} (h : evO X env x = some u) : VRel ρ u (fr.eval x) := by
  have he : EnvRel ρ fr.tmps.size .nil fr.tmps := ⟨rfl, fun t v hv => by cases hv⟩
  cases x with
  | tmp t => exact absurd rfl (hx t)
  | const c => exact evO_ok (X := X) he hg (.const c) u h
  | global g => exact evO_ok (X := X) he hg (.global g) u h
  | func g => exact evO_ok (X := X) he hg (.func g) u h

theorem evE_ok {X : Cx} {ρ : Rn} {ops : Array Oper} {o : Oper} {env : Env} {fr : Frame} (hg : GRel X ρ) (h : ∀ t ∈ o.looksAt ops, ∀ u, env.get t = some u → ∃ u', fr.tmps[t]? = some u' ∧ VRel ρ u u') :
    OpRel ρ (evE X ops o env) fr.eval := by
  intro x u hx
  unfold evE at hx
  split at hx
  · rename_i t
    cases hb : (o.looksAt ops).elem t with
    | false => rw [hb, cond_false] at hx; cases hx
    | true =>
      rw [hb, cond_true] at hx
      obtain ⟨u', h1, h2⟩ := h t (List.elem_iff.1 hb) u hx
      show VRel ρ u (fr.tmps.getD t undef)
      rw [Array.getD_eq_getD_getElem?, h1]; exact h2
  · rename_i hne
    exact evO_rest hg (fun t e => hne t e) hx

theorem wanted_ok' {ρ : Rn} {env : Env} {tmps : Array Value} {ops : Array Oper} {o : Oper} (he : ∀ t ∈ o.looksAt ops, ∀ u, env.get t = some u → ∃ u', tmps[t]? = some u' ∧ VRel ρ u u') {b : Bool}
    (h : wantedA ops env o = some b) : Region.wanted o (yielded ops tmps) = b := by
  unfold wantedA at h
  unfold Region.wanted
  split at h
  · rename_i hg; cases h; rw [hg]
  · rename_i j b' hg
    rw [hg]
    simp only
    unfold yielded
    split at h
    · rename_i hd; cases h; rw [hd]; rfl
    · rename_i d hd
      rw [hd]
      simp only [Option.bind_some]
      have hin : d ∈ o.looksAt ops := by
        unfold Oper.looksAt
        rw [hg]
        simp [hd]
      split at h
      · rename_i c hv
        cases h
        obtain ⟨v', hv', hr⟩ := he d hin _ hv
        rw [hv', hr.unbool]
        cases c <;> cases b' <;> rfl
      · rename_i c hv
        cases h
        obtain ⟨v', hv', hr⟩ := he d hin _ hv
        obtain ⟨c', rfl, _⟩ := hr.untup
        rw [hv']; rfl
      · cases h

theorem nodefer {X : Cx} {o : Oper} (h : X.kind o.op ≠ .bad) : ∀ c, o.op ≠ .defer c := fun c hc => h (by rw [hc]; rfl)

section
variable {X : Cx} {call : Callf} {n : Nat} {ops : Array Oper} {c0 : Nat} {ps : List Nat} {f : Nat → DSt} {v : Nat → Value}
variable (T : Text X call n ops ps c0 f v) (hp : PlanOk X ops ps) (h0 : (f 0).ws = [] ∧ (f 0).es = [] ∧ (f 0).rs = [])
include T hp h0

theorem Text.isMem {x : Nat} (hx : x ∈ (f ops.size).ws) : ∃ o, ops[x]? = some o ∧ memK (X.kind o.op) = true := by
  obtain ⟨h1, h2⟩ := (T.ws_mem hp h0.1 (Nat.le_refl _) x).1 hx
  obtain ⟨o, p, ho, _, _, hs⟩ := T.at hp h1
  have no : (f (x + 1)).ws = (f x).ws → False := fun h => by
    rw [h] at h2; have := congrArg List.length h2; simp at this
  refine ⟨o, ho, ?_⟩
  cases hs with
  | skip _ _ _ _ hw _ _ => exact (no hw).elim
  | read _ _ _ _ _ hw _ _ => exact (no hw).elim
  | pure _ _ _ _ _ hw _ _ => exact (no hw).elim
  | mem _ hk _ _ _ _ => exact hk

variable {ρ0 ρ : Rn} {w0 w : World} {S : Nat → Bool} {tmps : Array Value}

theorem Inv.mem_iff (I : Inv X n ops ps c0 f v ρ0 w0 S ρ tmps w) {i p : Nat} {o : Oper} (ho : ops[i]? = some o) (hpi : ps[i]? = some p)
    (hready : ∀ j, p.testBit j = true → S j = true) (hno : S i = false) (hk : memK (X.kind o.op) = true) : ∀ x ∈ (f ops.size).ws, (S x = true ↔ x < i) := by
  intro x hx
  obtain ⟨ox, hox, hkx⟩ := T.isMem hp h0 hx
  constructor
  · intro hSx
    rcases Nat.lt_trichotomy x i with q | q | q
    · exact q
    · subst q; rw [hno] at hSx; cases hSx
    · obtain ⟨px, hpx⟩ : ∃ px : Nat, ps[x]? = some px := ⟨_, List.getElem?_eq_getElem (by rw [hp.len]; exact I.inn x hSx)⟩
      rcases hp.apart x i o ox px q ho hox hpx with h | h
      · have := I.closed x px i hSx hpx h
        rw [hno] at this; cases this
      · unfold apartA at h
        rw [hk, hkx] at h
        simp at h
  · intro hlt
    rcases hp.apart i x ox o p hlt hox ho hpi with h | h
    · exact hready x h
    · unfold apartA at h
      rw [hk, hkx] at h
      simp at h

theorem Inv.level (I : Inv X n ops ps c0 f v ρ0 w0 S ρ tmps w) {i : Nat} (hi : i ≤ ops.size) (hq : (f i).ws.length = countP S (f ops.size).ws) :
    WRel ρ (f i).H w ∧ ρ.Below (f i).c ∧ c0 + ops.size ≤ (f i).c ∧ Goes ρ0 (f 0).H w0 ρ (f i).H w := by
  obtain ⟨q, h1, h2, h3, h4, h5, h6⟩ := I.lvl
  have heq : (f q).H = (f i).H ∧ (f q).c = (f i).c := by
    rcases Nat.le_total q i with h | h
    · exact ((T.ws_len hp h hi).2 (by rw [h2, hq])).2
    · have := ((T.ws_len hp h h1).2 (by rw [h2, hq])).2
      exact ⟨this.1.symm, this.2.symm⟩
  rw [← heq.1, ← heq.2]
  exact ⟨h3, h4, h5, h6⟩

theorem Inv.next (I : Inv X n ops ps c0 f v ρ0 w0 S ρ tmps w) {i p : Nat} {o : Oper} (ho : ops[i]? = some o) (hpi : ps[i]? = some p)
    (hready : ∀ j, p.testBit j = true → S j = true) (hno : S i = false) {ρ' : Rn} {v' : Value} {w' : World} (hx : ρ.Ext ρ') (hv : VRel ρ' (v i) v')
    (hl : ∃ q, q ≤ ops.size ∧ (f q).ws.length = countP (fun j => S j || decide (j = i)) (f ops.size).ws ∧ WRel ρ' (f q).H w' ∧ ρ'.Below (f q).c ∧ c0 + ops.size ≤ (f q).c ∧ Goes ρ0 (f 0).H w0 ρ' (f q).H w')
    (hne : ∀ m, m < c0 + ops.size → m ≠ c0 + i → ρ' m = ρ m) :
    Inv X n ops ps c0 f v ρ0 w0 (fun j => S j || decide (j = i)) ρ' (putT tmps o.dst v') w' := by
  have hi : i < ops.size := (Array.getElem?_eq_some_iff.1 ho).1
  obtain ⟨a, b, c⟩ := I.put T hp h0 ho hpi hready hno hx hv
  refine ⟨fun j pj x hj hpj hb => ?_, fun j hj => ?_, a, b, c, hl, fun j hj hS => ?_, fun m hm => ?_⟩
  · simp only [Bool.or_eq_true, decide_eq_true_eq] at hj ⊢
    rcases hj with hj | rfl
    · exact .inl (I.closed j pj x hj hpj hb)
    · rw [hpi] at hpj; cases hpj
      exact .inl (hready x hb)
  · simp only [Bool.or_eq_true, decide_eq_true_eq] at hj
    rcases hj with hj | rfl
    · exact I.inn j hj
    · exact hi
  · simp only [Bool.or_eq_false_iff, decide_eq_false_iff_not] at hS
    rw [hne _ (by omega) (by omega)]
    exact I.fresh j hj hS.1
  · rw [hne m (by omega) (by omega)]
    exact I.old m hm

variable (hrd : ∀ r ∈ (f ops.size).rs, ∀ E ∈ ((f ops.size).ws.length, (f ops.size).H) :: (f ops.size).es, rdOk (f ops.size).ws ps r E = true)

theorem Inv.entry (I : Inv X n ops ps c0 f v ρ0 w0 S ρ tmps w) {q : Nat} (hq : q ≤ ops.size) : ((f q).ws.length, (f q).H) ∈ ((f ops.size).ws.length, (f ops.size).H) :: (f ops.size).es := by
  obtain ⟨a, b⟩ := T.ws_len hp hq (Nat.le_refl _)
  by_cases e : (f q).ws.length = (f ops.size).ws.length
  · rw [e, (b e).2.1]; simp
  · obtain ⟨x, h1, h2, h3⟩ := T.level hp h0.1 (Nat.le_refl _) (show (f q).ws.length < (f ops.size).ws.length by omega)
    have hin := T.es_mem hp (Nat.le_refl _) x h1 h2
    have hH : (f x).H = (f q).H := by
      rcases Nat.le_total x q with h | h
      · exact ((T.ws_len hp h hq).2 h3).2.1
      · exact ((T.ws_len hp h (Nat.le_of_lt h1)).2 h3.symm).2.1.symm
    rw [← h3, ← hH]
    exact List.mem_cons_of_mem _ hin

include hrd
theorem Inv.step (ok : X.Ok) (hcs : CallSound X call) (I : Inv X n ops ps c0 f v ρ0 w0 S ρ tmps w) (hg : GRel X ρ) {i p : Nat} {o : Oper} (ho : ops[i]? = some o) (hpi : ps[i]? = some p)
    (hready : ∀ j, p.testBit j = true → S j = true) (hno : S i = false) {fr : Frame} {cs : List Frame} {k : List Item} {rest : List Nat} (hm : fr.mode = .run)
    (ht : fr.todo = .inRegion ops (i :: rest) :: k) (htm : fr.tmps = tmps) :
    ∃ ρ' tmps' w', Steps X.P (lone fr cs w) (lone { fr with tmps := tmps', todo := .inRegion ops rest :: k } cs w') ∧
      Inv X n ops ps c0 f v ρ0 w0 (fun j => S j || decide (j = i)) ρ' tmps' w' ∧ ρ.Ext ρ' := by
  subst htm
  have hi : i < ops.size := (Array.getElem?_eq_some_iff.1 ho).1
  have hlk : ∀ t ∈ o.looksAt ops, ∀ u, (f i).env.get t = some u → ∃ u', fr.tmps[t]? = some u' ∧ VRel ρ u u' := fun t ht u hu => I.looks T hp h0 ho hpi hready hno ht hu
  have hop : OpRel ρ (evE X ops o (f i).env) fr.eval := evE_ok hg hlk
  obtain ⟨o', p', ho', hpi', hpe, hs⟩ := T.at hp hi
  rw [ho] at ho'; cases ho'
  rw [hpi] at hpi'; cases hpi'
  -- an operation that is none on memory: how many have been stays
  have same : (f (i + 1)).ws = (f i).ws → countP (fun j => S j || decide (j = i)) (f ops.size).ws = countP S (f ops.size).ws := by
    intro hw
    refine countP_congr _ fun x hx => ?_
    have hxi : x ≠ i := by
      rintro rfl
      have := ((T.ws_mem hp h0.1 (Nat.le_refl _) x).1 hx).2
      rw [hw] at this
      have := congrArg List.length this
      simp at this
    simp [hxi]
  have stay : (f (i + 1)).ws = (f i).ws → ∃ q, q ≤ ops.size ∧ (f q).ws.length = countP (fun j => S j || decide (j = i)) (f ops.size).ws ∧ WRel ρ (f q).H w ∧ ρ.Below (f q).c ∧ c0 + ops.size ≤ (f q).c ∧ Goes ρ0 (f 0).H w0 ρ (f q).H w := by
    intro hw
    rw [same hw]; exact I.lvl
  cases hs with
  | skip hwa hv hH hc hw he hr =>
    have hwt := wanted_ok' hlk hwa
    have hund : VRel ρ (v i) undef := by rw [hv]; exact .tupA ⟨rfl, fun i x y h => by simp at h⟩
    exact ⟨ρ, _, w, .one (stp_opSkip hm ht ho hwt), I.next T hp h0 ho hpi hready hno (.refl ρ) hund (stay hw) fun _ _ _ => rfl, .refl ρ⟩
  | pure hwa hk hv hH hc hw he hr =>
    have hwt := wanted_ok' hlk hwa
    obtain ⟨v', hgv, hvr⟩ := evPure_ok ok hop hv w
    exact ⟨ρ, _, w, .one (stp_opValue hm (nodefer (by rw [hk]; decide)) ht ho hwt hgv (.inl rfl)), I.next T hp h0 ho hpi hready hno (.refl ρ) hvr (stay hw) fun _ _ _ => rfl, .refl ρ⟩
  | read hwa hk hv hH hc hw he hr =>
    have hwt := wanted_ok' hlk hwa
    obtain ⟨q, h1, h2, h3, h4, h5, h6⟩ := I.lvl
    have hval : evVal X (evE X ops o (f i).env) o.op (f q).H = some (v i) := by
      have hin : (⟨i, p, evVal X (evE X ops o (f i).env) o.op, v i, (f i).ws.length⟩ : Rd) ∈ (f ops.size).rs := T.rs_mem hp (Nat.le_refl _) hi (by rw [hr]; simp)
      have := hrd _ hin _ (I.entry T hp h0 h1)
      unfold rdOk at this
      simp only [Bool.or_eq_true] at this
      rcases this with ((hd | hd) | hd) | hd
      · have e : (f q).ws.length = (f i).ws.length := Nat.eq_of_beq_eq_true hd
        have hHq : (f q).H = (f i).H := by
          rcases Nat.le_total q i with h | h
          · exact ((T.ws_len hp h (Nat.le_of_lt hi)).2 e).2.1
          · exact ((T.ws_len hp h h1).2 e.symm).2.1.symm
        rw [hHq]; exact hv
      · have hlt : (f q).ws.length < countP (fun x => p.testBit x) (f ops.size).ws := by simpa [Nat.blt_eq] using hd
        have := countP_mono (f := fun x => p.testBit x) (g := S) (f ops.size).ws (fun x _ hx => hready x hx)
        omega
      · have hlt : countP (fun x => !((ps[x]?).getD 0).testBit i) (f ops.size).ws < (f q).ws.length := by simpa [Nat.blt_eq] using hd
        have := countP_mono (f := S) (g := fun x => !((ps[x]?).getD 0).testBit i) (f ops.size).ws (fun x _ hx => by
          obtain ⟨px, hpx⟩ : ∃ px : Nat, ps[x]? = some px := ⟨_, List.getElem?_eq_getElem (by rw [hp.len]; exact I.inn x hx)⟩
          rw [hpx]
          simp only [Option.getD_some, Bool.not_eq_true', ← Bool.not_eq_true]
          intro hb
          have := I.closed x px i hx hpx hb
          rw [hno] at this; cases this)
        omega
      · split at hd
        · rename_i u hu
          rw [hu, vEq_eq _ _ _ hd]
        · cases hd
    have hgv := evVal_ok ok hop hg h3 hval
    obtain ⟨v', hgv, hvr⟩ := hgv
    exact ⟨ρ, _, w, .one (stp_opValue hm (nodefer (by rw [hk]; decide)) ht ho hwt hgv (.inl rfl)), I.next T hp h0 ho hpi hready hno (.refl ρ) hvr (stay hw) fun _ _ _ => rfl, .refl ρ⟩
  | mem hwa hk hv hw he hr =>
    have hwt := wanted_ok' hlk hwa
    have hiff := I.mem_iff T hp h0 ho hpi hready hno hk
    have hcnt := T.count hp h0.1 (Nat.le_of_lt hi) hiff
    obtain ⟨h3, h4, h5, h6⟩ := I.level T hp h0 (Nat.le_of_lt hi) hcnt.symm
    obtain ⟨ρ', v', w', hst, hvr, hgo, hb', hcc, hne⟩ := oper_ok ok hcs (cs := cs) hv hop h3 h4 (by omega) (I.fresh i hi hno) hg hm ht ho hwt
    refine ⟨ρ', _, w', hst, I.next T hp h0 ho hpi hready hno hgo.ext hvr ⟨i + 1, hi, ?_, hgo.rel, hb', by omega, h6.trans hgo⟩ (fun m hm' hmne => hne m (by omega) hmne), hgo.ext⟩
    refine (T.count hp h0.1 hi fun x hx => ?_).symm
    simp only [Bool.or_eq_true, decide_eq_true_eq, hiff x hx]
    omega

end
end Go.Ev
