/-
  A region that draws its order, whole.
-/
import Derived.Test.YtjjgdnelkkmdcaaGreatDoorEvStepF
set_option linter.all false
namespace Go.Ev

theorem countP_lt {f g : Nat → Bool} : ∀ (l : List Nat), (∀ x ∈ l, f x = true → g x = true) → (∃ x ∈ l, f x = false ∧ g x = true) → countP f l < countP g l
  | [], _, h => by obtain ⟨x, hx, _⟩ := h; simp at hx
  | x :: l, h, hx => by
    have mono := countP_mono (f := f) (g := g) l (fun y hy => h y (List.mem_cons_of_mem _ hy))
    simp only [countP]
    obtain ⟨y, hy, h1, h2⟩ := hx
    rcases List.mem_cons.1 hy with rfl | hy'
    · rw [h1, h2]; simp only [cond_false, cond_true]; omega
    · have ih := countP_lt l (fun y hy => h y (List.mem_cons_of_mem _ hy)) ⟨y, hy', h1, h2⟩
      cases hf : f x with
      | false => cases g x <;> simp <;> omega
      | true => rw [h x (by simp) hf]; simp only [cond_true]; omega
theorem countP_none {f : Nat → Bool} : ∀ (l : List Nat), countP f l = 0 → ∀ x ∈ l, f x = false
  | [], _, x, hx => by simp at hx
  | y :: l, h, x, hx => by
    simp only [countP] at h
    cases hf : f y with
    | true => rw [hf, cond_true] at h; omega
    | false =>
      rw [hf, cond_false] at h
      rcases List.mem_cons.1 hx with rfl | hx'
      · exact hf
      · exact countP_none l h x hx'

section
variable {X : Cx} {call : Callf} {n : Nat} {ops : Array Oper} {F : Nat} {fs : List Nat} {c0 : Nat} {ps : List Nat} {f : Nat → DSt} {v : Nat → Value}
variable (T : Text X call n ops ps F fs c0 f v) (hp : PlanOk X ops ps F) (h0 : (f 0).ws = [] ∧ (f 0).es = [] ∧ (f 0).rs = [])
variable (hrd : ∀ r ∈ (f ops.size).rs, ∀ E ∈ ((f ops.size).ws.length, (f ops.size).H) :: (f ops.size).es, rdOk (f ops.size).ws ps r E = true)

theorem ready_iff {listed : Array Bool} {S : Nat → Bool} (hS : ∀ j, S j = listed.getD j false) (hsz : listed.size = ops.size) {i : Nat} :
    i ∈ Region.ready .any ops listed ↔ ∃ o, ops[i]? = some o ∧ S i = false ∧ ∀ e ∈ o.after.toList, Region.binds .any e = true → S e.on = true := by
  unfold Region.ready
  rw [List.mem_filter, List.mem_range]
  constructor
  · rintro ⟨h1, h2⟩
    rw [Bool.and_eq_true] at h2
    obtain ⟨h2, h3⟩ := h2
    have ho : ops[i]? = some ops[i] := Array.getElem?_eq_getElem h1
    rw [ho] at h3
    refine ⟨_, ho, ?_, fun e he hb => ?_⟩
    · rw [hS]
      have hlt : i < listed.size := by omega
      simp only [Array.getD, hlt, dif_pos, Bool.not_eq_true'] at h2 ⊢
      exact h2
    · simp only [Option.map_some, Option.getD_some, Array.all_eq_true] at h3
      obtain ⟨m, hm, he'⟩ := List.getElem_of_mem he
      have := h3 m (by simpa using hm)
      rw [show ops[i].after[m] = e by simpa using he'] at this
      rw [hb] at this
      rw [hS]; simpa using this
  · rintro ⟨o, ho, h1, h2⟩
    have hlt : i < ops.size := (Array.getElem?_eq_some_iff.1 ho).1
    refine ⟨hlt, ?_⟩
    rw [Bool.and_eq_true]
    constructor
    · rw [hS] at h1
      have hlt' : i < listed.size := by omega
      simp only [Array.getD, hlt', dif_pos, Bool.not_eq_true'] at h1 ⊢
      exact h1
    · rw [ho]
      simp only [Option.map_some, Option.getD_some, Array.all_eq_true]
      intro m hm
      cases hb : Region.binds .any o.after[m] with
      | false => rfl
      | true =>
        have := h2 o.after[m] (by simp) hb
        rw [hS] at this
        simp [this]

include T hp h0 hrd

theorem draw_go (ok : X.Ok) (hcs : CallSound X call) (hfs : fs = floatsOf F ops.size) {ρ0 : Rn} {w0 : World} {cs : List Frame} {k : List Item} : ∀ (fuel t : Nat) (listed : Array Bool) (S : Nat → Bool), (∀ j, S j = listed.getD j false) →
    listed.size = ops.size → countP (fun j => !S j) (List.range ops.size) ≤ fuel → ∀ (ρ : Rn) (w : World) (fr : Frame), Inv X n ops ps F c0 f v ρ0 w0 S ρ fr.tmps w → GRel X ρ → fr.mode = .run →
    fr.todo = .inRegion ops (Region.linearise.go .any ops fuel t listed []) :: k →
    ∃ ρ' tmps' w' S', Steps X.P (lone fr cs w) (lone { fr with tmps := tmps', todo := .inRegion ops [] :: k } cs w') ∧ Inv X n ops ps F c0 f v ρ0 w0 S' ρ' tmps' w' ∧ (∀ j, j < ops.size → S' j = true) := by
  intro fuel
  induction fuel with
  | zero =>
    intro t listed S hS hsz hf ρ w fr I hg hm ht
    have : ({ fr with tmps := fr.tmps, todo := .inRegion ops [] :: k } : Frame) = fr := by
      rw [← show fr.todo = .inRegion ops [] :: k by rw [ht]; simp [Region.linearise.go]]
    refine ⟨ρ, fr.tmps, w, S, by rw [this]; exact .refl _ _, I, fun j hj => ?_⟩
    have := countP_none _ (Nat.le_zero.1 hf) j (List.mem_range.2 hj)
    simpa using this
  | succ fuel ih =>
    intro t listed S hS hsz hf ρ w fr I hg hm ht
    have hgo : Region.linearise.go .any ops (fuel + 1) t listed [] = (match (Region.ready .any ops listed)[t % (Region.ready .any ops listed).length]? with
      | some i => Region.linearise.go .any ops fuel (t / (Region.ready .any ops listed).length) (listed.setIfInBounds i true) [i]
      | none => [].reverse) := rfl
    cases hi : (Region.ready .any ops listed)[t % (Region.ready .any ops listed).length]? with
    | none =>
      rw [hi] at hgo
      have hnil : Region.ready .any ops listed = [] := by
        cases hr : Region.ready .any ops listed with
        | nil => rfl
        | cons x xs =>
          rw [hr] at hi
          have hlt : t % (x :: xs).length < (x :: xs).length := Nat.mod_lt _ (by simp)
          simp at hi
          simp at hlt
          omega
      have all : ∀ m j, j < m → j < ops.size → S j = true := by
        intro m
        induction m with
        | zero => intro j h; omega
        | succ m ihm =>
          intro j hj hjN
          by_cases e : j < m
          · exact ihm j e hjN
          · cases hc : S j with
            | true => rfl
            | false =>
              have ho : ops[j]? = some ops[j] := Array.getElem?_eq_getElem hjN
              obtain ⟨pj, hpj⟩ : ∃ pj : Nat, ps[j]? = some pj := ⟨_, List.getElem?_eq_getElem (by rw [hp.len]; exact hjN)⟩
              have := (ready_iff hS hsz).2 ⟨_, ho, hc, fun ed hed hb => ihm ed.on (by have := (hp.spec j _ pj ho hpj).1 ed hed hb; omega) (by have := (hp.spec j _ pj ho hpj).1 ed hed hb; omega)⟩
              rw [hnil] at this
              simp at this
      have : ({ fr with tmps := fr.tmps, todo := .inRegion ops [] :: k } : Frame) = fr := by
        rw [← show fr.todo = .inRegion ops [] :: k by rw [ht, hgo]; rfl]
      exact ⟨ρ, fr.tmps, w, S, by rw [this]; exact .refl _ _, I, fun j hj => all (j + 1) j (Nat.lt_succ_self j) hj⟩
    | some i =>
      rw [hi] at hgo
      simp only at hgo
      rw [linearise_go_acc _ _ _ _ _ [i], List.reverse_singleton, List.singleton_append] at hgo
      obtain ⟨o, ho, hno, hedge⟩ := (ready_iff hS hsz).1 (List.mem_of_getElem? hi)
      have hlt : i < ops.size := (Array.getElem?_eq_some_iff.1 ho).1
      obtain ⟨p, hpi⟩ : ∃ p : Nat, ps[i]? = some p := ⟨_, List.getElem?_eq_getElem (by rw [hp.len]; exact hlt)⟩
      have hready : ∀ j, p.testBit j = true → S j = true := by
        intro j hj
        obtain ⟨_, e, he, hb, hc⟩ := (hp.spec i o p ho hpi).2 j hj
        rcases hc with rfl | ⟨q, hq, hqj⟩
        · exact hedge e he hb
        · exact I.closed e.on q j (hedge e he hb) hq hqj
      obtain ⟨ρ₁, tmps₁, w₁, hst, I₁, hx⟩ := I.step T hp h0 hrd ok hcs hfs (cs := cs) hg ho hpi hready hno hm (by rw [ht, hgo]) rfl
      obtain ⟨ρ', tmps', w', S', hst', I', hall⟩ := ih (t / (Region.ready .any ops listed).length) (listed.setIfInBounds i true) (fun j => S j || decide (j = i)) (fun j => by
          simp only [Array.getD_eq_getD_getElem?]
          by_cases e : j = i
          · subst e; rw [Array.getElem?_setIfInBounds_self_of_lt (by omega)]; simp
          · rw [Array.getElem?_setIfInBounds_ne (fun h => e h.symm), hS j, Array.getD_eq_getD_getElem?]; simp [e]) (by simp [hsz]) (by
          have := countP_lt (f := fun j => !(S j || decide (j = i))) (g := fun j => !S j) (List.range ops.size) (fun x _ h => by simp at h ⊢; exact h.1) ⟨i, List.mem_range.2 hlt, by simp, by simp [hno]⟩
          omega) ρ₁ w₁ { fr with tmps := tmps₁, todo := .inRegion ops (Region.linearise.go .any ops fuel (t / (Region.ready .any ops listed).length) (listed.setIfInBounds i true) []) :: k } I₁ (hg.mono hx) hm rfl
      exact ⟨ρ', tmps', w', S', hst.trans hst', I', hall⟩

end

/-- A region that draws its order. -/
theorem draw_ok {X : Cx} (ok : X.Ok) {call : Callf} (hcs : CallSound X call) {n id : Nat} {ops : Array Oper} {s s' : St} (h : evRegionD X call n ops s = some s') {ρ : Rn} {w : World} {fr : Frame} {cs : List Frame} {k : List Item}
    (he : EnvRel ρ n s.env fr.tmps) (hw : WRel ρ s.H w) (hb : ρ.Below s.c) (hg : GRel X ρ) (hm : fr.mode = .run) (ht : fr.todo = .code (.region id ops true) :: k) :
    ∃ ρ' tmps' w', Steps X.P (lone fr cs w) (lone { fr with tmps := tmps', todo := k } cs w') ∧ EnvRel ρ' n s'.env tmps' ∧ Goes ρ s.H w ρ' s'.H w' ∧ ρ'.Below s'.c ∧ s.c ≤ s'.c ∧ (∀ m, m < s.c → ρ' m = ρ m) ∧ s'.ds = s.ds := by
  unfold evRegionD at h
  split at h
  · cases h
  · rename_i ps F hps
    have hp := plan_ok hps
    split at h
    · cases h
    · rename_i d hd
      cases hall : (d.rs.all fun r => ((d.ws.length, d.H) :: d.es).all (rdOk d.ws ps r)) with
      | false => rw [hall, cond_false] at h; cases h
      | true =>
        rw [hall, cond_true] at h
        cases h
        obtain ⟨f, v, hf0, hfN, hstep⟩ := trace_of _ _ _ _ _ hd
        have hN : f ops.size = d := by simpa using hfN
        have T : Text X call n ops ps F (floatsOf F ops.size) s.c f v := ⟨fun i o p ho hpi => by
          have hi : i < ops.toList.length := by simpa using (Array.getElem?_eq_some_iff.1 ho).1
          obtain ⟨o', p', h1, h2, h3⟩ := hstep i hi
          rw [show ops.toList[i]? = ops[i]? by simp, ho] at h1; cases h1
          rw [hpi] at h2; cases h2
          rw [Nat.zero_add] at h3
          exact stepD_is (hp.kind i o ho) h3⟩
        have h0 : (f 0).ws = [] ∧ (f 0).es = [] ∧ (f 0).rs = [] := by rw [hf0]; exact ⟨rfl, rfl, rfl⟩
        have hrd : ∀ r ∈ (f ops.size).rs, ∀ E ∈ ((f ops.size).ws.length, (f ops.size).H) :: (f ops.size).es, rdOk (f ops.size).ws ps r E = true := by
          rw [hN]
          intro r hr E hE
          exact List.all_eq_true.1 (List.all_eq_true.1 hall r hr) E hE
        have hgd := Goes.draw hw (w.drawn + 1)
        have hsch : Region.schedule (X.P.follows .mixedOrders) ops (w.tape w.drawn (.order fr.fn id)) = Region.linearise.go .any ops ops.size (w.tape w.drawn (.order fr.fn id)) (Array.replicate ops.size false) [] := by
          simp only [Region.schedule, ok.mx, Bool.true_or, if_true]; rfl
        have I0 : Inv X n ops ps F s.c f v ρ { w with drawn := w.drawn + 1 } (fun _ => false) ρ fr.tmps { w with drawn := w.drawn + 1 } := by
          refine ⟨fun i p j h => by simp at h, fun i h => by simp at h, he.1, fun t u _ hu => ?_, fun j o t h => by simp at h, ⟨0, Nat.zero_le _, ?_, .inl rfl, ?_, ?_, ?_, ?_⟩, fun j _ _ => hb _ (by omega), fun _ _ => rfl⟩
          · rw [hf0] at hu; exact he.2 t u hu
          · rw [h0.1]
            have : ∀ l, countP (fun _ => false) l = 0 := by intro l; induction l with | nil => rfl | cons x l ih => simpa [countP] using ih
            rw [this]; rfl
          · rw [hf0]
            exact .refl hgd.rel fun n o h => by
              rcases h with h | ⟨m, _, _, h, _⟩
              · rw [hf0] at h; exact h
              · cases h
          · rw [hf0]; exact hb.mono (Nat.le_add_right _ _)
          · rw [hf0]; exact Nat.le_refl _
          · intro m o _ h; cases h
        obtain ⟨ρ', tmps', w', S', hst, I', hS'⟩ := draw_go T hp h0 hrd ok hcs rfl (cs := cs) (k := k) ops.size (w.tape w.drawn (.order fr.fn id)) (Array.replicate ops.size false) (fun _ => false) (fun j => by
            by_cases hj : j < ops.size <;> simp [Array.getD_eq_getD_getElem?, Array.getElem?_replicate, hj]) (by simp) (by
            have : ∀ l : List Nat, countP (fun _ => !false) l ≤ l.length := by intro l; induction l with | nil => exact Nat.le_refl _ | cons x l ih => simpa [countP] using ih
            simpa using this (List.range ops.size)) ρ { w with drawn := w.drawn + 1 } { fr with todo := .inRegion ops (Region.schedule (X.P.follows .mixedOrders) ops (w.tape w.drawn (.order fr.fn id))) :: k } I0 hg hm (by rw [hsch])
        have hcnt := T.count hp h0.1 (Nat.le_refl _) (S := S') (fun x hx => by
          have := ((T.ws_mem hp h0.1 (Nat.le_refl _) x).1 hx).1
          simp [this, hS' x this])
        obtain ⟨q, L⟩ := I'.lvl
        have hlen : (f ops.size).ws.length = (f q).ws.length := by rw [L.len, hcnt]
        have l4 : Goes ρ (f 0).H { w with drawn := w.drawn + 1 } ρ' (f ops.size).H w' := L.go.goes fun n o hn => L.names T hp h0 (Nat.le_refl _) hlen hn fun m _ hm _ _ => hS' m hm
        have hcq := ((T.ws_len hp L.le (Nat.le_refl _)).2 hlen.symm).2.1
        have l2 : ρ'.Below (f ops.size).c := by rw [← hcq]; exact L.below
        have l3 : s.c + ops.size ≤ (f ops.size).c := by rw [← hcq]; exact L.room
        refine ⟨ρ', tmps', w', .head (stp_draw hm ht) (hst.trans (.one (stp_regionEnd hm rfl))), ?_, ?_, ?_, ?_, I'.old, rfl⟩
        · refine ⟨I'.size, fun t u hu => ?_⟩
          simp only at hu
          rw [← hN] at hu
          rcases T.slot hp (Nat.le_refl _) hu with ⟨j, o, h1, h2, h3, h4, h5⟩ | ⟨h1, h2⟩
          · rw [h4]
            refine I'.envB j o t (hS' j h1) h2 h3 (fun j' o' q1 q2 q3 => h5 j' o' q1 (I'.inn j' q2) q3) ?_
            obtain ⟨oj', pj, hoj, _, hpe, _⟩ := T.at hp h1
            rw [h2] at hoj; cases hoj
            unfold putE at hpe
            rw [h3] at hpe
            simp only at hpe
            cases hbb : Nat.blt t n with
            | false => rw [hbb, cond_false] at hpe; cases hpe
            | true => simpa [Nat.blt_eq] using hbb
          · exact I'.envA t u (fun j o q1 q2 q3 => h2 j o (I'.inn j q1) q2 q3) h1
        · rw [hN] at l4
          rw [hf0] at l4
          exact hgd.trans l4
        · rw [hN] at l2; exact l2
        · rw [hN] at l3
          simp only
          omega

end Go.Ev
