/-
  Keys of maps: what the evaluator says of looking one up is true of the model.
-/
import Derived.Test.YtjjgdnelkkmdcaaGreatDoorEvSndF
set_option linter.all false
namespace Go.Ev

/-- Entries, place by place. -/
def ERel (ρ : Rn) (es es' : List MapEntry) : Prop :=
  es.length = es'.length ∧ ∀ (i : Nat) e e', es[i]? = some e → es'[i]? = some e' → e'.born = e.born ∧ VRel ρ e.key e'.key ∧ VRel ρ e.val e'.val

theorem ERel.uncons {ρ : Rn} {e : MapEntry} {es es' : List MapEntry} (h : ERel ρ (e :: es) es') :
    ∃ e' r, es' = e' :: r ∧ e'.born = e.born ∧ VRel ρ e.key e'.key ∧ VRel ρ e.val e'.val ∧ ERel ρ es r := by
  cases es' with
  | nil => simp [ERel] at h
  | cons e' r =>
    obtain ⟨a, b, c⟩ := h.2 0 e e' rfl rfl
    exact ⟨e', r, rfl, a, b, c, by have := h.1; simpa using this, fun i x y hx hy => h.2 (i + 1) x y (by simpa using hx) (by simpa using hy)⟩
theorem ERel.unnil {ρ : Rn} {es : List MapEntry} (h : ERel ρ [] es) : es = [] := by
  have := h.1; cases es <;> simp_all
theorem ERel.get {ρ : Rn} {a b : List MapEntry} (h : ERel ρ a b) {i : Nat} {x : MapEntry} (hi : a[i]? = some x) : ∃ y, b[i]? = some y ∧ y.born = x.born ∧ VRel ρ x.key y.key ∧ VRel ρ x.val y.val := by
  have hlt : i < a.length := (List.getElem?_eq_some_iff.1 hi).1
  have hlt' : i < b.length := h.1 ▸ hlt
  have hb : b[i]? = some b[i] := List.getElem?_eq_some_iff.2 ⟨hlt', rfl⟩
  exact ⟨b[i], hb, h.2 i x _ hi hb⟩

section
variable {X : Cx} (ok : X.Ok) {ρ : Rn}
include ok

omit ok in
theorem fits_scal : ∀ (fs : List Field) (cs : List Value), Cx.keyFits.fits X fs cs = true → cs.all clos1 = true
  | [], [], _ => rfl
  | [], _ :: _, h => by simp [Cx.keyFits.fits] at h
  | _ :: _, [], h => by simp [Cx.keyFits.fits] at h
  | f :: fs, v :: cs, h => by
    simp only [Cx.keyFits.fits, Bool.and_eq_true] at h
    simp only [List.all_cons, Bool.and_eq_true]
    refine ⟨?_, fits_scal fs cs h.2⟩
    have h1 := h.1
    split at h1 <;> first | rfl | cases h1

omit ok in
theorem keyFits_same {t : TypeId} {k k' : Value} (h : X.keyFits t k = true) (hk : VRel ρ k k') : k' = k := by
  unfold Cx.keyFits at h
  split at h
  · exact hk.unint
  · exact hk.unstr
  · exact hk.unbool
  · rename_i fs cs hu
    obtain ⟨cs', rfl, hcs⟩ := hk.unagg
    have hall := fits_scal fs.toList cs.toList h
    congr 1
    apply Array.ext
    · exact hcs.1.symm
    · intro i h1 h2
      have hv := hcs.2 i cs[i] cs'[i] (Array.getElem?_eq_getElem h2) (Array.getElem?_eq_getElem h1)
      exact closed_eq hv (List.all_eq_true.1 hall _ (by simp))
  · cases h

theorem keyScal_ok {t : TypeId} (h : X.keyScal t = true) (b : Bool) (n : Nat) (v : Value) (w : World) : (Instr.checkKey b (n + 1) t v).run X.P w = .ok () w := by
  unfold Cx.keyScal at h
  unfold Instr.checkKey
  split at h
  · rename_i hu; simp [run_under ok hu]
  · rename_i hu; simp [run_under ok hu]
  · rename_i hu; simp [run_under ok hu]
  · cases h

theorem keyFs_ok (xs : Array Value) (b : Bool) (n : Nat) (w : World) : ∀ (fs : List Field) (i : Nat), Cx.keyTy.keyFs X fs i = true → i + fs.length ≤ xs.size →
    ((forIn fs PUnit.unit fun (f : Field) _ =>
      if f.name = "_" then pure (ForInStep.yield PUnit.unit)
      else do
        let a ← part f.type xs f.offset
        (fun _ => ForInStep.yield PUnit.unit) <$> Instr.checkKey b (n + 1) f.type a : Sem PUnit)).run X.P w = .ok PUnit.unit w
  | [], i, h, hl => by simp
  | f :: fs, i, h, hl => by
    simp only [Cx.keyTy.keyFs, Bool.and_eq_true, decide_eq_true_eq] at h
    obtain ⟨⟨⟨h1, h2⟩, h3⟩, h4⟩ := h
    have ho := Nat.eq_of_beq_eq_true h2
    simp only [List.length_cons] at hl
    rw [List.forIn_cons]
    have hp : ∃ u, (part f.type xs f.offset).run X.P w = .ok u w := by
      have hag : X.isAgg f.type = some false := by
        unfold Cx.keyScal at h1
        unfold Cx.isAgg
        split at h1
        · rename_i hu; rw [hu]; rfl
        · rename_i hu; rw [hu]; rfl
        · rename_i hu; rw [hu]; rfl
        · cases h1
      have hx : xs[f.offset]? = some xs[f.offset] := Array.getElem?_eq_getElem (by omega)
      unfold part
      exact ⟨_, by simp only [Sem.run_bind, run_agg ok hag, Result.andThen_ok, Bool.false_eq_true, if_false, hx]; rfl⟩
    obtain ⟨u, hu⟩ := hp
    simp only [if_neg h3, Sem.run_bind, hu, Result.andThen_ok, Sem.run_map, keyScal_ok ok h1]
    exact keyFs_ok xs b n w fs (i + 1) h4 (by omega)

omit ok in
theorem fits_len : ∀ (fs : List Field) (cs : List Value), Cx.keyFits.fits X fs cs = true → fs.length = cs.length
  | [], [], _ => rfl
  | [], _ :: _, h => by simp [Cx.keyFits.fits] at h
  | _ :: _, [], h => by simp [Cx.keyFits.fits] at h
  | f :: fs, v :: cs, h => by
    simp only [Cx.keyFits.fits, Bool.and_eq_true] at h
    simp [fits_len fs cs h.2]

theorem checkKey_ok {t : TypeId} {k : Value} (h1 : X.keyTy t = true) (h2 : X.keyFits t k = true) (b : Bool) (w : World) : (Instr.checkKey b 10000 t k).run X.P w = .ok () w := by
  unfold Cx.keyTy at h1
  split at h1
  · rename_i hu; exact keyScal_ok ok (by simp [Cx.keyScal, hu]) b 9999 k w
  · rename_i hu; exact keyScal_ok ok (by simp [Cx.keyScal, hu]) b 9999 k w
  · rename_i hu; exact keyScal_ok ok (by simp [Cx.keyScal, hu]) b 9999 k w
  · rename_i fs hu
    rw [Bool.and_eq_true] at h1
    unfold Cx.keyFits at h2
    rw [hu] at h2
    cases k with
    | agg cs =>
      simp only at h2
      have hlen := fits_len fs.toList cs.toList h2
      unfold Instr.checkKey
      simp only [Sem.run_bind, run_under ok hu, Result.andThen_ok]
      have key := keyFs_ok ok cs b 9998 w fs.toList 0 h1.2 (by simp at hlen ⊢; omega)
      rw [Array.forIn_toList] at key
      simp at key ⊢
      rw [key]; rfl
    | _ => simp at h2
  · cases h1

/-- Kinds whose values are compared at once. -/
def basicD : TypeDesc → Bool
  | .int _ | .string | .bool => true
  | _ => false

/-- What a look-up comes to, over names and in the model. -/
def LookRel (ρ : Rn) : Option (Nat × Value) → Option (Nat × Value) → Prop
  | none, none => True
  | some (i, v), some (j, u) => j = i ∧ VRel ρ v u
  | _, _ => False

omit ok in
theorem sameNow_eqV {t : TypeId} {d : TypeDesc} (hu : X.under t = some d) (hd : basicD d = true) {a b : Value} {r : Bool} (h : X.eqV 3 t a b = some r) :
    Instr.sameNow d a b = some r := by
  simp only [Cx.eqV, hu] at h
  cases d with
  | bool => split at h <;> first | contradiction | (cases h; rfl) | cases h
  | int k =>
    split at h <;> first | contradiction | skip
    · rename_i k1 x j y _
      by_cases e : k1 = j
      · subst e; simp at h; subst h; simp [Instr.sameNow, intEq_eq]
      · simp [e] at h
  | string =>
    split at h <;> first | contradiction | skip
    · cases h; simp [Instr.sameNow, bytes_beq]
  | _ => cases hd

omit ok in
theorem eqV_clos {t : TypeId} {d : TypeDesc} (hu : X.under t = some d) (hd : basicD d = true) {a b : Value} {r : Bool} (h : X.eqV 3 t a b = some r) : clos1 b = true := by
  simp only [Cx.eqV, hu] at h
  cases d <;> first | (cases hd; done) | (split at h <;> first | contradiction | rfl)

theorem findNow_ok {t : TypeId} {d : TypeDesc} (hu : X.under t = some d) (hd : basicD d = true) {k : Value} (hk : X.keyFits t k = true) :
    ∀ (es es' : List MapEntry) (i : Nat) (r : Option (Nat × Value)), ERel ρ es es' → X.findA t k es i = some r → ∃ r', Instr.findNow d k es' i = some r' ∧ LookRel ρ r r'
  | [], es', i, r, he, h => by
    simp only [Cx.findA] at h; cases h
    rw [he.unnil]; exact ⟨none, rfl, trivial⟩
  | e :: es, es', i, r, he, h => by
    obtain ⟨e', m, rfl, _, hkey, hval, hm⟩ := he.uncons
    simp only [Cx.findA] at h
    cases hq : X.eqV 3 t k e.key with
    | none => rw [hq] at h; cases h
    | some b =>
      have hkey' : clos1 e.key = true := eqV_clos hu hd hq
      have hee : e'.key = e.key := closed_eq hkey hkey'
      have hs := sameNow_eqV hu hd hq
      simp only [Instr.findNow, hee, hs]
      rw [hq] at h
      cases b with
      | true => simp only at h ⊢; cases h; exact ⟨_, rfl, rfl, hval⟩
      | false => simp only at h ⊢; exact findNow_ok hu hd hk es m (i + 1) r hm h

theorem findAsking_ok {t : TypeId} {k : Value} (hk : VRel ρ k k) (w : World) :
    ∀ (es es' : List MapEntry) (i : Nat) (r : Option (Nat × Value)), ERel ρ es es' → X.findA t k es i = some r → ∃ r', (Instr.findAsking t k es' i).run X.P w = .ok r' w ∧ LookRel ρ r r'
  | [], es', i, r, he, h => by
    simp only [Cx.findA] at h; cases h
    rw [he.unnil]; exact ⟨none, rfl, trivial⟩
  | e :: es, es', i, r, he, h => by
    obtain ⟨e', m, rfl, _, hkey, hval, hm⟩ := he.uncons
    simp only [Cx.findA] at h
    cases hq : X.eqV 3 t k e.key with
    | none => rw [hq] at h; cases h
    | some b =>
      have hs := eqV_ok ok w 3 Op.maxDepth t k e.key k e'.key b (by decide) hq hk hkey
      simp only [Instr.findAsking, Op.equal, Sem.run_bind, hs, Result.andThen_ok]
      rw [hq] at h
      cases b with
      | true => simp only at h; cases h; exact ⟨_, rfl, rfl, hval⟩
      | false => simp only at h; exact findAsking_ok hk w es m (i + 1) r hm h

theorem look_ok {t : TypeId} {k k' : Value} (hk : VRel ρ k k') {es es' : List MapEntry} (he : ERel ρ es es') {r : Option (Nat × Value)} (h : X.look t k es = some r) (w : World) :
    k' = k ∧ X.keyTy t = true ∧ X.keyFits t k = true ∧ ∃ r', (Instr.findKey t k' es').run X.P w = .ok r' w ∧ LookRel ρ r r' := by
  unfold Cx.look at h
  cases hc : (X.keyTy t && X.keyFits t k) with
  | false => rw [hc, cond_false] at h; cases h
  | true =>
    rw [hc, cond_true] at h
    rw [Bool.and_eq_true] at hc
    have hkk := keyFits_same hc.2 hk
    subst hkk
    refine ⟨rfl, hc.1, hc.2, ?_⟩
    unfold Instr.findKey
    have h1 := hc.1
    unfold Cx.keyTy at h1
    have basic : ∀ d, X.under t = some d → basicD d = true →
        ∃ r', (do match Instr.findNow (← underlying t) k' es' 0 with | some r => pure r | none => Instr.findAsking t k' es' : Sem (Option (Nat × Value))).run X.P w = .ok r' w ∧ LookRel ρ r r' := by
      intro d hu hd
      obtain ⟨r', hr, hrel⟩ := findNow_ok ok hu hd hc.2 es es' 0 r he h
      exact ⟨r', by simp [run_under ok hu, hr], hrel⟩
    split at h1
    · rename_i hu; exact basic _ hu rfl
    · rename_i hu; exact basic _ hu rfl
    · rename_i hu; exact basic _ hu rfl
    · rename_i fs hu
      obtain ⟨r', hr, hrel⟩ := findAsking_ok ok hk w es es' 0 r he h
      cases es' with
      | nil =>
        have hes : es = [] := by have := he.1; cases es <;> simp_all
        subst hes
        simp only [Cx.findA] at h; cases h
        refine ⟨none, ?_, trivial⟩
        simp [run_under ok hu, Instr.findNow]
      | cons e' m =>
        refine ⟨r', ?_, hrel⟩
        have hn : Instr.findNow (.struct fs) k' (e' :: m) 0 = none := by
          have hks : ∃ cs, k' = .agg cs := by
            have h2 := hc.2
            unfold Cx.keyFits at h2
            rw [hu] at h2
            cases k' <;> first | exact ⟨_, rfl⟩ | simp at h2
          obtain ⟨cs, rfl⟩ := hks
          simp [Instr.findNow, Instr.sameNow]
        simp [run_under ok hu, hn, hr]
    · cases h1

end
end Go.Ev
