/-
  What the evaluator says of an operation that does not look at memory is true of the model: operation by operation.
-/
import Derived.Test.YtjjgdnelkkmdcaaGreatDoorEvSndC
set_option linter.all false
namespace Go.Ev

def prim : Value → Bool
  | .chan _ => true
  | .int _ _ | .float _ _ | .complex _ _ _ | .string _ => true
  | _ => false

section
variable {X : Cx} (ok : X.Ok) {ρ : Rn}
include ok

theorem places_ok : ∀ (fs : List Field) (pl : List (Nat × Nat)), X.places fs = some pl → ∀ w, (fs.mapM fun f => do pure (f.offset, ← sizeOf f.type) : Sem (List (Nat × Nat))).run X.P w = .ok pl w
  | [], pl, h, w => by simp only [Cx.places] at h; cases h; simp
  | f :: fs, pl, h, w => by
    simp only [Cx.places] at h
    cases hs : X.size f.type with
    | none => rw [hs] at h; cases h
    | some n =>
      rw [hs] at h
      simp only [Option.map_eq_some_iff] at h
      obtain ⟨l, hl, rfl⟩ := h
      have ih := places_ok fs l hl w
      rw [List.mapM_cons]
      simp only [bind_assoc, Sem.run_bind, run_size ok hs, Result.andThen_ok, pure_bind, ih, Sem.run_pure]

theorem build_ok {t : TypeId} {parts parts' : List (Nat × Value)} (hp : PRel ρ parts parts') {z l : List Value} (hz : X.zero t = some z)
    (h : (∃ fs pl, X.under t = some (.struct fs) ∧ X.places fs.toList = some pl ∧ fillB (fun i => pl[i]?) parts z = some l) ∨
      (∃ n el s, X.under t = some (.array n el) ∧ X.size el = some s ∧ fillB (fun i => some (i * s, s)) parts z = some l)) (w : World) :
    ∃ v', (Instr.build t parts'.toArray).run X.P w = .ok v' w ∧ VRel ρ (.agg ⟨l⟩) v' := by
  obtain ⟨zv, hzr, hzc, hzz⟩ := zero_ok (ρ := ρ) ok hz w
  unfold Instr.build
  have hz' : LRel ρ z zv.cells.toList := by rw [hzc]; exact hzz
  rcases h with ⟨fs, pl, hu, hpl, hf⟩ | ⟨n, el, s, hu, hs, hf⟩
  · obtain ⟨a, ha, hr⟩ := fillB_ok hp hf hz'
    have hm := places_ok ok fs.toList pl hpl w
    refine ⟨.agg a, ?_, .aggA ?_⟩
    · simp only [Sem.run_bind, hzr, Result.andThen_ok, run_under ok hu]
      have hm' : (fs.mapM fun f => do pure (f.offset, ← sizeOf f.type) : Sem (Array (Nat × Nat))).run X.P w = .ok pl.toArray w := by
        rw [Array.mapM_eq_mapM_toList]
        simp only [Sem.run_map, hm, Result.andThen_ok]
      rw [hm']
      simp [ha]
    · have := hr.arr
      simpa using this
  · obtain ⟨a, ha, hr⟩ := fillB_ok hp hf hz'
    refine ⟨.agg a, ?_, .aggA ?_⟩
    · simp only [Sem.run_bind, hzr, Result.andThen_ok, run_under ok hu, run_size ok hs]
      simp [ha]
    · have := hr.arr
      simpa using this

omit ok in
theorem eqGuard_ok {op : BinOp} {t : TypeId} {x y : Operand} {a b a' b' : Value} (h : guardOk X op t x y a b = true) (ha : VRel ρ a a') (hb : VRel ρ b b') (w : World) :
    (eqGuard op t x y a' b').run X.P w = .ok () w := by
  have other : eqOp op = false → (eqGuard op t x y a' b').run X.P w = .ok () w := by
    intro hop
    cases op <;> first | rfl | simp [eqOp] at hop
  have same : op = .eql ∨ op = .neq → (eqGuard op t x y a' b').run X.P w = .ok () w := by
    intro hop
    have h' : guardV X t x y a b = true := by
      rcases hop with rfl | rfl <;> simpa [guardOk, eqOp] using h
    clear h
    unfold guardV at h'
    have run : ∀ o, (o = .eql ∨ o = .neq) → (eqGuard o t x y a' b').run X.P w = (eqGuard .eql t x y a' b').run X.P w := by
      rintro o (rfl | rfl) <;> rfl
    rw [run op hop]
    clear run hop other
    unfold eqGuard
    cases ha with
    | nilIface =>
      cases hb with
      | nilIface =>
        simp only at h' ⊢
        cases x <;> cases y <;> first | rfl | simp [isConst] at h'
      | sym _ _ _ => simp at h'
      | _ => rfl
    | agg hc hv =>
      cases hb with
      | agg hc' hv' =>
        simp only [Bool.not_eq_true'] at h'
        simp [h']
      | sym _ _ _ => simp at h'
      | _ => rfl
    | sym _ _ _ => simp at h'
    | _ => cases hb <;> first | rfl | (simp at h')
  cases hop : eqOp op with
  | false => exact other hop
  | true => exact same (by cases op <;> first | exact .inl rfl | exact .inr rfl | simp [eqOp] at hop)

omit ok in
theorem binOp_eql {t : TypeId} {x y : Value} (hx : prim x = false) :
    Go.binOp .eql t x y = (do pure (.bool (← Op.equal t x y))) := by
  cases x <;> first | rfl | (simp [prim] at hx)
omit ok in
theorem binOp_neq {t : TypeId} {x y : Value} (hx : prim x = false) :
    Go.binOp .neq t x y = (do pure (.bool (!(← Op.equal t x y)))) := by
  cases x <;> first | rfl | (simp [prim] at hx)

omit ok in
theorem intOp_clos {op : BinOp} {k : IntKind} {a b : Int} {v : Value} (h : intOp op k a b = some v) : clos1 v = true := by
  have key : ∀ (c : Bool) (u : Value), clos1 u = true → (bif c then none else some u) = some v → clos1 v = true := by
    intro c u hu hc
    cases c with
    | true => cases hc
    | false => cases hc; exact hu
  cases op <;> simp only [intOp, bitsF] at h
  case quo => exact key _ _ rfl h
  case rem => exact key _ _ rfl h
  case shl => exact key _ _ rfl h
  case shr => exact key _ _ rfl h
  all_goals (cases h; rfl)

omit ok in
theorem strOp_clos {op : BinOp} {x y : ByteArray} {v : Value} (h : strOp op x y = some v) : clos1 v = true := by
  cases op <;> simp only [strOp] at h
  case add =>
    cases hb : Nat.ble (x.data.toList.length + y.data.toList.length) maxStr with
    | false => rw [hb, cond_false] at h; cases h
    | true => rw [hb, cond_true] at h; cases h; rfl
  all_goals first | (cases h; rfl) | cases h

omit ok in
theorem eqV_shape {d : Nat} {t : TypeId} {a b : Value} {r : Bool} (h : X.eqV (d + 1) t a b = some r) :
    (∃ k n j m, a = .int k n ∧ b = .int j m) ∨ (∃ k n j m, a = .float k n ∧ b = .float j m) ∨ (∃ x y, a = .string x ∧ b = .string y) ∨ prim a = false := by
  simp only [Cx.eqV] at h
  cases hu : X.under t with
  | none => rw [hu] at h; cases h
  | some u =>
    rw [hu] at h
    simp only at h
    split at h
    all_goals first
      | exact .inl ⟨_, _, _, _, rfl, rfl⟩
      | exact .inr (.inl ⟨_, _, _, _, rfl, rfl⟩)
      | exact .inr (.inr (.inl ⟨_, _, rfl, rfl⟩))
      | exact .inr (.inr (.inr rfl))
      | cases h

theorem binA_ok {op : BinOp} {t : TypeId} {a b v a' b' : Value} (h : binA X op t a b = some v) (ha : VRel ρ a a') (hb : VRel ρ b b') (w : World) :
    ∃ v', (Go.binOp op t a' b').run X.P w = .ok v' w ∧ VRel ρ v v' := by
  unfold binA at h
  split at h
  · rename_i k x j y
    rw [ha.unint, hb.unint]
    cases hs : isShift op with
    | true =>
      rw [hs, Bool.true_or, cond_true] at h
      refine ⟨v, ?_, clos1_rel ρ (intOp_clos h)⟩
      have := intOp_shift (P := X.P) (j := j) (w := w) hs h
      cases op <;> simp [isShift] at hs <;> exact this
    | false =>
      rw [hs, Bool.false_or] at h
      by_cases e : k = j
      · subst e
        simp only [decide_true, cond_true] at h
        exact ⟨v, intOp_int hs h _ _ t rfl rfl, clos1_rel ρ (intOp_clos h)⟩
      · simp [e] at h
  · rename_i x y
    rw [ha.unstr, hb.unstr]
    refine ⟨v, ?_, clos1_rel ρ (strOp_clos h)⟩
    have := strOp_ok (P := X.P) (w := w) h
    cases op <;> first | exact this | (simp [strOp] at h)
  · cases ha; cases hb
    rename_i k x j y
    cases hp : pureRun X.P (Go.binOp op t (.float k x) (.float j y)) with
    | none => rw [hp] at h; cases h
    | some u =>
      rw [hp] at h; simp only at h
      cases hc : clos u with
      | false => rw [hc, cond_false] at h; cases h
      | true => rw [hc, cond_true] at h; cases h; exact ⟨_, pureRun_ok X.P _ _ hp w, clos_rel ρ hc⟩
  · rename_i hni hns hnf
    cases hop : eqOp op with
    | false => rw [hop, cond_false] at h; cases h
    | true =>
      rw [hop, cond_true] at h
      cases he : X.eqV 20 t a b with
      | none => rw [he] at h; cases h
      | some r =>
        rw [he] at h; simp only at h; cases h
        have hq := eqV_ok (ρ := ρ) ok w 20 Op.maxDepth t a b a' b' r (by decide) he ha hb
        have hp : prim a = false := by
          rcases eqV_shape he with ⟨k, n, j, m, rfl, rfl⟩ | ⟨k, n, j, m, rfl, rfl⟩ | ⟨x, y, rfl, rfl⟩ | h
          · exact (hni _ _ _ _ rfl rfl).elim
          · exact (hnf _ _ _ _ rfl rfl).elim
          · exact (hns _ _ rfl rfl).elim
          · exact h
        have hx : prim a' = false := by
          cases ha <;> first | rfl | (simp [prim] at hp)
        cases op <;> simp [eqOp] at hop
        · exact ⟨_, by rw [binOp_eql hx]; unfold Op.equal; simp [hq], .bool _⟩
        · exact ⟨_, by rw [binOp_neq hx]; unfold Op.equal; simp [hq], .bool _⟩

end
end Go.Ev
