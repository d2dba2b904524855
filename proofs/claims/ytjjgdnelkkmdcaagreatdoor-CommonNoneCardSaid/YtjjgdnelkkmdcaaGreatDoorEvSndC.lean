/-
  What the evaluator says of an operation that does not look at memory is true of the model.
-/
import Derived.Test.YtjjgdnelkkmdcaaGreatDoorEvSndB
set_option linter.all false
namespace Go.Ev

theorem pureRun_ok {α : Type} (P : Program) : ∀ (s : Sem α) (a : α), pureRun P s = some a → ∀ w, s.run P w = .ok a w
  | .pure b, a, h, w => by simp only [pureRun] at h; cases h; rfl
  | .program k, a, h, w => by simp only [pureRun] at h; exact pureRun_ok P (k P) a h w
  | .load .., _, h, _ => by simp [pureRun] at h
  | .store .., _, h, _ => by simp [pureRun] at h
  | .new .., _, h, _ => by simp [pureRun] at h
  | .shape .., _, h, _ => by simp [pureRun] at h
  | .freeze .., _, h, _ => by simp [pureRun] at h
  | .frozen .., _, h, _ => by simp [pureRun] at h
  | .getObj .., _, h, _ => by simp [pureRun] at h
  | .setObj .., _, h, _ => by simp [pureRun] at h
  | .choose .., _, h, _ => by simp [pureRun] at h
  | .sys .., _, h, _ => by simp [pureRun] at h
  | .mark .., _, h, _ => by simp [pureRun] at h
  | .halt .., _, h, _ => by simp [pureRun] at h

theorem addrAdd_eq (a : Addr) (n : Nat) : addrAdd a n = a.add n := by
  unfold addrAdd Addr.add
  by_cases h : n = 0
  · rw [Tr.beq_true' h, cond_true, if_pos h]
  · rw [Tr.beq_false' h, cond_false, if_neg h]

theorem ptr_add {ρ : Rn} {a a' : Addr} {L : Loc} (h : ρ a.block = some L) (hb : a'.block = L.block) (ho : a'.off = a.off + L.shift) (hs : a'.spot = a.spot) (n : Nat) :
    VRel ρ (.pointer (some (addrAdd a n))) (.pointer (some (a'.add n))) := by
  rw [addrAdd_eq]
  by_cases e : n = 0
  · subst e; simp only [Addr.add, if_true]; exact .ptr h hb ho hs
  · simp only [Addr.add, if_neg e]
    exact .ptr (L := L) h hb (by simp; omega) rfl

section
variable {X : Cx} (ok : X.Ok) {ρ : Rn}

theorem boundA_ok {i : Value} {y n : Nat} {v : Value} (h : boundA i y = some n) (hv : VRel ρ i v) (code : BoundsCode) (w : World) :
    (Instr.sliceBound v y code).run X.P w = .ok n w ∧ n ≤ y := by
  unfold boundA at h
  split at h
  · rename_i k m
    have := hv.unint; subst this
    cases hb : Nat.ble m y with
    | false => rw [hb, cond_false] at h; cases h
    | true =>
      rw [hb, cond_true] at h; cases h
      have hle := Nat.le_of_ble_eq_true hb
      unfold Instr.sliceBound asIntOf
      simp only [pure_bind, Int.ofNat_eq_natCast]
      rw [if_pos (by omega)]
      exact ⟨by simp, hle⟩
  · cases h

theorem boundsA_ok {e : Operand → Option Value} {r : Operand → Value} (hr : OpRel ρ e r) {len cap cap' : Nat} {lo hi mx : Option Operand} {l h m : Nat}
    (hb : boundsA e len cap lo hi mx = some (l, h, m)) (hcap : cap ≤ cap') (hmx : mx.isSome = true → cap' = cap) (sl : Bool) (w : World) :
    (Instr.sliceBounds sl len cap' (lo.map r) (hi.map r) (mx.map r)).run X.P w = .ok (l, h, if mx.isSome then m else cap') w ∧ l ≤ h ∧ (hi.isSome = true → h ≤ m) ∧ (hi = none → h = len ∧ mx = none) ∧
      (mx = none → m = cap) ∧ m ≤ cap := by
  unfold boundsA at hb
  unfold Instr.sliceBounds
  simp only at hb
  cases mx with
  | none =>
    simp only at hb
    cases hi with
    | none =>
      simp only at hb
      cases lo with
      | none => simp only at hb; cases hb; simp
      | some x =>
        simp only at hb
        cases hx : e x with
        | none => rw [hx] at hb; cases hb
        | some v =>
          rw [hx] at hb
          simp only [Option.map_eq_some_iff] at hb
          obtain ⟨l', hl', he⟩ := hb
          cases he
          obtain ⟨h1, h2⟩ := boundA_ok (X := X) hl' (hr x v hx) .sliceB w
          simp [h1, h2]
    | some y =>
      simp only at hb
      cases hy : e y with
      | none => rw [hy] at hb; simp at hb
      | some u =>
        rw [hy] at hb
        simp only at hb
        cases hbu : boundA u cap with
        | none => rw [hbu] at hb; simp at hb
        | some h' =>
          rw [hbu] at hb
          simp only at hb
          have key : ∀ code, (Instr.sliceBound (r y) cap' code).run X.P w = .ok h' w ∧ h' ≤ cap := by
            intro code
            unfold boundA at hbu
            split at hbu
            · rename_i k n
              have hv := hr y _ hy
              have hry := hv.unint
              rw [hry]
              cases hbb : Nat.ble n cap with
              | false => rw [hbb, cond_false] at hbu; cases hbu
              | true =>
                rw [hbb, cond_true] at hbu; cases hbu
                have hle := Nat.le_of_ble_eq_true hbb
                unfold Instr.sliceBound asIntOf
                simp only [pure_bind, Int.ofNat_eq_natCast]
                rw [if_pos (by omega)]
                exact ⟨by simp, hle⟩
            · cases hbu
          cases lo with
          | none =>
            simp only at hb; cases hb
            cases sl <;> simp [(key .sliceAcap).1, (key .sliceAlen).1, (key .sliceAcap).2]
          | some x =>
            simp only at hb
            cases hx : e x with
            | none => rw [hx] at hb; cases hb
            | some v =>
              rw [hx] at hb
              simp only [Option.map_eq_some_iff] at hb
              obtain ⟨l', hl', he⟩ := hb
              cases he
              obtain ⟨h1, h2⟩ := boundA_ok (X := X) hl' (hr x v hx) .sliceB w
              cases sl <;> simp [(key .sliceAcap).1, (key .sliceAlen).1, (key .sliceAcap).2, h1, h2]
  | some z =>
    have hcc := hmx rfl
    subst hcc
    simp only at hb
    cases hz : e z with
    | none => rw [hz] at hb; simp at hb
    | some q =>
      rw [hz] at hb
      simp only at hb
      cases hbq : boundA q cap' with
      | none => rw [hbq] at hb; simp at hb
      | some m' =>
        rw [hbq] at hb
        simp only at hb
        have km := fun code => boundA_ok (X := X) hbq (hr z q hz) code w
        cases hi with
        | none => simp at hb
        | some y =>
          simp only at hb
          cases hy : e y with
          | none => rw [hy] at hb; simp at hb
          | some u =>
            rw [hy] at hb
            simp only at hb
            cases hbu : boundA u m' with
            | none => rw [hbu] at hb; simp at hb
            | some h' =>
              rw [hbu] at hb
              simp only at hb
              obtain ⟨kh, kh2⟩ := boundA_ok (X := X) hbu (hr y u hy) .slice3B w
              cases lo with
              | none =>
                simp only at hb; cases hb
                cases sl <;> simp [(km .slice3Acap).1, (km .slice3Alen).1, kh, kh2, (km .slice3Alen).2]
              | some x =>
                simp only at hb
                cases hx : e x with
                | none => rw [hx] at hb; cases hb
                | some v =>
                  rw [hx] at hb
                  simp only [Option.map_eq_some_iff] at hb
                  obtain ⟨l', hl', he⟩ := hb
                  cases he
                  obtain ⟨h1, h2⟩ := boundA_ok (X := X) hl' (hr x v hx) .slice3C w
                  cases sl <;> simp [(km .slice3Acap).1, (km .slice3Alen).1, kh, kh2, (km .slice3Alen).2, h1, h2]

theorem min2A_ok {x y z x' y' : Value} (h : min2A x y = some z) (hx : VRel ρ x x') (hy : VRel ρ y y') (w : World) : (Builtin.min2 x' y').run X.P w = .ok z w ∧ VRel ρ z z := by
  unfold min2A at h
  split at h
  · cases hx; cases hy; cases h
    rename_i k x j y
    refine ⟨?_, .int _ _⟩
    simp only [Builtin.min2, Sem.run_pure, intLt_eq]
    by_cases c : y < x <;> simp [c]
  · cases hx; cases hy; cases h
    rename_i x y
    refine ⟨?_, .string _⟩
    simp only [Builtin.min2, Sem.run_bind]
    rw [strOp_ok (v := .bool (ltB x.data.toList y.data.toList || eqB x.data.toList y.data.toList)) rfl]
    simp only [Result.andThen_ok, asBool, Sem.run_pure]
    cases (ltB x.data.toList y.data.toList || eqB x.data.toList y.data.toList) <;> rfl
  · cases h

theorem max2A_ok {x y z x' y' : Value} (h : max2A x y = some z) (hx : VRel ρ x x') (hy : VRel ρ y y') (w : World) : (Builtin.max2 x' y').run X.P w = .ok z w ∧ VRel ρ z z := by
  unfold max2A at h
  split at h
  · cases hx; cases hy; cases h
    rename_i k x j y
    refine ⟨?_, .int _ _⟩
    simp only [Builtin.max2, Sem.run_pure, intLt_eq]
    by_cases c : x < y <;> simp [c]
  · cases hx; cases hy; cases h
    rename_i x y
    refine ⟨?_, .string _⟩
    simp only [Builtin.max2, Sem.run_bind]
    rw [strOp_ok (v := .bool (!ltB x.data.toList y.data.toList)) rfl]
    simp only [Result.andThen_ok, asBool, Sem.run_pure]
    cases (!ltB x.data.toList y.data.toList) <;> rfl
  · cases h

theorem foldA_ok {f : Value → Value → Option Value} {g : Value → Value → Sem Value} (w : World)
    (hf : ∀ x y z x' y', f x y = some z → VRel ρ x x' → VRel ρ y y' → (g x' y').run X.P w = .ok z w ∧ VRel ρ z z) :
    ∀ (l l' : List Value) (x x' v : Value), foldA f l x = some v → LRel ρ l l' → VRel ρ x x' → ∃ v', (l'.foldlM g x').run X.P w = .ok v' w ∧ VRel ρ v v'
  | [], l', x, x', v, h, hl, hx => by
    simp only [foldA] at h; cases h
    rw [hl.unnil]; exact ⟨x', by simp, hx⟩
  | y :: l, l', x, x', v, h, hl, hx => by
    obtain ⟨y', m, rfl, hy, hm⟩ := hl.uncons
    simp only [foldA] at h
    cases hz : f x y with
    | none => rw [hz] at h; cases h
    | some z =>
      rw [hz] at h
      obtain ⟨r, vz⟩ := hf x y z x' y' hz hx hy
      obtain ⟨v', hv, hr⟩ := foldA_ok w hf l m z z v h hm vz
      exact ⟨v', by simp [r, hv], hr⟩

end
end Go.Ev
