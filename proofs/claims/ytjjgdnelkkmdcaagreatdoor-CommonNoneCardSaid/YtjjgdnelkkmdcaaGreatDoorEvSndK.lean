/-
  append: what the evaluator says of it is true of the model, whatever capacity is drawn.
-/
import Derived.Test.YtjjgdnelkkmdcaaGreatDoorEvSndJ
set_option linter.all false
namespace Go.Ev

theorem growBy_le (need : Nat) : ∀ (k c : Nat), c ≤ need * 2 + 192 → Builtin.growBy need k c ≤ need * 2 + 192
  | 0, c, h => by simpa [Builtin.growBy] using h
  | k + 1, c, h => by
    unfold Builtin.growBy
    by_cases e : c ≥ need
    · rw [if_pos e]; exact h
    · rw [if_neg e]; exact growBy_le need k _ (by omega)
theorem nextcap_le {need cap : Nat} (h : cap < need) : Builtin.nextslicecap need cap ≤ need * 2 + 192 := by
  unfold Builtin.nextslicecap
  split
  · omega
  · split
    · omega
    · exact growBy_le need 4 cap (by omega)

/-- What is said of an operation that writes: its value (or none), the worlds, the names. -/
def WriteSaid (X : Cx) (ρ : Rn) (H : Heap) (w : World) (o : Oper) (r : Operand → Value) (n : Nat) (v : Value) (H' : Heap) : Prop :=
  ∃ ρ' nx v' w', (execOp r o).run X.P w = .ok nx w' ∧ (nx = .value v' ∨ (nx = .skip ∧ v' = undef)) ∧ VRel ρ' v v' ∧ Goes ρ H w ρ' H' w' ∧ (∀ m, m ≠ n → ρ' m = ρ m)

section
variable {X : Cx} {ρ : Rn}

theorem firstA_all {H : Heap} {w : World} (hw : WRel ρ H w) {size n k : Nat} {x x' : Value} {l : List Value} (h : firstA H size n x = some l) (hk : lenA x = some k) (hn : n ≤ k) (hx : VRel ρ x x') :
    ∃ l' : List Value, (∀ w2 : World, w2.heap = w.heap → (Builtin.firstCells size n x').run X.P w2 = .ok l'.toArray w2) ∧ LRel ρ l l' := by
  unfold firstA at h
  split at h
  · rename_i a ln cp
    simp only [lenA] at hk; cases hk
    cases hx with
    | @slice _ a' _ _ cap' L h1 h2 h3 h3' h4 =>
    by_cases hz : n * size = 0
    · have hl : l = [] := by
        unfold cellsAt at h
        split at h
        · obtain ⟨_, rfl⟩ := cut_ok h; simp [hz]
        · cases h
      subst hl
      refine ⟨[], fun w2 _ => ?_, .nil ρ⟩
      unfold Builtin.firstCells
      rw [hz]; simp [loadCells, loadCellsFrom]
    · have ho : a'.off = a.off + L.shift := by
        have hn0 : 0 < n := by
          rcases Nat.eq_zero_or_pos n with e | e
          · rw [e, Nat.zero_mul] at hz; exact absurd rfl hz
          · exact e
        unfold SlRel at h4
        split at h4
        · exact h4.1
        · exact h4.2.2 (by omega)
      obtain ⟨l', p, q, hlen⟩ := cellsAt_all (X := X) hw h h1 h2 ho (h3'.trans h3.symm)
      exact ⟨l', fun w2 hw2 => by unfold Builtin.firstCells; exact p w2 hw2, q⟩
  · rename_i ln cp
    cases h
    cases hx
    exact ⟨[], fun w2 _ => by simp [Builtin.firstCells], .nil ρ⟩
  · rename_i s
    cases h
    have := hx.unstr; subst this
    refine ⟨(s.data.toList.take n).map fun b => .int .u8 b.toNat, fun w2 _ => ?_, rfl, fun i x y hx hy => ?_⟩
    · unfold Builtin.firstCells
      simp only [Sem.run_pure]
      congr 1
      apply Array.ext'
      simp
    · rw [hx] at hy; cases hy
      simp only [List.getElem?_map, Option.map_eq_some_iff] at hx
      obtain ⟨b, _, rfl⟩ := hx
      exact .int _ _
  · cases h

theorem firstA_run {H : Heap} {w : World} (hw : WRel ρ H w) {size n k : Nat} {x x' : Value} {l : List Value} (h : firstA H size n x = some l) (hk : lenA x = some k) (hn : n ≤ k) (hx : VRel ρ x x') :
    ∃ l' : List Value, (Builtin.firstCells size n x').run X.P w = .ok l'.toArray w ∧ LRel ρ l l' := by
  obtain ⟨l', h1, h2⟩ := firstA_all (X := X) hw h hk hn hx
  exact ⟨l', h1 w rfl, h2⟩

theorem storeA_nil {H H' : Heap} {w : World} (hw : WRel ρ H w) {a : Addr} (h : storeA H a [] = some H') : Goes ρ H w ρ H' w := by
  unfold storeA at h
  split at h
  · rename_i cs el opn str hsp hH
    cases hc : (Nat.ble (a.off + ([] : List Value).length) cs.length && ([] : List Value).all one) with
    | false => rw [hc, cond_false] at h; cases h
    | true =>
      rw [hc, cond_true] at h; cases h
      obtain ⟨K, o', hK, hk, hrel⟩ := hw.obj a.block _ hH
      have : spl cs a.off [] = cs := by simp [spl]
      rw [this]
      exact Goes.update hw hH hK (by rw [set_same hk]) rfl rfl hrel
  · cases h

theorem lenOf_ok {x x' : Value} {k : Nat} (h : lenA x = some k) (hx : VRel ρ x x') (w : World) : (Builtin.lenOf x').run X.P w = .ok k w := by
  unfold lenA at h
  split at h
  · cases h; cases hx <;> simp [Builtin.lenOf]
  · cases h; have := hx.unstr; subst this; simp [Builtin.lenOf]
  · cases h

/-- append where it fits. -/
theorem append_fits (ok : X.Ok) {w : World} {argTypes : Array TypeId} {ty t u el : TypeId} {du : TypeDesc} {size k len cap : Nat} {base : Option Addr} {x' : Value} {new : Array Value} {w' : World}
    (h0 : argTypes[0]? = some t) (h1 : argTypes[1]? = some u) (hu : X.under t = some (.slice el)) (hdu : X.under u = some du) (hni : isIntD du = false)
    (hs : X.size el = some size) (hlen : (Builtin.lenOf x').run X.P w = .ok k w) (hfit : len + k ≤ cap) (hnew : (Builtin.firstCells size k x').run X.P w = .ok new w)
    (hst : match base with | some a => (storeCells (a.add (len * size)) new.toList).run X.P w = .ok () w' | none => w' = w) :
    (Builtin.append_ argTypes ty #[.slice base len cap, x']).run X.P w = .ok (.slice base (len + k) cap) w' := by
  unfold Builtin.append_
  simp only [h0, h1]
  simp only [List.getElem?_toArray, List.getElem?_cons_zero, List.getElem?_cons_succ, Sem.run_bind, run_under ok hu, run_under ok hdu, run_size ok hs, Result.andThen_ok, Sem.run_pure]
  cases du <;> first | (simp [isIntD] at hni; done) | skip
  all_goals simp only [Bool.false_eq_true, if_false, Sem.run_bind, hlen, Result.andThen_ok, if_pos hfit, Bool.not_false, if_true, hnew]
  all_goals
    cases base with
    | none => subst hst; simp
    | some a => simp only at hst; simp [hst]

/-- append where it grows. -/
theorem append_grows (ok : X.Ok) {w w1 : World} {argTypes : Array TypeId} {ty t u el : TypeId} {du : TypeDesc} {i : TypeInfo} {zv : Value} {size k len cap newCap : Nat} {base : Option Addr} {x' : Value} {old new : Array Value}
    (h0 : argTypes[0]? = some t) (h1 : argTypes[1]? = some u) (hu : X.under t = some (.slice el)) (hdu : X.under u = some du) (hni : isIntD du = false)
    (hs : X.size el = some size) (hi : X.ty.get el = some i) (hz : ∀ w, (zeroValue el).run X.P w = .ok zv w) (hlen : (Builtin.lenOf x').run X.P w = .ok k w) (hgr : cap < len + k)
    (hb1 : (len + k) * 2 + 192 ≤ 1048576) (hb2 : i.bytes ≤ 1048576)
    (hq : (choose (.appendCap (len + k) cap el)).run X.P w = .ok newCap w1)
    (hold : (Builtin.firstCells size len (.slice base len cap)).run X.P w1 = .ok old w1) (hnew : (Builtin.firstCells size k x').run X.P w1 = .ok new w1) :
    (Builtin.append_ argTypes ty #[.slice base len cap, x']).run X.P w =
      .ok (.slice (some ⟨w1.heap.size, 0, none⟩) (len + k) newCap) { w1 with heap := w1.heap.push (.cells (old ++ new ++ Builtin.zeroCells zv.cells (newCap - (len + k))) el (0, 0)) } := by
  have hn1 : ¬ (((len + k : Nat) : Int) > IntKind.i64.max ∧ (false = true ∨ i.bytes = 0)) := by
    have : IntKind.i64.max = (maxStr : Int) := by decide
    rw [this]
    intro h
    have h1 := h.1
    have h2 : maxStr = 9223372036854775807 := rfl
    omega
  have hn2 : ¬ (Builtin.nextslicecap (len + k) cap * i.bytes > 2 ^ 48) := by
    have h1 := nextcap_le hgr
    have h2 : Builtin.nextslicecap (len + k) cap * i.bytes ≤ 1048576 * 1048576 := Nat.mul_le_mul (by omega) hb2
    omega
  unfold Builtin.append_ newRow
  simp only [h0, h1]
  simp only [List.getElem?_toArray, List.getElem?_cons_zero, List.getElem?_cons_succ, Sem.run_bind, run_under ok hu, run_under ok hdu, run_size ok hs, Result.andThen_ok, Sem.run_pure]
  cases du <;> first | (simp [isIntD] at hni; done) | skip
  all_goals simp only [Bool.false_eq_true, if_false, Sem.run_bind, hlen, Result.andThen_ok, if_neg (Nat.not_le.2 hgr), run_info ok hi]
  all_goals
    rw [if_neg (by simpa using hn1)]
    simp only [Sem.run_bind, run_info ok hi, Result.andThen_ok, if_neg hn2, hq, run_askRoom, hold, Bool.not_false, if_true, hnew, hz, run_newObj, Sem.run_pure]

end
end Go.Ev
