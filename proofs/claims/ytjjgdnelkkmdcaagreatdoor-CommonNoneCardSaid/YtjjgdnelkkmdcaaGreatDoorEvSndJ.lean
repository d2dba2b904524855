/-
  Operations that write: what the evaluator says of them is true of the model.
-/
import Derived.Test.YtjjgdnelkkmdcaaGreatDoorEvSndI
set_option linter.all false
namespace Go.Ev

theorem one_rel {ρ : Rn} {v v' : Value} (h : VRel ρ v v') (ho : one v = true) : v'.oneCell' = true := by
  cases h with
  | sym h hs hn => cases v' <;> first | rfl | exact absurd rfl (hn _).1 | exact absurd rfl (hn _).2
  | agg _ _ => simp [one] at ho
  | tuple _ _ => simp [one] at ho
  | _ => rfl

theorem setCell_heap {w : World} {a : Addr} {v : Value} {cs : Array Value} {el : TypeId} {fz : Nat × Nat} (hs : a.spot = none) (hb : w.heap[a.block]? = some (.cells cs el fz)) :
    w.setCell a v = { w with heap := w.heap.setIfInBounds a.block (.cells (cs.setIfInBounds a.off v) el fz) } := by
  unfold World.setCell
  congr 1
  apply Array.ext_getElem?
  intro i
  rw [Array.getElem?_modify]
  by_cases e : a.block = i
  · subst e
    have hlt := (Array.getElem?_eq_some_iff.1 hb).1
    rw [if_pos rfl, hb, Array.getElem?_setIfInBounds_self_of_lt hlt]
    simp [hs]
  · rw [if_neg e, Array.getElem?_setIfInBounds_ne e]

theorem set_same {α : Type} {a : Array α} {i : Nat} {x : α} (h : a[i]? = some x) : a.setIfInBounds i x = a := by
  apply Array.ext_getElem?
  intro j
  by_cases e : i = j
  · subst e
    rw [Array.getElem?_setIfInBounds_self_of_lt (Array.getElem?_eq_some_iff.1 h).1, h]
  · rw [Array.getElem?_setIfInBounds_ne e]

theorem storeCells_ok (P : Program) (el : TypeId) (fz : Nat × Nat) (a : Addr) (hs : a.spot = none) : ∀ (vs : List Value) (k : Nat) (cs : Array Value) (w : World),
    w.heap[a.block]? = some (.cells cs el fz) → a.off + k + vs.length ≤ cs.size → (∀ i, a.off + k ≤ i → i < a.off + k + vs.length → ¬ (fz.1 ≤ i ∧ i < fz.2)) → (∀ v ∈ vs, v.oneCell' = true) →
    ∃ cs' : Array Value, cs'.toList = spl cs.toList (a.off + k) vs ∧ (storeCells a vs k).run P w = .ok () { w with heap := w.heap.setIfInBounds a.block (.cells cs' el fz) }
  | [], k, cs, w, hb, hl, hf, hv => by
    simp only [List.length_nil, Nat.add_zero] at hl
    refine ⟨cs, by simp [spl], ?_⟩
    unfold storeCells
    simp only [Sem.run_pure]
    rw [set_same hb]
  | v :: vs, k, cs, w, hb, hl, hf, hv => by
    simp only [List.length_cons] at hl hf
    unfold storeCells
    have hab : (a.add k).block = a.block := add_block a k
    have hao : (a.add k).off = a.off + k := add_off a k
    have has : (a.add k).spot = none := add_spot hs k
    have hlt : a.off + k < cs.size := by omega
    have hc : w.cell? (a.add k) = some cs[a.off + k] := by
      unfold World.cell?
      rw [hab, hb]
      simp [has, hao, hlt]
    have hfr : w.frozen? (a.add k) = false := by
      unfold World.frozen?
      rw [hab, hb]
      have := hf (a.off + k) (by omega) (by omega)
      obtain ⟨lo, hi⟩ := fz
      simp [hao] at this ⊢
      omega
    have hst : (store (a.add k) v).run P w = .ok () { w with heap := w.heap.setIfInBounds a.block (.cells (cs.setIfInBounds (a.off + k) v) el fz) } := by
      rw [run_store P w _ v _ (hv v (by simp)), hc]
      simp only [hfr, Bool.false_eq_true, if_false]
      rw [setCell_heap has (by rw [hab]; exact hb), hab, hao]
    obtain ⟨hlb, _⟩ := Array.getElem?_eq_some_iff.1 hb
    obtain ⟨cs', h1, h2⟩ := storeCells_ok P el fz a hs vs (k + 1) (cs.setIfInBounds (a.off + k) v) { w with heap := w.heap.setIfInBounds a.block (.cells (cs.setIfInBounds (a.off + k) v) el fz) }
      (by simp [hlb]) (by simp; omega) (fun i h3 h4 => hf i (by omega) (by omega)) (fun u hu => hv u (by simp [hu]))
    refine ⟨cs', ?_, ?_⟩
    · rw [h1]
      have hlt' : a.off + k < cs.toList.length := by simpa using hlt
      simp only [spl, Array.toList_setIfInBounds, List.length_cons]
      have e1 : (cs.toList.set (a.off + k) v).take (a.off + (k + 1)) = cs.toList.take (a.off + k) ++ [v] := by
        rw [show a.off + (k + 1) = a.off + k + 1 by omega, List.take_set, List.take_succ_eq_append_getElem hlt', List.set_append_right _ _ (by simp; omega)]
        have e0 : a.off + k - min (a.off + k) cs.size = 0 := by omega
        simp [e0]
      have e2 : (cs.toList.set (a.off + k) v).drop (a.off + (k + 1) + vs.length) = cs.toList.drop (a.off + k + (vs.length + 1)) := by
        rw [List.drop_set_of_lt (by omega)]
        congr 1; omega
      rw [e1, e2]; simp
    · simp only [Sem.run_bind, hst, Result.andThen_ok, h2]
      congr 2
      apply Array.ext_getElem?
      intro j
      by_cases e : a.block = j
      · subst e
        rw [Array.getElem?_setIfInBounds_self_of_lt (by simpa using hlb), Array.getElem?_setIfInBounds_self_of_lt hlb]
      · rw [Array.getElem?_setIfInBounds_ne e, Array.getElem?_setIfInBounds_ne e, Array.getElem?_setIfInBounds_ne e]

theorem spl_get {cs vs : List Value} {off : Nat} (h : off + vs.length ≤ cs.length) (i : Nat) : (spl cs off vs)[i]? = if off ≤ i ∧ i < off + vs.length then vs[i - off]? else cs[i]? := by
  unfold spl
  by_cases h1 : i < off
  · rw [if_neg (by omega), List.append_assoc, List.getElem?_append_left (by simp; omega), List.getElem?_take_of_lt h1]
  · by_cases h2 : i < off + vs.length
    · rw [if_pos ⟨by omega, h2⟩, List.append_assoc, List.getElem?_append_right (by simp; omega), List.getElem?_append_left (by simp; omega)]
      congr 1
      simp; omega
    · rw [if_neg (by omega), List.getElem?_append_right (by simp; omega), List.getElem?_drop]
      congr 1
      simp; omega

/-- Storing cells of a name. -/
theorem storeA_ok {X : Cx} {ρ : Rn} {H H' : Heap} {w : World} (hw : WRel ρ H w) {a a' : Addr} {vs vs' : List Value} (h : storeA H a vs = some H') (hv : LRel ρ vs vs')
    {L : Loc} (hL : ρ a.block = some L) (hb : a'.block = L.block) (ho : a'.off = a.off + L.shift) (hs : a'.spot = a.spot) :
    ∃ w', (storeCells a' vs').run X.P w = .ok () w' ∧ Goes ρ H w ρ H' w' := by
  unfold storeA at h
  split at h
  · rename_i cs el opn str hsp hH
    cases hc : (Nat.ble (a.off + vs.length) cs.length && vs.all one) with
    | false => rw [hc, cond_false] at h; cases h
    | true =>
      rw [hc, cond_true] at h; cases h
      rw [Bool.and_eq_true] at hc
      have hle := Nat.le_of_ble_eq_true hc.1
      obtain ⟨K, o', hK, hk, hrel⟩ := hw.obj a.block _ hH
      rw [hL] at hK; cases hK
      obtain ⟨cs', fz, rfl, hopn, hcell, hfr, hfo, hst⟩ := hrel.cellsInv
      have hsp' : a'.spot = none := hs.trans hsp
      have hlen : vs'.length = vs.length := hv.1.symm
      have hsz : ∀ i, i < cs.length → i + L.shift < cs'.size := by
        intro i hi
        obtain ⟨v', hv', _⟩ := hcell i _ (List.getElem?_eq_getElem hi)
        exact (Array.getElem?_eq_some_iff.1 hv').1
      by_cases hz : vs.length = 0
      · have hvs : vs = [] := List.eq_nil_of_length_eq_zero hz
        have hvs' : vs' = [] := List.eq_nil_of_length_eq_zero (by omega)
        subst hvs hvs'
        refine ⟨w, by simp [storeCells], ?_⟩
        have : spl cs a.off [] = cs := by simp [spl]
        rw [this]
        exact Goes.update hw hH hL (by rw [set_same hk]) rfl rfl hrel
      · have hlast := hsz (a.off + vs.length - 1) (by omega)
        obtain ⟨ds, hds, hrun⟩ := storeCells_ok X.P el fz a' hsp' vs' 0 cs' w (by rw [hb]; exact hk) (by omega)
          (fun i h1 h2 => by
            have := hfr (i - L.shift) (by omega)
            have e : i - L.shift + L.shift = i := by omega
            rw [e] at this; exact this)
          (fun v hv' => by
            obtain ⟨i, hi, rfl⟩ := List.mem_iff_getElem.1 hv'
            have hi' : i < vs.length := by omega
            exact one_rel (hv.2 i vs[i] vs'[i] (List.getElem?_eq_getElem hi') (List.getElem?_eq_getElem hi)) (List.all_eq_true.1 hc.2 _ (by simp)))
        refine ⟨_, hrun, Goes.update hw hH hL (by rw [hb]) rfl rfl ?_⟩
        simp only [ORel]
        have hdsz : ds.size = cs'.size := by
          have h1 := congrArg List.length hds
          rw [spl_length (by simp; omega)] at h1
          simpa using h1
        refine ⟨trivial, by rw [hopn, hdsz], fun i v hi => ?_, ?_, by rw [hdsz]; exact hfo, hst⟩
        · rw [spl_get (by omega)] at hi
          have hd : ds[i + L.shift]? = (spl cs'.toList (a'.off + 0) vs')[i + L.shift]? := by rw [← hds]; simp
          rw [hd, spl_get (by simp; omega)]
          by_cases hin : a.off ≤ i ∧ i < a.off + vs.length
          · rw [if_pos hin] at hi
            rw [if_pos (by omega)]
            obtain ⟨v', hv', hr⟩ := hv.get hi
            refine ⟨v', ?_, hr⟩
            rw [← hv']; congr 1; omega
          · rw [if_neg hin] at hi
            rw [if_neg (by omega)]
            obtain ⟨v', hv', hr⟩ := hcell i v hi
            exact ⟨v', by simpa using hv', hr⟩
        · intro i hi
          rw [spl_length hle] at hi
          exact hfr i hi
  · cases h

end Go.Ev
