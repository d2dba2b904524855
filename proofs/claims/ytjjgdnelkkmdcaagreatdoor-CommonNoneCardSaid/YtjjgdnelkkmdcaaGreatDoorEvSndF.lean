/-
  What the evaluator says of operations that look at memory is true of the model.
-/
import Derived.Test.YtjjgdnelkkmdcaaGreatDoorEvSndE
set_option linter.all false
namespace Go.Ev

theorem add_block (a : Addr) (n : Nat) : (a.add n).block = a.block := by unfold Addr.add; split <;> rfl
theorem add_off (a : Addr) (n : Nat) : (a.add n).off = a.off + n := by
  unfold Addr.add
  split
  · omega
  · rfl
theorem add_spot {a : Addr} (h : a.spot = none) (n : Nat) : (a.add n).spot = none := by
  unfold Addr.add
  split
  · exact h
  · rfl

theorem cell_of {ρ : Rn} {H : Heap} {w : World} (hw : WRel ρ H w) {n : Nat} {cs : List Value} {el : TypeId} {opn : Option Nat} {str : Bool} (hH : H.get n = some (.cells cs el opn str))
    {L : Loc} (hL : ρ n = some L) {i : Nat} {v : Value} (hi : cs[i]? = some v) {a : Addr} (hb : a.block = L.block) (ho : a.off = i + L.shift) (hs : a.spot = none) :
    ∃ v', w.cell? a = some v' ∧ VRel ρ v v' := by
  obtain ⟨K, o', hK, hk, hr⟩ := hw.obj n _ hH
  rw [hL] at hK; cases hK
  cases o' with
  | cells cs' elem' fz =>
    simp only [ORel] at hr
    obtain ⟨v', hv, hrel⟩ := hr.2.2.1 i v hi
    refine ⟨v', ?_, hrel⟩
    unfold World.cell?
    rw [hb, hk]
    simp [hs, ho, hv]
  | _ => simp [ORel] at hr

theorem cellsAt_all {X : Cx} {ρ : Rn} {H : Heap} {w : World} (hw : WRel ρ H w) {a a' : Addr} {n : Nat} {l : List Value} (h : cellsAt H a n = some l)
    {L : Loc} (hL : ρ a.block = some L) (hb : a'.block = L.block) (ho : a'.off = a.off + L.shift) (hs : a'.spot = a.spot) :
    ∃ l' : List Value, (∀ w2 : World, w2.heap = w.heap → (loadCells a' n).run X.P w2 = .ok l'.toArray w2) ∧ LRel ρ l l' ∧ l.length = n ∧ (∀ j q, l'[j]? = some q → w.cell? (a'.add j) = some q) := by
  unfold cellsAt at h
  split at h
  · rename_i cs el opn str hsp hH
    obtain ⟨hle, rfl⟩ := cut_ok h
    have hlen : ((cs.drop a.off).take n).length = n := by simp; omega
    have key : ∀ j, j < n → ∃ v', w.cell? (a'.add j) = some v' ∧ ∃ v, ((cs.drop a.off).take n)[j]? = some v ∧ VRel ρ v v' := by
      intro j hj
      have hv : cs[a.off + j]? = some cs[a.off + j] := List.getElem?_eq_getElem (by omega)
      obtain ⟨v', hc, hrel⟩ := cell_of hw hH hL hv (a := a'.add j) (by rw [add_block]; exact hb) (by rw [add_off]; omega) (add_spot (hs.trans hsp) j)
      refine ⟨v', hc, _, ?_, hrel⟩
      rw [List.getElem?_take_of_lt hj, List.getElem?_drop]; exact hv
    have pick : ∃ l' : List Value, l'.length = n ∧ ∀ j, j < n → ∃ v', l'[j]? = some v' ∧ w.cell? (a'.add j) = some v' := by
      refine ⟨(List.range n).map fun j => (w.cell? (a'.add j)).getD undef, by simp, fun j hj => ?_⟩
      obtain ⟨v', hc, _⟩ := key j hj
      exact ⟨v', by simp [hj, hc], hc⟩
    obtain ⟨l', hl', hpick⟩ := pick
    have hcells : ∀ j q, l'[j]? = some q → w.cell? (a'.add j) = some q := by
      intro j v hj
      have hjn : j < n := by rw [← hl']; exact (List.getElem?_eq_some_iff.1 hj).1
      obtain ⟨v', h1, h2⟩ := hpick j hjn
      rw [hj] at h1; cases h1; exact h2
    refine ⟨l', fun w2 hw2 => ?_, ⟨by rw [hlen, hl'], fun i x y hx hy => ?_⟩, hlen, hcells⟩
    · rw [← hl']
      refine run_loadCells_list _ _ _ fun j v hj => ?_
      rw [← hcells j v hj]
      unfold World.cell?
      rw [hw2]
    · have hin : i < n := by rw [← hlen]; exact (List.getElem?_eq_some_iff.1 hx).1
      obtain ⟨v', h1, h2⟩ := hpick i hin
      obtain ⟨u, h3, v, h4, h5⟩ := key i hin
      rw [h2] at h3; cases h3
      rw [h1] at hy; cases hy
      rw [hx] at h4; cases h4
      exact h5
  · cases h

theorem cellsAt_ok {X : Cx} {ρ : Rn} {H : Heap} {w : World} (hw : WRel ρ H w) {a a' : Addr} {n : Nat} {l : List Value} (h : cellsAt H a n = some l)
    {L : Loc} (hL : ρ a.block = some L) (hb : a'.block = L.block) (ho : a'.off = a.off + L.shift) (hs : a'.spot = a.spot) :
    ∃ l' : List Value, (loadCells a' n).run X.P w = .ok l'.toArray w ∧ LRel ρ l l' ∧ l.length = n := by
  obtain ⟨l', h1, h2, h3, _⟩ := cellsAt_all (X := X) hw h hL hb ho hs
  exact ⟨l', h1 w rfl, h2, h3⟩

end Go.Ev
