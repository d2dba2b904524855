/-
  The frame: from a world to another one, with names that a heap does not have and that stay as they are.
-/
import Derived.Test.YtjjgdnelkkmdcaaGreatDoorEvBase
set_option linter.all false
namespace Go.Ev

/-- As Goes, the names behind it given by a relation. -/
structure GoesR (ρ : Rn) (H : Heap) (w : World) (ρ' : Rn) (R : Nat → AObj → Prop) (w' : World) : Prop where
  ext : ρ.Ext ρ'
  obj : ∀ n o, R n o → ∃ L o', ρ' n = some L ∧ w'.heap[L.block]? = some o' ∧ ORel ρ' L o o'
  inj : ∀ n o m p L K, R n o → R m p → ρ' n = some L → ρ' m = some K → L.block = K.block → n = m
  size : w.heap.size ≤ w'.heap.size
  os : w'.os = w.os
  output : w'.output = w.output
  same : ∀ b, b < w.heap.size → (∀ n o L, H.get n = some o → ρ n = some L → L.block ≠ b) → w'.heap[b]? = w.heap[b]?
  new : ∀ n o L, R n o → ρ' n = some L → w.heap.size ≤ L.block ∨ ∃ m p K, H.get m = some p ∧ ρ m = some K ∧ K.block = L.block

theorem GoesR.goes {ρ ρ' : Rn} {H K : Heap} {w w' : World} {R : Nat → AObj → Prop} (h : GoesR ρ H w ρ' R w') (hs : ∀ n o, K.get n = some o → R n o) : Goes ρ H w ρ' K w' where
  ext := h.ext
  rel := ⟨fun n o hn => h.obj n o (hs n o hn), fun n o m p L M hn hm => h.inj n o m p L M (hs n o hn) (hs m p hm)⟩
  size := h.size
  os := h.os
  output := h.output
  same := h.same
  new := fun n o L hn => h.new n o L (hs n o hn)

theorem GoesR.wrel {ρ ρ' : Rn} {H K : Heap} {w w' : World} {R : Nat → AObj → Prop} (h : GoesR ρ H w ρ' R w') (hs : ∀ n o, K.get n = some o → R n o) : WRel ρ' K w' := (h.goes hs).rel

theorem GoesR.refl {ρ : Rn} {H : Heap} {w : World} {R : Nat → AObj → Prop} (h : WRel ρ H w) (hs : ∀ n o, R n o → H.get n = some o) : GoesR ρ H w ρ R w where
  ext := .refl ρ
  obj := fun n o hn => h.obj n o (hs n o hn)
  inj := fun n o m p L K hn hm => h.inj n o m p L K (hs n o hn) (hs m p hm)
  size := Nat.le_refl _
  os := rfl
  output := rfl
  same := fun _ _ _ => rfl
  new := fun n o L hn hL => .inr ⟨n, o, L, hs n o hn, hL, rfl⟩

theorem GoesR.sub {ρ ρ' : Rn} {H : Heap} {w w' : World} {R R' : Nat → AObj → Prop} (h : GoesR ρ H w ρ' R w') (hs : ∀ n o, R' n o → R n o) : GoesR ρ H w ρ' R' w' :=
  { h with obj := fun n o hn => h.obj n o (hs n o hn), inj := fun n o m p L K hn hm => h.inj n o m p L K (hs n o hn) (hs m p hm), new := fun n o L hn => h.new n o L (hs n o hn) }

/-- The frame rule: a run over a part of the names; the others stay. -/
theorem GoesR.frame {ρ0 ρ ρ' : Rn} {H0 H H' : Heap} {w0 w w' : World} {R R' : Nat → AObj → Prop} (a : GoesR ρ0 H0 w0 ρ R w) (hs : ∀ n o, H.get n = some o → R n o) (b : Goes ρ H w ρ' H' w')
    (hR : ∀ n o, R' n o → H'.get n = some o ∨ (R n o ∧ H.get n = none)) : GoesR ρ0 H0 w0 ρ' R' w' := by
  -- a name that stays: its block, which no name of the part has
  have stay : ∀ n o, R n o → H.get n = none → ∃ L o', ρ n = some L ∧ ρ' n = some L ∧ w.heap[L.block]? = some o' ∧ w'.heap[L.block]? = some o' ∧ ORel ρ' L o o' ∧
      ∀ m p K, H.get m = some p → ρ m = some K → K.block ≠ L.block := by
    intro n o hn hno
    obtain ⟨L, o', hL, ho', hr⟩ := a.obj n o hn
    have hne : ∀ m p K, H.get m = some p → ρ m = some K → K.block ≠ L.block := by
      intro m p K hm hK e
      have := a.inj m p n o K L (hs m p hm) hn hK hL e
      subst this
      rw [hno] at hm; cases hm
    have hlt : L.block < w.heap.size := (Array.getElem?_eq_some_iff.1 ho').1
    refine ⟨L, o', hL, b.ext n L hL, ho', ?_, hr.mono b.ext, hne⟩
    rw [b.same _ hlt hne]; exact ho'
  have mixed : ∀ n o m p L K, H'.get n = some o → R m p → H.get m = none → ρ' n = some L → ρ' m = some K → L.block = K.block → False := by
    intro n o m p L K hn hm hmn hL hK e
    obtain ⟨K', p', hK1, hK2, hp1, _, _, hne⟩ := stay m p hm hmn
    rw [hK] at hK2; cases hK2
    have hlt : K.block < w.heap.size := (Array.getElem?_eq_some_iff.1 hp1).1
    rcases b.new n o L hn hL with h | ⟨m', p'', K'', h1, h2, h3⟩
    · omega
    · exact hne m' p'' K'' h1 h2 (h3.trans e)
  refine ⟨a.ext.trans b.ext, ?_, ?_, Nat.le_trans a.size b.size, b.os.trans a.os, b.output.trans a.output, ?_, ?_⟩
  · intro n o hn
    rcases hR n o hn with h | ⟨h1, h2⟩
    · exact b.rel.obj n o h
    · obtain ⟨L, o', _, hL, _, ho', hr, _⟩ := stay n o h1 h2
      exact ⟨L, o', hL, ho', hr⟩
  · intro n o m p L K hn hm hL hK e
    rcases hR n o hn with h | ⟨h1, h2⟩ <;> rcases hR m p hm with g | ⟨g1, g2⟩
    · exact b.rel.inj n o m p L K h g hL hK e
    · exact (mixed n o m p L K h g1 g2 hL hK e).elim
    · exact (mixed m p n o K L g h1 h2 hK hL e.symm).elim
    · obtain ⟨L', _, hL1, hL2, _⟩ := stay n o h1 h2
      obtain ⟨K', _, hK1, hK2, _⟩ := stay m p g1 g2
      rw [hL] at hL2; cases hL2
      rw [hK] at hK2; cases hK2
      exact a.inj n o m p L K h1 g1 hL1 hK1 e
  · intro k hk hno
    rw [b.same k (Nat.lt_of_lt_of_le hk a.size) ?_]
    · exact a.same k hk hno
    · intro n o L hn hL e
      rcases a.new n o L (hs n o hn) hL with h | ⟨m, p, K, hm, hK, e'⟩
      · omega
      · exact hno m p K hm hK (e'.trans e)
  · intro n o L hn hL
    rcases hR n o hn with h | ⟨h1, h2⟩
    · rcases b.new n o L h hL with g | ⟨m, p, K, hm, hK, e⟩
      · exact .inl (Nat.le_trans a.size g)
      · rcases a.new m p K (hs m p hm) hK with g | ⟨m', p', K', hm', hK', e'⟩
        · exact .inl (e ▸ g)
        · exact .inr ⟨m', p', K', hm', hK', e'.trans e⟩
    · obtain ⟨L', _, hL1, hL2, _⟩ := stay n o h1 h2
      rw [hL] at hL2; cases hL2
      exact a.new n o L h1 hL1

/-- Behind a run over a part, a name that stayed is none of the part's. -/
theorem GoesR.apart {ρ0 ρ ρ' : Rn} {H0 H H' : Heap} {w0 w w' : World} {R : Nat → AObj → Prop} (a : GoesR ρ0 H0 w0 ρ R w) (hs : ∀ n o, H.get n = some o → R n o) (b : Goes ρ H w ρ' H' w')
    {n : Nat} {o : AObj} (hn : R n o) (hno : H.get n = none) : H'.get n = none := by
  cases h : H'.get n with
  | none => rfl
  | some q =>
    obtain ⟨L, o', hL, ho', _⟩ := a.obj n o hn
    have hlt : L.block < w.heap.size := (Array.getElem?_eq_some_iff.1 ho').1
    rcases b.new n q L h (b.ext n L hL) with g | ⟨m, p, K, h1, h2, h3⟩
    · omega
    · have := a.inj m p n o K L (hs m p h1) hn h2 hL h3
      subst this
      rw [hno] at h1; cases h1

end Go.Ev
