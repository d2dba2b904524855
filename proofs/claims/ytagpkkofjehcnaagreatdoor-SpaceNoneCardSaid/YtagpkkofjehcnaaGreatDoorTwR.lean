/-
  What is kept of a value while it is copied.
-/
import Derived.Test.YtagpkkofjehcnaaGreatDoorTwQ
import Derived.Deep.RegionHeld3
set_option linter.all false
namespace Go.Proofs.YtagpkkofjehcnaaGreatDoor
open Go Go.RowKit

theorem Copy1At.low {w : World} {lo lo' v n x sx} (h : Copy1At w lo v n x sx) (hl : lo' ≤ lo) : Copy1At w lo' v n x sx := by
  obtain ⟨g, hv, hlo, hlt, hc, hs⟩ := h
  exact ⟨g, hv, by omega, hlt, hc, hs⟩
theorem CopyEAt.low {w : World} {lo lo' v E} (h : CopyEAt w lo v E) (hl : lo' ≤ lo) : CopyEAt w lo' v E := by
  obtain ⟨T, G, hv, hlo, hlt, hc, hcp, hs⟩ := h
  exact ⟨T, G, hv, by omega, hlt, hc, fun j hj => (hcp j hj).low hl, hs⟩
theorem Copy1At.grown {w w' : World} {lo v n x sx T} (h : Copy1At w lo v n x sx) (hg : w.grownBy w' (some T)) (hT : T < lo) : Copy1At w' lo v n x sx := by
  obtain ⟨g, hv, hlo, hlt, hc, hs⟩ := h
  have hk : ∀ o, w'.cell? ⟨g, o, none⟩ = w.cell? ⟨g, o, none⟩ := fun o => World.cell?_of_block (hg.block g hlt (by simp; omega))
  exact ⟨g, hv, hlo, Nat.lt_of_lt_of_le hlt hg.size, fun j hj => (hk _).trans (hc j hj), (hk _).trans hs⟩
theorem CopyEAt.grown {w w' : World} {lo v E T} (h : CopyEAt w lo v E) (hg : w.grownBy w' (some T)) (hT : T < lo) : CopyEAt w' lo v E := by
  obtain ⟨t, G, hv, hlo, hlt, hc, hcp, hs, hs2, hs3⟩ := h
  have hk : ∀ o, w'.cell? ⟨t, o, none⟩ = w.cell? ⟨t, o, none⟩ := fun o => World.cell?_of_block (hg.block t hlt (by simp; omega))
  exact ⟨t, G, hv, hlo, Nat.lt_of_lt_of_le hlt hg.size, fun j hj => ⟨(hk _).trans (hc j hj).1, (hk _).trans (hc j hj).2.1, (hk _).trans (hc j hj).2.2⟩, fun j hj => (hcp j hj).grown hg hT, (hk _).trans hs, (hk _).trans hs2, (hk _).trans hs3⟩

/-- Nine stores into one block. -/
def set9 (w : World) (b : Nat) (u0 u1 u2 u3 u4 u5 u6 u7 u8 : Value) : World :=
  ((((((((w.setCell ⟨b, 0, none⟩ u0).setCell ⟨b, 1, none⟩ u1).setCell ⟨b, 2, none⟩ u2).setCell ⟨b, 3, none⟩ u3).setCell ⟨b, 4, none⟩ u4).setCell ⟨b, 5, none⟩ u5).setCell ⟨b, 6, none⟩ u6).setCell ⟨b, 7, none⟩ u7).setCell ⟨b, 8, none⟩ u8

theorem set1_grown (w : World) (b i : Nat) (u : Value) : w.grownBy (w.setCell ⟨b, i, none⟩ u) (some b) :=
  ⟨rfl, rfl, rfl, by simp [World.setCell], fun k _ hk => Below.heap_setCell _ _ _ _ (fun e => hk (by rw [e]))⟩
theorem grown_trans {w w' w'' : World} {r : Option Nat} (h : w.grownBy w' r) (k : w'.grownBy w'' r) : w.grownBy w'' r :=
  ⟨k.os.trans h.os, k.tape.trans h.tape, k.output.trans h.output, Nat.le_trans h.size k.size, fun j hj hne => (k.block j (Nat.lt_of_lt_of_le hj h.size) hne).trans (h.block j hj hne)⟩
theorem set9_grown (w : World) (b : Nat) (u0 u1 u2 u3 u4 u5 u6 u7 u8 : Value) : w.grownBy (set9 w b u0 u1 u2 u3 u4 u5 u6 u7 u8) (some b) := by
  unfold set9
  exact grown_trans (grown_trans (grown_trans (grown_trans (grown_trans (grown_trans (grown_trans (grown_trans (set1_grown _ _ _ _) (set1_grown _ _ _ _)) (set1_grown _ _ _ _)) (set1_grown _ _ _ _)) (set1_grown _ _ _ _)) (set1_grown _ _ _ _)) (set1_grown _ _ _ _)) (set1_grown _ _ _ _)) (set1_grown _ _ _ _)

theorem set9_heap (w : World) (b : Nat) (z0 z1 z2 z3 z4 z5 z6 z7 z8 u0 u1 u2 u3 u4 u5 u6 u7 u8 : Value) (ty : TypeId) (hb : w.heap[b]? = some (.cells #[z0, z1, z2, z3, z4, z5, z6, z7, z8] ty)) :
    (set9 w b u0 u1 u2 u3 u4 u5 u6 u7 u8).heap[b]? = some (.cells #[u0, u1, u2, u3, u4, u5, u6, u7, u8] ty) := by
  simp [set9, World.setCell, Array.getElem?_modify, hb]

/-- What the statement keeps: the argument's box, and that the result's box is there. -/
def SC (w1 : World) (b : Nat) (c0 c1 c2 c3 c4 c5 c6 c7 c8 : Value) (w' : World) : Prop :=
  Below (b + 1) w1 w' ∧ b + 2 ≤ w'.heap.size ∧ w'.heap[b]? = some (.cells #[c0, c1, c2, c3, c4, c5, c6, c7, c8] 38) ∧ ∃ z0 z1 z2 z3 z4 z5 z6 z7 z8, w'.heap[b + 1]? = some (.cells #[z0, z1, z2, z3, z4, z5, z6, z7, z8] 38)

abbrev zfOf (b : Nat) (w' : World) (i : Nat) : Value := (w'.cell? ⟨b + 1, i, none⟩).getD undef

def SF (zf : World → Nat → Value) (w1 : World) (b : Nat) (c0 c1 c2 c3 c4 c5 c6 c7 c8 : Value) (w' : World) : Prop :=
  SC w1 b c0 c1 c2 c3 c4 c5 c6 c7 c8 w' ∧ w'.cell? ⟨b, 0, none⟩ = some c0 ∧ w'.cell? ⟨b, 1, none⟩ = some c1 ∧ w'.cell? ⟨b, 2, none⟩ = some c2 ∧ w'.cell? ⟨b, 3, none⟩ = some c3 ∧ w'.cell? ⟨b, 4, none⟩ = some c4 ∧ w'.cell? ⟨b, 5, none⟩ = some c5 ∧ w'.cell? ⟨b, 6, none⟩ = some c6 ∧ w'.cell? ⟨b, 7, none⟩ = some c7 ∧ w'.cell? ⟨b, 8, none⟩ = some c8 ∧
  w'.cell? ⟨b + 1, 0, none⟩ = some (zf w' 0) ∧ w'.cell? ⟨b + 1, 1, none⟩ = some (zf w' 1) ∧ w'.cell? ⟨b + 1, 2, none⟩ = some (zf w' 2) ∧ w'.cell? ⟨b + 1, 3, none⟩ = some (zf w' 3) ∧ w'.cell? ⟨b + 1, 4, none⟩ = some (zf w' 4) ∧ w'.cell? ⟨b + 1, 5, none⟩ = some (zf w' 5) ∧ w'.cell? ⟨b + 1, 6, none⟩ = some (zf w' 6) ∧ w'.cell? ⟨b + 1, 7, none⟩ = some (zf w' 7) ∧ w'.cell? ⟨b + 1, 8, none⟩ = some (zf w' 8) ∧
  w'.frozen? ⟨b + 1, 0, none⟩ = false ∧ w'.frozen? ⟨b + 1, 1, none⟩ = false ∧ w'.frozen? ⟨b + 1, 2, none⟩ = false ∧ w'.frozen? ⟨b + 1, 3, none⟩ = false ∧ w'.frozen? ⟨b + 1, 4, none⟩ = false ∧ w'.frozen? ⟨b + 1, 5, none⟩ = false ∧ w'.frozen? ⟨b + 1, 6, none⟩ = false ∧ w'.frozen? ⟨b + 1, 7, none⟩ = false ∧ w'.frozen? ⟨b + 1, 8, none⟩ = false

theorem sf_of {zf w1 b c0 c1 c2 c3 c4 c5 c6 c7 c8 w'} (hz : zf = zfOf b) (h : SC w1 b c0 c1 c2 c3 c4 c5 c6 c7 c8 w') : SF zf w1 b c0 c1 c2 c3 c4 c5 c6 c7 c8 w' := by
  subst hz
  obtain ⟨z0, z1, z2, z3, z4, z5, z6, z7, z8, hz⟩ := h.2.2.2
  have hx := h.2.2.1
  refine ⟨h, ?_⟩
  simp [zfOf, World.cell?, World.frozen?, hx, hz]

theorem SC.call {w1 b c0 c1 c2 c3 c4 c5 c6 c7 c8 w2 w3} (hb : Below w2.heap.size w2 w3) (h : SC w1 b c0 c1 c2 c3 c4 c5 c6 c7 c8 w2) : SC w1 b c0 c1 c2 c3 c4 c5 c6 c7 c8 w3 := by
  obtain ⟨h1, h2, h3, z0, z1, z2, z3, z4, z5, z6, z7, z8, hz⟩ := h
  exact ⟨h1.trans (hb.mono (by omega)), Nat.le_trans h2 hb.size, (hb.block _ (by omega)).trans h3, z0, z1, z2, z3, z4, z5, z6, z7, z8, (hb.block _ (by omega)).trans hz⟩

theorem SC.store {w1 b c0 c1 c2 c3 c4 c5 c6 c7 c8 w2} (u0 u1 u2 u3 u4 u5 u6 u7 u8 : Value) (h : SC w1 b c0 c1 c2 c3 c4 c5 c6 c7 c8 w2) : SC w1 b c0 c1 c2 c3 c4 c5 c6 c7 c8 (set9 w2 (b + 1) u0 u1 u2 u3 u4 u5 u6 u7 u8) := by
  obtain ⟨h1, h2, h3, z0, z1, z2, z3, z4, z5, z6, z7, z8, hz⟩ := h
  have hg := set9_grown w2 (b + 1) u0 u1 u2 u3 u4 u5 u6 u7 u8
  exact ⟨h1.grown hg (by omega) (fun k h => by cases h; exact Nat.le_refl _), Nat.le_trans h2 hg.size, (hg.block _ (by omega) (by simp)).trans h3, _, _, _, _, _, _, _, _, _, set9_heap _ _ _ _ _ _ _ _ _ _ _ _ _ _ _ _ _ _ _ _ _ hz⟩

theorem SC.drew {w1 b c0 c1 c2 c3 c4 c5 c6 c7 c8 w2} (h : SC w1 b c0 c1 c2 c3 c4 c5 c6 c7 c8 w2) : SC w1 b c0 c1 c2 c3 c4 c5 c6 c7 c8 w2.drew := by
  obtain ⟨h1, h2, h3, hz⟩ := h
  exact ⟨h1.drew, h2, h3, hz⟩

theorem size104 : (Tryz.prog.info? 38).map (·.size) = some 9 := by kernel_rfl

end Go.Proofs.YtagpkkofjehcnaaGreatDoor
