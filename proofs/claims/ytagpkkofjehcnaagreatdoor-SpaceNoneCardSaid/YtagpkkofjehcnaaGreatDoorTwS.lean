/-
  A value and its copy.
-/
import Derived.Test.YtagpkkofjehcnaaGreatDoorTwR
import Derived.Deep.RegionHeld3
set_option linter.all false
namespace Go.Proofs.YtagpkkofjehcnaaGreatDoor
open Go Go.RowKit

theorem SC.from {w w1 w' : World} {c0 c1 c2 c3 c4 c5 c6 c7 c8} (hA : Below w.heap.size w w1) (h : SC w1 w.heap.size c0 c1 c2 c3 c4 c5 c6 c7 c8 w') : Below w.heap.size w w' := hA.trans (h.1.mono (by omega))

theorem and_of {A B : Prop} (h : A) (k : A → B) : A ∧ B := ⟨h, k h⟩
theorem SC.store9 {w1 b c0 c1 c2 c3 c4 c5 c6 c7 c8 w2} (u0 u1 u2 u3 u4 u5 u6 u7 u8 : Value) (h : SC w1 b c0 c1 c2 c3 c4 c5 c6 c7 c8 w2) : SC w1 b c0 c1 c2 c3 c4 c5 c6 c7 c8 (((((((((w2.setCell ⟨b + 1, 0, none⟩ u0).setCell ⟨b + 1, 1, none⟩ u1).setCell ⟨b + 1, 2, none⟩ u2).setCell ⟨b + 1, 3, none⟩ u3).setCell ⟨b + 1, 4, none⟩ u4).setCell ⟨b + 1, 5, none⟩ u5).setCell ⟨b + 1, 6, none⟩ u6).setCell ⟨b + 1, 7, none⟩ u7).setCell ⟨b + 1, 8, none⟩ u8) := by
  have := h.store u0 u1 u2 u3 u4 u5 u6 u7 u8
  unfold set9 at this
  exact this

set_option maxHeartbeats 6400000 in
set_option maxRecDepth 100000 in
theorem twinValue_row (V : Val) (hV : V.short) (a b c d e : Value) (w : World) (h : ValAt w V a b c d e) :
    Calls Tryz.prog 8 #[.agg (cellsV V a b c d e)] w fun en w' => ∃ a' b' c' d' e', en = .returned (.agg (cellsV V a' b' c' d' e')) ∧ CopyVAt w' w.heap.size V a' b' c' d' e' ∧ Below w.heap.size w w' := by
  obtain ⟨p1, l1, c1, rfl⟩ := h.a.form
  obtain ⟨p2, l2, c2, rfl⟩ := h.b.form
  obtain ⟨p3, l3, c3, rfl⟩ := h.c.form
  obtain ⟨p4, l4, c4, rfl⟩ := h.d.form
  obtain ⟨p5, l5, c5, rfl⟩ := h.e.form
  unfold cellsV
  go_enter Tryz.func8, Tryz.ntmps8
  go_wp2_with fail
  have hA : Below w.heap.size w ((w.alloc (.cells #[.int .u8 V.kind, .string V.text, .slice p1 l1 c1, .slice p2 l2 c2, .slice p3 l3 c3, .slice p4 l4 c4, .slice p5 l5 c5, .int .u64 V.ms, .int .u64 V.seq] 38)).alloc (.cells #[.int .u8 0, .string ⟨#[]⟩, .slice none 0 0, .slice none 0 0, .slice none 0 0, .slice none 0 0, .slice none 0 0, .int .u64 0, .int .u64 0] 38)) := ((Below.refl _ _).alloc (Nat.le_refl _) _).alloc (by simp) _
  have hsz : ((w.alloc (.cells #[.int .u8 V.kind, .string V.text, .slice p1 l1 c1, .slice p2 l2 c2, .slice p3 l3 c3, .slice p4 l4 c4, .slice p5 l5 c5, .int .u64 V.ms, .int .u64 V.seq] 38)).alloc (.cells #[.int .u8 0, .string ⟨#[]⟩, .slice none 0 0, .slice none 0 0, .slice none 0 0, .slice none 0 0, .slice none 0 0, .int .u64 0, .int .u64 0] 38)).heap.size = w.heap.size + 2 := by simp
  obtain ⟨kx, kz⟩ := heap_two w (.cells #[.int .u8 V.kind, .string V.text, .slice p1 l1 c1, .slice p2 l2 c2, .slice p3 l3 c3, .slice p4 l4 c4, .slice p5 l5 c5, .int .u64 V.ms, .int .u64 V.seq] 38) (.cells #[.int .u8 0, .string ⟨#[]⟩, .slice none 0 0, .slice none 0 0, .slice none 0 0, .slice none 0 0, .slice none 0 0, .int .u64 0, .int .u64 0] 38)
  generalize ((w.alloc (.cells #[.int .u8 V.kind, .string V.text, .slice p1 l1 c1, .slice p2 l2 c2, .slice p3 l3 c3, .slice p4 l4 c4, .slice p5 l5 c5, .int .u64 V.ms, .int .u64 V.seq] 38)).alloc (.cells #[.int .u8 0, .string ⟨#[]⟩, .slice none 0 0, .slice none 0 0, .slice none 0 0, .slice none 0 0, .slice none 0 0, .int .u64 0, .int .u64 0] 38)) = w1 at hA hsz kx kz ⊢
  have hSC : SC w1 w.heap.size (.int .u8 V.kind) (.string V.text) (.slice p1 l1 c1) (.slice p2 l2 c2) (.slice p3 l3 c3) (.slice p4 l4 c4) (.slice p5 l5 c5) (.int .u64 V.ms) (.int .u64 V.seq) w1 := ⟨Below.refl _ _, by omega, kx, _, _, _, _, _, _, _, _, _, kz⟩
  obtain ⟨zf, hzf⟩ : ∃ zf, zf = zfOf w.heap.size := ⟨_, rfl⟩
  go_region_held3 (fun w' => SC w1 w.heap.size (.int .u8 V.kind) (.string V.text) (.slice p1 l1 c1) (.slice p2 l2 c2) (.slice p3 l3 c3) (.slice p4 l4 c4) (.slice p5 l5 c5) (.int .u64 V.ms) (.int .u64 V.seq) w' ∧ w'.cell? ⟨w.heap.size, 0, none⟩ = some (.int .u8 V.kind) ∧ w'.cell? ⟨w.heap.size, 1, none⟩ = some (.string V.text) ∧ w'.cell? ⟨w.heap.size, 2, none⟩ = some (.slice p1 l1 c1) ∧ w'.cell? ⟨w.heap.size, 3, none⟩ = some (.slice p2 l2 c2) ∧ w'.cell? ⟨w.heap.size, 4, none⟩ = some (.slice p3 l3 c3) ∧ w'.cell? ⟨w.heap.size, 5, none⟩ = some (.slice p4 l4 c4) ∧ w'.cell? ⟨w.heap.size, 6, none⟩ = some (.slice p5 l5 c5) ∧ w'.cell? ⟨w.heap.size, 7, none⟩ = some (.int .u64 V.ms) ∧ w'.cell? ⟨w.heap.size, 8, none⟩ = some (.int .u64 V.seq) ∧ w'.cell? ⟨w.heap.size + 1, 0, none⟩ = some (zf w' 0) ∧ w'.cell? ⟨w.heap.size + 1, 1, none⟩ = some (zf w' 1) ∧ w'.cell? ⟨w.heap.size + 1, 2, none⟩ = some (zf w' 2) ∧ w'.cell? ⟨w.heap.size + 1, 3, none⟩ = some (zf w' 3) ∧ w'.cell? ⟨w.heap.size + 1, 4, none⟩ = some (zf w' 4) ∧ w'.cell? ⟨w.heap.size + 1, 5, none⟩ = some (zf w' 5) ∧ w'.cell? ⟨w.heap.size + 1, 6, none⟩ = some (zf w' 6) ∧ w'.cell? ⟨w.heap.size + 1, 7, none⟩ = some (zf w' 7) ∧ w'.cell? ⟨w.heap.size + 1, 8, none⟩ = some (zf w' 8) ∧ w'.frozen? ⟨w.heap.size + 1, 0, none⟩ = false ∧ w'.frozen? ⟨w.heap.size + 1, 1, none⟩ = false ∧ w'.frozen? ⟨w.heap.size + 1, 2, none⟩ = false ∧ w'.frozen? ⟨w.heap.size + 1, 3, none⟩ = false ∧ w'.frozen? ⟨w.heap.size + 1, 4, none⟩ = false ∧ w'.frozen? ⟨w.heap.size + 1, 5, none⟩ = false ∧ w'.frozen? ⟨w.heap.size + 1, 6, none⟩ = false ∧ w'.frozen? ⟨w.heap.size + 1, 7, none⟩ = false ∧ w'.frozen? ⟨w.heap.size + 1, 8, none⟩ = false) ((refine and_of ?_ (fun hh => (sf_of hzf hh).2); first | exact SC.call (by with_reducible assumption) (And.left (by with_reducible assumption)) | (with_reducible exact SC.store9 _ _ _ _ _ _ _ _ _ (And.left (by with_reducible assumption))) | exact hSC.drew)) (first
    | (go_at_call_of 44 (Value.slice p1 l1 c1); refine (twinTexts_row _ V.n1 V.f1 _ hV.r1 ?hrow).mono ?_; (case hrow => exact h.a.below (SC.from hA (And.left (by with_reducible assumption)))); rintro en wA ⟨tA, rfl, hcA, hbA⟩; obtain ⟨gA, rfl⟩ := hcA.form)
    | (go_at_call_of 45 (Value.slice p2 l2 c2); refine (twinPairs_row _ V.n2 V.f2 V.g2 _ hV.r2 ?hrow).mono ?_; (case hrow => exact h.b.below (SC.from hA (And.left (by with_reducible assumption)))); rintro en wB ⟨tB, rfl, hcB, hbB⟩; obtain ⟨gB, rfl⟩ := hcB.form)
    | (go_at_call_of 44 (Value.slice p3 l3 c3); refine (twinTexts_row _ V.n3 V.f3 _ hV.r3 ?hrow).mono ?_; (case hrow => exact h.c.below (SC.from hA (And.left (by with_reducible assumption)))); rintro en wC ⟨tC, rfl, hcC, hbC⟩; obtain ⟨gC, rfl⟩ := hcC.form)
    | (go_at_call_of 46 (Value.slice p4 l4 c4); refine (twinScoreds_row _ V.n4 V.f4 V.h4 _ hV.r4 ?hrow).mono ?_; (case hrow => exact h.d.below (SC.from hA (And.left (by with_reducible assumption)))); rintro en wD ⟨tD, rfl, hcD, hbD⟩; obtain ⟨gD, rfl⟩ := hcD.form)
    | (go_at_call_of 47 (Value.slice p5 l5 c5); refine (twinEntries_row _ V.E _ hV.r5 ?hrow).mono ?_; (case hrow => exact h.e.below (SC.from hA (And.left (by with_reducible assumption)))); rintro en wE ⟨tE, rfl, hcE, hbE⟩; obtain ⟨gE, rfl⟩ := hcE.form))
  all_goals
    have sE := SC.call hbE (SC.call hbD (SC.call hbC (SC.call hbB (SC.call hbA hSC.drew))))
    have hFin := SC.from hA (sE.store (.int .u8 V.kind) (.string V.text) (.slice (some ⟨gA, 0, none⟩) V.n1 (V.n1 + 1)) (.slice (some ⟨gB, 0, none⟩) V.n2 (V.n2 + 1)) (.slice (some ⟨gC, 0, none⟩) V.n3 (V.n3 + 1)) (.slice (some ⟨gD, 0, none⟩) V.n4 (V.n4 + 1)) (.slice (some ⟨gE, 0, none⟩) V.E.n (V.E.n + 1)) (.int .u64 V.ms) (.int .u64 V.seq))
    obtain ⟨_, _, _, z0, z1, z2, z3, z4, z5, z6, z7, z8, hz⟩ := sE
    have hg := set9_grown wE (w.heap.size + 1) (.int .u8 V.kind) (.string V.text) (.slice (some ⟨gA, 0, none⟩) V.n1 (V.n1 + 1)) (.slice (some ⟨gB, 0, none⟩) V.n2 (V.n2 + 1)) (.slice (some ⟨gC, 0, none⟩) V.n3 (V.n3 + 1)) (.slice (some ⟨gD, 0, none⟩) V.n4 (V.n4 + 1)) (.slice (some ⟨gE, 0, none⟩) V.E.n (V.E.n + 1)) (.int .u64 V.ms) (.int .u64 V.seq)
    have hW := set9_heap wE (w.heap.size + 1) z0 z1 z2 z3 z4 z5 z6 z7 z8 (.int .u8 V.kind) (.string V.text) (.slice (some ⟨gA, 0, none⟩) V.n1 (V.n1 + 1)) (.slice (some ⟨gB, 0, none⟩) V.n2 (V.n2 + 1)) (.slice (some ⟨gC, 0, none⟩) V.n3 (V.n3 + 1)) (.slice (some ⟨gD, 0, none⟩) V.n4 (V.n4 + 1)) (.slice (some ⟨gE, 0, none⟩) V.E.n (V.E.n + 1)) (.int .u64 V.ms) (.int .u64 V.seq) 38 hz
    have e0 : w.heap.size + 2 ≤ w1.drew.heap.size := Nat.le_of_eq hsz.symm
    have eA := Nat.le_trans e0 hbA.size
    have eB := Nat.le_trans eA hbB.size
    have eC := Nat.le_trans eB hbC.size
    have eD := Nat.le_trans eC hbD.size
    have qA := (((((((hcA.low e0).below hbB).below hbC).below hbD).below hbE).grown hg (by omega)).low (show w.heap.size ≤ w.heap.size + 2 by omega))
    have qB := ((((((hcB.low eA).below hbC).below hbD).below hbE).grown hg (by omega)).low (show w.heap.size ≤ w.heap.size + 2 by omega))
    have qC := (((((hcC.low eB).below hbD).below hbE).grown hg (by omega)).low (show w.heap.size ≤ w.heap.size + 2 by omega))
    have qD := ((((hcD.low eC).below hbE).grown hg (by omega)).low (show w.heap.size ≤ w.heap.size + 2 by omega))
    have qE := (((hcE.low eD).grown hg (by omega)).low (show w.heap.size ≤ w.heap.size + 2 by omega))
    have hEnd : ∀ W, W = set9 wE (w.heap.size + 1) (.int .u8 V.kind) (.string V.text) (.slice (some ⟨gA, 0, none⟩) V.n1 (V.n1 + 1)) (.slice (some ⟨gB, 0, none⟩) V.n2 (V.n2 + 1)) (.slice (some ⟨gC, 0, none⟩) V.n3 (V.n3 + 1)) (.slice (some ⟨gD, 0, none⟩) V.n4 (V.n4 + 1)) (.slice (some ⟨gE, 0, none⟩) V.E.n (V.E.n + 1)) (.int .u64 V.ms) (.int .u64 V.seq) → (∃ a' b' c' d' e', Ending.returned (Value.agg #[.int .u8 V.kind, .string V.text, .slice (some ⟨gA, 0, none⟩) V.n1 (V.n1 + 1), .slice (some ⟨gB, 0, none⟩) V.n2 (V.n2 + 1), .slice (some ⟨gC, 0, none⟩) V.n3 (V.n3 + 1), .slice (some ⟨gD, 0, none⟩) V.n4 (V.n4 + 1), .slice (some ⟨gE, 0, none⟩) V.E.n (V.E.n + 1), .int .u64 V.ms, .int .u64 V.seq]) = Ending.returned (Value.agg #[.int .u8 V.kind, .string V.text, a', b', c', d', e', .int .u64 V.ms, .int .u64 V.seq]) ∧ CopyVAt W w.heap.size V a' b' c' d' e' ∧ Below w.heap.size w W) := fun W hW => by
      subst hW
      exact ⟨_, _, _, _, _, rfl, ⟨qA, qB, qC, qD, qE⟩, hFin⟩
    clear hcA hcB hcC hcD hcE qA qB qC qD qE hFin hg hz eA eB eC eD e0 hbA hbB hbC hbD hbE
    unfold set9 at hW hEnd
    go_wp2
    (try simp only [Exit.inBlock, Exit.then])
    refine bodyPost_ret (results_cell_row (P := Tryz.prog) rfl _ _ (w.heap.size + 1) 38 #[.int .u8 V.kind, .string V.text, .slice (some ⟨gA, 0, none⟩) V.n1 (V.n1 + 1), .slice (some ⟨gB, 0, none⟩) V.n2 (V.n2 + 1), .slice (some ⟨gC, 0, none⟩) V.n3 (V.n3 + 1), .slice (some ⟨gD, 0, none⟩) V.n4 (V.n4 + 1), .slice (some ⟨gE, 0, none⟩) V.E.n (V.E.n + 1), .int .u64 V.ms, .int .u64 V.seq] (0, 0) _ rfl hW Tryz.underlying38 rfl size104) rfl ?_
    exact hEnd _ rfl

end Go.Proofs.YtagpkkofjehcnaaGreatDoor
