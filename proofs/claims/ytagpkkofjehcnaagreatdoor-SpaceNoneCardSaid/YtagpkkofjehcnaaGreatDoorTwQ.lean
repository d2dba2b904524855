/-
  A value is left as it was, against its copy.
-/
import Derived.Test.YtagpkkofjehcnaaGreatDoorTwP
set_option linter.all false
namespace Go.Proofs.YtagpkkofjehcnaaGreatDoor
open Go Go.RowKit

theorem Row1At.form {w v n x} (h : Row1At w v n x) : ∃ p l c, v = .slice p l c := by
  rcases h with ⟨⟨q, rfl⟩, _⟩ | ⟨b, off, cap, rfl, _⟩ <;> exact ⟨_, _, _, rfl⟩
theorem Row2At.form {w v n x y} (h : Row2At w v n x y) : ∃ p l c, v = .slice p l c := by
  rcases h with ⟨⟨q, rfl⟩, _⟩ | ⟨b, off, cap, rfl, _⟩ <;> exact ⟨_, _, _, rfl⟩
theorem RowEAt.form {w v E} (h : RowEAt w v E) : ∃ p l c, v = .slice p l c := by
  rcases h.1 with ⟨⟨q, rfl⟩, _⟩ | ⟨b, off, cap, rfl, _⟩ <;> exact ⟨_, _, _, rfl⟩
theorem Copy1At.form {w lo v n x sx} (h : Copy1At w lo v n x sx) : ∃ g, v = .slice (some ⟨g, 0, none⟩) n (n + 1) := by
  obtain ⟨g, rfl, _⟩ := h; exact ⟨g, rfl⟩
theorem Copy2At.form {w lo v n x y sx sy} (h : Copy2At w lo v n x y sx sy) : ∃ g, v = .slice (some ⟨g, 0, none⟩) n (n + 1) := by
  obtain ⟨g, rfl, _⟩ := h; exact ⟨g, rfl⟩
theorem CopyEAt.form {w lo v E} (h : CopyEAt w lo v E) : ∃ g, v = .slice (some ⟨g, 0, none⟩) E.n (E.n + 1) := by
  obtain ⟨g, G, rfl, _⟩ := h; exact ⟨g, rfl⟩

/-- What an api.Value holds, its lists by their content. -/
structure Val where
  kind : Int
  text : ByteArray
  n1 : Nat
  f1 : Nat → ByteArray
  n2 : Nat
  f2 : Nat → ByteArray
  g2 : Nat → ByteArray
  n3 : Nat
  f3 : Nat → ByteArray
  n4 : Nat
  f4 : Nat → ByteArray
  h4 : Nat → Nat
  E : Ents
  ms : Int
  seq : Int

structure Val.short (V : Val) : Prop where
  r1 : V.n1 * 16 ≤ 140737488351232
  r2 : V.n2 * 32 ≤ 140737488351232
  r3 : V.n3 * 16 ≤ 140737488351232
  r4 : V.n4 * 24 ≤ 140737488351232
  r5 : V.E.n * 40 ≤ 140737488351232

/-- Such a value, its cells written out. -/
def cellsV (V : Val) (a b c d e : Value) : Array Value := #[.int .u8 V.kind, .string V.text, a, b, c, d, e, .int .u64 V.ms, .int .u64 V.seq]

structure ValAt (w : World) (V : Val) (a b c d e : Value) : Prop where
  a : Row1At w a V.n1 (strs V.f1)
  b : Row2At w b V.n2 (strs V.f2) (strs V.g2)
  c : Row1At w c V.n3 (strs V.f3)
  d : Row2At w d V.n4 (strs V.f4) (flts V.h4)
  e : RowEAt w e V.E

structure CopyVAt (w : World) (lo : Nat) (V : Val) (a b c d e : Value) : Prop where
  a : Copy1At w lo a V.n1 (strs V.f1) sp
  b : Copy2At w lo b V.n2 (strs V.f2) (strs V.g2) sp (.string ⟨#[]⟩)
  c : Copy1At w lo c V.n3 (strs V.f3) sp
  d : Copy2At w lo d V.n4 (strs V.f4) (flts V.h4) sp (.float .f64 0)
  e : CopyEAt w lo e V.E

theorem ValAt.below {w w' V a b c d e} (h : ValAt w V a b c d e) (hb : Below w.heap.size w w') : ValAt w' V a b c d e := ⟨h.a.below hb, h.b.below hb, h.c.below hb, h.d.below hb, h.e.below hb⟩
theorem CopyVAt.below {w w' lo V a b c d e} (h : CopyVAt w lo V a b c d e) (hb : Below w.heap.size w w') : CopyVAt w' lo V a b c d e := ⟨h.a.below hb, h.b.below hb, h.c.below hb, h.d.below hb, h.e.below hb⟩

theorem box9 {w : World} {b : Nat} {c0 c1 c2 c3 c4 c5 c6 c7 c8 : Value} {ty : TypeId} (h : w.heap[b]? = some (.cells #[c0, c1, c2, c3, c4, c5, c6, c7, c8] ty)) :
    w.cell? ⟨b, 0, none⟩ = some c0 ∧ w.cell? ⟨b, 1, none⟩ = some c1 ∧ w.cell? ⟨b, 2, none⟩ = some c2 ∧ w.cell? ⟨b, 3, none⟩ = some c3 ∧ w.cell? ⟨b, 4, none⟩ = some c4 ∧ w.cell? ⟨b, 5, none⟩ = some c5 ∧ w.cell? ⟨b, 6, none⟩ = some c6 ∧ w.cell? ⟨b, 7, none⟩ = some c7 ∧ w.cell? ⟨b, 8, none⟩ = some c8 := by
  simp [World.cell?, h]

theorem heap_two (w : World) (o o' : Obj) : ((w.alloc o).alloc o').heap[w.heap.size]? = some o ∧ ((w.alloc o).alloc o').heap[w.heap.size + 1]? = some o' := by
  refine ⟨?_, ?_⟩
  · show ((w.heap.push o).push o')[_]? = _
    rw [Array.getElem?_push, if_neg (by simp), Array.getElem?_push_size]
  · show ((w.heap.push o).push o')[_]? = _
    rw [show w.heap.size + 1 = (w.heap.push o).size by simp, Array.getElem?_push_size]

set_option maxHeartbeats 3200000 in
set_option maxRecDepth 100000 in
theorem leftValue_row (V : Val) (hV : V.short) (lo : Nat) (a b c d e a' b' c' d' e' : Value) (w : World) (ht : CopyVAt w lo V a b c d e) (h : ValAt w V a' b' c' d' e') :
    Calls Tryz.prog 11 #[.agg (cellsV V a b c d e), .agg (cellsV V a' b' c' d' e')] w fun en w' => en = .returned (.bool true) ∧ Below w.heap.size w w' := by
  obtain ⟨A, rfl⟩ := ht.a.form
  obtain ⟨B, rfl⟩ := ht.b.form
  obtain ⟨C, rfl⟩ := ht.c.form
  obtain ⟨D, rfl⟩ := ht.d.form
  obtain ⟨F, rfl⟩ := ht.e.form
  obtain ⟨p1, l1, c1, rfl⟩ := h.a.form
  obtain ⟨p2, l2, c2, rfl⟩ := h.b.form
  obtain ⟨p3, l3, c3, rfl⟩ := h.c.form
  obtain ⟨p4, l4, c4, rfl⟩ := h.d.form
  obtain ⟨p5, l5, c5, rfl⟩ := h.e.form
  have hA : Below w.heap.size w ((w.alloc (.cells (cellsV V (.slice (some ⟨A, 0, none⟩) V.n1 (V.n1 + 1)) (.slice (some ⟨B, 0, none⟩) V.n2 (V.n2 + 1)) (.slice (some ⟨C, 0, none⟩) V.n3 (V.n3 + 1)) (.slice (some ⟨D, 0, none⟩) V.n4 (V.n4 + 1)) (.slice (some ⟨F, 0, none⟩) V.E.n (V.E.n + 1))) 38)).alloc (.cells (cellsV V (.slice p1 l1 c1) (.slice p2 l2 c2) (.slice p3 l3 c3) (.slice p4 l4 c4) (.slice p5 l5 c5)) 38)) := ((Below.refl _ _).alloc (Nat.le_refl _) _).alloc (by simp) _
  have kk := heap_two w (.cells (cellsV V (.slice (some ⟨A, 0, none⟩) V.n1 (V.n1 + 1)) (.slice (some ⟨B, 0, none⟩) V.n2 (V.n2 + 1)) (.slice (some ⟨C, 0, none⟩) V.n3 (V.n3 + 1)) (.slice (some ⟨D, 0, none⟩) V.n4 (V.n4 + 1)) (.slice (some ⟨F, 0, none⟩) V.E.n (V.E.n + 1))) 38) (.cells (cellsV V (.slice p1 l1 c1) (.slice p2 l2 c2) (.slice p3 l3 c3) (.slice p4 l4 c4) (.slice p5 l5 c5)) 38)
  obtain ⟨kx, ky⟩ := kk
  have hs : w.heap.size + 2 ≤ ((w.alloc (.cells (cellsV V (.slice (some ⟨A, 0, none⟩) V.n1 (V.n1 + 1)) (.slice (some ⟨B, 0, none⟩) V.n2 (V.n2 + 1)) (.slice (some ⟨C, 0, none⟩) V.n3 (V.n3 + 1)) (.slice (some ⟨D, 0, none⟩) V.n4 (V.n4 + 1)) (.slice (some ⟨F, 0, none⟩) V.E.n (V.E.n + 1))) 38)).alloc (.cells (cellsV V (.slice p1 l1 c1) (.slice p2 l2 c2) (.slice p3 l3 c3) (.slice p4 l4 c4) (.slice p5 l5 c5)) 38)).heap.size := by simp
  unfold cellsV at hA kx ky hs ⊢
  go_enter Tryz.func11, Tryz.ntmps11
  go_wp2_with fail
  go_at_call 58
  refine (leftTexts_row _ _ lo V.n1 V.f1 _ hV.r1 (ht.a.below hA) (h.a.below hA)).mono ?_
  rintro en w3 ⟨rfl, hb⟩
  have hA := hA.trans (hb.mono hA.size)
  have kx := (hb.block _ (by omega)).trans kx
  have ky := (hb.block _ (by omega)).trans ky
  have hs := Nat.le_trans hs hb.size
  clear hb
  obtain ⟨x0, x1, x2, x3, x4, x5, x6, x7, x8⟩ := box9 kx
  obtain ⟨y0, y1, y2, y3, y4, y5, y6, y7, y8⟩ := box9 ky
  go_wp2_with fail
  clear x0 x1 x2 x3 x4 x5 x6 x7 x8 y0 y1 y2 y3 y4 y5 y6 y7 y8
  go_at_call 59
  refine (leftPairs_row _ _ lo V.n2 V.f2 V.g2 _ hV.r2 (ht.b.below hA) (h.b.below hA)).mono ?_
  rintro en w4 ⟨rfl, hb⟩
  have hA := hA.trans (hb.mono hA.size)
  have kx := (hb.block _ (by omega)).trans kx
  have ky := (hb.block _ (by omega)).trans ky
  have hs := Nat.le_trans hs hb.size
  clear hb
  obtain ⟨x0, x1, x2, x3, x4, x5, x6, x7, x8⟩ := box9 kx
  obtain ⟨y0, y1, y2, y3, y4, y5, y6, y7, y8⟩ := box9 ky
  go_wp2_with fail
  clear x0 x1 x2 x3 x4 x5 x6 x7 x8 y0 y1 y2 y3 y4 y5 y6 y7 y8
  go_at_call 58
  refine (leftTexts_row _ _ lo V.n3 V.f3 _ hV.r3 (ht.c.below hA) (h.c.below hA)).mono ?_
  rintro en w5 ⟨rfl, hb⟩
  have hA := hA.trans (hb.mono hA.size)
  have kx := (hb.block _ (by omega)).trans kx
  have ky := (hb.block _ (by omega)).trans ky
  have hs := Nat.le_trans hs hb.size
  clear hb
  obtain ⟨x0, x1, x2, x3, x4, x5, x6, x7, x8⟩ := box9 kx
  obtain ⟨y0, y1, y2, y3, y4, y5, y6, y7, y8⟩ := box9 ky
  go_wp2_with fail
  clear x0 x1 x2 x3 x4 x5 x6 x7 x8 y0 y1 y2 y3 y4 y5 y6 y7 y8
  go_at_call 60
  refine (leftScoreds_row _ _ lo V.n4 V.f4 V.h4 _ hV.r4 (ht.d.below hA) (h.d.below hA)).mono ?_
  rintro en w6 ⟨rfl, hb⟩
  have hA := hA.trans (hb.mono hA.size)
  have kx := (hb.block _ (by omega)).trans kx
  have ky := (hb.block _ (by omega)).trans ky
  have hs := Nat.le_trans hs hb.size
  clear hb
  obtain ⟨x0, x1, x2, x3, x4, x5, x6, x7, x8⟩ := box9 kx
  obtain ⟨y0, y1, y2, y3, y4, y5, y6, y7, y8⟩ := box9 ky
  go_wp2_with fail
  clear x0 x1 x2 x3 x4 x5 x6 x7 x8 y0 y1 y2 y3 y4 y5 y6 y7 y8
  go_at_call 61
  refine (leftEntries_row _ _ lo V.E _ hV.r5 (ht.e.below hA) (h.e.below hA)).mono ?_
  rintro en w7 ⟨rfl, hb⟩
  have hA := hA.trans (hb.mono hA.size)
  have kx := (hb.block _ (by omega)).trans kx
  have ky := (hb.block _ (by omega)).trans ky
  have hs := Nat.le_trans hs hb.size
  clear hb
  obtain ⟨x0, x1, x2, x3, x4, x5, x6, x7, x8⟩ := box9 kx
  obtain ⟨y0, y1, y2, y3, y4, y5, y6, y7, y8⟩ := box9 ky
  go_wp2
  go_ret
  exact ⟨rfl, hA⟩

end Go.Proofs.YtagpkkofjehcnaaGreatDoor
