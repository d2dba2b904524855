/-
  asks with Put at a Space that is not there.
-/
import Derived.Test.YtagpkkofjehcnaaGreatDoorTwT
import Derived.Test.YtagpkkofjehcnaaGreatDoorTwS
import Derived.Test.YtagpkkofjehcnaaGreatDoorTwV
import Derived.Deep.RegionHeld3
set_option linter.all false
namespace Go.Proofs.YtagpkkofjehcnaaGreatDoor
open Go Go.RowKit

theorem box17 {w : World} {b : Nat} {v0 v1 v2 v3 v4 v5 v6 v7 v8 v9 v10 v11 v12 v13 v14 v15 v16 : Value} {ty : TypeId} (h : w.heap[b]? = some (.cells #[v0, v1, v2, v3, v4, v5, v6, v7, v8, v9, v10, v11, v12, v13, v14, v15, v16] ty)) :
    w.cell? ⟨b, 0, none⟩ = some v0 ∧ w.cell? ⟨b, 1, none⟩ = some v1 ∧ w.cell? ⟨b, 2, none⟩ = some v2 ∧ w.cell? ⟨b, 3, none⟩ = some v3 ∧ w.cell? ⟨b, 4, none⟩ = some v4 ∧ w.cell? ⟨b, 5, none⟩ = some v5 ∧ w.cell? ⟨b, 6, none⟩ = some v6 ∧ w.cell? ⟨b, 7, none⟩ = some v7 ∧ w.cell? ⟨b, 8, none⟩ = some v8 ∧ w.cell? ⟨b, 9, none⟩ = some v9 ∧ w.cell? ⟨b, 10, none⟩ = some v10 ∧ w.cell? ⟨b, 11, none⟩ = some v11 ∧ w.cell? ⟨b, 12, none⟩ = some v12 ∧ w.cell? ⟨b, 13, none⟩ = some v13 ∧ w.cell? ⟨b, 14, none⟩ = some v14 ∧ w.cell? ⟨b, 15, none⟩ = some v15 ∧ w.cell? ⟨b, 16, none⟩ = some v16 := by
  simp [World.cell?, h]

theorem b_call {w4 w2 w5 : World} (hb : Below w2.heap.size w2 w5) (h : Below w4.heap.size w4 w2) : Below w4.heap.size w4 w5 := h.trans (hb.mono h.size)

set_option maxHeartbeats 6400000 in
set_option maxRecDepth 100000 in
theorem asksPut_nil (V : Val) (hV : V.short) (a b c d e db key keep now most pol cur : Value) (w : World) (h : ValAt w V a b c d e) :
    Calls Tryz.prog 4 #[.pointer none, .pointer none, .agg #[(.int .u8 0), db, key, (.int .u8 V.kind), (.string V.text), a, b, c, d, e, (.int .u64 V.ms), (.int .u64 V.seq), keep, now, most, pol, cur]] w fun en w' => en = .returned (.bool true) ∧ Below w.heap.size w w' := by
  have hA : Below w.heap.size w (w.alloc (.cells #[(.int .u8 0), db, key, (.int .u8 V.kind), (.string V.text), a, b, c, d, e, (.int .u64 V.ms), (.int .u64 V.seq), keep, now, most, pol, cur] 41)) := (Below.refl _ _).alloc (Nat.le_refl _) _
  have kx : (w.alloc (.cells #[(.int .u8 0), db, key, (.int .u8 V.kind), (.string V.text), a, b, c, d, e, (.int .u64 V.ms), (.int .u64 V.seq), keep, now, most, pol, cur] 41)).heap[w.heap.size]? = some (.cells #[(.int .u8 0), db, key, (.int .u8 V.kind), (.string V.text), a, b, c, d, e, (.int .u64 V.ms), (.int .u64 V.seq), keep, now, most, pol, cur] 41) := by
    show (w.heap.push _)[w.heap.size]? = _
    exact Array.getElem?_push_size
  have hs : w.heap.size + 1 ≤ (w.alloc (.cells #[(.int .u8 0), db, key, (.int .u8 V.kind), (.string V.text), a, b, c, d, e, (.int .u64 V.ms), (.int .u64 V.seq), keep, now, most, pol, cur] 41)).heap.size := by simp
  go_enter Tryz.func4, Tryz.ntmps4
  go_wp2_with fail
  go_at_call 8
  refine (twinValue_row V hV a b c d e _ (h.below hA)).mono ?_
  rintro en w3 ⟨a', b', c', d', e', rfl, hcp, hb⟩
  have hA := hA.trans (hb.mono hA.size)
  have kx := (hb.block _ (by omega)).trans kx
  have hs := Nat.le_trans hs hb.size
  clear hb
  obtain ⟨x0, x1, x2, x3, x4, x5, x6, x7, x8, x9, x10, x11, x12, x13, x14, x15, x16⟩ := box17 kx
  obtain ⟨gA, rfl⟩ := hcp.a.form
  obtain ⟨gB, rfl⟩ := hcp.b.form
  obtain ⟨gC, rfl⟩ := hcp.c.form
  obtain ⟨gD, rfl⟩ := hcp.d.form
  obtain ⟨gE, rfl⟩ := hcp.e.form
  unfold cellsV
  go_wp2_with fail
  have hA4 : Below w3.heap.size w3 (w3.alloc (.cells #[(.int .u8 V.kind), (.string V.text), (.slice (some ⟨gA, 0, none⟩) V.n1 (V.n1 + 1)), (.slice (some ⟨gB, 0, none⟩) V.n2 (V.n2 + 1)), (.slice (some ⟨gC, 0, none⟩) V.n3 (V.n3 + 1)), (.slice (some ⟨gD, 0, none⟩) V.n4 (V.n4 + 1)), (.slice (some ⟨gE, 0, none⟩) V.E.n (V.E.n + 1)), (.int .u64 V.ms), (.int .u64 V.seq)] 38)) := (Below.refl _ _).alloc (Nat.le_refl _) _
  have ky : (w3.alloc (.cells #[(.int .u8 V.kind), (.string V.text), (.slice (some ⟨gA, 0, none⟩) V.n1 (V.n1 + 1)), (.slice (some ⟨gB, 0, none⟩) V.n2 (V.n2 + 1)), (.slice (some ⟨gC, 0, none⟩) V.n3 (V.n3 + 1)), (.slice (some ⟨gD, 0, none⟩) V.n4 (V.n4 + 1)), (.slice (some ⟨gE, 0, none⟩) V.E.n (V.E.n + 1)), (.int .u64 V.ms), (.int .u64 V.seq)] 38)).heap[w3.heap.size]? = some (.cells #[(.int .u8 V.kind), (.string V.text), (.slice (some ⟨gA, 0, none⟩) V.n1 (V.n1 + 1)), (.slice (some ⟨gB, 0, none⟩) V.n2 (V.n2 + 1)), (.slice (some ⟨gC, 0, none⟩) V.n3 (V.n3 + 1)), (.slice (some ⟨gD, 0, none⟩) V.n4 (V.n4 + 1)), (.slice (some ⟨gE, 0, none⟩) V.E.n (V.E.n + 1)), (.int .u64 V.ms), (.int .u64 V.seq)] 38) := by
    show (w3.heap.push _)[w3.heap.size]? = _
    exact Array.getElem?_push_size
  have kx4 := (hA4.block _ (by omega)).trans kx
  have hs4 : w3.heap.size + 1 ≤ (w3.alloc (.cells #[(.int .u8 V.kind), (.string V.text), (.slice (some ⟨gA, 0, none⟩) V.n1 (V.n1 + 1)), (.slice (some ⟨gB, 0, none⟩) V.n2 (V.n2 + 1)), (.slice (some ⟨gC, 0, none⟩) V.n3 (V.n3 + 1)), (.slice (some ⟨gD, 0, none⟩) V.n4 (V.n4 + 1)), (.slice (some ⟨gE, 0, none⟩) V.E.n (V.E.n + 1)), (.int .u64 V.ms), (.int .u64 V.seq)] 38)).heap.size := by simp
  clear x0 x1 x2 x3 x4 x5 x6 x7 x8 x9 x10 x11 x12 x13 x14 x15 x16
  generalize w3.alloc (.cells #[(.int .u8 V.kind), (.string V.text), (.slice (some ⟨gA, 0, none⟩) V.n1 (V.n1 + 1)), (.slice (some ⟨gB, 0, none⟩) V.n2 (V.n2 + 1)), (.slice (some ⟨gC, 0, none⟩) V.n3 (V.n3 + 1)), (.slice (some ⟨gD, 0, none⟩) V.n4 (V.n4 + 1)), (.slice (some ⟨gE, 0, none⟩) V.E.n (V.E.n + 1)), (.int .u64 V.ms), (.int .u64 V.seq)] 38) = w4 at hA4 ky kx4 hs4 ⊢
  have hkeep : ∀ W, Below w4.heap.size w4 W → (W.cell? ⟨w.heap.size, 0, none⟩ = some (.int .u8 0) ∧ W.cell? ⟨w.heap.size, 1, none⟩ = some db ∧ W.cell? ⟨w.heap.size, 2, none⟩ = some key ∧ W.cell? ⟨w.heap.size, 3, none⟩ = some (.int .u8 V.kind) ∧ W.cell? ⟨w.heap.size, 4, none⟩ = some (.string V.text) ∧ W.cell? ⟨w.heap.size, 5, none⟩ = some a ∧ W.cell? ⟨w.heap.size, 6, none⟩ = some b ∧ W.cell? ⟨w.heap.size, 7, none⟩ = some c ∧ W.cell? ⟨w.heap.size, 8, none⟩ = some d ∧ W.cell? ⟨w.heap.size, 9, none⟩ = some e ∧ W.cell? ⟨w.heap.size, 10, none⟩ = some (.int .u64 V.ms) ∧ W.cell? ⟨w.heap.size, 11, none⟩ = some (.int .u64 V.seq) ∧ W.cell? ⟨w.heap.size, 12, none⟩ = some keep ∧ W.cell? ⟨w.heap.size, 13, none⟩ = some now ∧ W.cell? ⟨w.heap.size, 14, none⟩ = some most ∧ W.cell? ⟨w.heap.size, 15, none⟩ = some pol ∧ W.cell? ⟨w.heap.size, 16, none⟩ = some cur ∧ W.cell? ⟨w3.heap.size, 0, none⟩ = some (.int .u8 V.kind) ∧ W.cell? ⟨w3.heap.size, 1, none⟩ = some (.string V.text) ∧ W.cell? ⟨w3.heap.size, 2, none⟩ = some (.slice (some ⟨gA, 0, none⟩) V.n1 (V.n1 + 1)) ∧ W.cell? ⟨w3.heap.size, 3, none⟩ = some (.slice (some ⟨gB, 0, none⟩) V.n2 (V.n2 + 1)) ∧ W.cell? ⟨w3.heap.size, 4, none⟩ = some (.slice (some ⟨gC, 0, none⟩) V.n3 (V.n3 + 1)) ∧ W.cell? ⟨w3.heap.size, 5, none⟩ = some (.slice (some ⟨gD, 0, none⟩) V.n4 (V.n4 + 1)) ∧ W.cell? ⟨w3.heap.size, 6, none⟩ = some (.slice (some ⟨gE, 0, none⟩) V.E.n (V.E.n + 1)) ∧ W.cell? ⟨w3.heap.size, 7, none⟩ = some (.int .u64 V.ms) ∧ W.cell? ⟨w3.heap.size, 8, none⟩ = some (.int .u64 V.seq)) := fun W hh => by
    have k1 := (hh.block _ (by omega)).trans kx4
    have k2 := (hh.block _ (by omega)).trans ky
    obtain ⟨x0, x1, x2, x3, x4, x5, x6, x7, x8, x9, x10, x11, x12, x13, x14, x15, x16⟩ := box17 k1
    obtain ⟨y0, y1, y2, y3, y4, y5, y6, y7, y8⟩ := box9 k2
    exact ⟨x0, x1, x2, x3, x4, x5, x6, x7, x8, x9, x10, x11, x12, x13, x14, x15, x16, y0, y1, y2, y3, y4, y5, y6, y7, y8⟩
  have to4 : ∀ W, Below w4.heap.size w4 W → Below w3.heap.size w3 W := fun W hh => hA4.trans (hh.mono hA4.size)
  have hdr : Below w4.heap.size w4 w4.drew := (Below.refl _ _).drew
  go_region_held3 (fun w' => Below w4.heap.size w4 w' ∧ w'.cell? ⟨w.heap.size, 0, none⟩ = some (.int .u8 0) ∧ w'.cell? ⟨w.heap.size, 1, none⟩ = some db ∧ w'.cell? ⟨w.heap.size, 2, none⟩ = some key ∧ w'.cell? ⟨w.heap.size, 3, none⟩ = some (.int .u8 V.kind) ∧ w'.cell? ⟨w.heap.size, 4, none⟩ = some (.string V.text) ∧ w'.cell? ⟨w.heap.size, 5, none⟩ = some a ∧ w'.cell? ⟨w.heap.size, 6, none⟩ = some b ∧ w'.cell? ⟨w.heap.size, 7, none⟩ = some c ∧ w'.cell? ⟨w.heap.size, 8, none⟩ = some d ∧ w'.cell? ⟨w.heap.size, 9, none⟩ = some e ∧ w'.cell? ⟨w.heap.size, 10, none⟩ = some (.int .u64 V.ms) ∧ w'.cell? ⟨w.heap.size, 11, none⟩ = some (.int .u64 V.seq) ∧ w'.cell? ⟨w.heap.size, 12, none⟩ = some keep ∧ w'.cell? ⟨w.heap.size, 13, none⟩ = some now ∧ w'.cell? ⟨w.heap.size, 14, none⟩ = some most ∧ w'.cell? ⟨w.heap.size, 15, none⟩ = some pol ∧ w'.cell? ⟨w.heap.size, 16, none⟩ = some cur ∧ w'.cell? ⟨w3.heap.size, 0, none⟩ = some (.int .u8 V.kind) ∧ w'.cell? ⟨w3.heap.size, 1, none⟩ = some (.string V.text) ∧ w'.cell? ⟨w3.heap.size, 2, none⟩ = some (.slice (some ⟨gA, 0, none⟩) V.n1 (V.n1 + 1)) ∧ w'.cell? ⟨w3.heap.size, 3, none⟩ = some (.slice (some ⟨gB, 0, none⟩) V.n2 (V.n2 + 1)) ∧ w'.cell? ⟨w3.heap.size, 4, none⟩ = some (.slice (some ⟨gC, 0, none⟩) V.n3 (V.n3 + 1)) ∧ w'.cell? ⟨w3.heap.size, 5, none⟩ = some (.slice (some ⟨gD, 0, none⟩) V.n4 (V.n4 + 1)) ∧ w'.cell? ⟨w3.heap.size, 6, none⟩ = some (.slice (some ⟨gE, 0, none⟩) V.E.n (V.E.n + 1)) ∧ w'.cell? ⟨w3.heap.size, 7, none⟩ = some (.int .u64 V.ms) ∧ w'.cell? ⟨w3.heap.size, 8, none⟩ = some (.int .u64 V.seq)) ((refine and_of ?_ (fun hh => hkeep _ hh); first | exact b_call (by with_reducible assumption) (And.left (by with_reducible assumption)) | exact hdr)) (first
    | (go_at_call 9; refine (put_nil _ _ _ _ _).mono ?_; rintro en wP ⟨rfl, hbP⟩)
    | (go_at_call 10; refine (refPut_nil _ _ _ _ _).mono ?_; rintro en wR ⟨rfl, hbR⟩)
    | (go_at_call 11; refine (leftValue_row V hV _ _ _ _ _ _ _ _ _ _ _ _ (hcp.below (to4 _ (And.left (by with_reducible assumption)))) ((h.below hA).below (to4 _ (And.left (by with_reducible assumption))))).mono ?_; rintro en wL ⟨rfl, hbL⟩))
  all_goals
    have hF : Below w.heap.size w wL := hA.trans (((to4 _ (b_call hbL (b_call hbR (b_call hbP hdr))))).mono hA.size)
    go_wp2
    go_ret
    exact ⟨rfl, hF⟩

end Go.Proofs.YtagpkkofjehcnaaGreatDoor
