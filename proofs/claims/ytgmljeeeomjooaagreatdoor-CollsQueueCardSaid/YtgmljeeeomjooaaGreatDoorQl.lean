/-
  reply.Bulk, reply.Number: contracts.
-/
import Derived.Test.YtgmljeeeomjooaaGreatDoorQk
import Derived.Deep.RegionWith
set_option linter.all false
/-
  reply.Bulk, reply.Number: contracts.
-/
namespace Go.Proofs.YtgmljeeeomjooaaGreatDoor
open Go Go.RowKit Go.Q Go.Sort

set_option maxHeartbeats 1600000 in
set_option maxRecDepth 100000 in
theorem bulk_any (s : ByteArray) (w : World) : Calls Tryz.prog 102 #[.string s] w fun e w' => e = .returned (.agg #[.int .u8 4, .string s, .int .i64 0, .slice none 0 0]) ∧ Below w.heap.size w w' := by
  have hrow0 := Row.new w 33 [.int .u8 0, .string ⟨#[]⟩, .int .i64 0, .slice none 0 0]
  go_enter Tryz.func102, Tryz.ntmps102
  go_wp2_with fail
  try simp only [Exit.inBlock, Exit.then]
  refine bodyPost_ret (results_cell_row (P := Tryz.prog) rfl _ _ w.heap.size 33 #[.int .u8 4, .string s, .int .i64 0, .slice none 0 0] (0, 0) _ rfl (World.alloc_heap_new w _) Tryz.underlying33 rfl size33) rfl ⟨rfl, (Below.refl _ w).alloc (Nat.le_refl _) _⟩

set_option maxHeartbeats 1600000 in
set_option maxRecDepth 100000 in
theorem number_any (n : Int) (w : World) : Calls Tryz.prog 98 #[.int .i64 n] w fun e w' => e = .returned (.agg #[.int .u8 3, .string ⟨#[]⟩, .int .i64 n, .slice none 0 0]) ∧ Below w.heap.size w w' := by
  go_enter Tryz.func98, Tryz.ntmps98
  go_wp2_with fail
  try simp only [Exit.inBlock, Exit.then]
  refine bodyPost_ret (results_cell_row (P := Tryz.prog) rfl _ _ w.heap.size 33 #[.int .u8 3, .string ⟨#[]⟩, .int .i64 n, .slice none 0 0] (0, 0) _ rfl (World.alloc_heap_new w _) Tryz.underlying33 rfl size33) rfl ⟨rfl, (Below.refl _ w).alloc (Nat.le_refl _) _⟩

end Go.Proofs.YtgmljeeeomjooaaGreatDoor

/-
  (colls.call).list, storeList, pop: walks; what Store and Did do is asked.
-/
namespace Go.Q
open Go Go.RowKit

/-- A colls.call: the call's pointer, a value of such a kind with a list alone, is it there. -/
def callVal (kd : Int) (c : Nat) (v : Value) (there : Bool) : Value := .agg #[.pointer (some ⟨c, 0, none⟩), .int .u8 kd, .string ⟨#[]⟩, v, .slice none 0 0, .slice none 0 0, .slice none 0 0, .slice none 0 0, .int .u64 0, .int .u64 0, .bool there]

theorem ListAt.base {F : List Knot → Prop} {w : World} {B B' l : Nat} {xs : List ByteArray} (h : ListAt F w B l xs) (hB : B' ≤ B) : ListAt F w B' l xs := by
  rcases h with ⟨p, b, h⟩ | ⟨q, D, ns, h⟩
  · exact .inl ⟨p, b, h.cell, h.pack, h.few, Nat.le_trans hB h.low.1, Nat.le_trans hB h.low.2⟩
  · exact .inr ⟨q, D, ns, h.cell, h.quick, h.shape, h.texts, ⟨Nat.le_trans hB h.low.1, Nat.le_trans hB h.low.2.1, Nat.le_trans hB h.low.2.2⟩, h.base⟩

theorem owns_shape {w : World} {B n : Nat} {u : Value} {cs : List Value} (h : w.ownsRow B 9 1 u n cs) : ∃ sp l c, u = .slice sp l c := by
  rcases h.2 with ⟨rfl, _⟩ | ⟨g, cap, cur, rfl, _⟩ <;> exact ⟨_, _, _, rfl⟩

end Go.Q
namespace Go.Proofs.YtgmljeeeomjooaaGreatDoor
open Go Go.RowKit Go.Q Go.Sort

set_option maxHeartbeats 1600000 in
set_option maxRecDepth 100000 in
theorem callList_any (kd : Int) (c : Nat) (there : Bool) (v : Value) (xs : List ByteArray) (w : World) (hv : Slice w v xs) (hlen : xs.length ≤ 1000) (hitems : ∀ s ∈ xs, s.size ≤ 65536) (hG : Glob w) :
    Calls Tryz.prog 94 #[callVal kd c v there] w fun e w' => ∃ l, e = .returned (.pointer (some ⟨l, 0, none⟩)) ∧ ListAt Filled w' w.heap.size l xs ∧ Below w.heap.size w w' := by
  unfold callVal
  obtain ⟨sp, cp, rfl⟩ := hv.len
  have hof := fun w' (hw : Below w.heap.size w w') => listOf_any _ xs w' (hv.below hw (Nat.le_refl _)) hlen hitems (hG.below hw hG.size)
  clear hv hG
  go_enter Tryz.func94, Tryz.ntmps94
  go_wp2_with fail
  go_at_call 77
  refine (hof _ ((Below.refl _ w).alloc (Nat.le_refl _) _)).mono ?_
  rintro e w1 ⟨l, rfl, hL, hb⟩
  go_wp2_with fail
  go_ret
  have hs : w.heap.size ≤ (w.alloc (.cells #[.pointer (some ⟨c, 0, none⟩), .int .u8 kd, .string ⟨#[]⟩, .slice sp xs.length cp, .slice none 0 0, .slice none 0 0, .slice none 0 0, .slice none 0 0, .int .u64 0, .int .u64 0, .bool there] 76)).heap.size := by simp
  refine ⟨l, rfl, hL.base hs, ?_⟩
  exact b_call hb ((Below.refl _ w).alloc (Nat.le_refl _) _)

set_option maxHeartbeats 3200000 in
set_option maxRecDepth 100000 in
/-- storeList: the list's texts are stored under the command's first key. -/
theorem storeList_any (kd : Int) (F : List Knot → Prop) (B c l : Nat) (there : Bool) (v C : Value) (key : ByteArray) (s0 x0 x1 x2 nm : Value) (xs : List ByteArray) (hm : xs.length ≤ 1000) (w : World) (hL : ListAt F w B l xs) (hG : Glob w)
    (sp : Option Addr) (ln cp : Nat) (hv : v = .slice sp ln cp)
    (g off cap n : Nat) (hC : C = .slice (some ⟨g, off, none⟩) n cap) (hn : 1 < n) (hkey : w.cell? ⟨g, off + 1, none⟩ = some (.string key)) (hgl : g < w.heap.size)
    (hc : Row w c 71 [s0, x0, x1, x2, C, nm]) (R : Ending → World → Prop)
    (hstore : ∀ w' u, Below w.heap.size w w' → w'.ownsRow w.heap.size 9 1 u xs.length (strs xs) → Calls Tryz.prog 165 #[.pointer (some ⟨c, 0, none⟩), .string key, listVal u] w' fun e w'' => e = .returned (.tuple #[]) ∧ R (.returned (.tuple #[])) w'') :
    Calls Tryz.prog 96 #[callVal kd c v there, .pointer (some ⟨l, 0, none⟩)] w R := by
  unfold callVal
  unfold listVal at hstore
  subst hv
  subst hC
  have hrange : ∀ w', Below w.heap.size w w' → Calls Tryz.prog 105 #[.pointer (some ⟨l, 0, none⟩), .int .i64 0, .int .i64 (-1)] w' fun e w'' => Made w' w'' xs e := fun w' hw => by
    by_cases hx : 0 < xs.length
    · exact listRange_all F B l xs hx hm w' (hL.below hw (Nat.le_refl _)) (hG.below hw hG.size)
    · obtain rfl : xs = [] := List.length_eq_zero_iff.1 (by omega)
      exact listRange_nil F B l w' (hL.below hw (Nat.le_refl _))
  have hb1 : Below w.heap.size w (w.alloc (.cells #[.pointer (some ⟨c, 0, none⟩), .int .u8 kd, .string ⟨#[]⟩, .slice sp ln cp, .slice none 0 0, .slice none 0 0, .slice none 0 0, .slice none 0 0, .int .u64 0, .int .u64 0, .bool there] 76)) := (Below.refl _ w).alloc (Nat.le_refl _) _
  have hrow1 := Row.new w 76 [.pointer (some ⟨c, 0, none⟩), .int .u8 kd, .string ⟨#[]⟩, .slice sp ln cp, .slice none 0 0, .slice none 0 0, .slice none 0 0, .slice none 0 0, .int .u64 0, .int .u64 0, .bool there]
  have c4 := hc.cell (i := 4) rfl
  have hcl := hc.lt
  have hn' : (1 : Int) < (n : Int) := by omega
  have k0 : ∀ w', Below (w.alloc (.cells #[.pointer (some ⟨c, 0, none⟩), .int .u8 kd, .string ⟨#[]⟩, .slice sp ln cp, .slice none 0 0, .slice none 0 0, .slice none 0 0, .slice none 0 0, .int .u64 0, .int .u64 0, .bool there] 76)).heap.size (w.alloc (.cells #[.pointer (some ⟨c, 0, none⟩), .int .u8 kd, .string ⟨#[]⟩, .slice sp ln cp, .slice none 0 0, .slice none 0 0, .slice none 0 0, .slice none 0 0, .int .u64 0, .int .u64 0, .bool there] 76)) w' → w'.cell? ⟨w.heap.size, 0, none⟩ = some (.pointer (some ⟨c, 0, none⟩)) := fun w' hw => (row_below hrow1 hw (Nat.le_refl _)).cell (i := 0) rfl
  have k1 : ∀ w', Below w.heap.size w w' → w'.cell? ⟨c, 4, none⟩ = some (.slice (some ⟨g, off, none⟩) n cap) := fun w' hw => (hw.cell (p := ⟨c, 4, none⟩) hcl).trans c4
  have k2 : ∀ w', Below w.heap.size w w' → w'.cell? ⟨g, off + 1, none⟩ = some (.string key) := fun w' hw => (hw.cell (p := ⟨g, off + 1, none⟩) hgl).trans hkey
  have hR := Lib.hid hrange
  have hS := Lib.hid hstore
  have K0 := Lib.hid k0
  have K1 := Lib.hid k1
  have K2 := Lib.hid k2
  have a0 := k0 _ (Below.refl _ _)
  have a1 := k1 _ hb1
  have a2 := k2 _ hb1
  clear hL hG hrange hstore k0 k1 k2 hrow1 c4 hkey
  go_enter Tryz.func96, Tryz.ntmps96
  go_wp2_with fail
  generalize hW : w.alloc (.cells #[.pointer (some ⟨c, 0, none⟩), .int .u8 kd, .string ⟨#[]⟩, .slice sp ln cp, .slice none 0 0, .slice none 0 0, .slice none 0 0, .slice none 0 0, .int .u64 0, .int .u64 0, .bool there] 76) = W at *
  clear hW
  go_region_with (first
    | (go_at_call 105; refine (hR.out W.drew hb1.drew).mono ?_; rintro e w2 ⟨u, rfl, hrow, hb2⟩; obtain ⟨sq, lq, cq, rfl⟩ := owns_shape hrow; have hb12 : Below w.heap.size w w2 := b_call hb2 hb1.drew; have d0 := K0.out w2 (below_drew hb2); have d1 := K1.out w2 hb12; have d2 := K2.out w2 hb12; have hst := hS.out w2 _ hb12 (owns_mono hrow hb1.size))
    | (go_at_call 165; refine hst.mono ?_; rintro e w3 ⟨rfl, hfin⟩))
  all_goals
    go_end0
    exact hfin

end Go.Proofs.YtgmljeeeomjooaaGreatDoor
