/-
  space.Space.Get, reply.Call.Value, There: a key that has no list, or one.
-/
import Derived.Test.YtgmljeeeomjooaaGreatDoorQn
import Derived.Test.YtgmljeeeomjooaaGreatDoorQl
import Derived.Deep.RegionWith
set_option linter.all false
/-
  space.Space.Get, reply.Call.Value, There: a key that has no list, or one.
-/
namespace Go.Proofs.YtgmljeeeomjooaaGreatDoor
open Go Go.RowKit Go.Q Go.Sort

theorem inv_plain (l : Nat) (w : World) : (method 725 136 (.agg #[.pointer (some ⟨l, 0, none⟩)]) "stillroom/space.plain").run Tryz.prog w = .ok (371, .agg #[.pointer (some ⟨l, 0, none⟩)]) w := by kernel_rfl
theorem size57 : (Tryz.prog.info? 57).map (·.size) = some 9 := by kernel_rfl

/-- No value. -/
def noVal : Value := .agg #[.int .u8 0, .string ⟨#[]⟩, .slice none 0 0, .slice none 0 0, .slice none 0 0, .slice none 0 0, .slice none 0 0, .int .u64 0, .int .u64 0]

theorem owns_low {w : World} {B n : Nat} {e : TypeId} {s : Nat} {u : Value} {cs : List Value} (h : w.ownsRow B e s u n cs) : ∀ b, u.ownBlock = some b → B ≤ b := by
  intro b hb
  rcases h.2 with ⟨rfl, _⟩ | ⟨g, cap, cur, rfl, h3, _⟩
  · cases hb
  · cases hb; exact h3

set_option maxHeartbeats 1600000 in
set_option maxRecDepth 100000 in
theorem plain_any (F : List Knot → Prop) (B l : Nat) (xs : List ByteArray) (hm : xs.length ≤ 1000) (w : World) (h : ListAt F w B l xs) (hG : Glob w) :
    Calls Tryz.prog 371 #[.agg #[.pointer (some ⟨l, 0, none⟩)]] w fun e w' => ∃ u, e = .returned (listVal u) ∧ w'.ownsRow w.heap.size 9 1 u xs.length (strs xs) ∧ Below w.heap.size w w' := by
  unfold listVal
  have hrange : ∀ w', Below w.heap.size w w' → Calls Tryz.prog 105 #[.pointer (some ⟨l, 0, none⟩), .int .i64 0, .int .i64 (-1)] w' fun e w'' => Made w' w'' xs e := fun w' hw => by
    by_cases hx : 0 < xs.length
    · exact listRange_all F B l xs hx hm w' (h.below hw (Nat.le_refl _)) (hG.below hw hG.size)
    · obtain rfl : xs = [] := List.length_eq_zero_iff.1 (by omega)
      exact listRange_nil F B l w' (h.below hw (Nat.le_refl _))
  have hb2 : Below w.heap.size w ((w.alloc (.cells #[.pointer (some ⟨l, 0, none⟩)] 136)).alloc (.cells #[.int .u8 0, .string ⟨#[]⟩, .slice none 0 0, .slice none 0 0, .slice none 0 0, .slice none 0 0, .slice none 0 0, .int .u64 0, .int .u64 0] 57)) := ((Below.refl _ w).alloc (Nat.le_refl _) _).alloc (by simp) _
  have hr := hrange _ hb2
  have hrow := Row.new (w.alloc (.cells #[.pointer (some ⟨l, 0, none⟩)] 136)) 57 [.int .u8 0, .string ⟨#[]⟩, .slice none 0 0, .slice none 0 0, .slice none 0 0, .slice none 0 0, .slice none 0 0, .int .u64 0, .int .u64 0]
  rw [World.size_alloc] at hrow
  have hrow' := Lib.hid hrow
  have hs2 := hb2.size
  clear h hG hrange hrow
  go_enter Tryz.func371, Tryz.ntmps371
  go_wp2_with fail
  generalize hW : ((w.alloc (.cells #[.pointer (some ⟨l, 0, none⟩)] 136)).alloc (.cells #[.int .u8 0, .string ⟨#[]⟩, .slice none 0 0, .slice none 0 0, .slice none 0 0, .slice none 0 0, .slice none 0 0, .int .u64 0, .int .u64 0] 57)) = W at *
  clear hW
  go_at_call 105
  refine hr.mono ?_
  rintro e w1 ⟨u, rfl, hown, hb⟩
  obtain ⟨sq, lq, cq, rfl⟩ := owns_shape hown
  have hrow1 := row_below hrow'.out hb (Nat.le_refl _)
  have c0 := hrow1.cell (i := 0) rfl
  have f0 := hrow1.free 0
  have c1 := hrow1.cell (i := 1) rfl
  have f1 := hrow1.free 1
  have c2 := hrow1.cell (i := 2) rfl
  have f2 := hrow1.free 2
  have c3 := hrow1.cell (i := 3) rfl
  have f3 := hrow1.free 3
  have c4 := hrow1.cell (i := 4) rfl
  have f4 := hrow1.free 4
  have c5 := hrow1.cell (i := 5) rfl
  have f5 := hrow1.free 5
  have c6 := hrow1.cell (i := 6) rfl
  have f6 := hrow1.free 6
  have c7 := hrow1.cell (i := 7) rfl
  have f7 := hrow1.free 7
  have c8 := hrow1.cell (i := 8) rfl
  have f8 := hrow1.free 8
  have hrow1' := Lib.hid hrow1
  clear hr hrow1
  go_wp2_with fail
  try simp only [Exit.inBlock, Exit.then]
  have hF := ((((((((hrow1'.out.set 0 (.int .u8 2)).set 1 (.string ⟨#[]⟩)).set 2 (.slice sq lq cq)).set 3 (.slice none 0 0)).set 4 (.slice none 0 0)).set 5 (.slice none 0 0)).set 6 (.slice none 0 0)).set 7 (.int .u64 0)).set 8 (.int .u64 0)
  unfold Row at hF
  refine bodyPost_ret (results_cell_row (P := Tryz.prog) rfl _ _ (w.heap.size + 1) 57 #[.int .u8 2, .string ⟨#[]⟩, .slice sq lq cq, .slice none 0 0, .slice none 0 0, .slice none 0 0, .slice none 0 0, .int .u64 0, .int .u64 0] (0, 0) _ rfl (by simpa using hF) Tryz.underlying57 rfl size57) rfl ?_
  have ho := (((((((((Only.refl (· = w.heap.size + 1) w1).setCell ⟨w.heap.size + 1, 0, none⟩ (fun _ => rfl) (.int .u8 2)).setCell ⟨w.heap.size + 1, 1, none⟩ (fun _ => rfl) (.string ⟨#[]⟩)).setCell ⟨w.heap.size + 1, 2, none⟩ (fun _ => rfl) (.slice sq lq cq)).setCell ⟨w.heap.size + 1, 3, none⟩ (fun _ => rfl) (.slice none 0 0)).setCell ⟨w.heap.size + 1, 4, none⟩ (fun _ => rfl) (.slice none 0 0)).setCell ⟨w.heap.size + 1, 5, none⟩ (fun _ => rfl) (.slice none 0 0)).setCell ⟨w.heap.size + 1, 6, none⟩ (fun _ => rfl) (.slice none 0 0)).setCell ⟨w.heap.size + 1, 7, none⟩ (fun _ => rfl) (.int .u64 0)).setCell ⟨w.heap.size + 1, 8, none⟩ (fun _ => rfl) (.int .u64 0)
  have hWlt := hrow'.out.lt
  refine ⟨_, rfl, owns_only (owns_mono hown hs2) ho (fun b hb' e => ?_), ((b_call hb hb2).trans (ho.below (Nat.le_trans hs2 hb.size) (fun k hk e => by omega)))⟩
  have := owns_low hown b hb'
  omega

end Go.Proofs.YtgmljeeeomjooaaGreatDoor

/-
  space.Space.Get of the one key; reply.Call's Value and There.
-/
namespace Go.Proofs.YtgmljeeeomjooaaGreatDoor
open Go Go.RowKit Go.Q Go.Sort

set_option maxHeartbeats 1600000 in
set_option maxRecDepth 100000 in
theorem spaceGet_none (p : Pl) (n : Int) (w : World) (h : SpaceAt w p n none) : Calls Tryz.prog 59 #[.pointer (some ⟨p.s, 0, none⟩), .int .i64 0, .string ⟨#[108]⟩, .int .i64 0] w fun e w' => e = .returned (.tuple #[noVal, .bool false]) ∧ Below w.heap.size w w' := by
  unfold noVal
  have hb1 : Below w.heap.size w (w.alloc (.cells #[.int .u8 0, .string ⟨#[]⟩, .slice none 0 0, .slice none 0 0, .slice none 0 0, .slice none 0 0, .slice none 0 0, .int .u64 0, .int .u64 0] 57)) := (Below.refl _ w).alloc (Nat.le_refl _) _
  have hat := spaceAt_none p n _ (h.below hb1 (Nat.le_refl _))
  have hrow := Lib.hid (Row.new w 57 [.int .u8 0, .string ⟨#[]⟩, .slice none 0 0, .slice none 0 0, .slice none 0 0, .slice none 0 0, .slice none 0 0, .int .u64 0, .int .u64 0])
  clear h
  go_enter Tryz.func59, Tryz.ntmps59
  go_wp2_with fail
  go_at_call 129
  refine hat.mono ?_
  rintro e w1 ⟨rfl, hb⟩
  have hrow1 := row_below hrow.out hb (Nat.le_refl _)
  have c0 := hrow1.cell (i := 0) rfl
  have f0 := hrow1.free 0
  have c1 := hrow1.cell (i := 1) rfl
  have f1 := hrow1.free 1
  have c2 := hrow1.cell (i := 2) rfl
  have f2 := hrow1.free 2
  have c3 := hrow1.cell (i := 3) rfl
  have f3 := hrow1.free 3
  have c4 := hrow1.cell (i := 4) rfl
  have f4 := hrow1.free 4
  have c5 := hrow1.cell (i := 5) rfl
  have f5 := hrow1.free 5
  have c6 := hrow1.cell (i := 6) rfl
  have f6 := hrow1.free 6
  have c7 := hrow1.cell (i := 7) rfl
  have f7 := hrow1.free 7
  have c8 := hrow1.cell (i := 8) rfl
  have f8 := hrow1.free 8
  have hrow1' := Lib.hid hrow1
  clear hat hrow1
  go_wp2_with fail
  try simp only [Exit.inBlock, Exit.then]
  have hF := (((((((((hrow1'.out.set 0 (.int .u8 0)).set 1 (.string ⟨#[]⟩)).set 2 (.slice none 0 0)).set 3 (.slice none 0 0)).set 4 (.slice none 0 0)).set 5 (.slice none 0 0)).set 6 (.slice none 0 0)).set 7 (.int .u64 0)).set 8 (.int .u64 0))
  unfold Row at hF
  have ho := ((((((((((Only.refl (· = w.heap.size) w1).setCell ⟨w.heap.size, 0, none⟩ (fun _ => rfl) (.int .u8 0)).setCell ⟨w.heap.size, 1, none⟩ (fun _ => rfl) (.string ⟨#[]⟩)).setCell ⟨w.heap.size, 2, none⟩ (fun _ => rfl) (.slice none 0 0)).setCell ⟨w.heap.size, 3, none⟩ (fun _ => rfl) (.slice none 0 0)).setCell ⟨w.heap.size, 4, none⟩ (fun _ => rfl) (.slice none 0 0)).setCell ⟨w.heap.size, 5, none⟩ (fun _ => rfl) (.slice none 0 0)).setCell ⟨w.heap.size, 6, none⟩ (fun _ => rfl) (.slice none 0 0)).setCell ⟨w.heap.size, 7, none⟩ (fun _ => rfl) (.int .u64 0)).setCell ⟨w.heap.size, 8, none⟩ (fun _ => rfl) (.int .u64 0))
  refine bodyPost_ret (results_cell_tmp (P := Tryz.prog) rfl _ _ (w.heap.size) 57 #[.int .u8 0, .string ⟨#[]⟩, .slice none 0 0, .slice none 0 0, .slice none 0 0, .slice none 0 0, .slice none 0 0, .int .u64 0, .int .u64 0] (0, 0) _ rfl (by simpa using hF) Tryz.underlying57 rfl size57) rfl ?_
  exact ⟨rfl, (b_call hb hb1).trans (ho.below (Nat.le_trans hb1.size hb.size) (fun k hk e => by omega))⟩

set_option maxHeartbeats 1600000 in
set_option maxRecDepth 100000 in
theorem spaceGet_one (p : Pl) (m k l : Nat) (F : List Knot → Prop) (B : Nat) (xs : List ByteArray) (hm : xs.length ≤ 1000) (w : World) (h : SpaceAt w p 1 (some m)) (hk : KeptAt w p.t m k l) (hL : ListAt F w B l xs) (hG : Glob w) :
    Calls Tryz.prog 59 #[.pointer (some ⟨p.s, 0, none⟩), .int .i64 0, .string ⟨#[108]⟩, .int .i64 0] w fun e w' => ∃ u, e = .returned (.tuple #[listVal u, .bool true]) ∧ w'.ownsRow w.heap.size 9 1 u xs.length (strs xs) ∧ Below w.heap.size w w' := by
  unfold listVal
  have hb1 : Below w.heap.size w (w.alloc (.cells #[.int .u8 0, .string ⟨#[]⟩, .slice none 0 0, .slice none 0 0, .slice none 0 0, .slice none 0 0, .slice none 0 0, .int .u64 0, .int .u64 0] 57)) := (Below.refl _ w).alloc (Nat.le_refl _) _
  have hat := spaceAt_one p m k l _ (h.below hb1 (Nat.le_refl _)) (hk.below hb1 (Nat.le_refl _))
  have hrow := Lib.hid (Row.new w 57 [.int .u8 0, .string ⟨#[]⟩, .slice none 0 0, .slice none 0 0, .slice none 0 0, .slice none 0 0, .slice none 0 0, .int .u64 0, .int .u64 0])
  have hkc := fun w' (hb : Below w.heap.size w w') => (row_below hk.kept hb (Nat.le_refl _)).cell (i := 0) rfl
  have hpl := fun w' (hb : Below w.heap.size w w') => plain_any F B l xs hm w' (hL.below hb (Nat.le_refl _)) (hG.below hb hG.size)
  have hinv := inv_plain l
  unfold listVal at hpl
  clear h hk hL hG
  go_enter Tryz.func59, Tryz.ntmps59
  go_wp2_with fail
  go_at_call 129
  refine hat.mono ?_
  rintro e w1 ⟨rfl, hb⟩
  have hbw1 : Below w.heap.size w w1 := b_call hb hb1
  have k0 := hkc w1 hbw1
  have hp1 := hpl w1 hbw1
  have hrow1 := Lib.hid (row_below hrow.out hb (Nat.le_refl _))
  clear hat hkc hpl
  go_wp2_with fail
  go_at_call 371
  refine hp1.mono ?_
  rintro e w2 ⟨u, rfl, hown, hb2⟩
  obtain ⟨sq, lq, cq, rfl⟩ := owns_shape hown
  have hrow2 := row_below hrow1.out hb2 (Nat.le_refl _)
  have c0 := hrow2.cell (i := 0) rfl
  have f0 := hrow2.free 0
  have c1 := hrow2.cell (i := 1) rfl
  have f1 := hrow2.free 1
  have c2 := hrow2.cell (i := 2) rfl
  have f2 := hrow2.free 2
  have c3 := hrow2.cell (i := 3) rfl
  have f3 := hrow2.free 3
  have c4 := hrow2.cell (i := 4) rfl
  have f4 := hrow2.free 4
  have c5 := hrow2.cell (i := 5) rfl
  have f5 := hrow2.free 5
  have c6 := hrow2.cell (i := 6) rfl
  have f6 := hrow2.free 6
  have c7 := hrow2.cell (i := 7) rfl
  have f7 := hrow2.free 7
  have c8 := hrow2.cell (i := 8) rfl
  have f8 := hrow2.free 8
  have hrow2' := Lib.hid hrow2
  clear hp1 hrow2
  go_wp2_with fail
  try simp only [Exit.inBlock, Exit.then]
  have hF := (((((((((hrow2'.out.set 0 (.int .u8 2)).set 1 (.string ⟨#[]⟩)).set 2 (.slice sq lq cq)).set 3 (.slice none 0 0)).set 4 (.slice none 0 0)).set 5 (.slice none 0 0)).set 6 (.slice none 0 0)).set 7 (.int .u64 0)).set 8 (.int .u64 0))
  unfold Row at hF
  have ho := ((((((((((Only.refl (· = w.heap.size) w2).setCell ⟨w.heap.size, 0, none⟩ (fun _ => rfl) (.int .u8 2)).setCell ⟨w.heap.size, 1, none⟩ (fun _ => rfl) (.string ⟨#[]⟩)).setCell ⟨w.heap.size, 2, none⟩ (fun _ => rfl) (.slice sq lq cq)).setCell ⟨w.heap.size, 3, none⟩ (fun _ => rfl) (.slice none 0 0)).setCell ⟨w.heap.size, 4, none⟩ (fun _ => rfl) (.slice none 0 0)).setCell ⟨w.heap.size, 5, none⟩ (fun _ => rfl) (.slice none 0 0)).setCell ⟨w.heap.size, 6, none⟩ (fun _ => rfl) (.slice none 0 0)).setCell ⟨w.heap.size, 7, none⟩ (fun _ => rfl) (.int .u64 0)).setCell ⟨w.heap.size, 8, none⟩ (fun _ => rfl) (.int .u64 0))
  refine bodyPost_ret (results_cell_tmp (P := Tryz.prog) rfl _ _ (w.heap.size) 57 #[.int .u8 2, .string ⟨#[]⟩, .slice sq lq cq, .slice none 0 0, .slice none 0 0, .slice none 0 0, .slice none 0 0, .int .u64 0, .int .u64 0] (0, 0) _ rfl (by simpa using hF) Tryz.underlying57 rfl size57) rfl ?_
  have hw1 : w.heap.size < w1.heap.size := hrow1.out.lt
  refine ⟨_, rfl, owns_only (owns_mono hown (by omega)) ho (fun b hb' e => ?_), (b_call hb2 hbw1).trans (ho.below (Nat.le_trans hbw1.size hb2.size) (fun k hk e => by omega))⟩
  have := owns_low hown b hb'
  omega


end Go.Proofs.YtgmljeeeomjooaaGreatDoor
