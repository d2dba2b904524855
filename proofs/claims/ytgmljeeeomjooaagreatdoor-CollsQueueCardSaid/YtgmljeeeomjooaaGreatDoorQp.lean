/-
  reply.Call's Value and There of the one key.
-/
import Derived.Test.YtgmljeeeomjooaaGreatDoorQo
set_option linter.all false
namespace Go.Proofs.YtgmljeeeomjooaaGreatDoor
open Go Go.RowKit Go.Q Go.Sort

set_option maxHeartbeats 1600000 in
set_option maxRecDepth 100000 in
theorem value_none (c : Nat) (C nm : Value) (p : Pl) (n : Int) (w : World) (h : SpaceAt w p n none) (hc : Row w c 71 [.pointer (some ⟨p.s, 0, none⟩), .int .i64 0, .int .i64 0, .int .u32 0, C, nm]) :
    Calls Tryz.prog 15 #[.pointer (some ⟨c, 0, none⟩), .string ⟨#[108]⟩] w fun e w' => e = .returned (.tuple #[noVal, .bool false]) ∧ Below w.heap.size w w' := by
  have hb1 : Below w.heap.size w (w.alloc (.cells #[.int .u8 0, .string ⟨#[]⟩, .slice none 0 0, .slice none 0 0, .slice none 0 0, .slice none 0 0, .slice none 0 0, .int .u64 0, .int .u64 0] 57)) := (Below.refl _ w).alloc (Nat.le_refl _) _
  have hget := spaceGet_none p n (w.alloc (.cells #[.int .u8 0, .string ⟨#[]⟩, .slice none 0 0, .slice none 0 0, .slice none 0 0, .slice none 0 0, .slice none 0 0, .int .u64 0, .int .u64 0] 57)).drew (h.below hb1.drew (Nat.le_refl _))
  have hrow := Lib.hid (Row.new w 57 [.int .u8 0, .string ⟨#[]⟩, .slice none 0 0, .slice none 0 0, .slice none 0 0, .slice none 0 0, .slice none 0 0, .int .u64 0, .int .u64 0])
  have a0 := hc.cell (i := 0) rfl
  have a1 := hc.cell (i := 1) rfl
  have a2 := hc.cell (i := 2) rfl
  have hcl := hc.lt
  unfold noVal at hget ⊢
  clear h hc
  go_enter Tryz.func15, Tryz.ntmps15
  go_wp2_with fail
  go_region_with (first
    | (go_at_call 59; refine hget.mono ?_; rintro e w2 ⟨rfl, hb2⟩; have hb12 : Below w.heap.size w w2 := b_call hb2 hb1.drew; have hrow2 := row_below hrow.out (below_drew hb2) (Nat.le_refl _); have c0 := hrow2.cell (i := 0) rfl; have f0 := hrow2.free 0; have c1 := hrow2.cell (i := 1) rfl; have f1 := hrow2.free 1; have c2 := hrow2.cell (i := 2) rfl; have f2 := hrow2.free 2; have c3 := hrow2.cell (i := 3) rfl; have f3 := hrow2.free 3; have c4 := hrow2.cell (i := 4) rfl; have f4 := hrow2.free 4; have c5 := hrow2.cell (i := 5) rfl; have f5 := hrow2.free 5; have c6 := hrow2.cell (i := 6) rfl; have f6 := hrow2.free 6; have c7 := hrow2.cell (i := 7) rfl; have f7 := hrow2.free 7; have c8 := hrow2.cell (i := 8) rfl; have f8 := hrow2.free 8; have hrow2' := Lib.hid hrow2; clear hrow2))
  all_goals
    go_wp2_with fail
    try simp only [Exit.inBlock, Exit.then]
    have hF := (((((((((hrow2'.out.set 0 (.int .u8 0)).set 1 (.string ⟨#[]⟩)).set 2 (.slice none 0 0)).set 3 (.slice none 0 0)).set 4 (.slice none 0 0)).set 5 (.slice none 0 0)).set 6 (.slice none 0 0)).set 7 (.int .u64 0)).set 8 (.int .u64 0))
    unfold Row at hF
    have ho := ((((((((((Only.refl (· = w.heap.size) w2).setCell ⟨w.heap.size, 0, none⟩ (fun _ => rfl) (.int .u8 0)).setCell ⟨w.heap.size, 1, none⟩ (fun _ => rfl) (.string ⟨#[]⟩)).setCell ⟨w.heap.size, 2, none⟩ (fun _ => rfl) (.slice none 0 0)).setCell ⟨w.heap.size, 3, none⟩ (fun _ => rfl) (.slice none 0 0)).setCell ⟨w.heap.size, 4, none⟩ (fun _ => rfl) (.slice none 0 0)).setCell ⟨w.heap.size, 5, none⟩ (fun _ => rfl) (.slice none 0 0)).setCell ⟨w.heap.size, 6, none⟩ (fun _ => rfl) (.slice none 0 0)).setCell ⟨w.heap.size, 7, none⟩ (fun _ => rfl) (.int .u64 0)).setCell ⟨w.heap.size, 8, none⟩ (fun _ => rfl) (.int .u64 0))
    refine bodyPost_ret (results_cell_tmp (P := Tryz.prog) rfl _ _ (w.heap.size) 57 #[.int .u8 0, .string ⟨#[]⟩, .slice none 0 0, .slice none 0 0, .slice none 0 0, .slice none 0 0, .slice none 0 0, .int .u64 0, .int .u64 0] (0, 0) _ rfl (by simpa using hF) Tryz.underlying57 rfl size57) rfl ?_
    exact ⟨rfl, hb12.trans (ho.below hb12.size (fun k hk e => by omega))⟩

set_option maxHeartbeats 1600000 in
set_option maxRecDepth 100000 in
theorem value_one (c : Nat) (C nm : Value) (p : Pl) (m k l : Nat) (F : List Knot → Prop) (B : Nat) (xs : List ByteArray) (hm : xs.length ≤ 1000) (w : World) (h : SpaceAt w p 1 (some m)) (hk : KeptAt w p.t m k l) (hL : ListAt F w B l xs) (hG : Glob w) (hc : Row w c 71 [.pointer (some ⟨p.s, 0, none⟩), .int .i64 0, .int .i64 0, .int .u32 0, C, nm]) :
    Calls Tryz.prog 15 #[.pointer (some ⟨c, 0, none⟩), .string ⟨#[108]⟩] w fun e w' => ∃ u, e = .returned (.tuple #[listVal u, .bool true]) ∧ w'.ownsRow w.heap.size 9 1 u xs.length (strs xs) ∧ Below w.heap.size w w' := by
  have hb1 : Below w.heap.size w (w.alloc (.cells #[.int .u8 0, .string ⟨#[]⟩, .slice none 0 0, .slice none 0 0, .slice none 0 0, .slice none 0 0, .slice none 0 0, .int .u64 0, .int .u64 0] 57)) := (Below.refl _ w).alloc (Nat.le_refl _) _
  have hget := spaceGet_one p m k l F B xs hm (w.alloc (.cells #[.int .u8 0, .string ⟨#[]⟩, .slice none 0 0, .slice none 0 0, .slice none 0 0, .slice none 0 0, .slice none 0 0, .int .u64 0, .int .u64 0] 57)).drew (h.below hb1.drew (Nat.le_refl _)) (hk.below hb1.drew (Nat.le_refl _)) (hL.below hb1.drew (Nat.le_refl _)) (hG.below hb1.drew hG.size)
  have hrow := Lib.hid (Row.new w 57 [.int .u8 0, .string ⟨#[]⟩, .slice none 0 0, .slice none 0 0, .slice none 0 0, .slice none 0 0, .slice none 0 0, .int .u64 0, .int .u64 0])
  have a0 := hc.cell (i := 0) rfl
  have a1 := hc.cell (i := 1) rfl
  have a2 := hc.cell (i := 2) rfl
  have hcl := hc.lt
  unfold listVal at hget ⊢
  clear h hc hk hL hG
  go_enter Tryz.func15, Tryz.ntmps15
  go_wp2_with fail
  go_region_with (first
    | (go_at_call 59; refine hget.mono ?_; rintro e w2 ⟨u, rfl, hown, hb2⟩; obtain ⟨sq, lq, cq, rfl⟩ := owns_shape hown; have hb12 : Below w.heap.size w w2 := b_call hb2 hb1.drew; have hrow2 := row_below hrow.out (below_drew hb2) (Nat.le_refl _); have c0 := hrow2.cell (i := 0) rfl; have f0 := hrow2.free 0; have c1 := hrow2.cell (i := 1) rfl; have f1 := hrow2.free 1; have c2 := hrow2.cell (i := 2) rfl; have f2 := hrow2.free 2; have c3 := hrow2.cell (i := 3) rfl; have f3 := hrow2.free 3; have c4 := hrow2.cell (i := 4) rfl; have f4 := hrow2.free 4; have c5 := hrow2.cell (i := 5) rfl; have f5 := hrow2.free 5; have c6 := hrow2.cell (i := 6) rfl; have f6 := hrow2.free 6; have c7 := hrow2.cell (i := 7) rfl; have f7 := hrow2.free 7; have c8 := hrow2.cell (i := 8) rfl; have f8 := hrow2.free 8; have hrow2' := Lib.hid hrow2; have hown' := Lib.hid hown; clear hrow2 hown))
  all_goals
    go_wp2_with fail
    try simp only [Exit.inBlock, Exit.then]
    have hF := (((((((((hrow2'.out.set 0 (.int .u8 2)).set 1 (.string ⟨#[]⟩)).set 2 (.slice sq lq cq)).set 3 (.slice none 0 0)).set 4 (.slice none 0 0)).set 5 (.slice none 0 0)).set 6 (.slice none 0 0)).set 7 (.int .u64 0)).set 8 (.int .u64 0))
    unfold Row at hF
    have ho := ((((((((((Only.refl (· = w.heap.size) w2).setCell ⟨w.heap.size, 0, none⟩ (fun _ => rfl) (.int .u8 2)).setCell ⟨w.heap.size, 1, none⟩ (fun _ => rfl) (.string ⟨#[]⟩)).setCell ⟨w.heap.size, 2, none⟩ (fun _ => rfl) (.slice sq lq cq)).setCell ⟨w.heap.size, 3, none⟩ (fun _ => rfl) (.slice none 0 0)).setCell ⟨w.heap.size, 4, none⟩ (fun _ => rfl) (.slice none 0 0)).setCell ⟨w.heap.size, 5, none⟩ (fun _ => rfl) (.slice none 0 0)).setCell ⟨w.heap.size, 6, none⟩ (fun _ => rfl) (.slice none 0 0)).setCell ⟨w.heap.size, 7, none⟩ (fun _ => rfl) (.int .u64 0)).setCell ⟨w.heap.size, 8, none⟩ (fun _ => rfl) (.int .u64 0))
    refine bodyPost_ret (results_cell_tmp (P := Tryz.prog) rfl _ _ (w.heap.size) 57 #[.int .u8 2, .string ⟨#[]⟩, .slice sq lq cq, .slice none 0 0, .slice none 0 0, .slice none 0 0, .slice none 0 0, .int .u64 0, .int .u64 0] (0, 0) _ rfl (by simpa using hF) Tryz.underlying57 rfl size57) rfl ?_
    refine ⟨_, rfl, owns_only (owns_mono hown'.out hb1.size) ho (fun b hb' e => ?_), hb12.trans (ho.below hb12.size (fun k hk e => by omega))⟩
    have := owns_low hown'.out b hb'
    have h3 := World.size_alloc w (.cells #[.int .u8 0, .string ⟨#[]⟩, .slice none 0 0, .slice none 0 0, .slice none 0 0, .slice none 0 0, .slice none 0 0, .int .u64 0, .int .u64 0] 57)
    have h4 : (w.alloc (.cells #[.int .u8 0, .string ⟨#[]⟩, .slice none 0 0, .slice none 0 0, .slice none 0 0, .slice none 0 0, .slice none 0 0, .int .u64 0, .int .u64 0] 57)).drew.heap.size = (w.alloc (.cells #[.int .u8 0, .string ⟨#[]⟩, .slice none 0 0, .slice none 0 0, .slice none 0 0, .slice none 0 0, .slice none 0 0, .int .u64 0, .int .u64 0] 57)).heap.size := rfl
    omega

set_option maxHeartbeats 1600000 in
set_option maxRecDepth 100000 in
theorem there_none (c : Nat) (C nm : Value) (p : Pl) (n : Int) (w : World) (h : SpaceAt w p n none) (hc : Row w c 71 [.pointer (some ⟨p.s, 0, none⟩), .int .i64 0, .int .i64 0, .int .u32 0, C, nm]) :
    Calls Tryz.prog 212 #[.pointer (some ⟨c, 0, none⟩), .string ⟨#[108]⟩] w fun e w' => e = .returned (.bool false) ∧ Below w.heap.size w w' := by
  have hv := value_none c C nm p n w h hc
  unfold noVal at hv
  clear h hc
  go_enter Tryz.func212, Tryz.ntmps212
  go_wp2_with fail
  go_at_call 15
  refine hv.mono ?_
  rintro e w1 ⟨rfl, hb⟩
  go_wp2_with fail
  go_ret
  exact ⟨rfl, hb.alloc hb.size _⟩

set_option maxHeartbeats 1600000 in
set_option maxRecDepth 100000 in
theorem there_one (c : Nat) (C nm : Value) (p : Pl) (m k l : Nat) (F : List Knot → Prop) (B : Nat) (xs : List ByteArray) (hm : xs.length ≤ 1000) (w : World) (h : SpaceAt w p 1 (some m)) (hk : KeptAt w p.t m k l) (hL : ListAt F w B l xs) (hG : Glob w) (hc : Row w c 71 [.pointer (some ⟨p.s, 0, none⟩), .int .i64 0, .int .i64 0, .int .u32 0, C, nm]) :
    Calls Tryz.prog 212 #[.pointer (some ⟨c, 0, none⟩), .string ⟨#[108]⟩] w fun e w' => e = .returned (.bool true) ∧ Below w.heap.size w w' := by
  have hv := value_one c C nm p m k l F B xs hm w h hk hL hG hc
  unfold listVal at hv
  clear h hc hk hL hG
  go_enter Tryz.func212, Tryz.ntmps212
  go_wp2_with fail
  go_at_call 15
  refine hv.mono ?_
  rintro e w1 ⟨u, rfl, hown, hb⟩
  obtain ⟨sq, lq, cq, rfl⟩ := owns_shape hown
  go_wp2_with fail
  go_ret
  exact ⟨rfl, hb.alloc hb.size _⟩


end Go.Proofs.YtgmljeeeomjooaaGreatDoor
