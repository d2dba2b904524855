/-
  table.Check of a pop; reply.Of.
-/
import Derived.Test.YtgmljeeeomjooaaGreatDoorQn
import Derived.BigQuiet
import Derived.Laws.Rows
set_option linter.all false
namespace Go.Q
open Go Go.RowKit
theorem below_drewN' {B n : Nat} {w w' : World} (h : Below B (w.drewN n) w') : Below B w w' := ⟨h.os, h.tape, h.output, h.size, h.block⟩
end Go.Q
namespace Go.Proofs.YtgmljeeeomjooaaGreatDoor
open Go Go.RowKit Go.Q Go.Sort

set_option maxHeartbeats 3200000 in
set_option maxRecDepth 100000 in
theorem check_pop (front : Bool) (v : Value) (w : World) (hv : Slice w v [popT front, keyL]) :
    Calls Tryz.prog 30 #[v] w fun e w' => e = .returned (.tuple #[.agg #[.int .u8 0, .string ⟨#[]⟩, .int .i64 0, .slice none 0 0], .bool false]) ∧ Below w.heap.size w w' := by
  obtain ⟨g, off, cap, rfl, hgl, hcells⟩ : ∃ g off cap, v = .slice (some ⟨g, off, none⟩) 2 cap ∧ g < w.heap.size ∧ ∀ k (h : k < 2), w.cell? ⟨g, off + k, none⟩ = some (.string ([popT front, keyL][k])) := by
    rcases hv with ⟨h, _⟩ | h
    · cases h
    · exact h
  have hc0 : w.cell? ⟨g, off, none⟩ = some (.string (popT front)) := hcells 0 (by omega)
  have hc1 : w.cell? ⟨g, off + 1, none⟩ = some (.string ⟨#[108]⟩) := hcells 1 (by omega)
  have hb1 : Below w.heap.size w (w.alloc (.cells #[.int .u8 0, .string ⟨#[]⟩, .int .i64 0, .slice none 0 0] 33)) := (Below.refl _ w).alloc (Nat.le_refl _) _
  have hrow0 := Row.new w 33 [.int .u8 0, .string ⟨#[]⟩, .int .i64 0, .slice none 0 0]
  have hf := find_pop front (w.alloc (.cells #[.int .u8 0, .string ⟨#[]⟩, .int .i64 0, .slice none 0 0] 33))
  have hC0 := Lib.hid hc0
  have hC1 := Lib.hid hc1
  unfold popSpec at hf
  clear hv hcells hc1
  cases front
  all_goals
    unfold popT at *
    simp only [Bool.false_eq_true, if_false, if_true] at hf hc0 hC0
    first | unfold lpopT at * | unfold rpopT at *
    go_enter Tryz.func30, Tryz.ntmps30
    go_wp2_with fail
    go_at_call 31
    refine hf.mono ?_
    rintro e w2 ⟨rfl, hb2⟩
    have hb12 := b_call hb2 hb1
    have hrow2 := Lib.hid (row_below hrow0 hb2 (Nat.le_refl _))
    clear hf hb2 hrow0
    go_wp2_with fail
    go_loopw [66] (fun i wr => ∃ k : Nat, k ≤ 2 ∧ i = .int .i64 k ∧ Below w.heap.size w wr ∧ Row wr w.heap.size 33 [.int .u8 0, .string ⟨#[]⟩, .int .i64 0, .slice none 0 0]) (fun i _ => 2 - (intOf i).toNat)
    case atStart => exact ⟨0, Nat.zero_le _, rfl, hb12.alloc hb12.size _, hrow2.out.alloc _⟩
    case round =>
      obtain ⟨k, hk, rfl, hb, hr⟩ := hrel
      rcases Nat.lt_or_ge k 2 with hlt | hge
      · have hcell : ∃ t : ByteArray, wr.cell? ⟨g, off + k, none⟩ = some (.string t) ∧ t.size ≤ 5 := by
          have e := hb.cell (p := ⟨g, off + k, none⟩) hgl
          rcases (show k = 0 ∨ k = 1 by omega) with rfl | rfl
          · exact ⟨_, e.trans hC0.out, by decide⟩
          · exact ⟨_, e.trans hC1.out, by decide⟩
        obtain ⟨t, hcell, ht⟩ := hcell
        have hlti : (k : Int) < 2 := by omega
        have hsz : (t.size : Int) ≤ 65536 := by omega
        have hr' := Lib.hid hr
        clear hr
        go_wp2_with fail
        go_roundw
        case rel => exact ⟨k + 1, hlt, rfl, hb, hr'.out⟩
        case measure => simp [intOf] <;> omega
      · obtain rfl : k = 2 := by omega
        have d0 := hr.cell (i := 0) rfl
        have d1 := hr.cell (i := 1) rfl
        have d2 := hr.cell (i := 2) rfl
        have d3 := hr.cell (i := 3) rfl
        have f0 := hr.free 0
        have f1 := hr.free 1
        have f2 := hr.free 2
        have f3 := hr.free 3
        have hr' := Lib.hid hr
        clear hr
        go_wp2_with fail
        try simp only [Exit.inBlock, Exit.then]
        have hR := (((hr'.out.set 0 (.int .u8 0)).set 1 (.string ⟨#[]⟩)).set 2 (.int .i64 0)).set 3 (.slice none 0 0)
        refine bodyPost_ret (results_cell_tmp (P := Tryz.prog) rfl _ _ w.heap.size 33 #[.int .u8 0, .string ⟨#[]⟩, .int .i64 0, .slice none 0 0] (0, 0) _ rfl hR Tryz.underlying33 rfl size33) rfl ⟨rfl, ?_⟩
        exact (((hb.setCell (p := ⟨w.heap.size, 0, none⟩) (Nat.le_refl _) _).setCell (p := ⟨w.heap.size, 1, none⟩) (Nat.le_refl _) _).setCell (p := ⟨w.heap.size, 2, none⟩) (Nat.le_refl _) _).setCell (p := ⟨w.heap.size, 3, none⟩) (Nat.le_refl _) _

set_option maxHeartbeats 3200000 in
set_option maxRecDepth 100000 in
theorem of_any (nm : ByteArray) (a b x y : Value) (p : Pl) (n : Int) (m : Option Nat) (g off len cap : Nat) (w : World) (h : SpaceAt w p n m) (hlen : 1 < len) (hc0 : w.cell? ⟨g, off, none⟩ = some (.string nm)) (hgl : g < w.heap.size)
    (hone : ∀ c, a ≠ .agg c ∧ a ≠ .tuple c)
    (hcheck : ∀ w', Below w.heap.size w w' → Calls Tryz.prog 30 #[.slice (some ⟨g, off, none⟩) len cap] w' fun e w'' => e = .returned (.tuple #[.agg #[.int .u8 0, .string ⟨#[]⟩, .int .i64 0, .slice none 0 0], .bool false]) ∧ Below w'.heap.size w' w'')
    (a' b' : Int) (x' y' : Bool) (ha : a = .int .i64 a') (hb : b = .int .i64 b') (hx : x = .bool x') (hy : y = .bool y')
    (hfind : ∀ w', Calls Tryz.prog 31 #[.string nm] w' fun e w'' => e = .returned (.tuple #[.agg #[.string nm, a, b, x, y, .int .i64 1, .int .i64 1, .bool true, .int .i64 21], .bool true]) ∧ Below w'.heap.size w' w'') :
    Calls Tryz.prog 13 #[.pointer (some ⟨p.s, 0, none⟩), .agg #[.int .i64 0, .int .i64 0, .int .u32 0], .slice (some ⟨g, off, none⟩) len cap, .int .i64 21] w fun e w' => ∃ c, e = .returned (.tuple #[.pointer (some ⟨c, 0, none⟩), .bool true]) ∧
      Row w' c 71 [.pointer (some ⟨p.s, 0, none⟩), .int .i64 0, .int .i64 0, .int .u32 0, .slice (some ⟨g, off, none⟩) len cap, .string nm] ∧ Below w.heap.size w w' := by
  subst ha hb hx hy
  have hb1 : Below w.heap.size w (w.alloc (.cells #[.int .i64 0, .int .i64 0, .int .u32 0] 41)) := (Below.refl _ w).alloc (Nat.le_refl _) _
  have hb1q : ∀ k, Below w.heap.size w ((w.alloc (.cells #[.int .i64 0, .int .i64 0, .int .u32 0] 41)).drewN k) := fun k => ⟨hb1.os, hb1.tape, hb1.output, hb1.size, hb1.block⟩
  have hdb := fun k => Calls.quiet_of_same ((spaceDBs p n m ((w.alloc (.cells #[.int .i64 0, .int .i64 0, .int .u32 0] 41)).drewN k) (h.below (hb1q k) (Nat.le_refl _))).mono fun e w' ⟨h, k⟩ => ⟨h, k.symm⟩)
  have hrow := Lib.hid (Row.new w 41 [.int .i64 0, .int .i64 0, .int .u32 0])
  have HC := Lib.hid hcheck
  have HC0 := Lib.hid hc0
  have hlen' : (1 : Int) < (len : Int) := by omega
  have hlen0 : (0 : Int) < (len : Int) := by omega
  clear h hcheck hc0 hone
  go_enter Tryz.func13, Tryz.ntmps13
  go_wp2_with fail
  go_quiet (first | (go_at_call_of 29 (Value.pointer (some ⟨p.s, 0, none⟩)); exact hdb _))
  rename_i nq
  have hck := HC.out _ (hb1q nq)
  clear hdb
  go_wp2_with fail
  go_at_call 30
  refine hck.mono ?_
  rintro e w1 ⟨rfl, hb2⟩
  have hbw1 : Below w.heap.size w w1 := b_call hb2 (hb1q nq)
  have hbox1 := Lib.hid (row_below hrow.out (below_drewN' hb2) (Nat.le_refl _))
  have hs1 := hbw1.size
  have k0 : w1.cell? ⟨g, off, none⟩ = some (.string nm) := (hbw1.cell (p := ⟨g, off, none⟩) hgl).trans HC0.out
  have hg1 : g < w1.heap.size := Nat.lt_of_lt_of_le hgl hs1
  have hbA : Below w.heap.size w (w1.alloc (.cells #[.int .u8 0, .string ⟨#[]⟩, .int .i64 0, .slice none 0 0] 33)) := hbw1.alloc hs1 _
  have hboxA := Lib.hid (hbox1.out.alloc (.cells #[.int .u8 0, .string ⟨#[]⟩, .int .i64 0, .slice none 0 0] 33))
  have hf := hfind (w1.alloc (.cells #[.int .u8 0, .string ⟨#[]⟩, .int .i64 0, .slice none 0 0] 33))
  clear hck hfind
  go_wp2_with fail
  generalize hWA : w1.alloc (.cells #[.int .u8 0, .string ⟨#[]⟩, .int .i64 0, .slice none 0 0] 33) = WA at *
  go_at_call 31
  refine hf.mono ?_
  rintro e w2 ⟨rfl, hb3⟩
  have hbw2 : Below w.heap.size w w2 := b_call hb3 hbA
  have hbox2 := row_below hboxA.out hb3 (Nat.le_refl _)
  have x0 := hbox2.cell (i := 0) rfl
  have x1 := hbox2.cell (i := 1) rfl
  have x2 := hbox2.cell (i := 2) rfl
  have hx2 : w.heap.size < w2.heap.size := hbox2.lt
  have hs2 := hbw2.size
  clear hf hbox2 hWA k0 hbox1 hboxA
  go_wp2_with fail
  go_ret2
  have hrow := Row.new (w2.alloc (.cells #[.string nm, .int .i64 a', .int .i64 b', .bool x', .bool y', .int .i64 1, .int .i64 1, .bool true, .int .i64 21] 102)) 71 [.pointer (some ⟨p.s, 0, none⟩), .int .i64 0, .int .i64 0, .int .u32 0, .slice (some ⟨g, off, none⟩) len cap, .string nm]
  refine ⟨_, rfl, ?_, (hbw2.alloc hs2 _).alloc (by simp; omega) _⟩
  simpa using hrow

end Go.Proofs.YtgmljeeeomjooaaGreatDoor
