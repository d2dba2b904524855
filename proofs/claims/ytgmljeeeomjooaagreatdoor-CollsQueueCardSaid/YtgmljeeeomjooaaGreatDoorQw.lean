/-
  dict.New, space.New, stillroomlaw21.Filled: a space of one database, without keys.
-/
import Derived.Test.YtgmljeeeomjooaaGreatDoorQn
import Derived.Test.YtgmljeeeomjooaaGreatDoorQk
import Derived.Deep.AppendLies
import Derived.Deep.RegionLaw
import Derived.Test.YtgmljeeeomjooaaGreatDoorQx
import Derived.Test.YtgmljeeeomjooaaGreatDoorEvE
import Derived.Test.YtgmljeeeomjooaaGreatDoorEvD
set_option linter.all false
/-
  dict.New, space.New, stillroomlaw21.Filled: a space of one database, without keys.
-/
namespace Go.Q
open Go Go.RowKit
theorem news1 (w : World) (v : Value) (t : TypeId) : ∀ (j : Nat) (u : Value), ([v] : List Value)[j]? = some u → (w.alloc (.cells #[v] t)).cell? ((⟨w.heap.size, 0, none⟩ : Addr).add j) = some u := fun j u hj => by
  cases j with
  | zero =>
    cases hj
    have h := (Row.new w t [v]).cell (i := 0) rfl
    simpa [Addr.add] using h
  | succ j => simp at hj
theorem base1 {B : Nat} {w : World} (o : Obj) (h : B ≤ w.heap.size) : B ≤ (w.alloc o).heap.size := by rw [World.size_alloc]; omega
theorem row_grown {w w' : World} {b t : Nat} {cs : List Value} (h : Row w b t cs) (hg : w.grownBy w' none) : Row w' b t cs := h.only (S := fun _ => False) ((Only.refl _ w).grown hg (fun k e => by cases e)) (fun h => h)
end Go.Q
namespace Go.Proofs.YtgmljeeeomjooaaGreatDoor
open Go Go.RowKit Go.Q Go.Sort

theorem info127 : (Tryz.prog.info? 127).map (fun i => (i.zero, i.size, i.bytes)) = some (some (.map none), 1, 8) := by kernel_rfl
theorem make4 (w : World) : (Instr.makeSlice 119 (.int .i64 4) (.int .i64 4)).run Tryz.prog w = .ok (.slice (some ⟨w.heap.size, 0, none⟩) 4 4) (w.alloc (.cells #[.map none, .map none, .map none, .map none] 127)) := by
  obtain ⟨i0, hi, hz0, hz1, hz2⟩ := info_parts info127
  have h := run_makeSlice (P := Tryz.prog) (w := w) 119 127 i0 (.map none) Tryz.underlying119 hi hz0 .i64 .i64 4 4 (by omega) (by omega) (by rw [hz1]; decide) (by rw [hz2]; decide) (by omega)
  rw [hz1] at h
  have e : madeCells (Value.map none).cells (Int.toNat 4 * 1) = #[.map none, .map none, .map none, .map none] := by simp [madeCells, Value.cells, Array.range, Array.ofFn]; kernel_rfl
  rw [e] at h
  exact h

set_option maxHeartbeats 1600000 in
set_option maxRecDepth 100000 in
theorem dictNew (w : World) : Calls Tryz.prog 20 #[.int .u64 5] w fun e w' => e = .returned (.pointer (some ⟨w.heap.size + 1, 0, none⟩)) ∧ DictAt w' (w.heap.size + 1) w.heap.size 0 none ∧ Below w.heap.size w w' := by
  have h1 := Row.new (w.alloc (.cells (tabCells none).toArray 127)) 122 (dictCells w.heap.size 0)
  have h2 := (Row.new w 127 (tabCells none)).alloc (.cells (dictCells w.heap.size 0).toArray 122)
  rw [World.size_alloc] at h1
  have hD := Lib.hid (DictAt.mk h1 h2)
  have hb : Below w.heap.size w ((w.alloc (.cells (tabCells none).toArray 127)).alloc (.cells (dictCells w.heap.size 0).toArray 122)) := ((Below.refl _ w).alloc (Nat.le_refl _) _).alloc (by simp) _
  have hmk := make4 w
  unfold tabCells dictCells at *
  clear h1 h2
  go_enter Tryz.func20, Tryz.ntmps20
  go_wp2_with fail
  go_ret
  exact ⟨rfl, hD.out, hb⟩

theorem info79 : (Tryz.prog.info? 79).map (fun i => (i.zero, i.size, i.bytes)) = some (some (.pointer none), 1, 8) := by kernel_rfl

theorem owns_rowOf {w : World} {B g n cap : Nat} {t : TypeId} {xs : List Value} (h : w.ownsRow B t 1 (.slice (some ⟨g, 0, none⟩) n cap) n xs) : ∃ r, Row w g t (xs ++ r) := by
  obtain ⟨h0, h1 | ⟨g', cap', cur, h2, h3, h4, h5, h6, h7, h8⟩⟩ := h
  · cases h1.1
  · cases h2
    refine ⟨cur.toList.drop n, ?_⟩
    unfold Row
    rw [h4, ← h8, Nat.mul_one, List.take_append_drop]

set_option maxHeartbeats 3200000 in
set_option maxRecDepth 100000 in
theorem spaceNew (w : World) (h10 : 10 ≤ w.heap.size) : Calls Tryz.prog 9 #[.int .i64 1, .int .u64 5] w fun e w' => ∃ p : Pl, e = .returned (.tuple #[.pointer (some ⟨p.s, 0, none⟩), .int .i64 0]) ∧ SpaceAt w' p 0 none ∧ w.heap.size ≤ p.t ∧ w.heap.size ≤ p.d ∧ Below w.heap.size w w' := by
  obtain ⟨i0, hi, hz0, hz1, hz2⟩ := info_parts info79
  have hb1 : Below w.heap.size w (w.alloc (.cells #[.slice none 0 0, .int .u64 5, .int .u64 0] 82)) := (Below.refl _ w).alloc (Nat.le_refl _) _
  have hrow := Lib.hid (Row.new w 82 [.slice none 0 0, .int .u64 5, .int .u64 0])
  have hwrap : IntKind.u64.wrap (5 + IntKind.u64.wrap 0) = 5 := by kernel_rfl
  go_enter Tryz.func9, Tryz.ntmps9
  go_wp2_with fail
  refine wp_loop_rounds 2 ?_
  rw [rounds_succ]
  go_wp2_with fail
  generalize hW : w.alloc (.cells #[.slice none 0 0, .int .u64 5, .int .u64 0] 82) = W at *
  have hsz : w.heap.size < W.heap.size := hrow.out.lt
  have c0 := hrow.out.cell (i := 0) rfl
  have hnew := dictNew W.drew
  clear hW
  go_region_law (first
    | (refine step_append_lies _ rfl (.tmp 25) (.tmp 31) 80 rfl w.heap.size 79 i0 (.pointer none) 1 8 Tryz.underlying80 hi hz0 hz1 hz2 rfl (by decide) (.slice none 0 0) 0 [] (by simp [Act.eval, Act.put]) (World.ownsRow_nil _ _ _ _) ⟨w1.heap.size, 0, none⟩ 1 1 [.pointer (some ⟨W.heap.size + 1, 0, none⟩)] (by simp [Act.eval, Act.put]) rfl NEWS.out (by simp [Value.oneCell']) (by decide) (by unfold maxLen; omega) (by decide) BASE.out _ rfl ?_; intro g cap w3 hown hgrow hat hlt; have hr3 := row_grown (hr1'.out.alloc _) hgrow; have e0 := hr3.cell (i := 0) rfl; have e1 := hr3.free 0; have hr3' := Lib.hid hr3; clear hr3)
    | (go_simp; go_at_call 20; refine hnew.mono ?_; rintro e w1 ⟨rfl, hD, hb⟩; have hbW := below_drew hb; have hr1 := row_below hrow.out hbW (Nat.le_refl _); have d0 := hr1.cell (i := 0) rfl; have d1 := hr1.free 0; have hlt1 := hr1.lt; have NEWS := Lib.hid (news1 w1 (.pointer (some ⟨W.heap.size + 1, 0, none⟩)) 79); have BASE := Lib.hid (base1 (.cells #[.pointer (some ⟨W.heap.size + 1, 0, none⟩)] 79) (Nat.le_trans hb1.size hbW.size)); have hD' := Lib.hid hD; have hr1' := Lib.hid hr1; clear hD hr1))
  all_goals
    go_wp2_with fail
    rw [rounds_succ]
    go_wp2_with fail
    go_ret2
    have hbW := below_drew hb
    have hbw1 : Below w.heap.size w w1 := b_call hbW hb1
    have hg0 : Below w.heap.size w1 w3 := ((Below.refl _ w1).alloc hbw1.size (.cells #[.pointer (some ⟨W.heap.size + 1, 0, none⟩)] 79)).grown hgrow (Nat.le_trans hbw1.size (by rw [World.size_alloc]; omega)) (fun k e => by cases e)
    have hown' : w3.ownsRow w.heap.size 79 1 (.slice (some ⟨g, 0, none⟩) 1 cap) 1 [.pointer (some ⟨W.heap.size + 1, 0, none⟩)] := hown
    obtain ⟨r, hrg⟩ := owns_rowOf hown'
    have hgs : g ≠ w.heap.size := fun e => by rw [e] at hrg; exact absurd (hrg.eq hr3'.out).2 (by decide)
    have hD1 : DictAt w1 (W.heap.size + 1) W.heap.size 0 none := hD'.out
    have hD2 : DictAt w3 (W.heap.size + 1) W.heap.size 0 none := ⟨row_grown (hD1.cell.alloc _) hgrow, row_grown (hD1.tab.alloc _) hgrow⟩
    refine ⟨⟨w.heap.size, g, cap, W.heap.size + 1, W.heap.size⟩, rfl, ⟨hr3'.out.set 0 _, ⟨r, hrg.set_ne hgs _⟩, ⟨hD2.cell.set_ne (by show W.heap.size + 1 ≠ w.heap.size; omega) _, hD2.tab.set_ne (by show W.heap.size ≠ w.heap.size; omega) _⟩, ⟨by show 10 ≤ W.heap.size + 1; omega, by show 10 ≤ W.heap.size; omega⟩⟩, by show w.heap.size ≤ W.heap.size; omega, by show w.heap.size ≤ W.heap.size + 1; omega, ?_⟩
    exact (hbw1.trans hg0).setCell (p := ⟨w.heap.size, 0, none⟩) (Nat.le_refl _) _

end Go.Proofs.YtgmljeeeomjooaaGreatDoor

/-
  stillroomlaw21.long over an unknown slice; lives, by the evaluator.
-/
namespace Go.Proofs.YtgmljeeeomjooaaGreatDoor
open Go Go.RowKit Go.Q Go.Sort

set_option maxHeartbeats 1600000 in
set_option maxRecDepth 100000 in
/-- A text is too long. -/
theorem long_yes (v : Value) (xs : List ByteArray) (hm : xs.length ≤ 1000) (hs : ∃ s ∈ xs, 65536 < s.size) (w : World) (hv : Slice w v xs) :
    Calls Tryz.prog 5 #[v] w fun e w' => e = .returned (.bool true) ∧ w = w' := by
  obtain ⟨sp, cp, rfl⟩ := hv.len
  have hlen' : (xs.length : Int) ≤ 1000 := by omega
  have hv' := Lib.hid hv
  have hs' := Lib.hid hs
  clear hv hs
  go_enter Tryz.func5, Tryz.ntmps5
  go_wp2_with fail
  go_loopw [3] (fun i wr => ∃ k : Nat, k ≤ xs.length ∧ i = .int .i64 k ∧ wr = w ∧ ∀ j (h : j < xs.length), j < k → xs[j].size ≤ 65536) (fun i _ => xs.length - (intOf i).toNat)
  case atStart => exact ⟨0, Nat.zero_le _, rfl, rfl, fun j _ h => absurd h (Nat.not_lt_zero _)⟩
  case round =>
    obtain ⟨k, hk, rfl, rfl, hall⟩ := hrel
    rcases Nat.lt_or_ge k xs.length with hlt | hge
    · obtain ⟨hxn, _⟩ | ⟨g, off, cap, he, hgl, hcells⟩ := hv'.out
      · rw [hxn] at hlt; exact absurd hlt (by simp)
      · injection he with he1 _ he3
        subst he1
        subst he3
        have hcell := hcells k hlt
        have hlti : (k : Int) < (xs.length : Int) := by omega
        have HA := Lib.hid hall
        clear hcells hall
        by_cases hsz0 : xs[k].size ≤ 65536
        · have hsz : (xs[k].size : Int) ≤ 65536 := by omega
          have hz := Lib.hid hsz0
          clear hsz0
          go_wp2_with fail
          go_roundw
          case rel => exact ⟨k + 1, hlt, rfl, trivial, fun j h hj => by
            rcases Nat.lt_or_ge j k with h1 | h1
            · exact HA.out j h h1
            · obtain rfl : j = k := by omega
              exact hz.out⟩
          case measure => simp [intOf] <;> omega
        · have hsz : (65536 : Int) < (xs[k].size : Int) := by omega
          clear hsz0
          go_wp2_with fail
          go_ret
          exact ⟨rfl, rfl⟩
    · obtain ⟨s, hmem, hbig⟩ := hs'.out
      obtain ⟨j, hj, rfl⟩ := List.getElem_of_mem hmem
      have := hall j hj (by omega)
      omega

/-- The two errors of strconv, one cell each. -/
def Errs (w : World) : Prop := ∃ (v1 : Value) (el1 : TypeId) (f1 : Nat × Nat) (v2 : Value) (el2 : TypeId) (f2 : Nat × Nat), w.heap[2]? = some (.cells #[v1] el1 f1) ∧ w.heap[3]? = some (.cells #[v2] el2 f2) ∧ (∀ c, v1 ≠ .agg c ∧ v1 ≠ .tuple c) ∧ ∀ c, v2 ≠ .agg c ∧ v2 ≠ .tuple c
theorem Errs.below {w w' : World} (h : Errs w) (hb : Below w.heap.size w w') : Errs w' := by
  obtain ⟨v1, el1, f1, v2, el2, f2, h1, h2, h3, h4⟩ := h
  exact ⟨v1, el1, f1, v2, el2, f2, (hb.block 2 (Array.getElem?_eq_some_iff.1 h1).1).trans h1, (hb.block 3 (Array.getElem?_eq_some_iff.1 h2).1).trans h2, h3, h4⟩

set_option maxRecDepth 100000 in
theorem lives_row (w : World) (h : Errs w) : Calls Tryz.prog 6 #[] w fun e w' => e = .returned (.bool true) ∧ Ev.Kept w w' := by
  obtain ⟨v1, el1, f1, v2, el2, f2, h1, h2, h3, h4⟩ := h
  have hr : ∀ x ∈ ([(2, .cells #[v1] el1 f1, [.chan (some 5000)]), (3, .cells #[v2] el2 f2, [.chan (some 5001)])] : List (Nat × Obj × List Value)), Ev.RomIs (Ev.globS Tryz.prog.globals.size 5000 [v1, v2]) Tryz.prog.globals.size w x := by
    intro x hx
    simp only [List.mem_cons, List.not_mem_nil, or_false] at hx
    rcases hx with rfl | rfl
    · exact Ev.rom_iface (b := 5000) (i := 0) fewQ (of_decide_eq_true (by kernel_rfl)) h1 rfl h3
    · exact Ev.rom_iface (b := 5000) (i := 1) fewQ (of_decide_eq_true (by kernel_rfl)) h2 rfl h4
  have hbd : Tryz.f6.body.isSome = true := by kernel_rfl
  exact Ev.calls_rom (roms := [(2, .cells #[v1] el1 f1, [.chan (some 5000)]), (3, .cells #[v2] el2 f2, [.chan (some 5001)])]) (Ev.Cx.sy_ok mixedQ (by intro en he; cases he)) rfl Tryz.func6 hbd (Ev.endOfF_eq .. ▸ lives_run _ _ _) (.nil _) fewQ (Nat.le_refl _) w hr

end Go.Proofs.YtgmljeeeomjooaaGreatDoor
