/-
  setbit: what it does, its store and its telling by contract.
-/
import Derived.Test.YtehpbcpnmnhdbaaGreatDoorRw
import Derived.Test.YtehpbcpnmnhdbaaGreatDoorEvB
import Derived.Lib.UnsafeStr
import Derived.Deep.QuietTactic
import Derived.Deep.RegionHeld3
import Derived.Deep.RegionWith
set_option linter.all false
namespace Go.Proofs.YtehpbcpnmnhdbaaGreatDoor
open Go Go.RowKit

theorem heap_last (w : World) (o : Obj) (n : Nat) (h : n = w.heap.size) : (w.alloc o).heap[n]? = some o := by
  subst h
  show (w.heap.push _)[w.heap.size]? = _
  exact Array.getElem?_push_size

theorem grown_at (v : ByteArray) (m j : Nat) (hj : j < max m v.size) : (byteCells v ++ List.replicate (max m v.size - v.size) (Value.int .u8 0)).toArray[j]? = some (.int .u8 (byteAt v j)) := by
  have hl : (byteCells v).length = v.size := by simp [byteCells]
  rw [List.getElem?_toArray]
  unfold byteAt
  by_cases h : j < v.size
  · rw [dif_pos h, List.getElem?_append_left (by omega)]
    simp [byteCells, h]
    rfl
  · rw [dif_neg h, List.getElem?_append_right (by omega), hl, List.getElem?_replicate, if_pos (by omega)]
    rfl

theorem bytes_run {P : Program} (w : World) (f : Value → ByteArray → Sem (ForInStep ByteArray)) (hf : ∀ n s, f (.int .u8 n) s = pure (ForInStep.yield (s.push (UInt8.ofNat n.toNat)))) :
    ∀ (l : List UInt8) (acc : ByteArray), (forIn (l.map fun b => Value.int .u8 b.toNat) acc f).run P w = .ok ⟨⟨acc.data.toList ++ l⟩⟩ w
  | [], acc => by simp
  | b :: l, acc => by
    simp only [List.map_cons, List.forIn_cons, Sem.run_bind, hf, Sem.run_pure, Result.andThen_ok]
    rw [bytes_run w f hf l]
    congr 2
    simp

theorem conv_bytes (w : World) (g N : Nat) (l : List UInt8) (hl : l.length = N) (hc : ∀ j x, l[j]? = some x → w.cell? ⟨g, j, none⟩ = some (.int .u8 x.toNat)) :
    (Go.convert 177 9 (.slice (some ⟨g, 0, none⟩) N N)).run Tryz.prog w = .ok (.string ⟨l.toArray⟩) w := by
  have ok : (Go.Ev.Cx.of Tryz.prog).Ok := Go.Ev.Cx.of_ok Tryz.prog (by kernel_rfl)
  have h1 : (underlying 177).run Tryz.prog w = .ok (.slice 5) w := Go.Ev.run_under (X := Go.Ev.Cx.of Tryz.prog) ok (by kernel_rfl) w
  have h2 : (underlying 9).run Tryz.prog w = .ok .string w := Go.Ev.run_under (X := Go.Ev.Cx.of Tryz.prog) ok (by kernel_rfl) w
  have h3 : (underlying 5).run Tryz.prog w = .ok (.int .u8) w := Go.Ev.run_under (X := Go.Ev.Cx.of Tryz.prog) ok (by kernel_rfl) w
  have hb : (loadCells ⟨g, 0, none⟩ N).run Tryz.prog w = .ok (l.map fun b => Value.int .u8 b.toNat).toArray w := by
    have := run_loadCells_list (P := Tryz.prog) (w := w) ⟨g, 0, none⟩ (l.map fun b => Value.int .u8 b.toNat) (fun j v hv => by
      rw [List.getElem?_map, Option.map_eq_some_iff] at hv
      obtain ⟨x, hx, rfl⟩ := hv
      simpa [Addr.add_lit] using hc j x hx)
    rw [List.length_map, hl] at this
    exact this
  unfold Go.convert
  simp only [Sem.run_bind, h1, h2, h3, Result.andThen_ok]
  unfold Conv.bytesToString
  simp only [Sem.run_bind, hb, Result.andThen_ok]
  rw [← Array.forIn_toList]
  rw [bytes_run (P := Tryz.prog) w _ (fun n s => rfl) l ByteArray.empty]
  simp only [Result.andThen_ok, Sem.run_pure]
  rfl

def wordB (one : Bool) : ByteArray := bif one then ⟨#[49]⟩ else ⟨#[48]⟩

def zs6 : Array Value := #[.int .u8 0, .string ⟨#[]⟩, .int .i64 0, .slice none 0 0, .slice none 0 0, .slice none 0 0]
theorem cells50 (w : World) (b : Nat) (h : w.heap[b]? = some (.cells #[.int .u8 0, .string ⟨#[]⟩, .int .i64 0, .slice none 0 0, .slice none 0 0, .slice none 0 0] 50)) :
    (w.cell? ⟨b, 0, none⟩ = some (.int .u8 0) ∧ w.cell? ⟨b, 1, none⟩ = some (.string ⟨#[]⟩) ∧ w.cell? ⟨b, 2, none⟩ = some (.int .i64 0) ∧ w.cell? ⟨b, 3, none⟩ = some (.slice none 0 0) ∧ w.cell? ⟨b, 4, none⟩ = some (.slice none 0 0) ∧ w.cell? ⟨b, 5, none⟩ = some (.slice none 0 0)) ∧
    (w.frozen? ⟨b, 0, none⟩ = false ∧ w.frozen? ⟨b, 1, none⟩ = false ∧ w.frozen? ⟨b, 2, none⟩ = false ∧ w.frozen? ⟨b, 3, none⟩ = false ∧ w.frozen? ⟨b, 4, none⟩ = false ∧ w.frozen? ⟨b, 5, none⟩ = false) := by
  refine ⟨⟨?_, ?_, ?_, ?_, ?_, ?_⟩, ?_, ?_, ?_, ?_, ?_, ?_⟩ <;> simp [World.cell?, World.frozen?, h]

theorem size50 : (Tryz.prog.info? 50).map (·.size) = some 6 := by kernel_rfl
theorem size47 : (Tryz.prog.info? 47).map (·.size) = some 4 := by kernel_rfl
theorem set6_heap (w : World) (b : Nat) (o1 o2 o3 o4 o5 o6 x1 x2 x3 x4 x5 x6 : Value) (ty : TypeId) (hb : w.heap[b]? = some (.cells #[o1, o2, o3, o4, o5, o6] ty)) :
    ((((((w.setCell ⟨b, 0, none⟩ x1).setCell ⟨b, 1, none⟩ x2).setCell ⟨b, 2, none⟩ x3).setCell ⟨b, 3, none⟩ x4).setCell ⟨b, 4, none⟩ x5).setCell ⟨b, 5, none⟩ x6).heap[b]? = some (.cells #[x1, x2, x3, x4, x5, x6] ty) := by
  simp [World.setCell, Array.getElem?_modify, hb]

/-- A world but for one block. -/
def But (M : Nat) (w w' : World) : Prop := w'.os = w.os ∧ (w'.output = w.output ∧ w'.tape = w.tape) ∧ w'.heap.size = w.heap.size ∧ ∀ b, b ≠ M → w'.heap[b]? = w.heap[b]?
theorem But.refl (M : Nat) (w : World) : But M w w := ⟨rfl, ⟨rfl, rfl⟩, rfl, fun _ _ => rfl⟩
theorem But.set {M : Nat} {w w' : World} (h : But M w w') (j : Nat) (x : Value) : But M w (w'.setCell ⟨M, j, none⟩ x) := by
  obtain ⟨a, b, c, d⟩ := h
  refine ⟨?_, ?_, ?_, ?_⟩
  · exact a
  · exact b
  · rw [← c]; simp
  · intro k hk
    rw [← d k hk]
    exact Below.heap_setCell _ _ _ _ hk

set_option maxHeartbeats 1600000 in
theorem number_row (k : Int) (w : World) : Calls Tryz.prog 48 #[.int .i64 k] w fun e w' => e = .returned (.agg #[.int .u8 3, .string ⟨#[]⟩, .int .i64 k, .slice none 0 0]) ∧ Below w.heap.size w w' := by
  go_enter Tryz.func48, Tryz.ntmps48
  go_wp2
  refine bodyPost_ret (results_cell_row (P := Tryz.prog) rfl _ _ w.heap.size 47 #[.int .u8 3, .string ⟨#[]⟩, .int .i64 k, .slice none 0 0] (0, 0) _ rfl (heap_last _ _ _ rfl) Tryz.underlying47 rfl size47) rfl ?_
  exact ⟨rfl, (Below.refl _ _).alloc (Nat.le_refl _) _⟩

set_option maxHeartbeats 3200000 in
set_option maxRecDepth 100000 in
theorem setbit_row (R : World → World → Prop) (S : Array Value → World → Prop) (W : World) (kb cb : Nat) (v p : ByteArray) (n : Nat) (one : Bool) (hn : n < 65536) (hv : v.size ≤ 2000) (hkb : kb < W.heap.size) (hcb : cb < W.heap.size)
    (k4 : W.cell? ⟨kb, 4, none⟩ = some (.slice (some ⟨cb, 0, none⟩) 4 4)) (c2 : W.cell? ⟨cb, 2, none⟩ = some (.string p)) (c3 : W.cell? ⟨cb, 3, none⟩ = some (.string (wordB one)))
    (hbit : ∀ w, Below W.heap.size W w → Calls Tryz.prog 98 #[.string p] w fun e w' => e = .returned (.tuple #[.int .i64 n, .bool true]) ∧ Below w.heap.size w w')
    (hstore : ∀ w, Below W.heap.size W w → Calls Tryz.prog 93 #[.agg #[.pointer (some ⟨kb, 0, none⟩), .string v, .bool true], .string (setB v n one)] w fun e w' => e = .returned (.tuple #[]) ∧ R w w')
    (hR : ∀ w w', R w w' → w.heap.size ≤ w'.heap.size ∧ ∀ b, W.heap.size ≤ b → b < w.heap.size → w'.heap[b]? = w.heap[b]?)
    (hR2 : ∀ w w' w'', R w w' → Below w'.heap.size w' w'' → R w w'')
    (hdid : ∀ w0 w, Below W.heap.size W w0 → W.heap.size + 2 ≤ w0.heap.size → R w0 w → Calls Tryz.prog 94 #[.pointer (some ⟨kb, 0, none⟩), .agg #[.int .u8 3, .string ⟨#[]⟩, .int .i64 (hasB v n), .slice none 0 0]] w fun e w' => ∃ k1 n1 s2 n3 p4 l4 c4 p5 l5 c5 p6 l6 c6, e = .returned (.agg #[.int k1 n1, .string s2, .int .i64 n3, .slice p4 l4 c4, .slice p5 l5 c5, .slice p6 l6 c6]) ∧ S #[.int k1 n1, .string s2, .int .i64 n3, .slice p4 l4 c4, .slice p5 l5 c5, .slice p6 l6 c6] w' ∧
      ∀ b, W.heap.size ≤ b → b < w0.heap.size → w'.heap[b]? = w.heap[b]?) :
    Calls Tryz.prog 52 #[.agg #[.pointer (some ⟨kb, 0, none⟩), .string v, .bool true]] W fun e w'' => ∃ l w', e = .returned (.agg l) ∧ S l w' ∧ But (W.heap.size + 1) w' w'' := by
  have hA : Below W.heap.size W (W.alloc (.cells #[.pointer (some ⟨kb, 0, none⟩), .string v, .bool true] 82)) := (Below.refl _ _).alloc (Nat.le_refl _) _
  have k4' := (hA.cell (by exact hkb)).trans k4
  have c2' := (hA.cell (by exact hcb)).trans c2
  have c3' := (hA.cell (by exact hcb)).trans c3
  cases one
  all_goals
    simp only [wordB, cond_true, cond_false] at c3'
    go_enter Tryz.func52, Tryz.ntmps52
    go_wp2_with fail
    go_at_call 98
    refine (hbit _ (hA.alloc (by simp) _)).mono ?_
    rintro e w1 ⟨rfl, hb⟩
    have hA1 : Below W.heap.size W w1 := (hA.alloc (by simp) _).trans (hb.mono (by simp; omega))
    have hbox : w1.heap[W.heap.size]? = some (.cells #[.pointer (some ⟨kb, 0, none⟩), .string v, .bool true] 82) := by
      refine (hb.block _ (by simp; omega)).trans ?_
      rw [Below.heap_alloc _ _ _ (by simp)]
      show (W.heap.push _)[W.heap.size]? = _
      exact Array.getElem?_push_size
    have hres : w1.heap[W.heap.size + 1]? = some (.cells #[.int .u8 0, .string ⟨#[]⟩, .int .i64 0, .slice none 0 0, .slice none 0 0, .slice none 0 0] 50) := by
      refine (hb.block _ (by simp)).trans ?_
      exact (heap_last _ _ _ (by simp))
    have hsz1 : W.heap.size + 2 ≤ w1.heap.size := by have := hb.size; simp at this; omega
    clear hb
    have x0 : w1.cell? ⟨W.heap.size, 0, none⟩ = some (.pointer (some ⟨kb, 0, none⟩)) := by simp [World.cell?, hbox]
    have x1 : w1.cell? ⟨W.heap.size, 1, none⟩ = some (.string v) := by simp [World.cell?, hbox]
    have x2 : w1.cell? ⟨W.heap.size, 2, none⟩ = some (.bool true) := by simp [World.cell?, hbox]
    have k4' := (hA1.cell (by exact hkb)).trans k4
    have c2' := (hA1.cell (by exact hcb)).trans c2
    have c3' := (hA1.cell (by exact hcb)).trans c3
    simp only [wordB, cond_true, cond_false] at c3'
    go_wp2_with fail
    go_at_call 99
    refine (has_row v n _ hn (by omega)).mono ?_
    rintro e w2 ⟨rfl, rfl⟩
    go_wp2_with fail
    go_at_call 97
    refine (grown_int _ v true _ (n / 8 + 1) _ (by push_cast; rfl) (by omega) (by omega)).mono ?_
    rintro e w3 ⟨rfl, hblk, hb⟩
    have hA3 : Below W.heap.size W w3 := hA1.trans (hb.mono hA1.size)
    have hres3 := (hb.block _ (by omega)).trans hres
    have hbox3 := (hb.block _ (by omega)).trans hbox
    have hsz3 : w2.heap.size ≤ w3.heap.size := hb.size
    have c3' := (hA3.cell (by exact hcb)).trans c3
    have k4' := (hA3.cell (by exact hkb)).trans k4
    simp only [wordB, cond_true, cond_false] at c3'
    have x0 : w3.cell? ⟨W.heap.size, 0, none⟩ = some (.pointer (some ⟨kb, 0, none⟩)) := by simp [World.cell?, hbox3]
    have x1 : w3.cell? ⟨W.heap.size, 1, none⟩ = some (.string v) := by simp [World.cell?, hbox3]
    have x2 : w3.cell? ⟨W.heap.size, 2, none⟩ = some (.bool true) := by simp [World.cell?, hbox3]
    have hcell : w3.cell? ⟨w2.heap.size + 1, n / 8, none⟩ = some (.int .u8 (byteAt v (n / 8))) := by simp only [World.cell?, hblk]; exact grown_at v (n / 8 + 1) (n / 8) (by omega)
    have hfro : w3.frozen? ⟨w2.heap.size + 1, n / 8, none⟩ = false := by simp [World.frozen?, hblk]
    have hx1 : bits .andNot .u8 ((byteAt v (n / 8) : Nat) : Int) ((2 : Int) ^ (7 - n % 8) % 256) = ((setBit (byteAt v (n / 8)) (7 - n % 8) false : Nat) : Int) := x1_eq ⟨byteAt v (n / 8), byteAt_lt _ _⟩ ⟨7 - n % 8, by omega⟩
    have hx2 : bits .or .u8 ((setBit (byteAt v (n / 8)) (7 - n % 8) false : Nat) : Int) ((2 : Int) ^ (7 - n % 8) % 256) = ((setBit (byteAt v (n / 8)) (7 - n % 8) true : Nat) : Int) := x2_eq ⟨byteAt v (n / 8), byteAt_lt _ _⟩ ⟨7 - n % 8, by omega⟩
    have hconv : ∀ one (w4 : World), w4.cell? ⟨w2.heap.size + 1, n / 8, none⟩ = some (.int .u8 (setBit (byteAt v (n / 8)) (7 - n % 8) one : Nat)) → (∀ j, j ≠ n / 8 → w4.cell? ⟨w2.heap.size + 1, j, none⟩ = w3.cell? ⟨w2.heap.size + 1, j, none⟩) →
        (Go.convert 177 9 (.slice (some ⟨w2.heap.size + 1, 0, none⟩) (max (n / 8 + 1) v.size) (max (n / 8 + 1) v.size))).run Tryz.prog w4 = .ok (.string (setB v n one)) w4 := fun one w4 h4 h4' => by
      refine conv_bytes _ _ _ _ (by simp) fun j x hx => ?_
      have hj : j < max (n / 8 + 1) v.size := by
        have := (List.getElem?_eq_some_iff.1 hx).1
        simpa using this
      have hx' : x = UInt8.ofNat (newByte v n one j) := by
        rw [List.getElem?_map, List.getElem?_range hj] at hx
        exact (Option.some.inj hx).symm
      have hxn : x.toNat = newByte v n one j := by
        rw [hx', UInt8.toNat_ofNat']
        exact Nat.mod_eq_of_lt (newByte_lt v n one j)
      rw [hxn]
      have hcj : w3.cell? ⟨w2.heap.size + 1, j, none⟩ = some (.int .u8 (byteAt v j)) := by simp only [World.cell?, hblk]; exact grown_at v (n / 8 + 1) j (by omega)
      unfold newByte
      by_cases hjn : j = n / 8
      · rw [if_pos hjn, hjn]
        exact h4
      · rw [if_neg hjn, h4' j hjn]
        exact hcj
    have s1 := World.cell?_setCell_same w3 ⟨w2.heap.size + 1, n / 8, none⟩ (.int .u8 (setBit (byteAt v (n / 8)) (7 - n % 8) false : Nat)) hcell
    have o1 : ∀ j, j ≠ n / 8 → (w3.setCell ⟨w2.heap.size + 1, n / 8, none⟩ (.int .u8 (setBit (byteAt v (n / 8)) (7 - n % 8) false : Nat))).cell? ⟨w2.heap.size + 1, j, none⟩ = w3.cell? ⟨w2.heap.size + 1, j, none⟩ := fun j hj => World.cell?_setCell_other _ _ _ _ (by simp <;> omega)
    have hc1 := hconv false _ s1 o1
    have hc2 := hconv true _ (World.cell?_setCell_same _ ⟨w2.heap.size + 1, n / 8, none⟩ (.int .u8 (setBit (byteAt v (n / 8)) (7 - n % 8) true : Nat)) s1) (fun j hj => (World.cell?_setCell_other _ _ _ _ (by simp <;> omega)).trans (o1 j hj))
    clear hconv s1 o1
    go_wp2_with fail
    (try go_at_call 93)
    generalize hw4 : World.setCell _ ⟨w2.heap.size + 1, n / 8, none⟩ _ = w4
    have hB : Below W.heap.size W w4 ∧ w4.heap[W.heap.size + 1]? = some (.cells #[.int .u8 0, .string ⟨#[]⟩, .int .i64 0, .slice none 0 0, .slice none 0 0, .slice none 0 0] 50) ∧ w4.heap[W.heap.size]? = some (.cells #[.pointer (some ⟨kb, 0, none⟩), .string v, .bool true] 82) ∧ w4.heap.size = w3.heap.size := by
      subst hw4
      refine ⟨?_, ?_, ?_, by simp⟩
      · first
        | exact (hA3.setCell (by simp; omega) _).setCell (by simp; omega) _
        | exact hA3.setCell (by simp; omega) _
      · first
        | exact (Below.heap_setCell _ _ _ _ (by simp; omega)).trans ((Below.heap_setCell _ _ _ _ (by simp; omega)).trans hres3)
        | exact (Below.heap_setCell _ _ _ _ (by simp; omega)).trans hres3
      · first
        | exact (Below.heap_setCell _ _ _ _ (by simp; omega)).trans ((Below.heap_setCell _ _ _ _ (by simp; omega)).trans hbox3)
        | exact (Below.heap_setCell _ _ _ _ (by simp; omega)).trans hbox3
    clear hw4 hc1 hc2
    obtain ⟨hB, hres4, hbox4, hsz4⟩ := hB
    refine (hstore _ hB).mono ?_
    rintro e w5 ⟨rfl, hr⟩
    obtain ⟨hsz5, hk5⟩ := hR _ _ hr
    have hres5 := (hk5 (W.heap.size + 1) (by omega) (by omega)).trans hres4
    have hbox5 := (hk5 W.heap.size (by omega) (by omega)).trans hbox4
    have x0 : w5.cell? ⟨W.heap.size, 0, none⟩ = some (.pointer (some ⟨kb, 0, none⟩)) := by simp [World.cell?, hbox5]
    go_wp2_with fail
    go_region_with (first
      | (go_at_call 48; refine (number_row _ _).mono ?_; rintro e wn ⟨rfl, hbn⟩; have hbn' : Below w5.heap.size w5 wn := ⟨hbn.os, hbn.tape, hbn.output, hbn.size, hbn.block⟩; have xn := (hbn'.cell (p := ⟨W.heap.size, 0, none⟩) (show W.heap.size < _ by omega)).trans x0; have hresn := (hbn'.block (W.heap.size + 1) (by omega)).trans hres5; have hszn := hbn'.size)
      | (go_at_call 94; refine (hdid _ wn hB (by omega) (hR2 _ _ _ hr hbn')).mono ?_; rintro e w6 ⟨k1, n1, s2, n3, p4, l4, c4, p5, l5, c5, p6, l6, c6, rfl, hS, hk6⟩; have hres6 := (hk6 (W.heap.size + 1) (by omega) (by omega)).trans hresn; obtain ⟨⟨z0, z1, z2, z3, z4, z5⟩, y0, y1, y2, y3, y4, y5⟩ := cells50 w6 _ hres6))
    all_goals
      have hW := set6_heap w6 (W.heap.size + 1) _ _ _ _ _ _ (.int k1 n1) (.string s2) (.int .i64 n3) (.slice p4 l4 c4) (.slice p5 l5 c5) (.slice p6 l6 c6) 50 hres6
      go_wp2
      (try simp only [Exit.inBlock, Exit.then])
      refine bodyPost_ret (results_cell_row (P := Tryz.prog) rfl _ _ (W.heap.size + 1) 50 #[.int k1 n1, .string s2, .int .i64 n3, .slice p4 l4 c4, .slice p5 l5 c5, .slice p6 l6 c6] (0, 0) _ rfl hW Tryz.underlying50 rfl size50) rfl ?_
      exact ⟨_, w6, rfl, hS, ((((((But.refl _ _).set _ _).set _ _).set _ _).set _ _).set _ _).set _ _⟩

end Go.Proofs.YtehpbcpnmnhdbaaGreatDoor
