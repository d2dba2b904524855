/-
  reply.Call.Store of a list under the one key.
-/
import Derived.Test.YtgmljeeeomjooaaGreatDoorQq
import Derived.Test.YtgmljeeeomjooaaGreatDoorQe
import Derived.Deep.RegionHeld3
set_option linter.all false
namespace Go.Q
open Go Go.RowKit

/-- What a store reads: the call's first two cells, the value's cells. -/
def StIn (b c : Nat) (ps db : Value) (L : List Value) (w' : World) : Prop := w'.cell? ⟨c, 0, none⟩ = some ps ∧ w'.cell? ⟨c, 1, none⟩ = some db ∧ (∀ i v, L[i]? = some v → w'.cell? ⟨b, i, none⟩ = some v) ∧ c < w'.heap.size ∧ b < w'.heap.size
theorem StIn.below {b c : Nat} {ps db : Value} {L : List Value} {w w' : World} (hb : Below w.heap.size w w') (h : StIn b c ps db L w) : StIn b c ps db L w' :=
  ⟨(hb.cell (p := ⟨c, 0, none⟩) h.2.2.2.1).trans h.1, (hb.cell (p := ⟨c, 1, none⟩) h.2.2.2.1).trans h.2.1, fun i v hi => (hb.cell (p := ⟨b, i, none⟩) h.2.2.2.2).trans (h.2.2.1 i v hi), Nat.lt_of_lt_of_le h.2.2.2.1 hb.size, Nat.lt_of_lt_of_le h.2.2.2.2 hb.size⟩
theorem StIn.only {S : Nat → Prop} {b c : Nat} {ps db : Value} {L : List Value} {w w' : World} (hc : ¬ S c) (hn : ¬ S b) (ho : Only S w w') (h : StIn b c ps db L w) : StIn b c ps db L w' :=
  ⟨(ho.cell (p := ⟨c, 0, none⟩) h.2.2.2.1 hc).trans h.1, (ho.cell (p := ⟨c, 1, none⟩) h.2.2.2.1 hc).trans h.2.1, fun i v hi => (ho.cell (p := ⟨b, i, none⟩) h.2.2.2.2 hn).trans (h.2.2.1 i v hi), Nat.lt_of_lt_of_le h.2.2.2.1 ho.size, Nat.lt_of_lt_of_le h.2.2.2.2 ho.size⟩
theorem StIn.cells {b c n cp : Nat} {ps db : Value} {sp : Option Addr} {w' : World} (h : StIn b c ps db [.int .u8 2, .string ⟨#[]⟩, .slice sp n cp, .slice none 0 0, .slice none 0 0, .slice none 0 0, .slice none 0 0, .int .u64 0, .int .u64 0] w') :
    w'.cell? ⟨c, 0, none⟩ = some ps ∧ w'.cell? ⟨c, 1, none⟩ = some db ∧ w'.cell? ⟨b, 0, none⟩ = some (.int .u8 2) ∧ w'.cell? ⟨b, 1, none⟩ = some (.string ⟨#[]⟩) ∧ w'.cell? ⟨b, 2, none⟩ = some (.slice sp n cp) ∧ w'.cell? ⟨b, 3, none⟩ = some (.slice none 0 0) ∧ w'.cell? ⟨b, 4, none⟩ = some (.slice none 0 0) ∧ w'.cell? ⟨b, 5, none⟩ = some (.slice none 0 0) ∧ w'.cell? ⟨b, 6, none⟩ = some (.slice none 0 0) ∧ w'.cell? ⟨b, 7, none⟩ = some (.int .u64 0) ∧ w'.cell? ⟨b, 8, none⟩ = some (.int .u64 0) :=
  ⟨h.1, h.2.1, h.2.2.1 0 _ rfl, h.2.2.1 1 _ rfl, h.2.2.1 2 _ rfl, h.2.2.1 3 _ rfl, h.2.2.1 4 _ rfl, h.2.2.1 5 _ rfl, h.2.2.1 6 _ rfl, h.2.2.1 7 _ rfl, h.2.2.1 8 _ rfl⟩

end Go.Q
namespace Go.Proofs.YtgmljeeeomjooaaGreatDoor
open Go Go.RowKit Go.Q Go.Sort

set_option maxHeartbeats 3200000 in
set_option maxRecDepth 100000 in
/-- Nothing is left: the key goes. -/
theorem store_gone (c : Nat) (C nm : Value) (p : Pl) (m k l : Nat) (sp : Option Addr) (cp : Nat) (w : World) (h : SpaceAt w p 1 (some m)) (hk : KeptAt w p.t m k l) (hc : Row w c 71 [.pointer (some ⟨p.s, 0, none⟩), .int .i64 0, .int .i64 0, .int .u32 0, C, nm]) :
    Calls Tryz.prog 165 #[.pointer (some ⟨c, 0, none⟩), .string ⟨#[108]⟩, listVal (.slice sp 0 cp)] w fun e w' => e = .returned (.tuple #[]) ∧ SpaceAt w' p 0 (some m) ∧ Only (fun x => x = m ∨ x = p.d) w w' := by
  unfold listVal
  have hb1 : Below w.heap.size w (w.alloc (.cells #[.int .u8 2, .string ⟨#[]⟩, .slice sp 0 cp, .slice none 0 0, .slice none 0 0, .slice none 0 0, .slice none 0 0, .int .u64 0, .int .u64 0] 57)) := (Below.refl _ w).alloc (Nat.le_refl _) _
  have hdel := spaceDelete p m k l (w.alloc (.cells #[.int .u8 2, .string ⟨#[]⟩, .slice sp 0 cp, .slice none 0 0, .slice none 0 0, .slice none 0 0, .slice none 0 0, .int .u64 0, .int .u64 0] 57)).drew (h.below hb1.drew (Nat.le_refl _)) (hk.below hb1.drew (Nat.le_refl _))
  have a0 := hc.cell (i := 0) rfl
  have a1 := hc.cell (i := 1) rfl
  have hcl := hc.lt
  clear h hk hc
  go_enter Tryz.func165, Tryz.ntmps165
  go_wp2_with fail
  go_region_with (first
    | (go_at_call 211; refine hdel.mono ?_; rintro e w2 ⟨rfl, hsp, ho⟩))
  all_goals
    go_wp2_with fail
    try simp only [Exit.inBlock, Exit.then]
    refine bodyPost_ret (results_none rfl _ _ _) rfl ?_
    exact ⟨rfl, hsp, (Only.of_below hb1.drew).trans ho⟩

set_option maxHeartbeats 3200000 in
set_option maxRecDepth 100000 in
theorem store_first (c : Nat) (C nm : Value) (p : Pl) (u : Value) (xs : List ByteArray) (hpos : 0 < xs.length) (hm : xs.length ≤ 1000) (hitems : ∀ s ∈ xs, s.size ≤ 65536) (w : World) (h : SpaceAt w p 0 none) (hu : Slice w u xs) (hav : ∀ sp n c, u = .slice (some sp) n c → sp.block ≠ p.t ∧ sp.block ≠ p.d) (hG : Glob w) (hc : Row w c 71 [.pointer (some ⟨p.s, 0, none⟩), .int .i64 0, .int .i64 0, .int .u32 0, C, nm]) :
    Calls Tryz.prog 165 #[.pointer (some ⟨c, 0, none⟩), .string ⟨#[108]⟩, listVal u] w fun e w' => e = .returned (.tuple #[]) ∧ ∃ m k l, SpaceAt w' p 1 (some m) ∧ KeptAt w' p.t m k l ∧ ListAt Filled w' 10 l xs ∧ Only (fun x => x = p.t ∨ x = p.d) w w' := by
  obtain ⟨sp, cp, rfl⟩ := hu.len
  have hput := fun w' (hw : Below w.heap.size w w') => put_first p _ xs hpos hm hitems w' (h.below hw (Nat.le_refl _)) (hu.below hw (Nat.le_refl _)) hav (hG.below hw hG.size)
  unfold listVal at *
  have hb1 : Below w.heap.size w (w.alloc (.cells #[.int .u8 2, .string ⟨#[]⟩, .slice sp xs.length cp, .slice none 0 0, .slice none 0 0, .slice none 0 0, .slice none 0 0, .int .u64 0, .int .u64 0] 57)) := (Below.refl _ w).alloc (Nat.le_refl _) _
  have hth := there_none c C nm p 0 (w.alloc (.cells #[.int .u8 2, .string ⟨#[]⟩, .slice sp xs.length cp, .slice none 0 0, .slice none 0 0, .slice none 0 0, .slice none 0 0, .int .u64 0, .int .u64 0] 57)).drew (h.below hb1.drew (Nat.le_refl _)) (row_below hc hb1.drew (Nat.le_refl _))
  have a0 := hc.cell (i := 0) rfl
  have a1 := hc.cell (i := 1) rfl
  have hcl := hc.lt
  have HP := Lib.hid hput
  have hpos' : (xs.length : Int) ≠ 0 := by omega
  have hnc : ¬ (c = p.t ∨ c = p.d) := fun e => by
    have h1 := hc
    rcases e with e | e
    · rw [e] at h1; exact absurd (h1.eq h.dict.tab).2 (by decide)
    · rw [e] at h1; exact absurd (h1.eq h.dict.cell).2 (by decide)
  have hnb : ¬ (w.heap.size = p.t ∨ w.heap.size = p.d) := fun e => by
    have h1 := h.dict.tab.lt
    have h2 := h.dict.cell.lt
    rcases e with e | e <;> omega
  have hrow := Lib.hid (Row.new w 57 [.int .u8 2, .string ⟨#[]⟩, .slice sp xs.length cp, .slice none 0 0, .slice none 0 0, .slice none 0 0, .slice none 0 0, .int .u64 0, .int .u64 0])
  clear h hc hu hG hput
  go_enter Tryz.func165, Tryz.ntmps165
  go_wp2_with fail
  have hS0 : StIn w.heap.size c (.pointer (some ⟨p.s, 0, none⟩)) (.int .i64 0) [.int .u8 2, .string ⟨#[]⟩, .slice sp xs.length cp, .slice none 0 0, .slice none 0 0, .slice none 0 0, .slice none 0 0, .int .u64 0, .int .u64 0] (w.alloc (.cells #[.int .u8 2, .string ⟨#[]⟩, .slice sp xs.length cp, .slice none 0 0, .slice none 0 0, .slice none 0 0, .slice none 0 0, .int .u64 0, .int .u64 0] 57)).drew := ⟨(hb1.drew.cell (p := ⟨c, 0, none⟩) hcl).trans a0, (hb1.drew.cell (p := ⟨c, 1, none⟩) hcl).trans a1, fun i v hi => (show Row (w.alloc (.cells #[.int .u8 2, .string ⟨#[]⟩, .slice sp xs.length cp, .slice none 0 0, .slice none 0 0, .slice none 0 0, .slice none 0 0, .int .u64 0, .int .u64 0] 57)).drew w.heap.size 57 [.int .u8 2, .string ⟨#[]⟩, .slice sp xs.length cp, .slice none 0 0, .slice none 0 0, .slice none 0 0, .slice none 0 0, .int .u64 0, .int .u64 0] from hrow.out).cell hi, Nat.lt_of_lt_of_le hcl hb1.drew.size, hrow.out.lt⟩
  generalize hW : w.alloc (.cells #[.int .u8 2, .string ⟨#[]⟩, .slice sp xs.length cp, .slice none 0 0, .slice none 0 0, .slice none 0 0, .slice none 0 0, .int .u64 0, .int .u64 0] 57) = W at *
  clear hW
  go_region_held3 (fun w' => StIn w.heap.size c (.pointer (some ⟨p.s, 0, none⟩)) (.int .i64 0) [.int .u8 2, .string ⟨#[]⟩, .slice sp xs.length cp, .slice none 0 0, .slice none 0 0, .slice none 0 0, .slice none 0 0, .int .u64 0, .int .u64 0] w' ∧ w'.cell? ⟨c, 0, none⟩ = some (.pointer (some ⟨p.s, 0, none⟩)) ∧ w'.cell? ⟨c, 1, none⟩ = some (.int .i64 0) ∧ w'.cell? ⟨w.heap.size, 0, none⟩ = some (.int .u8 2) ∧ w'.cell? ⟨w.heap.size, 1, none⟩ = some (.string ⟨#[]⟩) ∧ w'.cell? ⟨w.heap.size, 2, none⟩ = some (.slice sp xs.length cp) ∧ w'.cell? ⟨w.heap.size, 3, none⟩ = some (.slice none 0 0) ∧ w'.cell? ⟨w.heap.size, 4, none⟩ = some (.slice none 0 0) ∧ w'.cell? ⟨w.heap.size, 5, none⟩ = some (.slice none 0 0) ∧ w'.cell? ⟨w.heap.size, 6, none⟩ = some (.slice none 0 0) ∧ w'.cell? ⟨w.heap.size, 7, none⟩ = some (.int .u64 0) ∧ w'.cell? ⟨w.heap.size, 8, none⟩ = some (.int .u64 0)) ((refine and_of ?_ (fun hh => StIn.cells hh); first | (with_reducible exact hS0) | (with_reducible exact StIn.below (by assumption) (And.left (by assumption))) | (with_reducible exact StIn.only hnc hnb (by assumption) (And.left (by assumption))))) (first
    | (go_at_call_of 212 (Value.pointer (some ⟨c, 0, none⟩)); refine hth.mono ?_; rintro e w2 ⟨rfl, hb2⟩; have hp2 := HP.out w2 (b_call hb2 hb1.drew))
    | (go_at_call_of 10 (Value.pointer (some ⟨p.s, 0, none⟩)); refine hp2.mono ?_; rintro e w3 ⟨rfl, m, k, l, hS1, hK1, hL1, ho⟩))
  all_goals
    go_wp2_with fail
    try go_end0
    exact ⟨rfl, m, k, l, hS1, hK1, hL1, (Only.of_below (b_call hb2 hb1.drew)).trans ho⟩

set_option maxHeartbeats 3200000 in
set_option maxRecDepth 100000 in
theorem store_again (c : Nat) (C nm : Value) (p : Pl) (m k l0 : Nat) (u : Value) (xs : List ByteArray) (hpos : 0 < xs.length) (hm : xs.length ≤ 1000) (hitems : ∀ s ∈ xs, s.size ≤ 65536) (w : World) (h : SpaceAt w p 1 (some m)) (hk : KeptAt w p.t m k l0) (F : List Knot → Prop) (B : Nat) (ys : List ByteArray) (hym : ys.length ≤ 1000) (hL0 : ListAt F w B l0 ys) (hu : Slice w u xs) (hG : Glob w) (hc : Row w c 71 [.pointer (some ⟨p.s, 0, none⟩), .int .i64 0, .int .i64 0, .int .u32 0, C, nm]) :
    Calls Tryz.prog 165 #[.pointer (some ⟨c, 0, none⟩), .string ⟨#[108]⟩, listVal u] w fun e w' => e = .returned (.tuple #[]) ∧ ∃ l, KeptAt w' p.t m k l ∧ ListAt Filled w' 10 l xs ∧ Only (· = k) w w' := by
  obtain ⟨sp, cp, rfl⟩ := hu.len
  have hput := fun w' (hw : Below w.heap.size w w') => put_again p m k l0 _ xs hpos hm hitems w' (h.below hw (Nat.le_refl _)) (hk.below hw (Nat.le_refl _)) (hu.below hw (Nat.le_refl _)) (hG.below hw hG.size)
  unfold listVal at *
  have hb1 : Below w.heap.size w (w.alloc (.cells #[.int .u8 2, .string ⟨#[]⟩, .slice sp xs.length cp, .slice none 0 0, .slice none 0 0, .slice none 0 0, .slice none 0 0, .int .u64 0, .int .u64 0] 57)) := (Below.refl _ w).alloc (Nat.le_refl _) _
  have hth := there_one c C nm p m k l0 F B ys hym (w.alloc (.cells #[.int .u8 2, .string ⟨#[]⟩, .slice sp xs.length cp, .slice none 0 0, .slice none 0 0, .slice none 0 0, .slice none 0 0, .int .u64 0, .int .u64 0] 57)).drew (h.below hb1.drew (Nat.le_refl _)) (hk.below hb1.drew (Nat.le_refl _)) (hL0.below hb1.drew (Nat.le_refl _)) (hG.below hb1.drew hG.size) (row_below hc hb1.drew (Nat.le_refl _))
  have a0 := hc.cell (i := 0) rfl
  have a1 := hc.cell (i := 1) rfl
  have hcl := hc.lt
  have HP := Lib.hid hput
  have hpos' : (xs.length : Int) ≠ 0 := by omega
  have hnc : ¬ (c = k) := fun e => by have h1 := hc; rw [e] at h1; exact absurd (h1.eq hk.kept).2 (by decide)
  have hnb : ¬ (w.heap.size = k) := fun e => by have h1 := hk.kept.lt; omega
  have hrow := Lib.hid (Row.new w 57 [.int .u8 2, .string ⟨#[]⟩, .slice sp xs.length cp, .slice none 0 0, .slice none 0 0, .slice none 0 0, .slice none 0 0, .int .u64 0, .int .u64 0])
  clear h hk hL0 hc hu hG hput
  go_enter Tryz.func165, Tryz.ntmps165
  go_wp2_with fail
  have hS0 : StIn w.heap.size c (.pointer (some ⟨p.s, 0, none⟩)) (.int .i64 0) [.int .u8 2, .string ⟨#[]⟩, .slice sp xs.length cp, .slice none 0 0, .slice none 0 0, .slice none 0 0, .slice none 0 0, .int .u64 0, .int .u64 0] (w.alloc (.cells #[.int .u8 2, .string ⟨#[]⟩, .slice sp xs.length cp, .slice none 0 0, .slice none 0 0, .slice none 0 0, .slice none 0 0, .int .u64 0, .int .u64 0] 57)).drew := ⟨(hb1.drew.cell (p := ⟨c, 0, none⟩) hcl).trans a0, (hb1.drew.cell (p := ⟨c, 1, none⟩) hcl).trans a1, fun i v hi => (show Row (w.alloc (.cells #[.int .u8 2, .string ⟨#[]⟩, .slice sp xs.length cp, .slice none 0 0, .slice none 0 0, .slice none 0 0, .slice none 0 0, .int .u64 0, .int .u64 0] 57)).drew w.heap.size 57 [.int .u8 2, .string ⟨#[]⟩, .slice sp xs.length cp, .slice none 0 0, .slice none 0 0, .slice none 0 0, .slice none 0 0, .int .u64 0, .int .u64 0] from hrow.out).cell hi, Nat.lt_of_lt_of_le hcl hb1.drew.size, hrow.out.lt⟩
  generalize hW : w.alloc (.cells #[.int .u8 2, .string ⟨#[]⟩, .slice sp xs.length cp, .slice none 0 0, .slice none 0 0, .slice none 0 0, .slice none 0 0, .int .u64 0, .int .u64 0] 57) = W at *
  clear hW
  go_region_held3 (fun w' => StIn w.heap.size c (.pointer (some ⟨p.s, 0, none⟩)) (.int .i64 0) [.int .u8 2, .string ⟨#[]⟩, .slice sp xs.length cp, .slice none 0 0, .slice none 0 0, .slice none 0 0, .slice none 0 0, .int .u64 0, .int .u64 0] w' ∧ w'.cell? ⟨c, 0, none⟩ = some (.pointer (some ⟨p.s, 0, none⟩)) ∧ w'.cell? ⟨c, 1, none⟩ = some (.int .i64 0) ∧ w'.cell? ⟨w.heap.size, 0, none⟩ = some (.int .u8 2) ∧ w'.cell? ⟨w.heap.size, 1, none⟩ = some (.string ⟨#[]⟩) ∧ w'.cell? ⟨w.heap.size, 2, none⟩ = some (.slice sp xs.length cp) ∧ w'.cell? ⟨w.heap.size, 3, none⟩ = some (.slice none 0 0) ∧ w'.cell? ⟨w.heap.size, 4, none⟩ = some (.slice none 0 0) ∧ w'.cell? ⟨w.heap.size, 5, none⟩ = some (.slice none 0 0) ∧ w'.cell? ⟨w.heap.size, 6, none⟩ = some (.slice none 0 0) ∧ w'.cell? ⟨w.heap.size, 7, none⟩ = some (.int .u64 0) ∧ w'.cell? ⟨w.heap.size, 8, none⟩ = some (.int .u64 0)) ((refine and_of ?_ (fun hh => StIn.cells hh); first | (with_reducible exact hS0) | (with_reducible exact StIn.below (by assumption) (And.left (by assumption))) | (with_reducible exact StIn.only hnc hnb (by assumption) (And.left (by assumption))))) (first
    | (go_at_call_of 212 (Value.pointer (some ⟨c, 0, none⟩)); refine hth.mono ?_; rintro e w2 ⟨rfl, hb2⟩; have hp2 := HP.out w2 (b_call hb2 hb1.drew))
    | (go_at_call_of 10 (Value.pointer (some ⟨p.s, 0, none⟩)); refine hp2.mono ?_; rintro e w3 ⟨rfl, l, hK1, hL1, ho⟩))
  all_goals
    go_wp2_with fail
    try go_end0
    exact ⟨rfl, l, hK1, hL1, (Only.of_below (b_call hb2 hb1.drew)).trans ho⟩

end Go.Proofs.YtgmljeeeomjooaaGreatDoor
