/-
  space.of and space.Space.Put of a list under the one key.
-/
import Derived.Test.YtgmljeeeomjooaaGreatDoorQp
import Derived.Test.YtgmljeeeomjooaaGreatDoorQk
set_option linter.all false
/-
  space.of and space.Space.Put of a list under the one key.
-/
namespace Go.Q
open Go Go.RowKit

/-- Writes into blocks of other kinds leave a list as it is. -/
theorem ListAt.avoid {F : List Knot → Prop} {S : Nat → Prop} {w w' : World} {B l : Nat} {xs : List ByteArray} (h : ListAt F w B l xs) (ho : Only S w w')
    (hS : ∀ b t cs, S b → Row w b t cs → t ≠ 274 ∧ t ≠ 304 ∧ t ≠ 5 ∧ t ≠ 390 ∧ t ≠ 395) : ListAt F w' B l xs := by
  have hp : ∀ {p b : Nat} {ys : List ByteArray}, PackAt w p b ys → PackAt w' p b ys := fun hpk => hpk.only ho (fun e => (hS _ _ _ e hpk.cell).2.1 rfl) (fun e => (hS _ _ _ e hpk.bytes).2.2.1 rfl)
  rcases h with ⟨p, b, h⟩ | ⟨q, C, ns, h⟩
  · exact .inl ⟨p, b, h.cell.only ho (fun e => (hS _ _ _ e h.cell).1 rfl), hp h.pack, h.few, h.low⟩
  · refine .inr ⟨q, C, ns, h.cell.only ho (fun e => (hS _ _ _ e h.cell).1 rfl), ⟨h.quick.links.only ho (fun k cs t e hr => ?_), fun nd hn => hp (h.quick.packs nd hn), h.quick.pdist, h.quick.low, h.quick.base⟩, h.shape, h.texts, h.low, h.base.1, Nat.le_trans h.base.2.1 ho.size, h.base.2.2⟩
    have := hS k t cs e hr
    exact ⟨this.2.2.2.1, this.2.2.2.2⟩

end Go.Q
namespace Go.Proofs.YtgmljeeeomjooaaGreatDoor
open Go Go.RowKit Go.Q Go.Sort

theorem nil80 (w : World) (a : Option Addr) (l c : Nat) : (binOp .eql 80 (.slice a l c) (.slice none 0 0)).run Tryz.prog w = .ok (.bool a.isNone) w := Lib.run_eql_slice_nil w 80 79 a l c 0 0 Tryz.underlying80

set_option maxHeartbeats 1600000 in
set_option maxRecDepth 100000 in
theorem of_list (u : Value) (xs : List ByteArray) (w : World) (hu : Slice w u xs) (hlen : xs.length ≤ 1000) (hitems : ∀ s ∈ xs, s.size ≤ 65536) (hG : Glob w) :
    Calls Tryz.prog 24 #[listVal u, .int .u64 5] w fun e w' => ∃ l, e = .returned (.iface 136 (.agg #[.pointer (some ⟨l, 0, none⟩)])) ∧ ListAt Filled w' w.heap.size l xs ∧ Below w.heap.size w w' := by
  unfold listVal
  have hof := fun w' (hw : Below w.heap.size w w') => listOf_any u xs w' (hu.below hw (Nat.le_refl _)) hlen hitems (hG.below hw hG.size)
  obtain ⟨sp, cp, rfl⟩ := hu.len
  have hb1 : Below w.heap.size w (w.alloc (.cells #[.int .u8 2, .string ⟨#[]⟩, .slice sp xs.length cp, .slice none 0 0, .slice none 0 0, .slice none 0 0, .slice none 0 0, .int .u64 0, .int .u64 0] 57)) := (Below.refl _ w).alloc (Nat.le_refl _) _
  have ho := hof _ hb1
  clear hu hG hof
  go_enter Tryz.func24, Tryz.ntmps24
  go_wp2_with fail
  go_at_call 77
  refine ho.mono ?_
  rintro e w1 ⟨l, rfl, hL, hb⟩
  go_wp2_with fail
  go_ret
  exact ⟨l, rfl, hL.base hb1.size, b_call hb hb1⟩

end Go.Proofs.YtgmljeeeomjooaaGreatDoor

/-
  space.Space.Put of a list under the one key that is there.
-/
namespace Go.Proofs.YtgmljeeeomjooaaGreatDoor
open Go Go.RowKit Go.Q Go.Sort

theorem kept_avoid {w : World} {k : Nat} {cs : List Value} (h : Row w k 92 cs) : ∀ b t ds, (fun x => x = k) b → Row w b t ds → t ≠ 274 ∧ t ≠ 304 ∧ t ≠ 5 ∧ t ≠ 390 ∧ t ≠ 395 := by
  intro b t ds e hr
  cases e
  rw [(hr.eq h).2]
  decide

set_option maxHeartbeats 3200000 in
set_option maxRecDepth 100000 in
theorem put_again (p : Pl) (m k l0 : Nat) (u : Value) (xs : List ByteArray) (hpos : 0 < xs.length) (hm : xs.length ≤ 1000) (hitems : ∀ s ∈ xs, s.size ≤ 65536) (w : World) (h : SpaceAt w p 1 (some m)) (hk : KeptAt w p.t m k l0) (hu : Slice w u xs) (hG : Glob w) :
    Calls Tryz.prog 10 #[.pointer (some ⟨p.s, 0, none⟩), .int .i64 0, .string ⟨#[108]⟩, listVal u, .bool true] w fun e w' => e = .returned (.int .i64 0) ∧ ∃ l, KeptAt w' p.t m k l ∧ ListAt Filled w' 10 l xs ∧ Only (· = k) w w' := by
  have hb1 : Below w.heap.size w (w.alloc (.cells (listVal u).cells 57)) := (Below.refl _ w).alloc (Nat.le_refl _) _
  have hhas := spaceHas p 1 (some m) _ (h.below hb1 (Nat.le_refl _))
  have hmay := may_list u xs hpos hm hitems _ (hu.below hb1 (Nat.le_refl _))
  have hget := fun w' (hw : Below w.heap.size w w') => getOne p.d p.t m _ 1 w' (h.below hw (Nat.le_refl _)).dict (hk.one.below hw (Nat.le_refl _))
  have hof := fun w' (hw : Below w.heap.size w w') => of_list u xs w' (hu.below hw (Nat.le_refl _)) hm hitems (hG.below hw hG.size)
  have hc0 := fun w' (hw : Below w.heap.size w w') => (h.below hw (Nat.le_refl _)).cell.cell (i := 0) rfl
  have hc1 := fun w' (hw : Below w.heap.size w w') => (h.below hw (Nat.le_refl _)).cell.cell (i := 1) rfl
  obtain ⟨r, hr⟩ := h.dbs
  have hg0 := fun w' (hw : Below w.heap.size w w') => (row_below hr hw (Nat.le_refl _)).cell (i := 0) rfl
  have hK := Lib.hid hk
  have hsz10 := hG.size
  have q := nil80
  obtain ⟨sp, cp, rfl⟩ := hu.len
  unfold listVal at *
  simp only [Value.cells] at hb1 hhas hmay
  have hc01 := hc0 _ hb1
  have hg01 := hg0 _ hb1
  have HOF := Lib.hid hof
  have HC0 := Lib.hid hc0
  have HC1 := Lib.hid hc1
  have HG0 := Lib.hid hg0
  have HGET := Lib.hid hget
  have hrow := Lib.hid (Row.new w 57 [.int .u8 2, .string ⟨#[]⟩, .slice sp xs.length cp, .slice none 0 0, .slice none 0 0, .slice none 0 0, .slice none 0 0, .int .u64 0, .int .u64 0])
  clear h hk hu hG hr hget hof hc0 hc1 hg0
  go_enter Tryz.func10, Tryz.ntmps10
  go_wp2_with fail
  generalize hW : w.alloc (.cells #[.int .u8 2, .string ⟨#[]⟩, .slice sp xs.length cp, .slice none 0 0, .slice none 0 0, .slice none 0 0, .slice none 0 0, .int .u64 0, .int .u64 0] 57) = W at *
  go_at_call 18
  refine hhas.mono ?_
  rintro e w1 ⟨rfl, rfl⟩
  have b0 := hrow.out.cell (i := 0) rfl
  have b1 := hrow.out.cell (i := 1) rfl
  have b2 := hrow.out.cell (i := 2) rfl
  have b3 := hrow.out.cell (i := 3) rfl
  have b4 := hrow.out.cell (i := 4) rfl
  have b5 := hrow.out.cell (i := 5) rfl
  have b6 := hrow.out.cell (i := 6) rfl
  have b7 := hrow.out.cell (i := 7) rfl
  have b8 := hrow.out.cell (i := 8) rfl
  clear hW
  go_wp2_with fail
  go_at_call 21
  refine hmay.mono ?_
  rintro e w1 ⟨rfl, hb⟩
  have hbw1 : Below w.heap.size w w1 := b_call hb hb1
  have hrow1 := Lib.hid (row_below hrow.out hb (Nat.le_refl _))
  have d0 := HC0.out w1 hbw1
  have e0 := HG0.out w1 hbw1
  have hg1 := HGET.out w1 hbw1
  clear hhas hmay hc01 hg01 b0 b1 b2 b3 b4 b5 b6 b7 b8
  go_wp2_with fail
  go_at_call 22
  refine hg1.mono ?_
  rintro e w2 ⟨rfl, hb2⟩
  have hbw2 : Below w.heap.size w w2 := b_call hb2 hbw1
  have hrow2 := row_below hrow1.out hb2 (Nat.le_refl _)
  have b0 := hrow2.cell (i := 0) rfl
  have b1 := hrow2.cell (i := 1) rfl
  have b2 := hrow2.cell (i := 2) rfl
  have b3 := hrow2.cell (i := 3) rfl
  have b4 := hrow2.cell (i := 4) rfl
  have b5 := hrow2.cell (i := 5) rfl
  have b6 := hrow2.cell (i := 6) rfl
  have b7 := hrow2.cell (i := 7) rfl
  have b8 := hrow2.cell (i := 8) rfl
  have d1 := HC1.out w2 hbw2
  have hof2 := HOF.out w2.drew hbw2.drew
  have hK2 := Lib.hid (row_below hK.out.kept hbw2 (Nat.le_refl _))
  clear hg1 hrow2 d0 e0
  go_wp2_with fail
  go_region_with (first
    | (go_at_call 24; refine hof2.mono ?_; rintro e w3 ⟨l, rfl, hL, hb3⟩; have hb23 := below_drew hb3; have hr3 := row_below hK2.out hb23 (Nat.le_refl _); have k0 := hr3.cell (i := 0) rfl; have kf := hr3.free 0; have hr3' := Lib.hid hr3; have hL' := Lib.hid hL; have hb23' := Lib.hid hb23; clear hr3 hL hb3 hb23))
  all_goals
    go_wp2_with fail
    go_ret
    have hbw3 : Below w.heap.size w w3 := b_call hb23'.out hbw2
    have hone := hK.out.one.below hbw3 (Nat.le_refl _)
    have hmk : m ≠ k := hone.ne hr3'.out
    have ho : Only (· = k) w3 (w3.setCell ⟨k, 0, none⟩ (.iface 136 (.agg #[.pointer (some ⟨l, 0, none⟩)]))) := (Only.refl (· = k) w3).setCell ⟨k, 0, none⟩ (fun _ => rfl) _
    refine ⟨rfl, l, ⟨hone.only ho hmk, hr3'.out.set 0 _, hK.out.low⟩, ?_, (Only.of_below hbw3).trans ho⟩
    have hs2 := hbw2.size
    exact (hL'.out.base (show 10 ≤ w2.drew.heap.size from Nat.le_trans hsz10 hs2)).avoid ho (kept_avoid hr3'.out)

end Go.Proofs.YtgmljeeeomjooaaGreatDoor

/-
  space.Space.Put of a list under the one key that is not there.
-/
namespace Go.Q
open Go Go.RowKit
theorem SpaceAt.ne {w : World} {p : Pl} {n : Int} {m : Option Nat} (h : SpaceAt w p n m) : p.s ≠ p.t ∧ p.s ≠ p.d ∧ p.g ≠ p.t ∧ p.g ≠ p.d := by
  obtain ⟨r, hr⟩ := h.dbs
  refine ⟨fun e => ?_, fun e => ?_, fun e => ?_, fun e => ?_⟩
  · have h1 := h.cell; rw [e] at h1; exact absurd (h1.eq h.dict.tab).2 (by decide)
  · have h1 := h.cell; rw [e] at h1; exact absurd (h1.eq h.dict.cell).2 (by decide)
  · have h1 := hr; rw [e] at h1; exact absurd (h1.eq h.dict.tab).2 (by decide)
  · have h1 := hr; rw [e] at h1; exact absurd (h1.eq h.dict.cell).2 (by decide)
end Go.Q
namespace Go.Proofs.YtgmljeeeomjooaaGreatDoor
open Go Go.RowKit Go.Q Go.Sort

set_option maxHeartbeats 3200000 in
set_option maxRecDepth 100000 in
theorem put_first (p : Pl) (u : Value) (xs : List ByteArray) (hpos : 0 < xs.length) (hm : xs.length ≤ 1000) (hitems : ∀ s ∈ xs, s.size ≤ 65536) (w : World) (h : SpaceAt w p 0 none) (hu : Slice w u xs) (hav : ∀ sp n c, u = .slice (some sp) n c → sp.block ≠ p.t ∧ sp.block ≠ p.d) (hG : Glob w) :
    Calls Tryz.prog 10 #[.pointer (some ⟨p.s, 0, none⟩), .int .i64 0, .string ⟨#[108]⟩, listVal u, .bool false] w fun e w' => e = .returned (.int .i64 0) ∧ ∃ m k l, SpaceAt w' p 1 (some m) ∧ KeptAt w' p.t m k l ∧ ListAt Filled w' 10 l xs ∧ Only (fun x => x = p.t ∨ x = p.d) w w' := by
  have hb1 : Below w.heap.size w (w.alloc (.cells (listVal u).cells 57)) := (Below.refl _ w).alloc (Nat.le_refl _) _
  have hhas := spaceHas p 0 none _ (h.below hb1 (Nat.le_refl _))
  have hmay := may_list u xs hpos hm hitems _ (hu.below hb1 (Nat.le_refl _))
  have hget := fun w' (hw : Below w.heap.size w w') => getNone p.d p.t 0 w' (h.below hw (Nat.le_refl _)).dict
  have hc0 := fun w' (hw : Below w.heap.size w w') => (h.below hw (Nat.le_refl _)).cell.cell (i := 0) rfl
  obtain ⟨r, hr⟩ := h.dbs
  have hg0 := fun w' (hw : Below w.heap.size w w') => (row_below hr hw (Nat.le_refl _)).cell (i := 0) rfl
  have H := Lib.hid h
  have HU := Lib.hid hu
  have HG := Lib.hid hG
  have hsz10 := hG.size
  have q := nil80
  obtain ⟨sp, cp, rfl⟩ := hu.len
  unfold listVal at *
  simp only [Value.cells] at hb1 hhas hmay
  have hc01 := hc0 _ hb1
  have hg01 := hg0 _ hb1
  have HC0 := Lib.hid hc0
  have HG0 := Lib.hid hg0
  have HGET := Lib.hid hget
  have hrow := Lib.hid (Row.new w 57 [.int .u8 2, .string ⟨#[]⟩, .slice sp xs.length cp, .slice none 0 0, .slice none 0 0, .slice none 0 0, .slice none 0 0, .int .u64 0, .int .u64 0])
  clear h hu hG hr hget hc0 hg0
  go_enter Tryz.func10, Tryz.ntmps10
  go_wp2_with fail
  generalize hW : w.alloc (.cells #[.int .u8 2, .string ⟨#[]⟩, .slice sp xs.length cp, .slice none 0 0, .slice none 0 0, .slice none 0 0, .slice none 0 0, .int .u64 0, .int .u64 0] 57) = W at *
  go_at_call 18
  refine hhas.mono ?_
  rintro e w1 ⟨rfl, rfl⟩
  have b0 := hrow.out.cell (i := 0) rfl
  have b1 := hrow.out.cell (i := 1) rfl
  have b2 := hrow.out.cell (i := 2) rfl
  have b3 := hrow.out.cell (i := 3) rfl
  have b4 := hrow.out.cell (i := 4) rfl
  have b5 := hrow.out.cell (i := 5) rfl
  have b6 := hrow.out.cell (i := 6) rfl
  have b7 := hrow.out.cell (i := 7) rfl
  have b8 := hrow.out.cell (i := 8) rfl
  clear hW
  go_wp2_with fail
  go_at_call 21
  refine hmay.mono ?_
  rintro e w1 ⟨rfl, hb⟩
  have hbw1 : Below w.heap.size w w1 := b_call hb hb1
  have hrow1 := Lib.hid (row_below hrow.out hb (Nat.le_refl _))
  have d0 := HC0.out w1 hbw1
  have e0 := HG0.out w1 hbw1
  have hg1 := HGET.out w1 hbw1
  clear hhas hmay hc01 hg01 b0 b1 b2 b3 b4 b5 b6 b7 b8
  go_wp2_with fail
  go_at_call 22
  refine hg1.mono ?_
  rintro e w2 ⟨rfl, hb2⟩
  have hbw2 : Below w.heap.size w w2 := b_call hb2 hbw1
  have hrow2 := Lib.hid (row_below hrow1.out hb2 (Nat.le_refl _))
  have hb3 : Below w.heap.size w (w2.alloc (.cells #[.nilIface, .int .i64 0, .int .u64 0] 92)) := hbw2.alloc hbw2.size _
  have d1 := HC0.out _ hb3
  have e1 := HG0.out _ hb3
  have hset := dictSet p.d p.t w2.heap.size _ (H.out.below hb3 (Nat.le_refl _)).dict
  have hk3 := Lib.hid (Row.new w2 92 [.nilIface, .int .i64 0, .int .u64 0])
  have hsz3 : (w2.alloc (.cells #[.nilIface, .int .i64 0, .int .u64 0] 92)).heap.size = w2.heap.size + 1 := World.size_alloc _ _
  have hrow3 := Lib.hid (hrow2.out.alloc (.cells #[.nilIface, .int .i64 0, .int .u64 0] 92))
  have hsp3 := Lib.hid (H.out.below hb3 (Nat.le_refl _))
  clear hg1 d0 e0
  go_wp2_with fail
  generalize hW3 : w2.alloc (.cells #[.nilIface, .int .i64 0, .int .u64 0] 92) = W3 at *
  clear hW3
  go_at_call 23
  refine hset.mono ?_
  rintro e w4 ⟨rfl, m, hD, hO, ho4, hm4⟩
  have hkt : w2.heap.size ≠ p.t := fun e => by have := hk3.out; rw [e] at this; exact absurd (this.eq hsp3.out.dict.tab).2 (by decide)
  have hkd : w2.heap.size ≠ p.d := fun e => by have := hk3.out; rw [e] at this; exact absurd (this.eq hsp3.out.dict.cell).2 (by decide)
  have hbt : w.heap.size ≠ p.t := fun e => by have := H.out.dict.tab.lt; omega
  have hbd : w.heap.size ≠ p.d := fun e => by have := H.out.dict.cell.lt; omega
  have hk4 := hk3.out.only ho4 (fun e => by rcases e with e | e <;> contradiction)
  have hrow4 := hrow3.out.only ho4 (fun e => by rcases e with e | e <;> contradiction)
  have b0 := hrow4.cell (i := 0) rfl
  have b1 := hrow4.cell (i := 1) rfl
  have b2 := hrow4.cell (i := 2) rfl
  have b3 := hrow4.cell (i := 3) rfl
  have b4 := hrow4.cell (i := 4) rfl
  have b5 := hrow4.cell (i := 5) rfl
  have b6 := hrow4.cell (i := 6) rfl
  have b7 := hrow4.cell (i := 7) rfl
  have b8 := hrow4.cell (i := 8) rfl
  have hsp4 : SpaceAt w4 p 1 (some m) := by
    obtain ⟨n1, n2, n3, n4⟩ := hsp3.out.ne
    exact ⟨hsp3.out.cell.only ho4 (fun e => by rcases e with e | e <;> contradiction), hsp3.out.dbs.imp fun _ hr => hr.only ho4 (fun e => by rcases e with e | e <;> contradiction), hD, hsp3.out.low⟩
  have c41 := hsp4.cell.cell (i := 1) rfl
  have ho04 : Only (fun x => x = p.t ∨ x = p.d) w w4 := (Only.of_below (S := fun x => x = p.t ∨ x = p.d) hb3).trans ho4
  have hu4 : Slice w4 (.slice sp xs.length cp) xs := HU.out.only ho04 (fun sp' n' c' he e => by
    have := hav sp' n' c' he
    rcases e with e | e
    · exact this.1 e
    · exact this.2 e)
  have hG4 : Glob w4 := HG.out.only ho04 (fun k hk e => by have := H.out.low; rcases e with e | e <;> omega)
  have hof := of_list _ xs w4.drew (hu4.below (Below.refl _ w4).drew (Nat.le_refl _)) hm hitems (hG4.below (Below.refl _ w4).drew hG4.size)
  unfold listVal at hof
  have hk4' := Lib.hid hk4
  have hsp4' := Lib.hid hsp4
  have hO' := Lib.hid hO
  have ho04' := Lib.hid ho04
  have hs4 := hG4.size
  have hk10 : 10 ≤ w2.heap.size := Nat.le_trans hsz10 hbw2.size
  clear hset hk4 hrow4 hsp4 hO ho4 hD ho04 hu4 hG4 hav
  go_wp2_with fail
  go_region_with (first
    | (go_at_call 24; refine hof.mono ?_; rintro e w5 ⟨l, rfl, hL, hb5⟩; have hb45 := below_drew hb5; have hr5 := row_below hk4'.out hb45 (Nat.le_refl _); have k0 := hr5.cell (i := 0) rfl; have kf := hr5.free 0; have k1 := hr5.cell (i := 1) rfl; have kf1 := hr5.free 1; have hr5' := Lib.hid hr5; have hL' := Lib.hid hL; have hb45' := Lib.hid hb45; clear hr5 hL hb5 hb45))
  all_goals
    go_wp2_with fail
    go_ret
    have hone := hO'.out.below hb45'.out (Nat.le_refl _)
    have hsp5 := hsp4'.out.below hb45'.out (Nat.le_refl _)
    have hmk : m ≠ w2.heap.size := hone.ne hr5'.out
    have ho : Only (· = w2.heap.size) w5 ((w5.setCell ⟨w2.heap.size, 0, none⟩ (.iface 136 (.agg #[.pointer (some ⟨l, 0, none⟩)]))).setCell ⟨w2.heap.size, 1, none⟩ (.int .i64 0)) := ((Only.refl (· = w2.heap.size) w5).setCell ⟨w2.heap.size, 0, none⟩ (fun _ => rfl) _).setCell ⟨w2.heap.size, 1, none⟩ (fun _ => rfl) _
    have hks : p.s ≠ w2.heap.size := fun e => by have := hsp5.cell; rw [e] at this; exact absurd (this.eq hr5'.out).2 (by decide)
    have hkg : p.g ≠ w2.heap.size := fun e => by obtain ⟨r', this⟩ := hsp5.dbs; rw [e] at this; exact absurd (this.eq hr5'.out).2 (by decide)
    refine ⟨rfl, m, w2.heap.size, l, hsp5.only ho hks hkg (fun e => hkd e.symm) (fun e => hkt e.symm), ⟨hone.only ho hmk, (hr5'.out.set 0 _).set 1 _, by have h1 := H.out.dict.tab.lt; have h2 := hbw2.size; refine ⟨?_, ?_, ?_, ?_⟩ <;> omega⟩, ?_, ?_⟩
    · exact (hL'.out.base (show 10 ≤ w4.drew.heap.size from hs4)).avoid ho (kept_avoid hr5'.out)
    · exact (ho04'.out.trans ((Only.of_below hb45'.out).mono fun _ _ h => h)).then ho (fun i hi e => by have := hbw2.size; omega)

end Go.Proofs.YtgmljeeeomjooaaGreatDoor
