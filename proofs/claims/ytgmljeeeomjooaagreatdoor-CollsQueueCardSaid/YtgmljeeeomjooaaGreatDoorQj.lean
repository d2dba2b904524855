/-
  list.grow: contract.
-/
import Derived.Test.YtgmljeeeomjooaaGreatDoorQi
set_option linter.all false
/-
  list.grow: contract.
-/
namespace Go.Q
open Go Go.RowKit

theorem QuickN.aside {S : Nat → Prop} {w w' : World} {B q n : Nat} {ns : List Knot} (h : QuickN w B q ns n) (ho : Only S w w') (hs : ∀ k, S k → ∃ cs, Row w k 274 cs) : QuickN w' B q ns n := by
  refine ⟨h.links.only ho fun k cs t e hr => ?_, h.packs.but ho fun nd hn => ⟨fun e => ?_, fun e => ?_⟩, h.pdist, h.low, h.base⟩
  · obtain ⟨ds, hd⟩ := hs k e
    have := (hd.eq hr).2
    subst this
    decide
  · obtain ⟨ds, hd⟩ := hs _ e
    exact row_ne (h.packs nd hn).cell hd (by decide) rfl
  · obtain ⟨ds, hd⟩ := hs _ e
    exact row_ne (h.packs nd hn).bytes hd (by decide) rfl

/-- A slice of texts. -/
def Slice (w : World) (v : Value) (xs : List ByteArray) : Prop :=
  (xs = [] ∧ v = .slice none 0 0) ∨ ∃ g off cap, v = .slice (some ⟨g, off, none⟩) xs.length cap ∧ g < w.heap.size ∧ ∀ k (h : k < xs.length), w.cell? ⟨g, off + k, none⟩ = some (.string xs[k])
theorem Slice.of_owns {w : World} {B : Nat} {v : Value} {xs : List ByteArray} (h : w.ownsRow B 9 1 v xs.length (strs xs)) : Slice w v xs := by
  obtain ⟨h0, h1 | ⟨g', cap', cur, rfl, h3, h4, h5, h6, h7, h8⟩⟩ := h
  · exact .inl ⟨List.length_eq_zero_iff.1 h1.2, h1.1⟩
  · refine .inr ⟨g', 0, cap', rfl, (Array.getElem?_eq_some_iff.1 h4).1, fun k hk => ?_⟩
    have e : (strs xs ++ cur.toList.drop xs.length) = cur.toList := by rw [← h8, Nat.mul_one, List.take_append_drop]
    have hr : Row w g' 9 (strs xs ++ cur.toList.drop xs.length) := by unfold Row; rw [h4, e]
    have := hr.cell (i := 0 + k) (v := .string xs[k]) (by rw [Nat.zero_add, List.getElem?_append_left (by simpa [strs] using hk)]; simp [strs, hk])
    exact this
/-- Behind writes elsewhere. -/
theorem Slice.only {S : Nat → Prop} {w w' : World} {v : Value} {xs : List ByteArray} (h : Slice w v xs) (ho : Only S w w') (hs : ∀ sp n c, v = .slice (some sp) n c → ¬ S sp.block) : Slice w' v xs := by
  rcases h with h | ⟨g, off, cap, rfl, hg, hc⟩
  · exact .inl h
  · exact .inr ⟨g, off, cap, rfl, Nat.lt_of_lt_of_le hg ho.size, fun k hk => (ho.cell (p := ⟨g, off + k, none⟩) hg (hs ⟨g, off, none⟩ _ _ rfl)).trans (hc k hk)⟩
theorem Slice.below {C : Nat} {w w' : World} {v : Value} {xs : List ByteArray} (h : Slice w v xs) (hb : Below C w w') (hC : w.heap.size ≤ C) : Slice w' v xs :=
  h.only (S := fun _ => False) ⟨hb.os, hb.tape, hb.output, hb.size, fun k hk _ => hb.block k (Nat.lt_of_lt_of_le hk hC)⟩ fun _ _ _ _ h => h
theorem Slice.len {w : World} {v : Value} {xs : List ByteArray} (h : Slice w v xs) : ∃ sp c, v = .slice sp xs.length c := by
  rcases h with ⟨rfl, rfl⟩ | ⟨g, off, cap, rfl, _⟩
  · exact ⟨_, _, rfl⟩
  · exact ⟨_, _, rfl⟩

end Go.Q
namespace Go.Proofs.YtgmljeeeomjooaaGreatDoor
open Go Go.RowKit Go.Q Go.Sort

set_option maxHeartbeats 1600000 in
set_option maxRecDepth 100000 in
theorem grow_small (B l : Nat) (xs : List ByteArray) (p b n : Nat) (s : ByteArray) (hn : n ≤ 32) (hs : s.size ≤ 64) (w : World) (h : SmallAt w B l xs p b) :
    Calls Tryz.prog 164 #[.pointer (some ⟨l, 0, none⟩), .int .i64 (n : Int), .string s] w fun e w' => e = .returned (.tuple #[]) ∧ Below w.heap.size w w' := by
  have hsm := listSmall_any B l xs p b w h
  have hn' : (n : Int) ≤ 32 := by omega
  have hs' : (s.size : Int) ≤ 64 := by omega
  clear h
  go_enter Tryz.func164, Tryz.ntmps164
  go_wp2_with fail
  go_at_call 208
  refine hsm.mono ?_
  rintro e w1 ⟨rfl, hb⟩
  go_wp2_with fail
  try simp only [Exit.inBlock, Exit.then]
  refine bodyPost_ret (results_none rfl _ _ _) rfl ?_
  exact ⟨rfl, hb⟩

set_option maxHeartbeats 1600000 in
set_option maxRecDepth 100000 in
theorem grow_great (F : List Knot → Prop) (B l : Nat) (xs : List ByteArray) (q D : Nat) (ns : List Knot) (n : Nat) (s : ByteArray) (w : World) (h : GreatAt F w B l xs q D ns) :
    Calls Tryz.prog 164 #[.pointer (some ⟨l, 0, none⟩), .int .i64 (n : Int), .string s] w fun e w' => e = .returned (.tuple #[]) ∧ Below w.heap.size w w' := by
  have hsm := listGreat_any F B l xs q D ns w h
  clear h
  go_enter Tryz.func164, Tryz.ntmps164
  go_wp2_with fail
  go_at_call 208
  refine hsm.mono ?_
  rintro e w1 ⟨rfl, hb⟩
  go_wp2_with fail
  try simp only [Exit.inBlock, Exit.then]
  refine bodyPost_ret (results_none rfl _ _ _) rfl ?_
  exact ⟨rfl, hb⟩

set_option maxHeartbeats 3200000 in
set_option maxRecDepth 100000 in
theorem grow_turns (B l : Nat) (xs : List ByteArray) (p b n : Nat) (s : ByteArray) (hbig : ¬ (n ≤ 32 ∧ s.size ≤ 64)) (w : World) (h : SmallAt w B l xs p b) (hG : Glob w) (hB : 10 ≤ B) :
    Calls Tryz.prog 164 #[.pointer (some ⟨l, 0, none⟩), .int .i64 (n : Int), .string s] w fun e w' => e = .returned (.tuple #[]) ∧ (∃ q C ns, GreatAt Filled w' B l xs q C ns) ∧ Below B w w' := by
  have hsm := listSmall_any B l xs p b w h
  have hinv := fun w' => inv_small_all p w'
  have hall := fun w' (hw : Below w.heap.size w w') => small_all p b xs (by have := h.few; omega) w' (h.pack.below hw h.pack.cell.lt h.pack.bytes.lt) (hG.below hw hG.size)
  have hcl := fun w' (hw : Below w.heap.size w w') => (row_below h.cell hw (Nat.le_refl _))
  have hcl1 := fun w' (hw : Below w.heap.size w w') => (hcl w' hw).cell (i := 0) rfl
  have hfew := h.few
  have hitems := h.pack.items
  have hG' := Lib.hid hG
  have hll := h.cell.lt
  have hlow := h.low
  have hbig' : ¬ (n : Int) ≤ 32 ∨ ((n : Int) ≤ 32 ∧ ¬ (s.size : Int) ≤ 64) := by omega
  have hcl' := Lib.hid hcl
  clear h hG hcl hbig
  rcases hbig' with hb1 | ⟨hb1, hb2⟩
  all_goals
    go_enter Tryz.func164, Tryz.ntmps164
    go_wp2_with fail
    go_at_call 208
    refine hsm.mono ?_
    rintro e w1 ⟨rfl, hb1⟩
    have hqn := quickNew_any w1
    clear hsm
    go_wp2_with fail
    go_at_call 209
    refine hqn.mono ?_
    rintro e w2 ⟨rfl, hL2, hb2⟩
    have hb12 := b_call hb2 hb1
    have hc2 := hcl1 w2 hb12
    have ha2 := hall w2 hb12
    have hv2 := hinv w2
    have hL2' := Lib.hid hL2
    have hsz1 := hb1.size
    have hs2 := hL2.cell.lt
    clear hqn hall hinv hL2
    go_wp2_with fail
    go_at_call 548
    refine ha2.mono ?_
    rintro e w3 ⟨v, rfl, hrow, hb3⟩
    have hsl := Slice.of_owns hrow
    have hb13 := b_call hb3 hb12
    obtain ⟨sp, cp, rfl⟩ := hsl.len
    have hQ3 : Hid (QuickAt w3 w3.heap.size w1.heap.size []) := Lib.hid ⟨hL2'.out.below hb3 (Nat.le_refl _), fun nd hn => by simp at hn, by simp, by have := hG'.out.size; omega, fun nd hn => by simp at hn⟩
    have hG3 := Lib.hid (hG'.out.below hb13 hG'.out.size)
    have hc3 := hcl1 w3 hb13
    have hsl' := Lib.hid hsl
    have hg3 : Hid (∀ g : Addr, sp = some g → g.block < w3.heap.size ∧ g.block ≠ w1.heap.size) := Lib.hid (by
      rintro g rfl
      obtain ⟨h0, h1 | ⟨g', cap', cur, h2, h3, h4, h5⟩⟩ := hrow
      · cases h1.1
      · cases h2
        exact ⟨(Array.getElem?_eq_some_iff.1 h4).1, by show g' ≠ _; omega⟩)
    have hcc := hcl1
    clear ha2 hv2 hc2 hrow hsl hb2 hb12 hcl1
    go_wp2_with fail
    go_loopw [28] (fun i wr => ∃ k : Nat, k ≤ xs.length ∧ i = .int .i64 k ∧ ∃ ns, QuickAt wr w3.heap.size w1.heap.size ns ∧ Filled ns ∧ texts ns = xs.take k ∧ Near w3.heap.size w1.heap.size w3 wr) (fun i _ => xs.length - (intOf i).toNat)
    case atStart => exact ⟨0, Nat.zero_le _, rfl, [], hQ3.out, .inl rfl, rfl, Only.refl _ _⟩
    case round =>
      obtain ⟨k, hk, rfl, ns, hQ, hF, ht, hN⟩ := hrel
      have hGr := hG3.out.only hN (fun k hk e => by have := hG'.out.size; have := hb3.size; rcases e with e | e <;> omega)
      rcases Nat.lt_or_ge k xs.length with hlt | hge
      · obtain ⟨hxn, _⟩ | ⟨g, off, cap, hv, hgl, hcells⟩ := hsl'.out
        · rw [hxn] at hlt; exact absurd hlt (by simp)
        · injection hv with hv1 _ hv3
          subst hv1
          subst hv3
          obtain ⟨hgl2, hgne⟩ := hg3.out _ rfl
          have hcell : wr.cell? ⟨g, off + k, none⟩ = some (.string xs[k]) := (hN.cell (p := ⟨g, off + k, none⟩) hgl (fun e => by rcases e with e | e; exact hgne e; exact absurd (show g < w3.heap.size from hgl) (Nat.not_lt.2 e))).trans (hcells k hlt)
          have htl : (texts ns).length = k := by rw [ht, List.length_take]; omega
          have hlti : (k : Int) < (xs.length : Int) := by omega
          have hpush : Calls Tryz.prog 210 #[.pointer (some ⟨w1.heap.size, 0, none⟩), .int .i64 (k : Int), .string xs[k]] wr fun e w' => e = .returned (.int .i64 0) ∧ ∃ ns', QuickAt w' w3.heap.size w1.heap.size ns' ∧ Filled ns' ∧ texts ns' = texts ns ++ [xs[k]] ∧ Near w3.heap.size w1.heap.size wr w' := by
            have := push_end w3.heap.size w1.heap.size ns hF xs[k] (hitems _ (List.getElem_mem hlt)) wr hQ (by omega) hGr (by have := hG'.out.size; have := hb3.size; omega) hN.size
            rw [htl] at this
            exact this
          clear hcells htl hGr
          go_wp2_with fail
          go_at_call 210
          refine hpush.mono ?_
          rintro e w5 ⟨rfl, ns', hQ5, hF5, ht5, hN5⟩
          clear hpush
          go_wp2_with fail
          go_roundw
          case rel => exact ⟨k + 1, hlt, rfl, ns', hQ5, hF5, by rw [ht5, ht, take_snoc' hlt], hN.trans hN5⟩
          case measure => simp [intOf] <;> omega
      · obtain rfl : k = xs.length := by omega
        have hcr : Row wr l 274 [.iface 302 (.agg #[.pointer (some ⟨p, 0, none⟩)])] := (hcl'.out w3 hb13).only hN (fun e => by have := hb1.size; have := hb3.size; rcases e with e | e <;> omega)
        have hcc1 := hcr.cell (i := 0) rfl
        have hcf1 := hcr.free 0
        go_wp2_with fail
        go_end0
        have hOl : Only (· = l) wr (wr.setCell ⟨l, 0, none⟩ (.iface 348 (.agg #[.pointer (some ⟨w1.heap.size, 0, none⟩)]))) := (Only.refl (· = l) wr).setCell ⟨l, 0, none⟩ (fun _ => rfl) _
        have hbw := hb1.size
        have hbw3 := hb3.size
        have hNs := hN.size
        refine ⟨rfl, ⟨w1.heap.size, w3.heap.size, ns, hcr.set 0 _, hQ.aside hOl (fun k e => ⟨_, e ▸ hcr⟩), hF, by rw [ht, List.take_length], ⟨hlow.2, by omega, by omega⟩, by have := hG'.out.size; omega, by show w3.heap.size ≤ _; exact Nat.le_trans hNs hOl.size, by omega⟩, ?_⟩
        exact ((hb13.mono (show B ≤ w.heap.size by omega)).trans (hN.below (show B ≤ w1.heap.size by omega) (show B ≤ w3.heap.size by omega) (show B ≤ w3.heap.size by omega))).setCell (p := ⟨l, 0, none⟩) hlow.2 _

end Go.Proofs.YtgmljeeeomjooaaGreatDoor

/-
  list.Push at the end: contract.
-/
namespace Go.Q
open Go Go.RowKit

theorem ListAt.row {F : List Knot → Prop} {w : World} {B l : Nat} {xs : List ByteArray} (h : ListAt F w B l xs) : ∃ t v, Row w l 274 [.iface t v] := by
  rcases h with ⟨p, b, h⟩ | ⟨q, D, ns, h⟩
  · exact ⟨_, _, h.cell⟩
  · exact ⟨_, _, h.cell⟩

end Go.Q
namespace Go.Proofs.YtgmljeeeomjooaaGreatDoor
open Go Go.RowKit Go.Q Go.Sort

theorem grow_any (B l : Nat) (xs : List ByteArray) (s : ByteArray) (w : World) (h : ListAt Filled w B l xs) (hG : Glob w) (hB : 10 ≤ B) :
    Calls Tryz.prog 164 #[.pointer (some ⟨l, 0, none⟩), .int .i64 ((xs.length + 1 : Nat) : Int), .string s] w fun e w' => e = .returned (.tuple #[]) ∧ ((∃ p b, SmallAt w' B l xs p b ∧ xs.length + 1 ≤ 32) ∨ ∃ q C ns, GreatAt Filled w' B l xs q C ns) ∧ Below B w w' := by
  have hl := h.lt
  rcases h with ⟨p, b, h⟩ | ⟨q, D, ns, h⟩
  · by_cases hc : xs.length + 1 ≤ 32 ∧ s.size ≤ 64
    · refine (grow_small B l xs p b _ s hc.1 hc.2 w h).mono ?_
      rintro e w' ⟨rfl, hb⟩
      exact ⟨rfl, .inl ⟨p, b, h.below hb (Nat.le_refl _), hc.1⟩, hb.mono (by omega)⟩
    · refine (grow_turns B l xs p b _ s hc w h hG hB).mono ?_
      rintro e w' ⟨rfl, hg, hb⟩
      exact ⟨rfl, .inr hg, hb⟩
  · refine (grow_great Filled B l xs q D ns _ s w h).mono ?_
    rintro e w' ⟨rfl, hb⟩
    exact ⟨rfl, .inr ⟨q, D, ns, h.below hb (Nat.le_refl _)⟩, hb.mono (by omega)⟩

/-- Insert at the end behind the interface. -/
theorem insert_small (B l : Nat) (xs : List ByteArray) (p b : Nat) (s : ByteArray) (hs : s.size ≤ 65536) (w : World) (h : SmallAt w B l xs p b) (hfew : xs.length + 1 ≤ 32) (hG : Glob w) (hB : 10 ≤ B) :
    Calls Tryz.prog 250 #[.pointer (some ⟨p, 0, none⟩), .int .i64 (xs.length : Int), .string s] w fun e w' => e = .returned (.int .i64 0) ∧ ListAt Filled w' B l (xs ++ [s]) ∧ Below B w w' := by
  refine (insert_p p b xs xs.length (Nat.le_refl _) s hs (by omega) w h.pack hG (by have := h.low; omega)).mono ?_
  rintro e w' ⟨rfl, b', hpk, hbb, hon⟩
  rw [insAt_end] at hpk
  have hpl := h.pack.cell.lt
  refine ⟨rfl, .inl ⟨p, b', h.cell.only hon (row_ne h.cell h.pack.cell (by decide)), hpk, by simp; omega, h.low⟩, hon.below (by have := h.low; omega) (fun k hk e => by have := h.low; omega)⟩
theorem insert_great (B l : Nat) (xs : List ByteArray) (q C : Nat) (ns : List Knot) (s : ByteArray) (hs : s.size ≤ 65536) (w : World) (h : GreatAt Filled w B l xs q C ns) (hlt : xs.length < 1000) (hG : Glob w) :
    Calls Tryz.prog 210 #[.pointer (some ⟨q, 0, none⟩), .int .i64 (xs.length : Int), .string s] w fun e w' => e = .returned (.int .i64 0) ∧ ListAt Filled w' B l (xs ++ [s]) ∧ Below B w w' := by
  have := push_end C q ns h.shape s hs w h.quick (by rw [h.texts]; exact hlt) hG h.base.1 h.base.2.1
  rw [h.texts] at this
  refine this.mono ?_
  rintro e w' ⟨rfl, ns', hq, hf, ht, hN⟩
  have hlq := row_ne h.cell h.quick.links.cell (by decide)
  have hb := h.base
  have hl := h.low
  refine ⟨rfl, .inr ⟨q, C, ns', h.cell.only hN (fun e => by rcases e with e | e; exact hlq e; omega), hq, hf, ht, hl, hb.1, Nat.le_trans hb.2.1 hN.size, hb.2.2⟩, hN.below hl.2.1 hl.2.2 (Nat.le_trans hl.2.2 hb.2.1)⟩

set_option maxHeartbeats 3200000 in
set_option maxRecDepth 100000 in
theorem listPush_any (B l : Nat) (xs : List ByteArray) (s : ByteArray) (hs : s.size ≤ 65536) (w : World) (h : ListAt Filled w B l xs) (hlt : xs.length < 1000) (hG : Glob w) (hB : 10 ≤ B) :
    Calls Tryz.prog 95 #[.pointer (some ⟨l, 0, none⟩), .bool false, .string s] w fun e w' => e = .returned (.int .i64 0) ∧ ListAt Filled w' B l (xs ++ [s]) ∧ Below B w w' := by
  obtain ⟨t, v, hrow⟩ := h.row
  have hgone := listGone_any l t v w hrow
  have hlen := listLen_any Filled B l xs w h
  have hgrow := grow_any B l xs s w h hG hB
  have hlt' : (xs.length : Int) < 1000 := by omega
  have hs' : (s.size : Int) ≤ 65536 := by omega
  have e1 : ((xs.length + 1 : Nat) : Int) = (xs.length : Int) + 1 := by omega
  rw [e1] at hgrow
  have hB' : B ≤ w.heap.size := by have := h.lt; omega
  clear h hrow e1
  go_enter Tryz.func95, Tryz.ntmps95
  go_wp2_with fail
  go_at_call 163
  refine hgone.mono ?_
  rintro e w' ⟨rfl, rfl⟩
  go_wp2_with fail
  go_at_call 99
  refine hlen.mono ?_
  rintro e w' ⟨rfl, rfl⟩
  go_wp2_with fail
  go_at_call 99
  refine hlen.mono ?_
  rintro e w' ⟨rfl, rfl⟩
  go_wp2_with fail
  go_at_call 164
  refine hgrow.mono ?_
  rintro e w1 ⟨rfl, ⟨p, b, h1, hf1⟩ | ⟨q, C, ns, h1⟩, hb1⟩
  · have hl1 := listLen_any Filled B l xs w1 (.inl ⟨p, b, h1⟩)
    have hins := insert_small B l xs p b s hs w1 h1 hf1 (hG.below hb1 hB) hB
    have hc1 := h1.cell.cell (i := 0) rfl
    have hm := inv_small_Insert p w1
    clear hgone hlen hgrow h1
    go_wp2_with fail
    go_at_call 99
    refine hl1.mono ?_
    rintro e w' ⟨rfl, rfl⟩
    go_wp2_with fail
    go_at_call 250
    refine hins.mono ?_
    rintro e w2 ⟨rfl, hL, hb2⟩
    go_wp2_with fail
    go_ret
    exact ⟨rfl, hL, hb1.trans hb2⟩
  · have hl1 := listLen_any Filled B l xs w1 (.inr ⟨q, C, ns, h1⟩)
    have hins := insert_great B l xs q C ns s hs w1 h1 hlt (hG.below hb1 hB)
    have hc1 := h1.cell.cell (i := 0) rfl
    have hm := inv_great_Insert q w1
    clear hgone hlen hgrow h1
    go_wp2_with fail
    go_at_call 99
    refine hl1.mono ?_
    rintro e w' ⟨rfl, rfl⟩
    go_wp2_with fail
    go_at_call 210
    refine hins.mono ?_
    rintro e w2 ⟨rfl, hL, hb2⟩
    go_wp2_with fail
    go_ret
    exact ⟨rfl, hL, hb1.trans hb2⟩

end Go.Proofs.YtgmljeeeomjooaaGreatDoor

/-
  list.Of, list.Range over all: contracts.
-/
namespace Go.Proofs.YtgmljeeeomjooaaGreatDoor
open Go Go.RowKit Go.Q Go.Sort

set_option maxHeartbeats 3200000 in
set_option maxRecDepth 100000 in
theorem listOf_any (v : Value) (xs : List ByteArray) (w : World) (hv : Slice w v xs) (hlen : xs.length ≤ 1000) (hitems : ∀ s ∈ xs, s.size ≤ 65536) (hG : Glob w) :
    Calls Tryz.prog 77 #[v] w fun e w' => ∃ l, e = .returned (.tuple #[.pointer (some ⟨l, 0, none⟩), .int .i64 0]) ∧ ListAt Filled w' w.heap.size l xs ∧ Below w.heap.size w w' := by
  have hnew := listNew_any w.heap.size w (Nat.le_refl _)
  obtain ⟨sp, cp, rfl⟩ := hv.len
  have hlen' : (xs.length : Int) ≤ 1000 := by omega
  have hv' := Lib.hid hv
  have hG' := Lib.hid hG
  clear hv hG
  go_enter Tryz.func77, Tryz.ntmps77
  go_wp2_with fail
  go_at_call 139
  refine hnew.mono ?_
  rintro e w1 ⟨l, rfl, hL1, hll, hb1⟩
  have hL1' := Lib.hid hL1
  clear hnew hL1
  go_wp2_with fail
  go_loopw [11] (fun i wr => ∃ k : Nat, k ≤ xs.length ∧ i = .int .i64 k ∧ ListAt Filled wr w.heap.size l (xs.take k) ∧ Below w.heap.size w wr) (fun i _ => xs.length - (intOf i).toNat)
  case atStart => exact ⟨0, Nat.zero_le _, rfl, hL1'.out, hb1⟩
  case round =>
    obtain ⟨k, hk, rfl, hL, hb⟩ := hrel
    rcases Nat.lt_or_ge k xs.length with hlt | hge
    · obtain ⟨hxn, _⟩ | ⟨g, off, cap, he, hgl, hcells⟩ := hv'.out
      · rw [hxn] at hlt; exact absurd hlt (by simp)
      · injection he with he1 _ he3
        subst he1
        subst he3
        have hcell : wr.cell? ⟨g, off + k, none⟩ = some (.string xs[k]) := (hb.cell (p := ⟨g, off + k, none⟩) hgl).trans (hcells k hlt)
        have hlti : (k : Int) < (xs.length : Int) := by omega
        have hpush := listPush_any w.heap.size l (xs.take k) xs[k] (hitems _ (List.getElem_mem hlt)) wr hL (by rw [List.length_take]; omega) (hG'.out.below hb hG'.out.size) hG'.out.size
        clear hcells
        go_wp2_with fail
        go_at_call 95
        refine hpush.mono ?_
        rintro e w5 ⟨rfl, hL5, hb5⟩
        clear hpush
        go_wp2_with fail
        go_roundw
        case rel => exact ⟨k + 1, hlt, rfl, by rw [take_snoc' hlt]; exact hL5, hb.trans hb5⟩
        case measure => simp [intOf] <;> omega
    · obtain rfl : k = xs.length := by omega
      rw [List.take_length] at hL
      go_wp2_with fail
      go_ret2
      exact ⟨l, rfl, hL, hb⟩

set_option maxHeartbeats 1600000 in
set_option maxRecDepth 100000 in
theorem bounds_all (F : List Knot → Prop) (B l : Nat) (xs : List ByteArray) (hm : xs.length ≤ 1000) (w : World) (h : ListAt F w B l xs) :
    Calls Tryz.prog 167 #[.pointer (some ⟨l, 0, none⟩), .int .i64 0, .int .i64 (-1)] w fun e w' => e = .returned (.tuple #[.int .i64 0, .int .i64 ((xs.length : Int) - 1), .bool (decide (0 < xs.length))]) ∧ w = w' := by
  have hlen := listLen_any F B l xs w h
  have hm' : (xs.length : Int) ≤ 1000 := by omega
  have hp : decide ((0 : Int) ≤ (xs.length : Int) - 1) = decide (0 < xs.length) := by
    by_cases h : 0 < xs.length
    · rw [decide_eq_true h, decide_eq_true (by omega)]
    · rw [decide_eq_false h, decide_eq_false (by omega)]
  have e0 : (-1 : Int) + (xs.length : Int) = (xs.length : Int) - 1 := by omega
  have hp' := Lib.hid hp
  clear h hp
  generalize xs.length = n at *
  go_enter Tryz.func167, Tryz.ntmps167
  go_wp2_with fail
  go_at_call 99
  refine hlen.mono ?_
  rintro e w' ⟨rfl, rfl⟩
  go_wp2_with fail
  refine bodyPost_ret (results_tmp3 rfl _ _ _) rfl ⟨?_, rfl⟩
  have e : decide ((1 : Int) ≤ (n : Int)) = decide (0 < n) := by
    by_cases h : 0 < n
    · rw [decide_eq_true h, decide_eq_true (by omega)]
    · rw [decide_eq_false h, decide_eq_false (by omega)]
  rw [← e]
  rfl

set_option maxHeartbeats 1600000 in
set_option maxRecDepth 100000 in
theorem listRange_nil (F : List Knot → Prop) (B l : Nat) (w : World) (h : ListAt F w B l []) :
    Calls Tryz.prog 105 #[.pointer (some ⟨l, 0, none⟩), .int .i64 0, .int .i64 (-1)] w fun e w' => Made w w' [] e := by
  have hb := bounds_all F B l [] (by simp) w h
  simp only [List.length_nil] at hb
  have hb' : Calls Tryz.prog 167 #[.pointer (some ⟨l, 0, none⟩), .int .i64 0, .int .i64 (-1)] w fun e w' => e = .returned (.tuple #[.int .i64 0, .int .i64 (-1), .bool false]) ∧ w = w' := hb
  clear h hb
  go_enter Tryz.func105, Tryz.ntmps105
  go_wp2_with fail
  go_at_call 167
  refine hb'.mono ?_
  rintro e w' ⟨rfl, rfl⟩
  go_wp2_with fail
  go_ret
  exact ⟨_, rfl, World.ownsRow_nil _ _ _ _, Below.refl _ _⟩

set_option maxHeartbeats 3200000 in
set_option maxRecDepth 100000 in
theorem listRange_all (F : List Knot → Prop) (B l : Nat) (xs : List ByteArray) (hpos : 0 < xs.length) (hm : xs.length ≤ 1000) (w : World) (h : ListAt F w B l xs) (hG : Glob w) :
    Calls Tryz.prog 105 #[.pointer (some ⟨l, 0, none⟩), .int .i64 0, .int .i64 (-1)] w fun e w' => Made w w' xs e := by
  obtain ⟨i0, hi, hz0, hz1, hz2⟩ := info_parts info9
  have hb := bounds_all F B l xs hm w h
  rw [decide_eq_true hpos] at hb
  have hpos' : (0 : Int) < (xs.length : Int) := by omega
  have hm' : (xs.length : Int) ≤ 1000 := by omega
  obtain ⟨f, r, t, a, hcell, hmeth, hall⟩ : ∃ (f : FuncId) (r : Value) (t : TypeId) (a : Value), w.cell? ⟨l, 0, none⟩ = some (.iface t a) ∧ (method 725 t a "stillroom/list.all").run Tryz.prog w = .ok (f, r) w ∧ (f = 548 ∨ f = 590) ∧ Calls Tryz.prog f #[r] w fun e w' => Made w w' xs e := by
    rcases h with ⟨p, b, h⟩ | ⟨q, D, ns, h⟩
    · exact ⟨548, _, _, _, h.cell.cell (i := 0) rfl, inv_small_all p w, .inl rfl, small_all p b xs hm w h.pack hG⟩
    · have := great_all D q ns w h.quick (by rw [h.total]; exact hm) hG
      rw [h.texts] at this
      exact ⟨590, _, _, _, h.cell.cell (i := 0) rfl, inv_great_all q w, .inr rfl, this⟩
  clear h
  obtain ⟨hf, hall⟩ := hall
  rcases hf with rfl | rfl
  all_goals
    go_enter Tryz.func105, Tryz.ntmps105
    go_wp2_with fail
    go_at_call 167
    refine hb.mono ?_
    rintro e w' ⟨rfl, rfl⟩
    clear hb
    go_wp2_with fail
    refine hall.mono ?_
    rintro e w1 ⟨v, rfl, hrow, hb1⟩
    obtain ⟨g, cap, rfl⟩ : ∃ g cap, v = .slice (some ⟨g, 0, none⟩) xs.length cap := by
      obtain ⟨_, ⟨_, h0⟩ | ⟨g, cap, _, rfl, _⟩⟩ := hrow
      · omega
      · exact ⟨g, cap, rfl⟩
    have hcap : (xs.length : Int) ≤ (cap : Int) := by
      obtain ⟨_, ⟨h0, _⟩ | ⟨g', cap', _, h2, _, _, h5, _⟩⟩ := hrow
      · cases h0
      · cases h2
        omega
    have hrow' := Lib.hid hrow
    have hsz := hb1.size
    have N1 : (strs xs).length = xs.length * 1 := by simp [strs]
    have N2 : ∀ j u, (strs xs)[j]? = some u → w1.cell? ((⟨g, 0, none⟩ : Addr).add j) = some u := fun j u hj => by
      have hj' := (List.getElem?_eq_some_iff.1 hj).1
      have h2 := hrow.cellAt j (by rw [← hrow.1]; exact hj')
      rw [hj] at h2
      simpa [Addr.add_lit] using h2
    have N3 : ∀ u ∈ strs xs, u.oneCell' = true := fun u hu => by
      simp only [strs, List.mem_map] at hu
      obtain ⟨x, _, rfl⟩ := hu
      rfl
    have N2' := Lib.hid N2
    clear hall hrow hmeth N2
    go_wp2_with (at_builtin; refine wpList_append_own _ rfl _ _ 22 rfl w.heap.size 9 i0 (.string ⟨#[]⟩) 1 16 Tryz.underlying22 hi hz0 hz1 hz2 rfl (by decide) _ 0 [] rfl (World.ownsRow_nil _ _ _ _) ⟨g, 0, none⟩ xs.length cap (strs xs) rfl N1 N2'.out N3 (by unfold maxLen; omega) (by omega) hsz ?_; intro v' w2 hown' hgrow _)
    go_ret
    refine ⟨v', rfl, ?_, ?_⟩
    · simpa using hown'
    · have hg2 : w1.grownBy w2 none := hgrow
      exact hb1.grown hg2 (by omega) (fun k e => by cases e)

end Go.Proofs.YtgmljeeeomjooaaGreatDoor
