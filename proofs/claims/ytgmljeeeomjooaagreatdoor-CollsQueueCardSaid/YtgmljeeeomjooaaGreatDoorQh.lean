/-
  quick.Insert at the end where the last pack is full: contract.
-/
import Derived.Test.YtgmljeeeomjooaaGreatDoorQg
import Derived.Deep.RegionHeld3
import Derived.Deep.RegionWith
import Derived.Deep.DeepMust
import Derived.Deep.QuietTactic
import Derived.BigQuiet
import Derived.WalkMore
import Derived.ScopeJumps
import Derived.LoopN
set_option linter.all false
/-
  quick.Insert at the end where the last pack is full: contract.
-/
namespace Go.Q
open Go Go.RowKit
theorem below_drew {B : Nat} {w w' : World} (h : Below B w.drew w') : Below B w w' := ⟨h.os, h.tape, h.output, h.size, h.block⟩
/-- Where the packs of the last two nodes stand. -/
theorem row_cell0 {w : World} {q n x px y py : Nat} {l : List (Nat × Nat)} (h : Links w q ((l ++ [(x, px)]) ++ [(y, py)]) n) : w.cell? ⟨x, 0, none⟩ = some (.pointer (some ⟨px, 0, none⟩)) :=
  (h.node l.length (x, px) (by simp)).cell (i := 0) rfl
theorem row_cell1 {w : World} {q n x px y py : Nat} {l : List (Nat × Nat)} (h : Links w q ((l ++ [(x, px)]) ++ [(y, py)]) n) : w.cell? ⟨y, 0, none⟩ = some (.pointer (some ⟨py, 0, none⟩)) :=
  (h.node (l ++ [(x, px)]).length (y, py) (by simp)).cell (i := 0) rfl
theorem cell_past {w w' : World} {q n x px y py p1 p2 : Nat} {l : List (Nat × Nat)} {c1 c2 : List Value} (h : Links w q ((l ++ [(x, px)]) ++ [(y, py)]) n) (ho : Only (fun k => k = p1 ∨ k = p2) w w') (h1 : Row w p1 304 c1) (h2 : Row w p2 304 c2) : w'.cell? ⟨x, 0, none⟩ = some (.pointer (some ⟨px, 0, none⟩)) := by
  have hr := h.node l.length (x, px) (by simp)
  refine (hr.only ho ?_).cell (i := 0) rfl
  rintro (e | e)
  · exact row_ne hr h1 (by decide) e
  · exact row_ne hr h2 (by decide) e
theorem pack_kept {S : Nat → Prop} {w w' : World} {p b : Nat} {xs : List ByteArray} (h : PackAt w p b xs) (ho : Only S w w') (hs : ∀ k, S k → ∃ t cs, Row w k t cs ∧ (t = 390 ∨ t = 395)) : PackAt w' p b xs := by
  refine h.only ho (fun e => ?_) (fun e => ?_)
  · obtain ⟨t, cs, hr, ht⟩ := hs _ e
    exact row_ne h.cell hr (by rcases ht with rfl | rfl <;> decide) rfl
  · obtain ⟨t, cs, hr, ht⟩ := hs _ e
    exact row_ne h.bytes hr (by rcases ht with rfl | rfl <;> decide) rfl
theorem link_rows {w : World} {B q n : Nat} {init : List Knot} {last : Knot} (h : QuickN w B q (init ++ [last]) n) : ∀ k, (k = q ∨ k = last.x) → ∃ t cs, Row w k t cs ∧ (t = 390 ∨ t = 395) := by
  rintro k (rfl | rfl)
  · exact ⟨_, _, h.links.cell, .inl rfl⟩
  · exact ⟨_, _, h.links.node init.length last.key (by rw [keys_get]; simp), .inr rfl⟩
/-- Behind the link of a new node. -/
theorem links_behind {w w' : World} {B q n p b y : Nat} {init : List Knot} {last : Knot} (h : QuickN w B q (init ++ [last]) n) (hp : PackAt w p b []) (ho : Only (fun k => k = q ∨ k = last.x) w w') (hpn : ∀ nd ∈ init ++ [last], nd.p ≠ p) (hy : B ≤ y) (hpB : B ≤ p)
    (hL : Links w' q ((keys init ++ [(last.x, last.p)]) ++ [(y, p)]) n) : QuickN w' B q ((init ++ [last]) ++ [⟨y, p, b, []⟩]) n := by
  refine ⟨?_, ?_, ?_, h.low, ?_⟩
  · rw [keys_append, keys_append]
    exact hL
  · intro nd hn
    rcases List.mem_append.1 hn with hn | hn
    · exact pack_kept (h.packs nd hn) ho (link_rows h)
    · simp only [List.mem_singleton] at hn
      subst hn
      exact pack_kept hp ho (link_rows h)
  · rw [List.map_append, List.nodup_append]
    refine ⟨h.pdist, by simp, fun a ha b hb => ?_⟩
    obtain ⟨nd, hn, rfl⟩ := List.mem_map.1 ha
    simp only [List.map_cons, List.map_nil, List.mem_singleton] at hb
    subst hb
    exact hpn nd hn
  · intro nd hn
    rcases List.mem_append.1 hn with hn | hn
    · exact h.base nd hn
    · simp only [List.mem_singleton] at hn
      subst hn
      exact ⟨hy, hpB⟩
/-- Behind the pour. -/
theorem poured {w w' : World} {B q n b1 b2 : Nat} {init : List Knot} {last new : Knot} {ys zs : List ByteArray} (h : QuickN w B q ((init ++ [last]) ++ [new]) n) (ho : Only (fun k => k = last.p ∨ k = new.p) w w') (h1 : PackAt w' last.p b1 ys) (h2 : PackAt w' new.p b2 zs) :
    QuickN w' B q ((init ++ [⟨last.x, last.p, b1, ys⟩]) ++ [⟨new.x, new.p, b2, zs⟩]) n := by
  have hc1 := (h.packs last (by simp)).cell
  have hc2 := (h.packs new (by simp)).cell
  have hpd := h.pdist
  have hk : keys ((init ++ [⟨last.x, last.p, b1, ys⟩]) ++ [⟨new.x, new.p, b2, zs⟩]) = keys ((init ++ [last]) ++ [new]) := by simp [keys, Knot.key]
  refine ⟨?_, ?_, ?_, h.low, ?_⟩
  · rw [hk]
    refine h.links.only ho fun k cs t e hr => ?_
    rcases e with e | e
    · subst e
      have := (hc1.eq hr).2
      subst this
      decide
    · subst e
      have := (hc2.eq hr).2
      subst this
      decide
  · intro k hkm
    simp only [List.mem_append, List.mem_singleton] at hkm
    rcases hkm with (hkm | rfl) | rfl
    · have hm : k ∈ (init ++ [last]) ++ [new] := by simp [hkm]
      refine (h.packs k hm).only ho ?_ ?_
      · rintro (e | e)
        · have := (pdist_left (pdist_left hpd).1).2 k hkm last (by simp)
          exact this e
        · exact (pdist_left hpd).2 k (by simp [hkm]) new (by simp) e
      · rintro (e | e)
        · exact row_ne (h.packs k hm).bytes hc1 (by decide) e
        · exact row_ne (h.packs k hm).bytes hc2 (by decide) e
    · exact h1
    · exact h2
  · simpa using hpd
  · intro k hkm
    simp only [List.mem_append, List.mem_singleton] at hkm
    rcases hkm with (hkm | rfl) | rfl
    · exact h.base k (by simp [hkm])
    · exact h.base last (by simp)
    · exact h.base new (by simp)
end Go.Q
namespace Go.Proofs.YtgmljeeeomjooaaGreatDoor
open Go Go.RowKit Go.Q Go.Sort

theorem pour16 (p1 b1 p2 b2 : Nat) (xs : List ByteArray) (hf : xs.length = 32) (hne : p1 ≠ p2) (w : World) (h1 : PackAt w p1 b1 xs) (h2 : PackAt w p2 b2 []) (hG : Glob w) (hg1 : 10 ≤ p1) (hg2 : 10 ≤ p2) :
    Calls Tryz.prog 249 #[.pointer (some ⟨p1, 0, none⟩), .int .i64 16, .pointer (some ⟨p2, 0, none⟩)] w fun e w' => e = .returned (.tuple #[]) ∧ ∃ b1' b2', PackAt w' p1 b1' (xs.take 16) ∧
      PackAt w' p2 b2' (xs.drop 16) ∧ Only (fun k => k = p1 ∨ k = p2) w w' :=
  (pour_any p1 b1 p2 b2 16 xs [] (by omega) (by simp; omega) hne w h1 h2 hG hg1 hg2).mono fun e w' ⟨h, b1', b2', k1, _, k2, _, k3⟩ => ⟨h, b1', b2', k1, k2, k3⟩

set_option maxHeartbeats 3200000 in
set_option maxRecDepth 100000 in
theorem push_split (B q : Nat) (init : List Knot) (last : Knot) (s : ByteArray) (hs : s.size ≤ 65536) (hfull : last.xs.length = 32) (w : World) (h : QuickAt w B q (init ++ [last])) (ht : total (init ++ [last]) < 1000) (hG : Glob w) (hB : 10 ≤ B) :
    Calls Tryz.prog 210 #[.pointer (some ⟨q, 0, none⟩), .int .i64 (total (init ++ [last]) : Int), .string s] w fun e w' => e = .returned (.int .i64 0) ∧
      ∃ (b1 : Nat) (nd : Knot), nd.xs = last.xs.drop 16 ++ [s] ∧ QuickAt w' B q (init ++ [⟨last.x, last.p, b1, last.xs.take 16⟩] ++ [nd]) ∧ Near B q w w' := by
  have htl : total (init ++ [last]) = total init + 32 := by rw [total_append, total_cons, hfull]; simp [total]
  have hfind := find_any q (init ++ [last]) (total (init ++ [last])) init.length last (by simp) 32 (by omega) (.inr (by omega)) (by omega) w h.links h.packs
  rw [List.take_left' rfl, ← htl] at hfind
  have hP := h.packs last (by simp)
  have hX : Row w last.x 395 [.pointer (some ⟨last.p, 0, none⟩), optP (aheadOf (keys (init ++ [last])) init.length), optP (nodeOf (keys (init ++ [last])) (init.length + 1))] := h.links.node init.length last.key (by rw [keys_get]; simp [keys])
  have hQ := h.links.cell
  have hxl := hX.lt
  have hql := hQ.lt
  have hpb := h.base last (by simp)
  have hqp : q ≠ last.p := row_ne hQ hP.cell (by decide)
  have hlen := fun w' (hw : Below w.heap.size w w') => len_any last.p last.b last.xs w' (hP.below hw hP.cell.lt hP.bytes.lt)
  have hcx := fun w' (hw : Below w.heap.size w w') => (hX.cell (i := 0) rfl) ▸ (hw.cell (p := ⟨last.x, 0, none⟩) hxl)
  have hcq0 := hQ.cell (i := 0) rfl
  have hcq1 := hQ.cell (i := 1) rfl
  have hcq3 := hQ.cell (i := 3) rfl
  obtain ⟨x0, hx0⟩ : ∃ x0, nodeOf (keys (init ++ [last])) 0 = some x0 := by
    cases init with
    | nil => exact ⟨_, rfl⟩
    | cons a l => exact ⟨_, rfl⟩
  rw [hx0, optP_some] at hcq1
  have H := Lib.hid h
  have hpl := hP.cell.lt
  have hBw : B ≤ w.heap.size := by omega
  have hTL := Lib.hid htl
  have hBq := h.low
  have hq3f := hQ.free 3
  have hG' := Lib.hid hG
  clear h htl hX hP hQ hx0 hG
  rw [hfull] at hlen
  generalize hN : total (init ++ [last]) = N at *
  go_enter Tryz.func210, Tryz.ntmps210
  go_wp2_with fail
  go_at_call 247
  refine hfind.mono ?_
  rintro e w1 ⟨rfl, hb1⟩
  have c1 := hcx w1 hb1
  have hl1 := hlen w1 hb1
  have H1 : Hid (QuickN w1 B q (init ++ [last]) N) := Lib.hid (hN ▸ H.out.below hb1 (Nat.le_refl _))
  have hG1 := Lib.hid (hG'.out.below hb1 hG'.out.size)
  have hs1 := hb1.size
  clear hlen hfind hcx
  go_wp2_with fail
  go_at_call 248
  refine hl1.mono ?_
  rintro e w' ⟨rfl, rfl⟩
  clear hl1
  go_wp2_with fail
  have hd1 : Below w1.heap.size w1 w1.drew := (Below.refl _ _).drew
  have c1d : w1.drew.cell? ⟨last.x, 0, none⟩ = some (.pointer (some ⟨last.p, 0, none⟩)) := c1
  have H1d := Lib.hid (H1.out.below hd1 (Nat.le_refl _))
  have hnp : ∀ nd ∈ init ++ [last], nd.p ≠ w1.drew.heap.size + 1 := fun nd hn e => by
    have h1 := (H1d.out.packs nd hn).cell.lt
    omega
  have hne2 := hnp last (by simp)
  have hds : w1.drew.heap.size = w1.heap.size := rfl
  go_region_with (first
    | (go_at_call 140; go_must (refine (new_any w1.drew).mono ?_; rintro e w2 ⟨rfl, hpk2, hb2⟩; have H2 := Lib.hid (H1d.out.below hb2 (Nat.le_refl _)); have c2 := (hb2.cell (p := ⟨last.x, 0, none⟩) (Nat.lt_of_lt_of_le hxl hs1)).trans c1d))
    | (go_at_call 246; go_must (refine (link_last q last.x last.p _ N (keys init) _ (by have := H2.out.links; rw [keys_append] at this; exact this)).mono ?_; rintro e w3 ⟨rfl, hL3, ho3⟩; have c3 := row_cell0 hL3; have c4 := row_cell1 hL3; have H3 := Lib.hid (links_behind H2.out hpk2 ho3 hnp (by have := hb2.size; omega) (by omega) hL3); have hG3 := Lib.hid (((hG1.out.below hd1 hG1.out.size).below hb2 hG1.out.size).only ho3 (fun k hk e => by rcases e with e | e <;> omega)); have hPA := H3.out.packs last (by simp); have hPC := H3.out.packs ⟨w2.heap.size, w1.drew.heap.size + 1, w1.drew.heap.size, []⟩ (by simp)))
    | (go_at_call 249; go_must (refine (pour16 last.p last.b (w1.drew.heap.size + 1) w1.drew.heap.size last.xs hfull hne2 w3 hPA hPC hG3.out (by omega) (by omega)).mono ?_; rintro e w4 ⟨rfl, b1', b2', hpA, hpC, ho4⟩; have c5 := cell_past hL3 ho4 hPA.cell hPC.cell)))
  all_goals (
    have H4 := Lib.hid (poured H3.out ho4 hpA hpC)
    have hG4 := hG3.out.only ho4 (fun k hk e => by rcases e with e | e <;> omega)
    have hs2 := hb2.size
    have hs3 := ho3.size
    have hs4 := ho4.size
    have htk : total (init ++ [⟨last.x, last.p, b1', last.xs.take 16⟩]) = total init + 16 := by rw [total_append, total_cons]; simp [total, hfull]
    have ht4 : total ((init ++ [⟨last.x, last.p, b1', last.xs.take 16⟩]) ++ [⟨w2.heap.size, w1.drew.heap.size + 1, b2', last.xs.drop 16⟩]) = N := by
      rw [total_append, htk, hTL.out]; simp [total, hfull]
    have hd16 : (last.xs.drop 16).length = 16 := by simp [hfull]
    have hfind := find_any q _ N (init ++ [(⟨last.x, last.p, b1', last.xs.take 16⟩ : Knot)]).length ⟨w2.heap.size, w1.drew.heap.size + 1, b2', last.xs.drop 16⟩ (by simp) 16 (by simp [hfull]) (.inr (by omega)) (by rw [ht4]; omega) w4 H4.out.links H4.out.packs
    rw [List.take_left' rfl, htk, show total init + 16 + 16 = N by rw [hTL.out]] at hfind
    have hX : Row w4 w2.heap.size 395 [.pointer (some ⟨w1.drew.heap.size + 1, 0, none⟩), _, _] := H4.out.links.node (init ++ [(⟨last.x, last.p, b1', last.xs.take 16⟩ : Knot)]).length (w2.heap.size, w1.drew.heap.size + 1) (by rw [keys_get]; simp [keys, Knot.key])
    have hQ := H4.out.links.cell
    have hxl4 := hX.lt
    have hql4 := hQ.lt
    have hqp4 : q ≠ w1.drew.heap.size + 1 := row_ne hQ hpC.cell (by decide)
    have hins := fun w' (hw : Below w4.heap.size w4 w') => insert_p (w1.drew.heap.size + 1) b2' (last.xs.drop 16) (last.xs.drop 16).length (Nat.le_refl _) s hs (by omega) w' (hpC.below hw hpC.cell.lt hpC.bytes.lt) (hG4.below hw hG4.size) (by omega)
    rw [insAt_end, hd16] at hins
    have hcx2 := fun w' (hw : Below w4.heap.size w4 w') => (hX.cell (i := 0) rfl) ▸ (hw.cell (p := ⟨w2.heap.size, 0, none⟩) hxl4)
    have hq43 := hQ.cell (i := 3) rfl
    have hq4f := hQ.free 3
    have hpl4 := hpC.cell.lt
    have hOld : Near B q w w4 := Only.trans (Only.trans ((Near.of hb1).trans (Near.of (below_drew hb2))) (ho3.mono fun k _ e => e.imp id fun e => by omega)) (ho4.mono fun k _ e => .inr (by rcases e with e | e <;> omega))
    have HO := Lib.hid hOld
    have ht4' := Lib.hid ht4
    have hds' := Lib.hid hds
    clear hpA hpC ho4 hPA hPC hL3 ho3 hb2 hpk2 hX hQ c1 c1d c2 c3 c4 c5 hnp htk hOld H1 H1d H2 H3 hG1 hG4 ht4 hG3 hd1 hb1
    clear hds
    generalize hy : w2.heap.size = y at *
    generalize hp2 : w1.drew.heap.size + 1 = p2 at *
    have hins' : ∀ w', Below w4.heap.size w4 w' → Calls Tryz.prog 250 #[.pointer (some ⟨p2, 0, none⟩), .int .i64 16, .string s] w' fun e w5 => e = .returned (.int .i64 0) ∧ ∃ b', PackAt w5 p2 b' (last.xs.drop 16 ++ [s]) ∧ w'.heap.size ≤ b' ∧ Only (· = p2) w' w5 := hins
    have hfind' : Calls Tryz.prog 247 #[.pointer (some ⟨q, 0, none⟩), .int .i64 (N : Int)] w4 fun e w' => e = .returned (.tuple #[.pointer (some ⟨y, 0, none⟩), .int .i64 16]) ∧ Below w4.heap.size w4 w' := hfind
    clear hins hfind
    go_wp2_with fail
    go_at_call 247
    refine hfind'.mono ?_
    rintro e w5 ⟨rfl, hb5⟩
    have c5 := hcx2 w5 hb5
    have hi5 := hins' w5 hb5
    have hq5 : w5.cell? ⟨q, 3, none⟩ = some (.int .i64 (N : Int)) := (hb5.cell (p := ⟨q, 3, none⟩) hql4).trans hq43
    have hqf5 : w5.frozen? ⟨q, 3, none⟩ = false := (hb5.frozen (p := ⟨q, 3, none⟩) hql4).trans hq4f
    clear hins' hfind' hcx2
    go_wp2_with fail
    go_at_call 250
    refine hi5.mono ?_
    rintro e w6 ⟨rfl, b3, hpk, hbb, hon⟩
    have hs5 := hb5.size
    have hq6 : w6.cell? ⟨q, 3, none⟩ = some (.int .i64 (N : Int)) := (hon.cell (p := ⟨q, 3, none⟩) (by show q < _; omega) hqp4).trans hq5
    have hqf6 : w6.frozen? ⟨q, 3, none⟩ = false := (hon.frozen (p := ⟨q, 3, none⟩) (by show q < _; omega) hqp4).trans hqf5
    clear hi5
    go_wp2_with fail
    go_ret
    refine ⟨rfl, b1', ⟨y, p2, b3, last.xs.drop 16 ++ [s]⟩, rfl, ?_, ?_⟩
    · have hq' := ((H4.out.below hb5 (Nat.le_refl _)).put (pre := init ++ [⟨last.x, last.p, b1', last.xs.take 16⟩]) (post := []) hon hpk).count (N + 1)
      have e : total ((init ++ [⟨last.x, last.p, b1', last.xs.take 16⟩]) ++ [⟨y, p2, b3, last.xs.drop 16 ++ [s]⟩]) = N + 1 := by
        have h4 := ht4'.out
        rw [total_append] at h4 ⊢
        simp only [total, List.map_cons, List.map_nil, List.sum_cons, List.sum_nil, List.length_append, List.length_cons, List.length_nil] at h4 ⊢
        omega
      unfold QuickAt
      rw [e]
      exact hq'
    · have hBp2 : B ≤ p2 := by have := hds'.out; omega
      exact ((HO.out.trans (Near.of hb5)).pack hon hBp2).set 3 _)

end Go.Proofs.YtgmljeeeomjooaaGreatDoor

/-
  quick.Insert at the end, whole; quick.join where nothing is joined; quick.Get: contracts.
-/
namespace Go.Q
open Go Go.RowKit

theorem bel_drewN {B : Nat} {a w : World} (h : Below B a w) (n : Nat) : Below B a (w.drewN n) := ⟨h.os, h.tape, h.output, h.size, h.block⟩
theorem total_pos {ns : List Knot} : total ns = (texts ns).length := (texts_length ns).symm

end Go.Q
namespace Go.Proofs.YtgmljeeeomjooaaGreatDoor
open Go Go.RowKit Go.Q Go.Sort

/-- A text at the end. -/
theorem push_end (B q : Nat) (ns : List Knot) (hf : Filled ns) (s : ByteArray) (hs : s.size ≤ 65536) (w : World) (h : QuickAt w B q ns) (hlt : (texts ns).length < 1000) (hG : Glob w) (hB : 10 ≤ B) (hBw : B ≤ w.heap.size) :
    Calls Tryz.prog 210 #[.pointer (some ⟨q, 0, none⟩), .int .i64 ((texts ns).length : Int), .string s] w fun e w' => e = .returned (.int .i64 0) ∧
      ∃ ns', QuickAt w' B q ns' ∧ Filled ns' ∧ texts ns' = texts ns ++ [s] ∧ Near B q w w' := by
  rw [texts_length] at hlt ⊢
  rcases hf with rfl | ⟨init, last, rfl, h16, h1, h32, h17⟩
  · refine (push_first B q s hs w h hG hB hBw).mono ?_
    rintro e w' ⟨rfl, nd, hx, hq, hb⟩
    refine ⟨rfl, [nd], hq, .inr ⟨[], nd, rfl, by simp, by simp [hx], by simp [hx], by simp⟩, by simp [texts, hx], hb⟩
  · by_cases hfull : last.xs.length = 32
    · refine (push_split B q init last s hs hfull w h hlt hG hB).mono ?_
      rintro e w' ⟨rfl, b1, nd, hx, hq, hb⟩
      refine ⟨rfl, _, hq, .inr ⟨_, nd, rfl, ?_, by simp [hx], by simp [hx, hfull], by simp [hx, hfull]⟩, ?_, hb⟩
      · intro k hk
        rcases List.mem_append.1 hk with hk | hk
        · exact h16 k hk
        · simp only [List.mem_singleton] at hk
          subst hk
          simp [hfull]
      · rw [texts_append, texts_append, texts_append]
        simp only [texts, List.flatMap_cons, List.flatMap_nil, List.append_nil, hx, List.append_assoc]
        rw [← List.append_assoc (List.take 16 _), List.take_append_drop]
    · refine (push_room B q init last s hs (by omega) (.inr (by omega)) w h hlt hG hB).mono ?_
      rintro e w' ⟨rfl, b', hq, hb⟩
      refine ⟨rfl, _, hq, .inr ⟨init, _, rfl, h16, by simp, by simp; omega, ?_⟩, ?_, hb⟩
      · intro hne
        have := h17 hne
        simp; omega
      · rw [texts_append, texts_append]
        simp [texts]

set_option maxHeartbeats 1600000 in
set_option maxRecDepth 100000 in
theorem join_nil (q : Nat) (w : World) :
    Calls Tryz.prog 588 #[.pointer (some ⟨q, 0, none⟩), .pointer none] w fun e w' => e = .returned (.bool false) ∧ Below w.heap.size w w' := by
  have hr : Below w.heap.size w w := Below.refl _ _
  go_enter Tryz.func588, Tryz.ntmps588
  go_wp2_with fail
  go_quiet (fail)
  go_wp2_with fail
  go_ret
  exact ⟨rfl, bel_drewN hr _⟩

set_option maxHeartbeats 1600000 in
set_option maxRecDepth 100000 in
theorem join_end (q x : Nat) (a b : Value) (w : World) (h : Row w x 395 [a, b, .pointer none]) :
    Calls Tryz.prog 588 #[.pointer (some ⟨q, 0, none⟩), .pointer (some ⟨x, 0, none⟩)] w fun e w' => e = .returned (.bool false) ∧ Below w.heap.size w w' := by
  have hr : Below w.heap.size w w := Below.refl _ _
  have c2 := h.cell (i := 2) rfl
  go_enter Tryz.func588, Tryz.ntmps588
  go_wp2_with fail
  go_quiet (fail)
  go_wp2_with fail
  go_ret
  exact ⟨rfl, bel_drewN hr _⟩

set_option maxHeartbeats 1600000 in
set_option maxRecDepth 100000 in
theorem join_big (q x p b y p' b' : Nat) (u u1 u2 : Value) (xs ys : List ByteArray) (w : World) (h : Row w x 395 [.pointer (some ⟨p, 0, none⟩), u, .pointer (some ⟨y, 0, none⟩)]) (k : Row w y 395 [.pointer (some ⟨p', 0, none⟩), u1, u2])
    (hp : PackAt w p b xs) (kp : PackAt w p' b' ys) (hbig : 16 < xs.length + ys.length) :
    Calls Tryz.prog 588 #[.pointer (some ⟨q, 0, none⟩), .pointer (some ⟨x, 0, none⟩)] w fun e w' => e = .returned (.bool false) ∧ Below w.heap.size w w' := by
  have hr : Below w.heap.size w w := Below.refl _ _
  have c0 := h.cell (i := 0) rfl
  have c2 := h.cell (i := 2) rfl
  have d0 := k.cell (i := 0) rfl
  have hl1 := fun n => Calls.quiet_of_same ((len_any p b xs (w.drewN n) (hp.drewN n)).mono fun e w' ⟨h, k⟩ => ⟨h, k.symm⟩)
  have hl2 := fun n => Calls.quiet_of_same ((len_any p' b' ys (w.drewN n) (kp.drewN n)).mono fun e w' ⟨h, k⟩ => ⟨h, k.symm⟩)
  have m1 := hp.many
  have m2 := kp.many
  have hbig' : (16 : Int) < (xs.length : Int) + (ys.length : Int) := by omega
  generalize xs.length = m at *
  generalize ys.length = m' at *
  clear h k hp kp
  go_enter Tryz.func588, Tryz.ntmps588
  go_wp2_with fail
  go_quiet (first
    | (go_at_call_of 248 p; exact hl1 _)
    | (go_at_call_of 248 p'; exact hl2 _))
  go_wp2_with fail
  go_ret
  exact ⟨rfl, bel_drewN hr _⟩

set_option maxHeartbeats 1600000 in
set_option maxRecDepth 100000 in
theorem quickGet_any (B q : Nat) (pre : List Knot) (nd : Knot) (post : List Knot) (j : Nat) (hj : j < nd.xs.length) (w : World) (h : QuickAt w B q (pre ++ nd :: post)) (ht : total (pre ++ nd :: post) ≤ 1000) (hG : Glob w) :
    Calls Tryz.prog 584 #[.pointer (some ⟨q, 0, none⟩), .int .i64 ((total pre + j : Nat) : Int)] w fun e w' => e = .returned (.tuple #[.string nd.xs[j], .bool true]) ∧ Below w.heap.size w w' := by
  have htl : total (pre ++ nd :: post) = total pre + (nd.xs.length + total post) := by rw [total_append, total_cons]
  have hpl := quickPlace_any q _ (total (pre ++ nd :: post)) (total pre + j) (by omega) ht w h.links
  have hfind := find_any q (pre ++ nd :: post) (total (pre ++ nd :: post)) pre.length nd (by simp) (j + 1) (by omega) (.inr (by omega)) ht w h.links h.packs
  rw [List.take_left' rfl] at hfind
  have hP := h.packs nd (by simp)
  have hX : Row w nd.x 395 [.pointer (some ⟨nd.p, 0, none⟩), _, _] := h.links.node pre.length nd.key (by rw [keys_get]; simp)
  have hxl := hX.lt
  have hget := fun w' (hw : Below w.heap.size w w') => get_any nd.p nd.b nd.xs j hj w' (hP.below hw hP.cell.lt hP.bytes.lt) (hG.below hw hG.size)
  have hcx := fun w' (hw : Below w.heap.size w w') => (hX.cell (i := 0) rfl) ▸ (hw.cell (p := ⟨nd.x, 0, none⟩) hxl)
  have hsum : total pre + j ≤ 1000 := by omega
  have hj1000 : j ≤ 1000 := by omega
  clear h hX hP hG ht htl
  have e1 : ((total pre + (j + 1) : Nat) : Int) = ((total pre + j : Nat) : Int) + 1 := by omega
  have e2 : ((j + 1 : Nat) : Int) = (j : Int) + 1 := by omega
  rw [e1, e2] at hfind
  clear e1 e2
  generalize nd.xs[j] = s at *
  generalize total pre + j = K at *
  go_enter Tryz.func584, Tryz.ntmps584
  go_wp2_with fail
  go_at_call 589
  refine hpl.mono ?_
  rintro e w' ⟨rfl, rfl⟩
  go_wp2_with fail
  go_at_call 247
  refine hfind.mono ?_
  rintro e w1 ⟨rfl, hb1⟩
  have c1 := hcx w1 hb1
  have g1 := hget w1 hb1
  clear hcx hget hfind hpl
  go_wp2_with fail
  go_at_call 395
  refine g1.mono ?_
  rintro e w2 ⟨rfl, hb2⟩
  go_wp2_with fail
  go_ret2
  exact ⟨rfl, b_call hb2 hb1⟩

end Go.Proofs.YtgmljeeeomjooaaGreatDoor

/-
  quick.find where there is no node; quick.Delete of one text: contracts.
-/
namespace Go.Q
open Go Go.RowKit

/-- No two neighbours are so small that they would be joined. -/
def Apart (ns : List Knot) : Prop := ∀ i a b, ns[i]? = some a → ns[i + 1]? = some b → 16 < a.xs.length + b.xs.length

/-- Where find comes to. -/
theorem place_of : ∀ (ns : List Knot) (k : Nat), ns ≠ [] → k ≤ total ns → ∃ i nd pl, ns[i]? = some nd ∧ k = total (ns.take i) + pl ∧ pl ≤ nd.xs.length ∧ (i = 0 ∨ 0 < pl)
  | [], _, h, _ => absurd rfl h
  | nd :: ns, k, _, hk => by
    rw [total_cons] at hk
    by_cases h : k ≤ nd.xs.length
    · exact ⟨0, nd, k, rfl, by simp [total], h, .inl rfl⟩
    · have hne : ns ≠ [] := by
        rintro rfl
        simp [total] at hk
        omega
      obtain ⟨i, n2, pl, h1, h2, h3, h4⟩ := place_of ns (k - nd.xs.length) hne (by omega)
      refine ⟨i + 1, n2, pl, h1, ?_, h3, .inr ?_⟩
      · rw [List.take_succ_cons, total_cons]; omega
      · rcases h4 with rfl | h4
        · simp [total] at h2
          omega
        · exact h4

end Go.Q
namespace Go.Proofs.YtgmljeeeomjooaaGreatDoor
open Go Go.RowKit Go.Q Go.Sort

set_option maxHeartbeats 1600000 in
set_option maxRecDepth 100000 in
theorem find_nil (q n : Nat) (w : World) (hL : Links w q [] n) (N : Int) :
    Calls Tryz.prog 247 #[.pointer (some ⟨q, 0, none⟩), .int .i64 N] w fun e w' => e = .returned (.tuple #[.pointer none, .int .i64 0]) ∧ Below w.heap.size w w' := by
  have bF := Boxed.new (w.alloc (.cells #[.int .i64 N] 3)) 388 (.pointer none)
  have bP := Boxed.new ((w.alloc (.cells #[.int .i64 N] 3)).alloc (.cells #[.pointer none] 388)) 3 (.int .i64 0)
  have hB0 : Below w.heap.size w (((w.alloc (.cells #[.int .i64 N] 3)).alloc (.cells #[.pointer none] 388)).alloc (.cells #[.int .i64 0] 3)) := (((Below.refl _ w).alloc (Nat.le_refl _) _).alloc (by simp) _).alloc (by simp; omega) _
  rw [World.size_alloc] at bF bP
  rw [World.size_alloc] at bP
  have heach := each_any 305 #[.pointer (some ⟨w.heap.size, 0, none⟩), .pointer (some ⟨w.heap.size + 1, 0, none⟩), .pointer (some ⟨w.heap.size + 1 + 1, 0, none⟩)] q [] n
    (fun _ W => Boxed W (w.heap.size + 1) 388 (.pointer none) ∧ Boxed W (w.heap.size + 1 + 1) 3 (.int .i64 0) ∧ Below w.heap.size w W) (fun _ => False) _
    (enters_of Tryz.func305 (by kernel_rfl) rfl)
    (fun j W hI => hL.below hI.2.2 (Nat.le_refl _))
    (by intro j k hk; simp at hk)
    ⟨bF.alloc _, bP, hB0⟩
  clear bF bP hB0
  go_enter Tryz.func247, Tryz.ntmps247
  go_wp2_with fail
  go_at_call 304
  refine heach.mono ?_
  rintro e w2 ⟨rfl, ⟨h1, h2, h3⟩ | h⟩
  · have c1 := h1.cell
    have c2 := h2.cell
    have f1 := h1.frozen
    have f2 := h2.frozen
    clear heach
    go_wp2_with fail
    go_region
    all_goals
      go_wp2_with fail
      try simp only [Exit.inBlock, Exit.then]
      have e1 : Boxed (((w2.setCell ⟨w.heap.size + 1, 0, none⟩ (.pointer none)).setCell ⟨w.heap.size + 1 + 1, 0, none⟩ (.int .i64 0)).drew) (w.heap.size + 1) 388 (.pointer none) := (h1.set _).other (by omega) _
      have e2 : Boxed (((w2.setCell ⟨w.heap.size + 1, 0, none⟩ (.pointer none)).setCell ⟨w.heap.size + 1 + 1, 0, none⟩ (.int .i64 0)).drew) (w.heap.size + 1 + 1) 3 (.int .i64 0) := (h2.other (by omega) _).set _
      have g1 := e1.cell
      have g2 := e2.cell
      refine bodyPost_ret (v := .tuple #[.pointer none, .int .i64 0]) ?_ rfl ⟨rfl, ?_⟩
      · simp [results, Tryz.f247, go_sem, g1, g2]
      · exact ((h3.setCell (p := ⟨w.heap.size + 1, 0, none⟩) (by simp) _).setCell (p := ⟨w.heap.size + 1 + 1, 0, none⟩) (by simp; omega) _).drew
  · exact h.elim

/-- join, at a node or at none: nothing is joined. -/
theorem join_no (B q : Nat) (ns : List Knot) (n : Nat) (ha : Apart ns) (w : World) (h : QuickN w B q ns n) (i : Nat) (nd : Knot) (hi : ns[i]? = some nd) :
    Calls Tryz.prog 588 #[.pointer (some ⟨q, 0, none⟩), .pointer (some ⟨nd.x, 0, none⟩)] w fun e w' => e = .returned (.bool false) ∧ Below w.heap.size w w' := by
  have hr := h.links.node i nd.key (by rw [keys_get, hi]; rfl)
  rcases hn : ns[i + 1]? with _ | nx
  · have e : nodeOf (keys ns) (i + 1) = none := by unfold nodeOf; rw [keys_get, hn]; rfl
    rw [e] at hr
    exact join_end q nd.x _ _ w hr
  · have e : nodeOf (keys ns) (i + 1) = some nx.x := by unfold nodeOf; rw [keys_get, hn]; rfl
    rw [e] at hr
    have hk := h.links.node (i + 1) nx.key (by rw [keys_get, hn]; rfl)
    exact join_big q nd.x nd.p nd.b nx.x nx.p nx.b _ _ _ nd.xs nx.xs w hr hk (h.packs nd (List.mem_of_getElem? hi)) (h.packs nx (List.mem_of_getElem? hn)) (ha i nd nx hi hn)

set_option maxHeartbeats 3200000 in
set_option maxRecDepth 100000 in
/-- One text goes; its pack is not empty then, and nothing is joined. -/
theorem del_one (B q : Nat) (pre : List Knot) (nd : Knot) (post : List Knot) (j : Nat) (hj : j < nd.xs.length) (hmore : 1 < nd.xs.length) (w : World) (h : QuickAt w B q (pre ++ nd :: post)) (ht : total (pre ++ nd :: post) ≤ 1000) (hG : Glob w) (hB : 10 ≤ B)
    (hap : ∀ b, Apart (pre ++ (⟨nd.x, nd.p, b, delAt nd.xs j 1⟩ : Knot) :: post)) :
    Calls Tryz.prog 583 #[.pointer (some ⟨q, 0, none⟩), .int .i64 ((total pre + j : Nat) : Int), .int .i64 1] w fun e w' => e = .returned (.int .i64 0) ∧
      ∃ b', QuickAt w' B q (pre ++ ⟨nd.x, nd.p, b', delAt nd.xs j 1⟩ :: post) ∧ Near B q w w' := by
  have htl : total (pre ++ nd :: post) = total pre + (nd.xs.length + total post) := by rw [total_append, total_cons]
  have hfind := find_any q (pre ++ nd :: post) (total (pre ++ nd :: post)) pre.length nd (by simp) (j + 1) (by omega) (.inr (by omega)) ht w h.links h.packs
  rw [List.take_left' rfl] at hfind
  have hP := h.packs nd (by simp)
  have hX : Row w nd.x 395 [.pointer (some ⟨nd.p, 0, none⟩), optP (aheadOf (keys (pre ++ nd :: post)) pre.length), optP (nodeOf (keys (pre ++ nd :: post)) (pre.length + 1))] := h.links.node pre.length nd.key (by rw [keys_get]; simp)
  have hQ := h.links.cell
  have hql := hQ.lt
  have hBq := h.low
  have hpb := h.base nd (by simp)
  have hqx : q ≠ nd.x := row_ne hQ hX (by decide)
  have hqp : q ≠ nd.p := row_ne hQ hP.cell (by decide)
  have hcq0 := hQ.cell (i := 0) rfl
  have hcq3 := hQ.cell (i := 3) rfl
  have hq3f := hQ.free 3
  have e1 : ((total pre + (j + 1) : Nat) : Int) = ((total pre + j : Nat) : Int) + 1 := by omega
  have e2 : ((j + 1 : Nat) : Int) = (j : Int) + 1 := by omega
  rw [e1, e2] at hfind
  have hj1000 : j ≤ 1000 := by omega
  have hK : total pre + j < total (pre ++ nd :: post) := by omega
  have H := Lib.hid h
  have hG' := Lib.hid hG
  have hap' := Lib.hid hap
  have htl' := Lib.hid htl
  have hjl := Lib.hid hj
  have hml := Lib.hid hmore
  clear h hX hQ hP hG hap htl e1 e2
  generalize hKK : total pre + j = K at *
  generalize hNN : total (pre ++ nd :: post) = N at *
  have hKi : (K : Int) < N := by omega
  have hN1 : ((N - 1 : Nat) : Int) = (N : Int) - 1 := by omega
  have hN1' := Lib.hid hN1
  clear hN1
  go_enter Tryz.func583, Tryz.ntmps583
  go_wp2_with fail
  go_step3
  go_wp2_with fail
  go_at_call 247
  refine hfind.mono ?_
  rintro e w1 ⟨rfl, hb1⟩
  have hq1 : w1.cell? ⟨q, 3, none⟩ = some (.int .i64 (N : Int)) := (hb1.cell (p := ⟨q, 3, none⟩) hql).trans hcq3
  have hqf1 : w1.frozen? ⟨q, 3, none⟩ = false := (hb1.frozen (p := ⟨q, 3, none⟩) hql).trans hq3f
  have H1 : Hid (QuickN w1 B q (pre ++ nd :: post) N) := Lib.hid (hNN ▸ H.out.below hb1 (Nat.le_refl _))
  have H2 : Hid (QuickN (w1.setCell ⟨q, 3, none⟩ (.int .i64 ((N : Int) - 1))) B q (pre ++ nd :: post) (N - 1)) := Lib.hid (hN1'.out ▸ H1.out.count (N - 1))
  have hO2 : Hid (Near B q w (w1.setCell ⟨q, 3, none⟩ (.int .i64 ((N : Int) - 1)))) := Lib.hid ((Near.of hb1).set 3 _)
  have hG2 : Hid (Glob (w1.setCell ⟨q, 3, none⟩ (.int .i64 ((N : Int) - 1)))) := Lib.hid ((hG'.out.below hb1 hG'.out.size).only ((Only.refl (· = q) w1).setCell ⟨q, 3, none⟩ (fun _ => rfl) _) (fun k hk e => by omega))
  clear hfind
  go_wp2_with fail
  go_step3
  generalize w1.setCell ⟨q, 3, none⟩ (.int .i64 ((N : Int) - 1)) = w2 at *
  have hP2 := H2.out.packs nd (by simp)
  have hX2 : Row w2 nd.x 395 [.pointer (some ⟨nd.p, 0, none⟩), optP (aheadOf (keys (pre ++ nd :: post)) pre.length), optP (nodeOf (keys (pre ++ nd :: post)) (pre.length + 1))] := H2.out.links.node pre.length nd.key (by rw [keys_get]; simp)
  have c20 := hX2.cell (i := 0) rfl
  have c22 := hX2.cell (i := 2) rfl
  have hlen2 := len_any nd.p nd.b nd.xs w2 hP2
  have hdel2 := delete_p nd.p nd.b nd.xs j 1 (by omega) (by have := htl'.out; omega) w2 hP2 hG2.out (by omega)
  have hM := hP2.many
  have hMj : (j : Int) < (nd.xs.length : Int) := by omega
  have hX2' := Lib.hid hX2
  have hP2' := Lib.hid hP2
  clear hX2 hP2
  generalize hv : optP (nodeOf (keys (pre ++ nd :: post)) (pre.length + 1)) = v at *
  go_wp2_with fail
  refine wp_loop_rounds 1 ?_
  rw [rounds_succ]
  go_wp2_with fail
  go_at_call 248
  refine hlen2.mono ?_
  rintro e w' ⟨rfl, rfl⟩
  go_wp2_with fail
  have hmin : min 1 ((nd.xs.length : Int) - (j : Int)) = 1 := by omega
  rw [hmin]
  clear hmin
  go_at_call 308
  refine hdel2.mono ?_
  rintro e w3 ⟨rfl, b', hpk, hbb, hon⟩
  have H3 := Lib.hid (H2.out.put (pre := pre) (post := post) hon hpk)
  have hO3 : Hid (Near B q w w3) := Lib.hid (hO2.out.pack hon hpb.2)
  have hG3 := Lib.hid (hG2.out.only hon (fun k hk e => by omega))
  have c30 : w3.cell? ⟨nd.x, 0, none⟩ = some (.pointer (some ⟨nd.p, 0, none⟩)) := (hX2'.out.only hon (row_ne hX2'.out hP2'.out.cell (by decide))).cell (i := 0) rfl
  have c32 : w3.cell? ⟨nd.x, 2, none⟩ = some v := (hX2'.out.only hon (row_ne hX2'.out hP2'.out.cell (by decide))).cell (i := 2) rfl
  have hlen3 := len_any nd.p b' (delAt nd.xs j 1) w3 hpk
  have hdl : (delAt nd.xs j 1).length = nd.xs.length - 1 := delAt_length (by omega)
  have hne0 : ¬ (((delAt nd.xs j 1).length : Nat) : Int) = 0 := by rw [hdl]; have := hml.out; omega
  have hpk' := Lib.hid hpk
  have hdl' := Lib.hid hdl
  clear hpk hdl hdel2 hlen2
  generalize hL3 : (delAt nd.xs j 1).length = L3 at *
  go_wp2_with fail
  go_at_call 248
  refine hlen3.mono ?_
  rintro e w' ⟨rfl, rfl⟩
  obtain ⟨iy, ndy, pl, hiy, hKy, hply, hcy⟩ := place_of (pre ++ ⟨nd.x, nd.p, b', delAt nd.xs j 1⟩ :: post) K (by simp) (by
    rw [total_append, total_cons, hL3]
    have := hdl'.out
    have := hjl.out
    omega)
  have htot : total (pre ++ (⟨nd.x, nd.p, b', delAt nd.xs j 1⟩ : Knot) :: post) = N - 1 := by
    rw [total_append, total_cons, hL3]
    have := htl'.out
    have := hdl'.out
    have := hml.out
    omega
  have hfind3 := find_any q _ (N - 1) iy ndy hiy pl hply hcy (by omega) w3 H3.out.links H3.out.packs
  rw [← hKy] at hfind3
  have hjoin3 := fun w' (hw : Below w3.heap.size w3 w') => join_no B q _ (N - 1) (hap'.out b') w' (H3.out.below hw (Nat.le_refl _)) iy ndy hiy
  have hYr := H3.out.links.node iy ndy.key (by rw [keys_get, hiy]; rfl)
  have hYr' : Row w3 ndy.x 395 [.pointer (some ⟨ndy.p, 0, none⟩), optP (aheadOf (keys (pre ++ (⟨nd.x, nd.p, b', delAt nd.xs j 1⟩ : Knot) :: post)) iy), optP (nodeOf (keys (pre ++ (⟨nd.x, nd.p, b', delAt nd.xs j 1⟩ : Knot) :: post)) (iy + 1))] := hYr
  have hjoinA : ∀ w', Below w3.heap.size w3 w' → Calls Tryz.prog 588 #[.pointer (some ⟨q, 0, none⟩), optP (aheadOf (keys (pre ++ (⟨nd.x, nd.p, b', delAt nd.xs j 1⟩ : Knot) :: post)) iy)] w' fun e w'' => e = .returned (.bool false) ∧ Below w'.heap.size w' w'' := by
    intro w' hw
    cases iy with
    | zero => exact join_nil q w'
    | succ i =>
      have hil := (List.getElem?_eq_some_iff.1 hiy).1
      have hg : (pre ++ (⟨nd.x, nd.p, b', delAt nd.xs j 1⟩ : Knot) :: post)[i]? = some (pre ++ (⟨nd.x, nd.p, b', delAt nd.xs j 1⟩ : Knot) :: post)[i] := List.getElem?_eq_getElem (by omega)
      have e : aheadOf (keys (pre ++ (⟨nd.x, nd.p, b', delAt nd.xs j 1⟩ : Knot) :: post)) (i + 1) = some (pre ++ (⟨nd.x, nd.p, b', delAt nd.xs j 1⟩ : Knot) :: post)[i].x := by
        rw [aheadOf_succ]; unfold nodeOf; rw [keys_get, hg]; rfl
      rw [e]
      exact join_no B q _ (N - 1) (hap'.out b') w' (H3.out.below hw (Nat.le_refl _)) i _ hg
  have hya := fun w' (hw : Below w3.heap.size w3 w') => (hYr'.cell (i := 1) rfl) ▸ (hw.cell (p := ⟨ndy.x, 1, none⟩) hYr'.lt)
  have htot' := Lib.hid htot
  clear hYr hYr' hKy hply hcy hiy htot
  generalize optP (aheadOf (keys (pre ++ (⟨nd.x, nd.p, b', delAt nd.xs j 1⟩ : Knot) :: post)) iy) = va at *
  generalize ndy.x = y at *
  generalize (pl : Int) = pli at *
  clear hlen3
  go_wp2_with fail
  go_at_call 247
  refine hfind3.mono ?_
  rintro e w4 ⟨rfl, hb4⟩
  have hj4 := hjoin3 w4 hb4
  clear hjoin3 hfind3
  go_wp2_with fail
  refine wp_loop_rounds 1 ?_
  rw [rounds_succ]
  go_wp2_with fail
  go_at_call 588
  refine hj4.mono ?_
  rintro e w5 ⟨rfl, hb5⟩
  have hb35 := b_call hb5 hb4
  have cy := hya w5 hb35
  have hj5 := hjoinA w5 hb35
  clear hj4 hjoinA hya
  go_wp2_with fail
  refine wp_loop_rounds 1 ?_
  rw [rounds_succ]
  go_wp2_with fail
  go_at_call 588
  refine hj5.mono ?_
  rintro e w6 ⟨rfl, hb6⟩
  have hb36 := b_call hb6 hb35
  go_wp2_with fail
  rw [Exit.noGoto_ret]
  go_ret
  refine ⟨rfl, b', ?_, ?_⟩
  · have := H3.out.below hb36 (Nat.le_refl _)
    rw [← htot'.out] at this
    exact this
  · exact hO3.out.trans (Near.of hb36)

end Go.Proofs.YtgmljeeeomjooaaGreatDoor
