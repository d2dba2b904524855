/-
  reply.Call.Did: the effect of a command that changed its first key.
-/
import Derived.Test.YtgmljeeeomjooaaGreatDoorQr
import Derived.Test.YtgmljeeeomjooaaGreatDoorQm
import Derived.Deep.RegionHeld3
import Derived.BigQuiet
import Derived.Test.YtgmljeeeomjooaaGreatDoorQs
set_option linter.all false
/-
  reply.Call.Did: the effect of a command that changed its first key.
-/
namespace Go.Q
open Go Go.RowKit

/-- A cell's value, whatever it is. -/
def zfOf (e : Nat) (w : World) (i : Nat) : Value := (w.cell? ⟨e, i, none⟩).getD undef
/-- What stays while an effect is made. -/
def DInv (w : World) (B : List Value) (w' : World) : Prop := Below w.heap.size w w' ∧ Row w' w.heap.size 33 B ∧ ∃ e0 e1 e2 e3 e4 e5, Row w' (w.heap.size + 1) 36 [e0, e1, e2, e3, e4, e5]
theorem DInv.call {w w' w'' : World} {B : List Value} (hb : Below w'.heap.size w' w'') (h : DInv w B w') : DInv w B w'' := by
  obtain ⟨h1, h2, e0, e1, e2, e3, e4, e5, h3⟩ := h
  exact ⟨h1.trans (hb.mono h1.size), row_below h2 hb (Nat.le_refl _), e0, e1, e2, e3, e4, e5, row_below h3 hb (Nat.le_refl _)⟩
theorem DInv.alloc {w w' : World} {B : List Value} (o : Obj) (h : DInv w B w') : DInv w B (w'.alloc o) := DInv.call ((Below.refl _ w').alloc (Nat.le_refl _) o) h
theorem DInv.bel {w w' : World} {B : List Value} (h : DInv w B w') : Below w.heap.size w w' := h.1
theorem DInv.allocD {w w' : World} {B : List Value} (o : Obj) (h : DInv w B w'.drew) : DInv w B (w'.alloc o).drew := by
  obtain ⟨h1, h2, e0, e1, e2, e3, e4, e5, h3⟩ := h
  have h1' : Below w.heap.size w w' := ⟨h1.os, h1.tape, h1.output, h1.size, h1.block⟩
  have h2' : Row w' w.heap.size 33 B := h2
  have h3' : Row w' (w.heap.size + 1) 36 [e0, e1, e2, e3, e4, e5] := h3
  exact ⟨(h1'.alloc h1'.size o).drew, h2'.alloc o, e0, e1, e2, e3, e4, e5, h3'.alloc o⟩
theorem DInv.set {w w' : World} {B : List Value} (i : Nat) (v : Value) (h : DInv w B w') : DInv w B (w'.setCell ⟨w.heap.size + 1, i, none⟩ v) := by
  obtain ⟨h1, h2, e0, e1, e2, e3, e4, e5, h3⟩ := h
  refine ⟨h1.setCell (p := ⟨w.heap.size + 1, i, none⟩) (Nat.le_succ _) v, h2.set_ne (by simp) v, ?_⟩
  have h4 := h3.set i v
  rcases i with _ | _ | _ | _ | _ | _ | i
  all_goals exact ⟨_, _, _, _, _, _, h4⟩
theorem DInv.store {w w' : World} {B : List Value} (v0 v1 v2 v3 v4 v5 : Value) (h : DInv w B w') : DInv w B ((((((w'.setCell ⟨w.heap.size + 1, 0, none⟩ v0).setCell ⟨w.heap.size + 1, 1, none⟩ v1).setCell ⟨w.heap.size + 1, 2, none⟩ v2).setCell ⟨w.heap.size + 1, 3, none⟩ v3).setCell ⟨w.heap.size + 1, 4, none⟩ v4).setCell ⟨w.heap.size + 1, 5, none⟩ v5) :=
  (((((h.set 0 v0).set 1 v1).set 2 v2).set 3 v3).set 4 v4).set 5 v5
theorem sfD {w w' : World} {kd n : Int} {s : ByteArray} {c g off len cap : Nat} {zf : World → Nat → Value} (hzf : zf = zfOf (w.heap.size + 1)) (hcl : c < w.heap.size) (hgl : g < w.heap.size) (hc4 : w.cell? ⟨c, 4, none⟩ = some (.slice (some ⟨g, off, none⟩) len cap)) (hk : w.cell? ⟨g, off + 1, none⟩ = some (.string ⟨#[108]⟩))
    (h : DInv w [.int .u8 kd, .string s, .int .i64 n, .slice none 0 0] w') : w'.cell? ⟨w.heap.size, 0, none⟩ = some (.int .u8 kd) ∧ w'.cell? ⟨w.heap.size, 1, none⟩ = some (.string s) ∧ w'.cell? ⟨w.heap.size, 2, none⟩ = some (.int .i64 n) ∧ w'.cell? ⟨w.heap.size, 3, none⟩ = some (.slice none 0 0) ∧ w'.cell? ⟨c, 4, none⟩ = some (.slice (some ⟨g, off, none⟩) len cap) ∧ w'.cell? ⟨g, off + 1, none⟩ = some (.string ⟨#[108]⟩) ∧ w'.cell? ⟨w.heap.size + 1, 0, none⟩ = some (zf w' 0) ∧ w'.cell? ⟨w.heap.size + 1, 1, none⟩ = some (zf w' 1) ∧ w'.cell? ⟨w.heap.size + 1, 2, none⟩ = some (zf w' 2) ∧ w'.cell? ⟨w.heap.size + 1, 3, none⟩ = some (zf w' 3) ∧ w'.cell? ⟨w.heap.size + 1, 4, none⟩ = some (zf w' 4) ∧ w'.cell? ⟨w.heap.size + 1, 5, none⟩ = some (zf w' 5) ∧ w'.frozen? ⟨w.heap.size + 1, 0, none⟩ = false ∧ w'.frozen? ⟨w.heap.size + 1, 1, none⟩ = false ∧ w'.frozen? ⟨w.heap.size + 1, 2, none⟩ = false ∧ w'.frozen? ⟨w.heap.size + 1, 3, none⟩ = false ∧ w'.frozen? ⟨w.heap.size + 1, 4, none⟩ = false ∧ w'.frozen? ⟨w.heap.size + 1, 5, none⟩ = false := by
  obtain ⟨h1, h2, e0, e1, e2, e3, e4, e5, h3⟩ := h
  subst hzf
  have z0 := h3.cell (i := 0) rfl
  have z1 := h3.cell (i := 1) rfl
  have z2 := h3.cell (i := 2) rfl
  have z3 := h3.cell (i := 3) rfl
  have z4 := h3.cell (i := 4) rfl
  have z5 := h3.cell (i := 5) rfl
  refine ⟨h2.cell (i := 0) rfl, h2.cell (i := 1) rfl, h2.cell (i := 2) rfl, h2.cell (i := 3) rfl, (h1.cell (p := ⟨c, 4, none⟩) hcl).trans hc4, (h1.cell (p := ⟨g, off + 1, none⟩) hgl).trans hk, ?_, ?_, ?_, ?_, ?_, ?_, h3.free 0, h3.free 1, h3.free 2, h3.free 3, h3.free 4, h3.free 5⟩
  all_goals simp [zfOf, z0, z1, z2, z3, z4, z5]

end Go.Q
namespace Go.Proofs.YtgmljeeeomjooaaGreatDoor
open Go Go.RowKit Go.Q Go.Sort

set_option maxHeartbeats 6400000 in
set_option maxRecDepth 100000 in
theorem did_any (c : Nat) (s0 x0 x1 x2 C nm : Value) (kd : Int) (s : ByteArray) (n : Int) (g off cap len : Nat) (hC : C = .slice (some ⟨g, off, none⟩) len cap) (hn : 1 < len) (key : Value) (hkv : key = .string ⟨#[108]⟩) (w : World) (hkey : w.cell? ⟨g, off + 1, none⟩ = some key) (hgl : g < w.heap.size)
    (hc : Row w c 71 [s0, x0, x1, x2, C, nm]) (T : List ByteArray) (hlT : 0 < T.length)
    (htold : ∀ w', Below w.heap.size w w' → Calls Tryz.prog 166 #[.pointer (some ⟨c, 0, none⟩)] w' fun e w'' => ∃ u, e = .returned u ∧ w''.ownsRow w'.heap.size 9 1 u T.length (strs T) ∧ Below w'.heap.size w' w'') :
    Calls Tryz.prog 97 #[.pointer (some ⟨c, 0, none⟩), .agg #[.int .u8 kd, .string s, .int .i64 n, .slice none 0 0]] w fun e w' => ∃ u1 n1 c1 u2 n2 c2, e = .returned (.agg #[.int .u8 kd, .string s, .int .i64 n, .slice none 0 0, .slice u1 n1 c1, .slice u2 n2 c2]) ∧ Below w.heap.size w w' := by
  subst hC hkv
  have hb2 : Below w.heap.size w ((w.alloc (.cells #[.int .u8 kd, .string s, .int .i64 n, .slice none 0 0] 33)).alloc (.cells #[.int .u8 0, .string ⟨#[]⟩, .int .i64 0, .slice none 0 0, .slice none 0 0, .slice none 0 0] 36)) := ((Below.refl _ w).alloc (Nat.le_refl _) _).alloc (by simp) _
  have hbox := (Row.new w 33 [.int .u8 kd, .string s, .int .i64 n, .slice none 0 0]).alloc (.cells #[.int .u8 0, .string ⟨#[]⟩, .int .i64 0, .slice none 0 0, .slice none 0 0, .slice none 0 0] 36)
  have heff := Row.new (w.alloc (.cells #[.int .u8 kd, .string s, .int .i64 n, .slice none 0 0] 33)) 36 [.int .u8 0, .string ⟨#[]⟩, .int .i64 0, .slice none 0 0, .slice none 0 0, .slice none 0 0]
  rw [World.size_alloc] at heff
  have hD0 : DInv w [.int .u8 kd, .string s, .int .i64 n, .slice none 0 0] ((w.alloc (.cells #[.int .u8 kd, .string s, .int .i64 n, .slice none 0 0] 33)).alloc (.cells #[.int .u8 0, .string ⟨#[]⟩, .int .i64 0, .slice none 0 0, .slice none 0 0, .slice none 0 0] 36)).drew := ⟨hb2.drew, hbox, _, _, _, _, _, _, heff⟩
  have HT := Lib.hid htold
  have hcl := hc.lt
  have hn' : (1 : Int) < (len : Int) := by omega
  have HA4 := Lib.hid (hc.cell (i := 4) rfl)
  have HK := Lib.hid hkey
  clear heff htold hc hbox hkey hb2
  go_enter Tryz.func97, Tryz.ntmps97
  go_wp2_with fail
  generalize hW : (w.alloc (.cells #[.int .u8 kd, .string s, .int .i64 n, .slice none 0 0] 33)).alloc (.cells #[.int .u8 0, .string ⟨#[]⟩, .int .i64 0, .slice none 0 0, .slice none 0 0, .slice none 0 0] 36) = W at *
  clear hW
  obtain ⟨zf, hzf⟩ : ∃ zf, zf = zfOf (w.heap.size + 1) := ⟨_, rfl⟩
  go_region_held3 (fun w' => DInv w [.int .u8 kd, .string s, .int .i64 n, .slice none 0 0] w' ∧ w'.cell? ⟨w.heap.size, 0, none⟩ = some (.int .u8 kd) ∧ w'.cell? ⟨w.heap.size, 1, none⟩ = some (.string s) ∧ w'.cell? ⟨w.heap.size, 2, none⟩ = some (.int .i64 n) ∧ w'.cell? ⟨w.heap.size, 3, none⟩ = some (.slice none 0 0) ∧ w'.cell? ⟨c, 4, none⟩ = some (.slice (some ⟨g, off, none⟩) len cap) ∧ w'.cell? ⟨g, off + 1, none⟩ = some (.string ⟨#[108]⟩) ∧ w'.cell? ⟨w.heap.size + 1, 0, none⟩ = some (zf w' 0) ∧ w'.cell? ⟨w.heap.size + 1, 1, none⟩ = some (zf w' 1) ∧ w'.cell? ⟨w.heap.size + 1, 2, none⟩ = some (zf w' 2) ∧ w'.cell? ⟨w.heap.size + 1, 3, none⟩ = some (zf w' 3) ∧ w'.cell? ⟨w.heap.size + 1, 4, none⟩ = some (zf w' 4) ∧ w'.cell? ⟨w.heap.size + 1, 5, none⟩ = some (zf w' 5) ∧ w'.frozen? ⟨w.heap.size + 1, 0, none⟩ = false ∧ w'.frozen? ⟨w.heap.size + 1, 1, none⟩ = false ∧ w'.frozen? ⟨w.heap.size + 1, 2, none⟩ = false ∧ w'.frozen? ⟨w.heap.size + 1, 3, none⟩ = false ∧ w'.frozen? ⟨w.heap.size + 1, 4, none⟩ = false ∧ w'.frozen? ⟨w.heap.size + 1, 5, none⟩ = false) ((refine and_of ?_ (fun hh => sfD hzf hcl hgl HA4.out HK.out hh); first | (with_reducible exact hD0) | (with_reducible exact DInv.allocD _ (And.left (by assumption))) | (with_reducible exact DInv.alloc _ (And.left (by assumption))) | (with_reducible exact DInv.store _ _ _ _ _ _ (And.left (by assumption))) | (with_reducible exact DInv.alloc _ (DInv.store _ _ _ _ _ _ (And.left (by assumption)))) | (with_reducible exact DInv.alloc _ (DInv.alloc _ (DInv.store _ _ _ _ _ _ (And.left (by assumption))))) | (with_reducible exact DInv.call (by assumption) (And.left (by assumption))))) (first
    | (go_at_call_of 166 (Value.pointer (some ⟨c, 0, none⟩)); refine (HT.out _ ?hrow).mono ?_; (case hrow => exact DInv.bel (And.left (by with_reducible assumption))); rintro en w2 ⟨u, rfl, hown, hb3⟩; obtain ⟨sq, lq, cq, rfl⟩ := owns_shape hown))
  · go_wp2_with fail
    try simp only [Exit.inBlock, Exit.then]
    obtain ⟨hbl, _, e0, e1, e2, e3, e4, e5, hrow⟩ := (DInv.alloc (.cells #[.string ⟨#[108]⟩] 9) (DInv.alloc (.cells #[.slice sq lq cq] 42) (DInv.call hb3 hD0)))
    have hF := ((((((hrow.set 0 (.int .u8 kd)).set 1 (.string s)).set 2 (.int .i64 n)).set 3 (.slice none 0 0)).set 4 (.slice (some ⟨w2.heap.size, 0, none⟩) 1 1)).set 5 (.slice (some ⟨w2.heap.size + 1, 0, none⟩) 1 1))
    unfold Row at hF
    refine bodyPost_ret (results_cell_row (P := Tryz.prog) rfl _ _ (w.heap.size + 1) 36 #[.int .u8 kd, .string s, .int .i64 n, .slice none 0 0, .slice (some ⟨w2.heap.size, 0, none⟩) 1 1, .slice (some ⟨w2.heap.size + 1, 0, none⟩) 1 1] (0, 0) _ rfl (by simpa using hF) Tryz.underlying36 rfl size36) rfl ?_
    have hB := ((((((hbl.setCell (p := ⟨w.heap.size + 1, 0, none⟩) (Nat.le_succ _) (.int .u8 kd)).setCell (p := ⟨w.heap.size + 1, 1, none⟩) (Nat.le_succ _) (.string s)).setCell (p := ⟨w.heap.size + 1, 2, none⟩) (Nat.le_succ _) (.int .i64 n)).setCell (p := ⟨w.heap.size + 1, 3, none⟩) (Nat.le_succ _) (.slice none 0 0)).setCell (p := ⟨w.heap.size + 1, 4, none⟩) (Nat.le_succ _) (.slice (some ⟨w2.heap.size, 0, none⟩) 1 1)).setCell (p := ⟨w.heap.size + 1, 5, none⟩) (Nat.le_succ _) (.slice (some ⟨w2.heap.size + 1, 0, none⟩) 1 1))
    exact ⟨_, _, _, _, _, _, rfl, hB⟩
  · go_wp2_with fail
    try simp only [Exit.inBlock, Exit.then]
    obtain ⟨hbl, _, e0, e1, e2, e3, e4, e5, hrow⟩ := (DInv.alloc (.cells #[.slice sq lq cq] 42) (DInv.alloc (.cells #[.string ⟨#[108]⟩] 9) (DInv.call hb3 hD0)))
    have hF := ((((((hrow.set 0 (.int .u8 kd)).set 1 (.string s)).set 2 (.int .i64 n)).set 3 (.slice none 0 0)).set 4 (.slice (some ⟨w2.heap.size + 1, 0, none⟩) 1 1)).set 5 (.slice (some ⟨w2.heap.size, 0, none⟩) 1 1))
    unfold Row at hF
    refine bodyPost_ret (results_cell_row (P := Tryz.prog) rfl _ _ (w.heap.size + 1) 36 #[.int .u8 kd, .string s, .int .i64 n, .slice none 0 0, .slice (some ⟨w2.heap.size + 1, 0, none⟩) 1 1, .slice (some ⟨w2.heap.size, 0, none⟩) 1 1] (0, 0) _ rfl (by simpa using hF) Tryz.underlying36 rfl size36) rfl ?_
    have hB := ((((((hbl.setCell (p := ⟨w.heap.size + 1, 0, none⟩) (Nat.le_succ _) (.int .u8 kd)).setCell (p := ⟨w.heap.size + 1, 1, none⟩) (Nat.le_succ _) (.string s)).setCell (p := ⟨w.heap.size + 1, 2, none⟩) (Nat.le_succ _) (.int .i64 n)).setCell (p := ⟨w.heap.size + 1, 3, none⟩) (Nat.le_succ _) (.slice none 0 0)).setCell (p := ⟨w.heap.size + 1, 4, none⟩) (Nat.le_succ _) (.slice (some ⟨w2.heap.size + 1, 0, none⟩) 1 1)).setCell (p := ⟨w.heap.size + 1, 5, none⟩) (Nat.le_succ _) (.slice (some ⟨w2.heap.size, 0, none⟩) 1 1))
    exact ⟨_, _, _, _, _, _, rfl, hB⟩
  · go_wp2_with fail
    try simp only [Exit.inBlock, Exit.then]
    obtain ⟨hbl, _, e0, e1, e2, e3, e4, e5, hrow⟩ := (DInv.alloc (.cells #[.slice sq lq cq] 42) (DInv.call hb3 (DInv.allocD _ hD0)))
    have hF := ((((((hrow.set 0 (.int .u8 kd)).set 1 (.string s)).set 2 (.int .i64 n)).set 3 (.slice none 0 0)).set 4 (.slice (some ⟨w2.heap.size, 0, none⟩) 1 1)).set 5 (.slice (some ⟨W.heap.size, 0, none⟩) 1 1))
    unfold Row at hF
    refine bodyPost_ret (results_cell_row (P := Tryz.prog) rfl _ _ (w.heap.size + 1) 36 #[.int .u8 kd, .string s, .int .i64 n, .slice none 0 0, .slice (some ⟨w2.heap.size, 0, none⟩) 1 1, .slice (some ⟨W.heap.size, 0, none⟩) 1 1] (0, 0) _ rfl (by simpa using hF) Tryz.underlying36 rfl size36) rfl ?_
    have hB := ((((((hbl.setCell (p := ⟨w.heap.size + 1, 0, none⟩) (Nat.le_succ _) (.int .u8 kd)).setCell (p := ⟨w.heap.size + 1, 1, none⟩) (Nat.le_succ _) (.string s)).setCell (p := ⟨w.heap.size + 1, 2, none⟩) (Nat.le_succ _) (.int .i64 n)).setCell (p := ⟨w.heap.size + 1, 3, none⟩) (Nat.le_succ _) (.slice none 0 0)).setCell (p := ⟨w.heap.size + 1, 4, none⟩) (Nat.le_succ _) (.slice (some ⟨w2.heap.size, 0, none⟩) 1 1)).setCell (p := ⟨w.heap.size + 1, 5, none⟩) (Nat.le_succ _) (.slice (some ⟨W.heap.size, 0, none⟩) 1 1))
    exact ⟨_, _, _, _, _, _, rfl, hB⟩

end Go.Proofs.YtgmljeeeomjooaaGreatDoor

/-
  (colls.call).push of unknown texts under a key that is not there.
-/
namespace Go.Q
open Go Go.RowKit
theorem state_eff {w w' : World} {p : Pl} {n : Int} {m k l b : Nat} {xs : List ByteArray} {cs : List Value} (hS : SpaceAt w p n (some m)) (hK : KeptAt w p.t m k l) (hL : ListAt Filled w 10 l xs) (hr : Row w b 36 cs) (ho : Only (· = b) w w') :
    SpaceAt w' p n (some m) ∧ KeptAt w' p.t m k l ∧ ListAt Filled w' 10 l xs := by
  have key : ∀ {x t : Nat} {ds : List Value}, Row w x t ds → t ≠ 36 → x ≠ b := fun h1 h2 e => by
    rw [e] at h1
    exact h2 (h1.eq hr).2
  obtain ⟨r, hg⟩ := hS.dbs
  refine ⟨hS.only ho (key hS.cell (by decide)) (key hg (by decide)) (key hS.dict.cell (by decide)) (key hS.dict.tab (by decide)), hK.only ho (hK.one.ne hr) (key hK.kept (by decide)), hL.avoid ho (fun x t ds e hx => ?_)⟩
  cases e
  rw [(hx.eq hr).2]
  decide
end Go.Q
namespace Go.Proofs.YtgmljeeeomjooaaGreatDoor
open Go Go.RowKit Go.Q Go.Sort

set_option maxHeartbeats 6400000 in
set_option maxRecDepth 100000 in
theorem push_any (c g off cap : Nat) (p : Pl) (xs : List ByteArray) (hpos : 0 < xs.length) (hm : xs.length ≤ 1000) (hcap : xs.length + 2 ≤ cap) (hitems : ∀ s ∈ xs, s.size ≤ 65536) (w : World) (hG : Glob w) (h : SpaceAt w p 0 none) (hgav : g ≠ p.t ∧ g ≠ p.d)
    (hC : Slice w (.slice (some ⟨g, off, none⟩) (xs.length + 2) cap) (rpushT :: keyL :: xs)) (hc : Row w c 71 [.pointer (some ⟨p.s, 0, none⟩), .int .i64 0, .int .i64 0, .int .u32 0, .slice (some ⟨g, off, none⟩) (xs.length + 2) cap, .string rpushT]) :
    Calls Tryz.prog 34 #[callVal 0 c (.slice none 0 0) false, .bool false] w fun e w' => ∃ u1 n1 c1 u2 n2 c2, e = .returned (.agg #[.int .u8 3, .string ⟨#[]⟩, .int .i64 (xs.length : Int), .slice none 0 0, .slice u1 n1 c1, .slice u2 n2 c2]) ∧
      ∃ m k l, SpaceAt w' p 1 (some m) ∧ KeptAt w' p.t m k l ∧ ListAt Filled w' 10 l xs ∧ Only (fun x => x = p.t ∨ x = p.d) w w' := by
  obtain ⟨hgl, hkey, hcells⟩ : g < w.heap.size ∧ w.cell? ⟨g, off + 1, none⟩ = some (.string ⟨#[108]⟩) ∧ ∀ k (h : k < xs.length), w.cell? ⟨g, off + 2 + k, none⟩ = some (.string xs[k]) := by
    rcases hC with ⟨h0, _⟩ | ⟨g', off', cap', he, h1, h2⟩
    · cases h0
    · injection he with he1 _ he3
      injection he1 with he4
      injection he4 with he5 he6
      subst he5 he6
      refine ⟨h1, h2 1 (by simp), fun k hk => ?_⟩
      have h3 := h2 (k + 2) (by simp; omega)
      rw [show off + (k + 2) = off + 2 + k by omega] at h3
      simpa using h3
  have hlist := fun w' (hw : Below w.heap.size w w') => callList_any 0 c false (.slice none 0 0) [] w' (.inl ⟨rfl, rfl⟩) (by simp) (by simp) (hG.below hw hG.size)
  unfold callVal
  unfold callVal at hlist
  have hb2 : Below w.heap.size w ((w.alloc (.cells #[.pointer (some ⟨c, 0, none⟩), .int .u8 0, .string ⟨#[]⟩, .slice none 0 0, .slice none 0 0, .slice none 0 0, .slice none 0 0, .slice none 0 0, .int .u64 0, .int .u64 0, .bool false] 76)).alloc (.cells #[.int .u8 0, .string ⟨#[]⟩, .int .i64 0, .slice none 0 0, .slice none 0 0, .slice none 0 0] 36)) := ((Below.refl _ w).alloc (Nat.le_refl _) _).alloc (by simp) _
  have HL := Lib.hid hlist
  have hbox := Lib.hid ((Row.new w 76 [.pointer (some ⟨c, 0, none⟩), .int .u8 0, .string ⟨#[]⟩, .slice none 0 0, .slice none 0 0, .slice none 0 0, .slice none 0 0, .slice none 0 0, .int .u64 0, .int .u64 0, .bool false]).alloc (.cells #[.int .u8 0, .string ⟨#[]⟩, .int .i64 0, .slice none 0 0, .slice none 0 0, .slice none 0 0] 36))
  have heff := Row.new (w.alloc (.cells #[.pointer (some ⟨c, 0, none⟩), .int .u8 0, .string ⟨#[]⟩, .slice none 0 0, .slice none 0 0, .slice none 0 0, .slice none 0 0, .slice none 0 0, .int .u64 0, .int .u64 0, .bool false] 76)) 36 [.int .u8 0, .string ⟨#[]⟩, .int .i64 0, .slice none 0 0, .slice none 0 0, .slice none 0 0]
  rw [World.size_alloc] at heff
  have hE := Lib.hid heff
  have H := Lib.hid h
  have HC := Lib.hid hcells
  have HK := Lib.hid hkey
  have HR := Lib.hid hc
  have HG := Lib.hid hG
  have HS := Lib.hid hC
  have hcl := hc.lt
  have a4 := (hb2.cell (p := ⟨c, 4, none⟩) hcl).trans (hc.cell (i := 4) rfl)
  have b0 := hbox.out.cell (i := 0) rfl
  have b3 := hbox.out.cell (i := 3) rfl
  have hm' : (xs.length : Int) ≤ 1000 := by omega
  clear h hcells hkey hc hG heff hlist hC
  go_enter Tryz.func34, Tryz.ntmps34
  go_wp2_with fail
  generalize hW : (w.alloc (.cells #[.pointer (some ⟨c, 0, none⟩), .int .u8 0, .string ⟨#[]⟩, .slice none 0 0, .slice none 0 0, .slice none 0 0, .slice none 0 0, .slice none 0 0, .int .u64 0, .int .u64 0, .bool false] 76)).alloc (.cells #[.int .u8 0, .string ⟨#[]⟩, .int .i64 0, .slice none 0 0, .slice none 0 0, .slice none 0 0] 36) = W at *
  clear hW
  have hd : decide ((1048576 : Int) - (xs.length : Int) < 0) = false := decide_eq_false (by omega)
  have hb2q : ∀ n, Below w.heap.size w (W.drewN n) := fun n => ⟨hb2.os, hb2.tape, hb2.output, hb2.size, hb2.block⟩
  have hcap' : ((xs.length : Int) + 2 ≤ (cap : Int)) := by omega
  have hcp : 2 < cap := by omega
  go_quiet (fail)
  rename_i nq
  have hl2 := HL.out (W.drewN nq) (hb2q nq)
  have b1 := hbox.out.cell (i := 1) rfl
  have b2 := hbox.out.cell (i := 2) rfl
  have b4 := hbox.out.cell (i := 4) rfl
  have b5 := hbox.out.cell (i := 5) rfl
  have b6 := hbox.out.cell (i := 6) rfl
  have b7 := hbox.out.cell (i := 7) rfl
  have b8 := hbox.out.cell (i := 8) rfl
  have b9 := hbox.out.cell (i := 9) rfl
  have b10 := hbox.out.cell (i := 10) rfl
  go_wp2_with fail
  go_at_call 94
  refine hl2.mono ?_
  rintro e w1 ⟨l, rfl, hL, hb1⟩
  have hbw1 : Below w.heap.size w w1 := b_call hb1 (hb2q nq)
  have d4 := (hbw1.cell (p := ⟨c, 4, none⟩) hcl).trans (HR.out.cell (i := 4) rfl)
  have hbox1 := Lib.hid (row_below hbox.out (below_drewN' hb1) (Nat.le_refl _))
  have e0 := hbox1.out.cell (i := 0) rfl
  clear hl2 b0 b1 b2 b3 b4 b5 b6 b7 b8 b9 b10 a4
  go_wp2_with fail
  have hbW1 : Below W.heap.size W w1 := below_drewN' hb1
  have hs2 := hb2.size
  have hL1 := Lib.hid hL
  have hsW : 10 ≤ W.heap.size := Nat.le_trans HG.out.size hs2
  clear hL hb1 d4 e0
  go_loopw [31] (fun i wr => ∃ k : Nat, k ≤ xs.length ∧ i = .int .i64 k ∧ ListAt Filled wr W.heap.size l (xs.take k) ∧ Below W.heap.size W wr) (fun i _ => xs.length - (intOf i).toNat)
  case atStart => exact ⟨0, Nat.zero_le _, rfl, hL1.out, hbW1⟩
  case round =>
    obtain ⟨k, hk, rfl, hL, hb⟩ := hrel
    have hbw : Below w.heap.size w wr := hb2.trans (hb.mono hs2)
    rcases Nat.lt_or_ge k xs.length with hlt | hge
    · have hcell : wr.cell? ⟨g, off + 2 + k, none⟩ = some (.string xs[k]) := (hbw.cell (p := ⟨g, off + 2 + k, none⟩) hgl).trans (HC.out k hlt)
      have hlti : (k : Int) < (xs.length : Int) := by omega
      have hpush := listPush_any W.heap.size l (xs.take k) xs[k] (hitems _ (List.getElem_mem hlt)) wr hL (by rw [List.length_take]; omega) (HG.out.below hbw HG.out.size) hsW
      go_wp2_with fail
      go_at_call 95
      refine hpush.mono ?_
      rintro e w5 ⟨rfl, hL5, hb5⟩
      clear hpush
      go_wp2_with fail
      go_roundw
      case rel => exact ⟨k + 1, hlt, rfl, by rw [take_snoc' hlt]; exact hL5, hb.trans hb5⟩
      case measure => simp [intOf] <;> omega
    · obtain rfl : k = xs.length := by omega
      rw [List.take_length] at hL
      have hbr := Lib.hid (row_below hbox.out hb (Nat.le_refl _))
      have b0 := hbr.out.cell (i := 0) rfl
      have b1 := hbr.out.cell (i := 1) rfl
      have b2 := hbr.out.cell (i := 2) rfl
      have b3 := hbr.out.cell (i := 3) rfl
      have b4 := hbr.out.cell (i := 4) rfl
      have b5 := hbr.out.cell (i := 5) rfl
      have b6 := hbr.out.cell (i := 6) rfl
      have b7 := hbr.out.cell (i := 7) rfl
      have b8 := hbr.out.cell (i := 8) rfl
      have b9 := hbr.out.cell (i := 9) rfl
      have b10 := hbr.out.cell (i := 10) rfl
      have hL' := Lib.hid hL
      clear hL
      go_wp2_with fail
      have hst := storeList_any 0 Filled W.heap.size c l false _ _ ⟨#[108]⟩ _ _ _ _ _ xs hm wr hL'.out (HG.out.below hbw HG.out.size) none 0 0 rfl g off cap (xs.length + 2) rfl (by omega) ((hbw.cell (p := ⟨g, off + 1, none⟩) hgl).trans HK.out) (Nat.lt_of_lt_of_le hgl hbw.size) (row_below HR.out hbw (Nat.le_refl _))
        (fun e w3 => e = .returned (.tuple #[]) ∧ ∃ m k l', SpaceAt w3 p 1 (some m) ∧ KeptAt w3 p.t m k l' ∧ ListAt Filled w3 10 l' xs ∧ Only (fun x => x = p.t ∨ x = p.d) wr w3)
        (fun w' u hw hu => (store_first c _ _ p u xs hpos hm hitems w' (H.out.below (hbw.trans (hw.mono hbw.size)) (Nat.le_refl _)) (Slice.of_owns hu) (fun sp n' c' he => by
            have h1 := owns_low hu sp.block (by rw [he]; rfl)
            have h2 := H.out.dict.tab.lt
            have h3 := H.out.dict.cell.lt
            have h4 := hbw.size
            constructor <;> omega) (HG.out.below (hbw.trans (hw.mono hbw.size)) HG.out.size) (row_below HR.out (hbw.trans (hw.mono hbw.size)) (Nat.le_refl _))).mono fun e w'' ⟨h1, m, k, l', h2, h3, h4, h5⟩ => ⟨h1, rfl, m, k, l', h2, h3, h4, (Only.of_below hw).trans h5⟩)
      unfold callVal at hst
      go_at_call 96
      refine hst.mono ?_
      rintro e w3 ⟨rfl, m, k, l', hS3, hK3, hL3, ho3⟩
      clear hst b0 b1 b2 b3 b4 b5 b6 b7 b8 b9 b10
      have ho03 : Only (fun x => x = p.t ∨ x = p.d) w w3 := (Only.of_below (S := fun x => x = p.t ∨ x = p.d) hbw).trans ho3
      have htl := H.out.dict.tab.lt
      have hdl := H.out.dict.cell.lt
      have hctd : ¬ (c = p.t ∨ c = p.d) := fun e => by
        have h1 := HR.out
        rcases e with e | e
        · rw [e] at h1; exact absurd (h1.eq H.out.dict.tab).2 (by decide)
        · rw [e] at h1; exact absurd (h1.eq H.out.dict.cell).2 (by decide)
      have hR3 := Lib.hid (HR.out.only ho03 hctd)
      have hE3 := Lib.hid ((row_below hE.out hb (Nat.le_refl _)).only ho3 (fun e => by rcases e with e | e <;> omega))
      have hB3 := Lib.hid (hbr.out.only ho3 (fun e => by rcases e with e | e <;> omega))
      have hG3 := Lib.hid (HG.out.only ho03 (fun k hk e => by have := H.out.low; rcases e with e | e <;> omega))
      have hS3' : Slice w3 (.slice (some ⟨g, off, none⟩) (xs.length + 2) cap) (rpushT :: keyL :: xs) := HS.out.only ho03 (fun sp n' c' he e => by
        injection he with he1 _ _
        injection he1 with he4
        subst he4
        rcases e with e | e
        · exact hgav.1 e
        · exact hgav.2 e)
      have hk3 : w3.cell? ⟨g, off + 1, none⟩ = some (.string ⟨#[108]⟩) := (ho03.cell (p := ⟨g, off + 1, none⟩) hgl (fun e => by rcases e with e | e; exact hgav.1 e; exact hgav.2 e)).trans HK.out
      have hg3 : g < w3.heap.size := Nat.lt_of_lt_of_le hgl ho03.size
      have hLn := hL'.out.avoid ho3 (fun b t cs e hr => by
        have hr1 := (H.out.below hbw (Nat.le_refl _)).dict
        rcases e with e | e
        · subst e; rw [(hr.eq hr1.tab).2]; decide
        · subst e; rw [(hr.eq hr1.cell).2]; decide)
      have hlen := listLen_any Filled W.heap.size l xs w3.drew (hLn.below (Below.refl _ w3).drew (Nat.le_refl _))
      have hdid := Lib.hid (fun w' (hw : Below w3.heap.size w3 w') => did_any c _ _ _ _ _ _ 3 ⟨#[]⟩ (xs.length : Int) g off cap (xs.length + 2) rfl (by omega) _ rfl w' ((hw.cell (p := ⟨g, off + 1, none⟩) hg3).trans hk3) (Nat.lt_of_lt_of_le hg3 hw.size) (row_below hR3.out hw (Nat.le_refl _)) (rpushT :: keyL :: xs) (by simp)
        (fun w'' hw' => told_any c _ _ _ _ _ rpushT (rpushT :: keyL :: xs) (by simp) (by simp; omega) w'' (row_below hR3.out (hw.trans (hw'.mono hw.size)) (Nat.le_refl _)) (hS3'.below (hw.trans (hw'.mono hw.size)) (Nat.le_refl _)) (fun w => clone_rpush w)))
      have z0 := hB3.out.cell (i := 0) rfl
      have hS3h := Lib.hid hS3
      have hK3h := Lib.hid hK3
      have hL3h := Lib.hid hL3
      have ho03h := Lib.hid ho03
      clear ho3 hLn hS3 hK3 hL3 hS3' hk3 ho03
      go_wp2_with fail
      go_region_with (first
        | (go_at_call 99; refine hlen.mono ?_; rintro e w4 ⟨rfl, rfl⟩)
        | (go_at_call 98; refine (number_any _ w3.drew).mono ?_; rintro e w4 ⟨rfl, hb4⟩; have hb34 := below_drew hb4; have q0 := (row_below hB3.out hb34 (Nat.le_refl _)).cell (i := 0) rfl; have hd4 := hdid.out w4 hb34; have hE4 := Lib.hid (row_below hE3.out hb34 (Nat.le_refl _)); have hb34' := Lib.hid hb34)
        | (go_at_call 97; refine hd4.mono ?_; rintro e w5 ⟨u1, n1, c1, u2, n2, c2, rfl, hb5⟩; have hE5 := row_below hE4.out hb5 (Nat.le_refl _); have z0 := hE5.cell (i := 0) rfl; have z1 := hE5.cell (i := 1) rfl; have z2 := hE5.cell (i := 2) rfl; have z3 := hE5.cell (i := 3) rfl; have z4 := hE5.cell (i := 4) rfl; have z5 := hE5.cell (i := 5) rfl; have y0 := hE5.free 0; have y1 := hE5.free 1; have y2 := hE5.free 2; have y3 := hE5.free 3; have y4 := hE5.free 4; have y5 := hE5.free 5; have hE5' := Lib.hid hE5; have hb5' := Lib.hid hb5; clear hE5 hb5))
      all_goals
        go_wp2_with fail
        try simp only [Exit.inBlock, Exit.then]
        have hF := ((((((hE5'.out.set 0 (.int .u8 3)).set 1 (.string ⟨#[]⟩)).set 2 (.int .i64 (xs.length : Int))).set 3 (.slice none 0 0)).set 4 (.slice u1 n1 c1)).set 5 (.slice u2 n2 c2))
        unfold Row at hF
        have ho := (((((((Only.refl (· = w.heap.size + 1) w5).setCell ⟨w.heap.size + 1, 0, none⟩ (fun _ => rfl) (.int .u8 3)).setCell ⟨w.heap.size + 1, 1, none⟩ (fun _ => rfl) (.string ⟨#[]⟩)).setCell ⟨w.heap.size + 1, 2, none⟩ (fun _ => rfl) (.int .i64 (xs.length : Int))).setCell ⟨w.heap.size + 1, 3, none⟩ (fun _ => rfl) (.slice none 0 0)).setCell ⟨w.heap.size + 1, 4, none⟩ (fun _ => rfl) (.slice u1 n1 c1)).setCell ⟨w.heap.size + 1, 5, none⟩ (fun _ => rfl) (.slice u2 n2 c2))
        refine bodyPost_ret (results_cell_row (P := Tryz.prog) rfl _ _ (w.heap.size + 1) 36 #[.int .u8 3, .string ⟨#[]⟩, .int .i64 (xs.length : Int), .slice none 0 0, .slice u1 n1 c1, .slice u2 n2 c2] (0, 0) _ rfl (by simpa using hF) Tryz.underlying36 rfl size36) rfl ?_
        have hb35 : Below w3.heap.size w3 w5 := b_call hb5'.out hb34'.out
        have hst := state_eff (hS3h.out.below hb35 (Nat.le_refl _)) (hK3h.out.below hb35 (Nat.le_refl _)) (hL3h.out.below hb35 (Nat.le_refl _)) hE5'.out ho
        refine ⟨_, _, _, _, _, _, rfl, m, k, l', hst.1, hst.2.1, hst.2.2, ?_⟩
        have hbe : w.heap.size < W.heap.size := hbox.out.lt
        exact (ho03h.out.trans (Only.of_below hb35)).then ho (fun i hi e => by omega)

end Go.Proofs.YtgmljeeeomjooaaGreatDoor
