/-
  colls.Do of rpush, lpop, rpop.
-/
import Derived.Test.YtgmljeeeomjooaaGreatDoorQu
set_option linter.all false
/-
  colls.Do of rpush, lpop, rpop.
-/
namespace Go
theorem World.cell?_lt {w : World} {p : Addr} {v : Value} (h : w.cell? p = some v) : p.block < w.heap.size := by
  unfold World.cell? at h
  split at h
  · exact (Array.getElem?_eq_some_iff.1 ‹_›).1
  · cases h
end Go
namespace Go.Proofs.YtgmljeeeomjooaaGreatDoor
open Go Go.RowKit Go.Q Go.Sort

@[local go_sem] theorem run_store_func {P : Program} {w : World} {a : Addr} {m : Mode} (f : Fn) (x y : Array Value) : (store a (.func f x y) m).run P w = stored P w a (.func f x y) m := run_store P w a _ m rfl

set_option maxHeartbeats 6400000 in
set_option maxRecDepth 100000 in
theorem do_push (g off cap : Nat) (p : Pl) (xs : List ByteArray) (hpos : 0 < xs.length) (hm : xs.length ≤ 1000) (hcap : xs.length + 2 ≤ cap) (hitems : ∀ s ∈ xs, s.size ≤ 65536) (w : World) (hG : Glob w) (h : SpaceAt w p 0 none) (hgav : g ≠ p.t ∧ g ≠ p.d)
    (hC : Slice w (.slice (some ⟨g, off, none⟩) (xs.length + 2) cap) (rpushT :: keyL :: xs)) :
    Calls Tryz.prog 7 #[.pointer (some ⟨p.s, 0, none⟩), .agg #[.int .i64 0, .int .i64 0, .int .u32 0], .slice (some ⟨g, off, none⟩) (xs.length + 2) cap] w fun e w' => ∃ u1 n1 c1 u2 n2 c2, e = .returned (.tuple #[.agg #[.int .u8 3, .string ⟨#[]⟩, .int .i64 (xs.length : Int), .slice none 0 0, .slice u1 n1 c1, .slice u2 n2 c2], .bool true]) ∧
      ∃ m k l, SpaceAt w' p 1 (some m) ∧ KeptAt w' p.t m k l ∧ ListAt Filled w' 10 l xs ∧ Only (fun x => x = p.t ∨ x = p.d) w w' := by
  obtain ⟨hgl, hc0, hkey⟩ : g < w.heap.size ∧ w.cell? ⟨g, off, none⟩ = some (.string rpushT) ∧ w.cell? ⟨g, off + 1, none⟩ = some (.string ⟨#[108]⟩) := by
    rcases hC with ⟨h0, _⟩ | ⟨g', off', cap', he, h1, h2⟩
    · cases h0
    · injection he with he1 _ he3
      injection he1 with he4
      injection he4 with he5 he6
      subst he5 he6
      exact ⟨h1, h2 0 (by simp), h2 1 (by simp)⟩
  have hb2 : Below w.heap.size w ((w.alloc (.cells #[.int .i64 0, .int .i64 0, .int .u32 0] 41)).alloc (.cells #[.int .u8 0, .string ⟨#[]⟩, .int .i64 0, .slice none 0 0, .slice none 0 0, .slice none 0 0] 36)) := ((Below.refl _ w).alloc (Nat.le_refl _) _).alloc (by simp) _
  have hof := of_any rpushT _ _ _ _ p 0 none g off (xs.length + 2) cap ((w.alloc (.cells #[.int .i64 0, .int .i64 0, .int .u32 0] 41)).alloc (.cells #[.int .u8 0, .string ⟨#[]⟩, .int .i64 0, .slice none 0 0, .slice none 0 0, .slice none 0 0] 36)) (h.below hb2 (Nat.le_refl _)) (by omega) ((hb2.cell (p := ⟨g, off, none⟩) hgl).trans hc0) (Nat.lt_of_lt_of_le hgl hb2.size) (by intro c; constructor <;> simp)
    (fun w' hw => check_rpush _ (rpushT :: keyL :: xs) (keyL :: xs) rfl (by simp; omega) (by simp; omega) (by
      intro s hs
      simp only [List.mem_cons] at hs
      rcases hs with rfl | rfl | hs
      · decide
      · decide
      · exact hitems s hs) w' (hC.below (hb2.trans (hw.mono hb2.size)) (Nat.le_refl _)) (fun w'' => find_rpush w''))
    3 1024 true true rfl rfl rfl rfl (fun w' => find_rpush w')
  have heff := Row.new (w.alloc (.cells #[.int .i64 0, .int .i64 0, .int .u32 0] 41)) 36 [.int .u8 0, .string ⟨#[]⟩, .int .i64 0, .slice none 0 0, .slice none 0 0, .slice none 0 0]
  rw [World.size_alloc] at heff
  have hE := Lib.hid heff
  have H := Lib.hid h
  have HG := Lib.hid hG
  have HC := Lib.hid hC
  have HK := Lib.hid hkey
  have hln : (1 : Int) < (((xs.length + 2) : Nat) : Int) := by omega
  clear heff hG h hC hkey hc0
  go_enter Tryz.func7, Tryz.ntmps7
  go_wp2_with fail
  generalize hW : ((w.alloc (.cells #[.int .i64 0, .int .i64 0, .int .u32 0] 41)).alloc (.cells #[.int .u8 0, .string ⟨#[]⟩, .int .i64 0, .slice none 0 0, .slice none 0 0, .slice none 0 0] 36)) = W at *
  clear hW
  go_at_call 13
  refine hof.mono ?_
  rintro e w1 ⟨c, rfl, hc, hb1⟩
  have hbw1 : Below w.heap.size w w1 := b_call hb1 hb2
  have HE1 := Lib.hid (row_below hE.out hb1 (Nat.le_refl _))
  have HCR := Lib.hid hc
  have hrows := rows_row w1
  clear hof hc
  go_wp2_with fail
  go_at_call 14
  refine hrows.mono ?_
  rintro e w2 ⟨r, ra, rb, rc, rd, rfl, hrc, hrl, qa, qb, qc, qd, hb3⟩
  have hbw2 : Below w.heap.size w w2 := b_call hb3 hbw1
  have HE2 := Lib.hid (row_below HE1.out hb3 (Nat.le_refl _))
  have HC2 := Lib.hid (row_below HCR.out hb3 (Nat.le_refl _))
  have HR := Lib.hid hrc
  have hcl2 : c < w2.heap.size := HC2.out.lt
  have hra := Go.World.cell?_lt qa
  have hrb := Go.World.cell?_lt qb
  have hrc' := Go.World.cell?_lt qc
  have hrd := Go.World.cell?_lt qd
  have QB := Lib.hid qb
  have QC := Lib.hid qc
  have QD := Lib.hid qd
  clear hrows hrc qa qb qc qd
  go_wp2_with fail
  refine wp_loop_rounds 2 ?_
  obtain ⟨v0, hv0, hB0⟩ : ∃ v0 : World, v0 = w2 ∧ Below w2.heap.size w2 v0 := ⟨w2, rfl, Below.refl _ _⟩
  rw [← hv0]
  clear hv0
  rw [rounds_succ]
  have r00 := (hB0.cell (p := ⟨r, 0, none⟩) hrl).trans (HR.out 0 _ rfl)
  have r01 := (hB0.cell (p := ⟨r, 1, none⟩) hrl).trans (HR.out 1 _ rfl)
  have r02 := (hB0.cell (p := ⟨r, 2, none⟩) hrl).trans (HR.out 2 _ rfl)
  have nm0 : v0.cell? ⟨c, 5, none⟩ = some (.string ⟨#[114, 112, 117, 115, 104]⟩) := (hB0.cell (p := ⟨c, 5, none⟩) hcl2).trans (HC2.out.cell (i := 5) rfl)
  have hcv0 : c < v0.heap.size := Nat.lt_of_lt_of_le hcl2 hB0.size
  have hrv0 : r < v0.heap.size := Nat.lt_of_lt_of_le hrl hB0.size
  have hA0 : ∀ n, Below w2.heap.size w2 ((v0.alloc (.cells #[.string ⟨#[108, 112, 117, 115, 104]⟩, .int .u8 2, .func (.func 33) #[] #[.pointer (some ⟨ra, 0, none⟩)]] 69)).drewN n) := fun n =>
    have h1 := hB0.alloc hB0.size (.cells #[.string ⟨#[108, 112, 117, 115, 104]⟩, .int .u8 2, .func (.func 33) #[] #[.pointer (some ⟨ra, 0, none⟩)]] 69)
    ⟨h1.os, h1.tape, h1.output, h1.size, h1.block⟩
  go_wp2_with fail
  go_quiet (fail)
  rename Nat => nq0
  go_wp2_with fail
  obtain ⟨v1, hv1, hB1⟩ : ∃ v1 : World, v1 = (v0.alloc (.cells #[.string ⟨#[108, 112, 117, 115, 104]⟩, .int .u8 2, .func (.func 33) #[] #[.pointer (some ⟨ra, 0, none⟩)]] 69)).drewN nq0 ∧ Below w2.heap.size w2 v1 := ⟨_, rfl, hA0 nq0⟩
  rw [← hv1]
  clear hv1 r00 r01 r02 nm0 hA0 hcv0 hrv0
  rw [rounds_succ]
  have r10 := (hB1.cell (p := ⟨r, 3, none⟩) hrl).trans (HR.out 3 _ rfl)
  have r11 := (hB1.cell (p := ⟨r, 4, none⟩) hrl).trans (HR.out 4 _ rfl)
  have r12 := (hB1.cell (p := ⟨r, 5, none⟩) hrl).trans (HR.out 5 _ rfl)
  have nm1 : v1.cell? ⟨c, 5, none⟩ = some (.string ⟨#[114, 112, 117, 115, 104]⟩) := (hB1.cell (p := ⟨c, 5, none⟩) hcl2).trans (HC2.out.cell (i := 5) rfl)
  have hcv1 : c < v1.heap.size := Nat.lt_of_lt_of_le hcl2 hB1.size
  have hrv1 : r < v1.heap.size := Nat.lt_of_lt_of_le hrl hB1.size
  have hA1 : ∀ n, Below w2.heap.size w2 ((v1.alloc (.cells #[.string ⟨#[114, 112, 117, 115, 104]⟩, .int .u8 2, .func (.func 33) #[] #[.pointer (some ⟨rb, 0, none⟩)]] 69)).drewN n) := fun n =>
    have h1 := hB1.alloc hB1.size (.cells #[.string ⟨#[114, 112, 117, 115, 104]⟩, .int .u8 2, .func (.func 33) #[] #[.pointer (some ⟨rb, 0, none⟩)]] 69)
    ⟨h1.os, h1.tape, h1.output, h1.size, h1.block⟩
  have hrow69 := fun n => (show Row ((v1.alloc (.cells #[.string ⟨#[114, 112, 117, 115, 104]⟩, .int .u8 2, .func (.func 33) #[] #[.pointer (some ⟨rb, 0, none⟩)]] 69)).drewN n) v1.heap.size 69 [.string ⟨#[114, 112, 117, 115, 104]⟩, .int .u8 2, .func (.func 33) #[] #[.pointer (some ⟨rb, 0, none⟩)]] from Row.new v1 69 [.string ⟨#[114, 112, 117, 115, 104]⟩, .int .u8 2, .func (.func 33) #[] #[.pointer (some ⟨rb, 0, none⟩)]])
  go_wp2_with fail
  go_quiet (fail)
  rename Nat => nq1
  obtain ⟨x, hx, hX, hR69⟩ : ∃ x : World, x = (v1.alloc (.cells #[.string ⟨#[114, 112, 117, 115, 104]⟩, .int .u8 2, .func (.func 33) #[] #[.pointer (some ⟨rb, 0, none⟩)]] 69)).drewN nq1 ∧ Below w2.heap.size w2 x ∧ Row x v1.heap.size 69 [.string ⟨#[114, 112, 117, 115, 104]⟩, .int .u8 2, .func (.func 33) #[] #[.pointer (some ⟨rb, 0, none⟩)]] := ⟨_, rfl, hA1 nq1, hrow69 nq1⟩
  rw [← hx]
  clear hx r10 r11 r12 nm1 hA1 hrow69 hcv1 hrv1
  have hbx : Below w.heap.size w x := hbw2.trans (hX.mono hbw2.size)
  have hgx : g < x.heap.size := Nat.lt_of_lt_of_le hgl hbx.size
  have kx : x.cell? ⟨g, off + 1, none⟩ = some (.string ⟨#[108]⟩) := (hbx.cell (p := ⟨g, off + 1, none⟩) hgl).trans HK.out
  have hcx := row_below HC2.out hX (Nat.le_refl _)
  have hval := value_none c _ _ p 0 x (H.out.below hbx (Nat.le_refl _)) hcx
  unfold noVal at hval
  have HCX := Lib.hid hcx
  clear hcx
  go_wp2_with fail
  go_at_call 15
  refine hval.mono ?_
  rintro e y ⟨rfl, hby⟩
  have hbw3 : Below w.heap.size w y := b_call hby hbx
  have hR69y := row_below hR69 hby (Nat.le_refl _)
  have z1 := hR69y.cell (i := 1) rfl
  have z2 := hR69y.cell (i := 2) rfl
  have hlt69 := hR69y.lt
  have hbz : Below w.heap.size w (y.alloc (.cells #[.int .u8 0, .string ⟨#[]⟩, .slice none 0 0, .slice none 0 0, .slice none 0 0, .slice none 0 0, .slice none 0 0, .int .u64 0, .int .u64 0] 57)) := hbw3.alloc hbw3.size _
  have hcz := (row_below HCX.out hby (Nat.le_refl _)).alloc (.cells #[.int .u8 0, .string ⟨#[]⟩, .slice none 0 0, .slice none 0 0, .slice none 0 0, .slice none 0 0, .slice none 0 0, .int .u64 0, .int .u64 0] 57)
  have hqz : (y.alloc (.cells #[.int .u8 0, .string ⟨#[]⟩, .slice none 0 0, .slice none 0 0, .slice none 0 0, .slice none 0 0, .slice none 0 0, .int .u64 0, .int .u64 0] 57)).cell? ⟨rb, 0, none⟩ = some (.bool false) := (((hX.trans (hby.mono hX.size)).alloc (hX.trans (hby.mono hX.size)).size (.cells #[.int .u8 0, .string ⟨#[]⟩, .slice none 0 0, .slice none 0 0, .slice none 0 0, .slice none 0 0, .slice none 0 0, .int .u64 0, .int .u64 0] 57)).cell (p := ⟨rb, 0, none⟩) hrb).trans QB.out
  have hqlt : rb < (y.alloc (.cells #[.int .u8 0, .string ⟨#[]⟩, .slice none 0 0, .slice none 0 0, .slice none 0 0, .slice none 0 0, .slice none 0 0, .int .u64 0, .int .u64 0] 57)).heap.size := Go.World.cell?_lt hqz
  have hrow := rowPush rb c g off cap p xs hpos hm hcap hitems _ (HG.out.below hbz HG.out.size) (H.out.below hbz (Nat.le_refl _)) hgav (HC.out.below hbz (Nat.le_refl _)) hcz hqlt hqz
  unfold callVal at hrow
  have HEZ := Lib.hid ((row_below HE2.out (hX.trans (hby.mono hX.size)) (Nat.le_refl _)).alloc (.cells #[.int .u8 0, .string ⟨#[]⟩, .slice none 0 0, .slice none 0 0, .slice none 0 0, .slice none 0 0, .slice none 0 0, .int .u64 0, .int .u64 0] 57))
  clear hval hR69 hR69y hcz
  go_wp2_with fail
  generalize hZ : y.alloc (.cells #[.int .u8 0, .string ⟨#[]⟩, .slice none 0 0, .slice none 0 0, .slice none 0 0, .slice none 0 0, .slice none 0 0, .int .u64 0, .int .u64 0] 57) = Z at *
  clear hZ
  go_at_call 33
  refine hrow.mono ?_
  rintro e w3 ⟨u1, n1, c1, u2, n2, c2, rfl, m, k, l, hS, hK, hL, ho⟩
  have htl := H.out.dict.tab.lt
  have hdl := H.out.dict.cell.lt
  have hE3 := HEZ.out.only ho (fun e => by rcases e with e | e <;> omega)
  have y0 := hE3.cell (i := 0) rfl
  have z0 := hE3.free 0
  have y1 := hE3.cell (i := 1) rfl
  have z1 := hE3.free 1
  have y2 := hE3.cell (i := 2) rfl
  have z2 := hE3.free 2
  have y3 := hE3.cell (i := 3) rfl
  have z3 := hE3.free 3
  have y4 := hE3.cell (i := 4) rfl
  have z4 := hE3.free 4
  have y5 := hE3.cell (i := 5) rfl
  have z5 := hE3.free 5
  have hE3' := Lib.hid hE3
  have hS' := Lib.hid hS
  have hK' := Lib.hid hK
  have hL' := Lib.hid hL
  clear hS hK hL
  clear hE3 hrow
  go_wp2_with fail
  try simp only [Exit.inBlock, Exit.then]
  have hF := ((((((hE3'.out.set 0 (.int .u8 3)).set 1 (.string ⟨#[]⟩)).set 2 (.int .i64 (xs.length : Int))).set 3 (.slice none 0 0)).set 4 (.slice u1 n1 c1)).set 5 (.slice u2 n2 c2))
  unfold Row at hF
  have ho2 := (((((((Only.refl (· = w.heap.size + 1) w3).setCell ⟨w.heap.size + 1, 0, none⟩ (fun _ => rfl) (.int .u8 3)).setCell ⟨w.heap.size + 1, 1, none⟩ (fun _ => rfl) (.string ⟨#[]⟩)).setCell ⟨w.heap.size + 1, 2, none⟩ (fun _ => rfl) (.int .i64 (xs.length : Int))).setCell ⟨w.heap.size + 1, 3, none⟩ (fun _ => rfl) (.slice none 0 0)).setCell ⟨w.heap.size + 1, 4, none⟩ (fun _ => rfl) (.slice u1 n1 c1)).setCell ⟨w.heap.size + 1, 5, none⟩ (fun _ => rfl) (.slice u2 n2 c2))
  refine bodyPost_ret (results_cell_tmp (P := Tryz.prog) rfl _ _ (w.heap.size + 1) 36 #[.int .u8 3, .string ⟨#[]⟩, .int .i64 (xs.length : Int), .slice none 0 0, .slice u1 n1 c1, .slice u2 n2 c2] (0, 0) _ rfl (by simpa using hF) Tryz.underlying36 rfl size36) rfl ?_
  have hst := state_eff hS'.out hK'.out hL'.out hE3'.out ho2
  refine ⟨_, _, _, _, _, _, rfl, m, k, l, hst.1, hst.2.1, hst.2.2, ?_⟩
  exact ((Only.of_below (S := fun x => x = p.t ∨ x = p.d) hbz).trans ho).then ho2 (fun i hi e => by omega)

end Go.Proofs.YtgmljeeeomjooaaGreatDoor

/-
  colls.Do of lpop, rpop.
-/
namespace Go.Proofs.YtgmljeeeomjooaaGreatDoor
open Go Go.RowKit Go.Q Go.Sort

attribute [local go_sem] run_store_func

set_option maxHeartbeats 6400000 in
set_option maxRecDepth 100000 in
theorem do_pop_true (g off cap : Nat) (p : Pl) (m k l0 : Nat) (xs : List ByteArray) (hpos : 0 < xs.length) (hm : xs.length ≤ 1000) (hitems : ∀ s ∈ xs, s.size ≤ 65536) (w : World) (hG : Glob w) (h : SpaceAt w p 1 (some m)) (hk : KeptAt w p.t m k l0) (hL : ListAt Filled w 10 l0 xs) (hgav : g ≠ m ∧ g ≠ p.d ∧ g ≠ k)
    (hC : Slice w (.slice (some ⟨g, off, none⟩) 2 cap) [popT true, keyL]) :
    Calls Tryz.prog 7 #[.pointer (some ⟨p.s, 0, none⟩), .agg #[.int .i64 0, .int .i64 0, .int .u32 0], .slice (some ⟨g, off, none⟩) 2 cap] w fun e w' => ∃ u1 n1 c1 u2 n2 c2, e = .returned (.tuple #[.agg #[.int .u8 4, .string (xs.getD (popAt true xs.length) ⟨#[]⟩), .int .i64 0, .slice none 0 0, .slice u1 n1 c1, .slice u2 n2 c2], .bool true]) ∧
      Remains w' p m k (rest true xs) ∧ Only (fun x => x = m ∨ x = p.d ∨ x = k) w w' := by
  obtain ⟨hgl, hc0, hkey⟩ : g < w.heap.size ∧ w.cell? ⟨g, off, none⟩ = some (.string (popT true)) ∧ w.cell? ⟨g, off + 1, none⟩ = some (.string ⟨#[108]⟩) := by
    rcases hC with ⟨h0, _⟩ | ⟨g', off', cap', he, h1, h2⟩
    · cases h0
    · injection he with he1 _ he3
      injection he1 with he4
      injection he4 with he5 he6
      subst he5 he6
      exact ⟨h1, h2 0 (by simp), h2 1 (by simp)⟩
  have hb2 : Below w.heap.size w ((w.alloc (.cells #[.int .i64 0, .int .i64 0, .int .u32 0] 41)).alloc (.cells #[.int .u8 0, .string ⟨#[]⟩, .int .i64 0, .slice none 0 0, .slice none 0 0, .slice none 0 0] 36)) := ((Below.refl _ w).alloc (Nat.le_refl _) _).alloc (by simp) _
  have hof := of_any (popT true) _ _ _ _ p 1 (some m) g off 2 cap ((w.alloc (.cells #[.int .i64 0, .int .i64 0, .int .u32 0] 41)).alloc (.cells #[.int .u8 0, .string ⟨#[]⟩, .int .i64 0, .slice none 0 0, .slice none 0 0, .slice none 0 0] 36)) (h.below hb2 (Nat.le_refl _)) (by omega) ((hb2.cell (p := ⟨g, off, none⟩) hgl).trans hc0) (Nat.lt_of_lt_of_le hgl hb2.size) (by intro c; constructor <;> simp)
    (fun w' hw => check_pop true _ w' (hC.below (hb2.trans (hw.mono hb2.size)) (Nat.le_refl _)))
    2 2 true false rfl rfl rfl rfl (fun w' => find_pop true w')
  have heff := Row.new (w.alloc (.cells #[.int .i64 0, .int .i64 0, .int .u32 0] 41)) 36 [.int .u8 0, .string ⟨#[]⟩, .int .i64 0, .slice none 0 0, .slice none 0 0, .slice none 0 0]
  rw [World.size_alloc] at heff
  have hE := Lib.hid heff
  have H := Lib.hid h
  have HG := Lib.hid hG
  have HC := Lib.hid hC
  have HK := Lib.hid hkey
  have HKP := Lib.hid hk
  have HL := Lib.hid hL
  have hln : (1 : Int) < ((2 : Nat) : Int) := by omega
  clear heff hG h hC hkey hc0 hk hL
  go_enter Tryz.func7, Tryz.ntmps7
  go_wp2_with fail
  generalize hW : ((w.alloc (.cells #[.int .i64 0, .int .i64 0, .int .u32 0] 41)).alloc (.cells #[.int .u8 0, .string ⟨#[]⟩, .int .i64 0, .slice none 0 0, .slice none 0 0, .slice none 0 0] 36)) = W at *
  clear hW
  go_at_call 13
  refine hof.mono ?_
  rintro e w1 ⟨c, rfl, hc, hb1⟩
  have hbw1 : Below w.heap.size w w1 := b_call hb1 hb2
  have HE1 := Lib.hid (row_below hE.out hb1 (Nat.le_refl _))
  have HCR := Lib.hid hc
  have hrows := rows_row w1
  clear hof hc
  go_wp2_with fail
  go_at_call 14
  refine hrows.mono ?_
  rintro e w2 ⟨r, ra, rb, rc, rd, rfl, hrc, hrl, qa, qb, qc, qd, hb3⟩
  have hbw2 : Below w.heap.size w w2 := b_call hb3 hbw1
  have HE2 := Lib.hid (row_below HE1.out hb3 (Nat.le_refl _))
  have HC2 := Lib.hid (row_below HCR.out hb3 (Nat.le_refl _))
  have HR := Lib.hid hrc
  have hcl2 : c < w2.heap.size := HC2.out.lt
  have hra := Go.World.cell?_lt qa
  have hrb := Go.World.cell?_lt qb
  have hrc' := Go.World.cell?_lt qc
  have hrd := Go.World.cell?_lt qd
  have QB := Lib.hid qb
  have QC := Lib.hid qc
  have QD := Lib.hid qd
  clear hrows hrc qa qb qc qd
  go_wp2_with fail
  refine wp_loop_rounds 3 ?_
  obtain ⟨v0, hv0, hB0⟩ : ∃ v0 : World, v0 = w2 ∧ Below w2.heap.size w2 v0 := ⟨w2, rfl, Below.refl _ _⟩
  rw [← hv0]
  clear hv0
  rw [rounds_succ]
  have r00 := (hB0.cell (p := ⟨r, 0, none⟩) hrl).trans (HR.out 0 _ rfl)
  have r01 := (hB0.cell (p := ⟨r, 1, none⟩) hrl).trans (HR.out 1 _ rfl)
  have r02 := (hB0.cell (p := ⟨r, 2, none⟩) hrl).trans (HR.out 2 _ rfl)
  have nm0 : v0.cell? ⟨c, 5, none⟩ = some (.string ⟨#[108, 112, 111, 112]⟩) := (hB0.cell (p := ⟨c, 5, none⟩) hcl2).trans (HC2.out.cell (i := 5) rfl)
  have hcv0 : c < v0.heap.size := Nat.lt_of_lt_of_le hcl2 hB0.size
  have hrv0 : r < v0.heap.size := Nat.lt_of_lt_of_le hrl hB0.size
  have hA0 : ∀ n, Below w2.heap.size w2 ((v0.alloc (.cells #[.string ⟨#[108, 112, 117, 115, 104]⟩, .int .u8 2, .func (.func 33) #[] #[.pointer (some ⟨ra, 0, none⟩)]] 69)).drewN n) := fun n =>
    have h1 := hB0.alloc hB0.size (.cells #[.string ⟨#[108, 112, 117, 115, 104]⟩, .int .u8 2, .func (.func 33) #[] #[.pointer (some ⟨ra, 0, none⟩)]] 69)
    ⟨h1.os, h1.tape, h1.output, h1.size, h1.block⟩
  go_wp2_with fail
  go_quiet (fail)
  rename Nat => nq0
  go_wp2_with fail
  obtain ⟨v1, hv1, hB1⟩ : ∃ v1 : World, v1 = (v0.alloc (.cells #[.string ⟨#[108, 112, 117, 115, 104]⟩, .int .u8 2, .func (.func 33) #[] #[.pointer (some ⟨ra, 0, none⟩)]] 69)).drewN nq0 ∧ Below w2.heap.size w2 v1 := ⟨_, rfl, hA0 nq0⟩
  rw [← hv1]
  clear hv1 r00 r01 r02 nm0 hA0 hcv0 hrv0
  rw [rounds_succ]
  have r10 := (hB1.cell (p := ⟨r, 3, none⟩) hrl).trans (HR.out 3 _ rfl)
  have r11 := (hB1.cell (p := ⟨r, 4, none⟩) hrl).trans (HR.out 4 _ rfl)
  have r12 := (hB1.cell (p := ⟨r, 5, none⟩) hrl).trans (HR.out 5 _ rfl)
  have nm1 : v1.cell? ⟨c, 5, none⟩ = some (.string ⟨#[108, 112, 111, 112]⟩) := (hB1.cell (p := ⟨c, 5, none⟩) hcl2).trans (HC2.out.cell (i := 5) rfl)
  have hcv1 : c < v1.heap.size := Nat.lt_of_lt_of_le hcl2 hB1.size
  have hrv1 : r < v1.heap.size := Nat.lt_of_lt_of_le hrl hB1.size
  have hA1 : ∀ n, Below w2.heap.size w2 ((v1.alloc (.cells #[.string ⟨#[114, 112, 117, 115, 104]⟩, .int .u8 2, .func (.func 33) #[] #[.pointer (some ⟨rb, 0, none⟩)]] 69)).drewN n) := fun n =>
    have h1 := hB1.alloc hB1.size (.cells #[.string ⟨#[114, 112, 117, 115, 104]⟩, .int .u8 2, .func (.func 33) #[] #[.pointer (some ⟨rb, 0, none⟩)]] 69)
    ⟨h1.os, h1.tape, h1.output, h1.size, h1.block⟩
  go_wp2_with fail
  go_quiet (fail)
  rename Nat => nq1
  go_wp2_with fail
  obtain ⟨v2, hv2, hB2⟩ : ∃ v2 : World, v2 = (v1.alloc (.cells #[.string ⟨#[114, 112, 117, 115, 104]⟩, .int .u8 2, .func (.func 33) #[] #[.pointer (some ⟨rb, 0, none⟩)]] 69)).drewN nq1 ∧ Below w2.heap.size w2 v2 := ⟨_, rfl, hA1 nq1⟩
  rw [← hv2]
  clear hv2 r10 r11 r12 nm1 hA1 hcv1 hrv1
  rw [rounds_succ]
  have r20 := (hB2.cell (p := ⟨r, 6, none⟩) hrl).trans (HR.out 6 _ rfl)
  have r21 := (hB2.cell (p := ⟨r, 7, none⟩) hrl).trans (HR.out 7 _ rfl)
  have r22 := (hB2.cell (p := ⟨r, 8, none⟩) hrl).trans (HR.out 8 _ rfl)
  have nm2 : v2.cell? ⟨c, 5, none⟩ = some (.string ⟨#[108, 112, 111, 112]⟩) := (hB2.cell (p := ⟨c, 5, none⟩) hcl2).trans (HC2.out.cell (i := 5) rfl)
  have hcv2 : c < v2.heap.size := Nat.lt_of_lt_of_le hcl2 hB2.size
  have hrv2 : r < v2.heap.size := Nat.lt_of_lt_of_le hrl hB2.size
  have hA2 : ∀ n, Below w2.heap.size w2 ((v2.alloc (.cells #[.string ⟨#[108, 112, 111, 112]⟩, .int .u8 2, .func (.func 36) #[] #[.pointer (some ⟨rc, 0, none⟩)]] 69)).drewN n) := fun n =>
    have h1 := hB2.alloc hB2.size (.cells #[.string ⟨#[108, 112, 111, 112]⟩, .int .u8 2, .func (.func 36) #[] #[.pointer (some ⟨rc, 0, none⟩)]] 69)
    ⟨h1.os, h1.tape, h1.output, h1.size, h1.block⟩
  have hrow69 := fun n => (show Row ((v2.alloc (.cells #[.string ⟨#[108, 112, 111, 112]⟩, .int .u8 2, .func (.func 36) #[] #[.pointer (some ⟨rc, 0, none⟩)]] 69)).drewN n) v2.heap.size 69 [.string ⟨#[108, 112, 111, 112]⟩, .int .u8 2, .func (.func 36) #[] #[.pointer (some ⟨rc, 0, none⟩)]] from Row.new v2 69 [.string ⟨#[108, 112, 111, 112]⟩, .int .u8 2, .func (.func 36) #[] #[.pointer (some ⟨rc, 0, none⟩)]])
  go_wp2_with fail
  go_quiet (fail)
  rename Nat => nq2
  obtain ⟨x, hx, hX, hR69⟩ : ∃ x : World, x = (v2.alloc (.cells #[.string ⟨#[108, 112, 111, 112]⟩, .int .u8 2, .func (.func 36) #[] #[.pointer (some ⟨rc, 0, none⟩)]] 69)).drewN nq2 ∧ Below w2.heap.size w2 x ∧ Row x v2.heap.size 69 [.string ⟨#[108, 112, 111, 112]⟩, .int .u8 2, .func (.func 36) #[] #[.pointer (some ⟨rc, 0, none⟩)]] := ⟨_, rfl, hA2 nq2, hrow69 nq2⟩
  rw [← hx]
  clear hx r20 r21 r22 nm2 hA2 hrow69 hcv2 hrv2
  have hbx : Below w.heap.size w x := hbw2.trans (hX.mono hbw2.size)
  have hgx : g < x.heap.size := Nat.lt_of_lt_of_le hgl hbx.size
  have kx : x.cell? ⟨g, off + 1, none⟩ = some (.string ⟨#[108]⟩) := (hbx.cell (p := ⟨g, off + 1, none⟩) hgl).trans HK.out
  have hcx := row_below HC2.out hX (Nat.le_refl _)
  have hval := value_one c _ _ p m k l0 Filled 10 xs hm x (H.out.below hbx (Nat.le_refl _)) (HKP.out.below hbx (Nat.le_refl _)) (HL.out.below hbx (Nat.le_refl _)) (HG.out.below hbx HG.out.size) hcx
  unfold listVal at hval
  have HCX := Lib.hid hcx
  clear hcx
  go_wp2_with fail
  go_at_call 15
  refine hval.mono ?_
  rintro e y ⟨u, rfl, hown, hby⟩
  have hvs := Slice.of_owns hown
  obtain ⟨sq, cq, rfl⟩ := hvs.len
  have hbw3 : Below w.heap.size w y := b_call hby hbx
  have hR69y := row_below hR69 hby (Nat.le_refl _)
  have z1 := hR69y.cell (i := 1) rfl
  have z2 := hR69y.cell (i := 2) rfl
  have hlt69 := hR69y.lt
  have hbz : Below w.heap.size w (y.alloc (.cells #[.int .u8 2, .string ⟨#[]⟩, .slice sq xs.length cq, .slice none 0 0, .slice none 0 0, .slice none 0 0, .slice none 0 0, .int .u64 0, .int .u64 0] 57)) := hbw3.alloc hbw3.size _
  have hcz := (row_below HCX.out hby (Nat.le_refl _)).alloc (.cells #[.int .u8 2, .string ⟨#[]⟩, .slice sq xs.length cq, .slice none 0 0, .slice none 0 0, .slice none 0 0, .slice none 0 0, .int .u64 0, .int .u64 0] 57)
  have hqz : (y.alloc (.cells #[.int .u8 2, .string ⟨#[]⟩, .slice sq xs.length cq, .slice none 0 0, .slice none 0 0, .slice none 0 0, .slice none 0 0, .int .u64 0, .int .u64 0] 57)).cell? ⟨rc, 0, none⟩ = some (.bool true) := (((hX.trans (hby.mono hX.size)).alloc (hX.trans (hby.mono hX.size)).size (.cells #[.int .u8 2, .string ⟨#[]⟩, .slice sq xs.length cq, .slice none 0 0, .slice none 0 0, .slice none 0 0, .slice none 0 0, .int .u64 0, .int .u64 0] 57)).cell (p := ⟨rc, 0, none⟩) hrc').trans QC.out
  have hqlt : rc < (y.alloc (.cells #[.int .u8 2, .string ⟨#[]⟩, .slice sq xs.length cq, .slice none 0 0, .slice none 0 0, .slice none 0 0, .slice none 0 0, .int .u64 0, .int .u64 0] 57)).heap.size := Go.World.cell?_lt hqz
  have hrow := rowPop true rc c g off cap p m k l0 (.slice sq xs.length cq) xs hpos hm hitems _ (hvs.below ((Below.refl _ y).alloc (Nat.le_refl _) (.cells #[.int .u8 2, .string ⟨#[]⟩, .slice sq xs.length cq, .slice none 0 0, .slice none 0 0, .slice none 0 0, .slice none 0 0, .int .u64 0, .int .u64 0] 57)) (Nat.le_refl _)) (HG.out.below hbz HG.out.size) (H.out.below hbz (Nat.le_refl _)) (HKP.out.below hbz (Nat.le_refl _)) (HL.out.below hbz (Nat.le_refl _)) hgav (HC.out.below hbz (Nat.le_refl _)) hcz hqlt hqz
  unfold callVal at hrow
  have HEZ := Lib.hid ((row_below HE2.out (hX.trans (hby.mono hX.size)) (Nat.le_refl _)).alloc (.cells #[.int .u8 2, .string ⟨#[]⟩, .slice sq xs.length cq, .slice none 0 0, .slice none 0 0, .slice none 0 0, .slice none 0 0, .int .u64 0, .int .u64 0] 57))
  clear hval hR69 hR69y hcz
  go_wp2_with fail
  generalize hZ : y.alloc (.cells #[.int .u8 2, .string ⟨#[]⟩, .slice sq xs.length cq, .slice none 0 0, .slice none 0 0, .slice none 0 0, .slice none 0 0, .int .u64 0, .int .u64 0] 57) = Z at *
  clear hZ
  go_at_call 36
  refine hrow.mono ?_
  rintro e w3 ⟨u1, n1, c1, u2, n2, c2, rfl, hS, ho⟩
  have htl := H.out.dict.tab.lt
  have hdl := H.out.dict.cell.lt
  have hml := HKP.out.one.lt
  have hkl := HKP.out.kept.lt
  have hE3 := HEZ.out.only ho (fun e => by rcases e with e | e | e <;> omega)
  have y0 := hE3.cell (i := 0) rfl
  have z0 := hE3.free 0
  have y1 := hE3.cell (i := 1) rfl
  have z1 := hE3.free 1
  have y2 := hE3.cell (i := 2) rfl
  have z2 := hE3.free 2
  have y3 := hE3.cell (i := 3) rfl
  have z3 := hE3.free 3
  have y4 := hE3.cell (i := 4) rfl
  have z4 := hE3.free 4
  have y5 := hE3.cell (i := 5) rfl
  have z5 := hE3.free 5
  have hE3' := Lib.hid hE3
  have hS' := Lib.hid hS
  clear hS
  clear hE3 hrow
  go_wp2_with fail
  try simp only [Exit.inBlock, Exit.then]
  have hF := ((((((hE3'.out.set 0 (.int .u8 4)).set 1 (.string (xs.getD (popAt true xs.length) ⟨#[]⟩))).set 2 (.int .i64 0)).set 3 (.slice none 0 0)).set 4 (.slice u1 n1 c1)).set 5 (.slice u2 n2 c2))
  unfold Row at hF
  have ho2 := (((((((Only.refl (· = w.heap.size + 1) w3).setCell ⟨w.heap.size + 1, 0, none⟩ (fun _ => rfl) (.int .u8 4)).setCell ⟨w.heap.size + 1, 1, none⟩ (fun _ => rfl) (.string (xs.getD (popAt true xs.length) ⟨#[]⟩))).setCell ⟨w.heap.size + 1, 2, none⟩ (fun _ => rfl) (.int .i64 0)).setCell ⟨w.heap.size + 1, 3, none⟩ (fun _ => rfl) (.slice none 0 0)).setCell ⟨w.heap.size + 1, 4, none⟩ (fun _ => rfl) (.slice u1 n1 c1)).setCell ⟨w.heap.size + 1, 5, none⟩ (fun _ => rfl) (.slice u2 n2 c2))
  refine bodyPost_ret (results_cell_tmp (P := Tryz.prog) rfl _ _ (w.heap.size + 1) 36 #[.int .u8 4, .string (xs.getD (popAt true xs.length) ⟨#[]⟩), .int .i64 0, .slice none 0 0, .slice u1 n1 c1, .slice u2 n2 c2] (0, 0) _ rfl (by simpa using hF) Tryz.underlying36 rfl size36) rfl ?_
  refine ⟨_, _, _, _, _, _, rfl, hS'.out.eff (by omega) hE3'.out ho2, ?_⟩
  exact ((Only.of_below (S := fun x => x = m ∨ x = p.d ∨ x = k) hbz).trans ho).then ho2 (fun i hi e => by omega)

set_option maxHeartbeats 6400000 in
set_option maxRecDepth 100000 in
theorem do_pop_false (g off cap : Nat) (p : Pl) (m k l0 : Nat) (xs : List ByteArray) (hpos : 0 < xs.length) (hm : xs.length ≤ 1000) (hitems : ∀ s ∈ xs, s.size ≤ 65536) (w : World) (hG : Glob w) (h : SpaceAt w p 1 (some m)) (hk : KeptAt w p.t m k l0) (hL : ListAt Filled w 10 l0 xs) (hgav : g ≠ m ∧ g ≠ p.d ∧ g ≠ k)
    (hC : Slice w (.slice (some ⟨g, off, none⟩) 2 cap) [popT false, keyL]) :
    Calls Tryz.prog 7 #[.pointer (some ⟨p.s, 0, none⟩), .agg #[.int .i64 0, .int .i64 0, .int .u32 0], .slice (some ⟨g, off, none⟩) 2 cap] w fun e w' => ∃ u1 n1 c1 u2 n2 c2, e = .returned (.tuple #[.agg #[.int .u8 4, .string (xs.getD (popAt false xs.length) ⟨#[]⟩), .int .i64 0, .slice none 0 0, .slice u1 n1 c1, .slice u2 n2 c2], .bool true]) ∧
      Remains w' p m k (rest false xs) ∧ Only (fun x => x = m ∨ x = p.d ∨ x = k) w w' := by
  obtain ⟨hgl, hc0, hkey⟩ : g < w.heap.size ∧ w.cell? ⟨g, off, none⟩ = some (.string (popT false)) ∧ w.cell? ⟨g, off + 1, none⟩ = some (.string ⟨#[108]⟩) := by
    rcases hC with ⟨h0, _⟩ | ⟨g', off', cap', he, h1, h2⟩
    · cases h0
    · injection he with he1 _ he3
      injection he1 with he4
      injection he4 with he5 he6
      subst he5 he6
      exact ⟨h1, h2 0 (by simp), h2 1 (by simp)⟩
  have hb2 : Below w.heap.size w ((w.alloc (.cells #[.int .i64 0, .int .i64 0, .int .u32 0] 41)).alloc (.cells #[.int .u8 0, .string ⟨#[]⟩, .int .i64 0, .slice none 0 0, .slice none 0 0, .slice none 0 0] 36)) := ((Below.refl _ w).alloc (Nat.le_refl _) _).alloc (by simp) _
  have hof := of_any (popT false) _ _ _ _ p 1 (some m) g off 2 cap ((w.alloc (.cells #[.int .i64 0, .int .i64 0, .int .u32 0] 41)).alloc (.cells #[.int .u8 0, .string ⟨#[]⟩, .int .i64 0, .slice none 0 0, .slice none 0 0, .slice none 0 0] 36)) (h.below hb2 (Nat.le_refl _)) (by omega) ((hb2.cell (p := ⟨g, off, none⟩) hgl).trans hc0) (Nat.lt_of_lt_of_le hgl hb2.size) (by intro c; constructor <;> simp)
    (fun w' hw => check_pop false _ w' (hC.below (hb2.trans (hw.mono hb2.size)) (Nat.le_refl _)))
    2 2 true false rfl rfl rfl rfl (fun w' => find_pop false w')
  have heff := Row.new (w.alloc (.cells #[.int .i64 0, .int .i64 0, .int .u32 0] 41)) 36 [.int .u8 0, .string ⟨#[]⟩, .int .i64 0, .slice none 0 0, .slice none 0 0, .slice none 0 0]
  rw [World.size_alloc] at heff
  have hE := Lib.hid heff
  have H := Lib.hid h
  have HG := Lib.hid hG
  have HC := Lib.hid hC
  have HK := Lib.hid hkey
  have HKP := Lib.hid hk
  have HL := Lib.hid hL
  have hln : (1 : Int) < ((2 : Nat) : Int) := by omega
  clear heff hG h hC hkey hc0 hk hL
  go_enter Tryz.func7, Tryz.ntmps7
  go_wp2_with fail
  generalize hW : ((w.alloc (.cells #[.int .i64 0, .int .i64 0, .int .u32 0] 41)).alloc (.cells #[.int .u8 0, .string ⟨#[]⟩, .int .i64 0, .slice none 0 0, .slice none 0 0, .slice none 0 0] 36)) = W at *
  clear hW
  go_at_call 13
  refine hof.mono ?_
  rintro e w1 ⟨c, rfl, hc, hb1⟩
  have hbw1 : Below w.heap.size w w1 := b_call hb1 hb2
  have HE1 := Lib.hid (row_below hE.out hb1 (Nat.le_refl _))
  have HCR := Lib.hid hc
  have hrows := rows_row w1
  clear hof hc
  go_wp2_with fail
  go_at_call 14
  refine hrows.mono ?_
  rintro e w2 ⟨r, ra, rb, rc, rd, rfl, hrc, hrl, qa, qb, qc, qd, hb3⟩
  have hbw2 : Below w.heap.size w w2 := b_call hb3 hbw1
  have HE2 := Lib.hid (row_below HE1.out hb3 (Nat.le_refl _))
  have HC2 := Lib.hid (row_below HCR.out hb3 (Nat.le_refl _))
  have HR := Lib.hid hrc
  have hcl2 : c < w2.heap.size := HC2.out.lt
  have hra := Go.World.cell?_lt qa
  have hrb := Go.World.cell?_lt qb
  have hrc' := Go.World.cell?_lt qc
  have hrd := Go.World.cell?_lt qd
  have QB := Lib.hid qb
  have QC := Lib.hid qc
  have QD := Lib.hid qd
  clear hrows hrc qa qb qc qd
  go_wp2_with fail
  refine wp_loop_rounds 4 ?_
  obtain ⟨v0, hv0, hB0⟩ : ∃ v0 : World, v0 = w2 ∧ Below w2.heap.size w2 v0 := ⟨w2, rfl, Below.refl _ _⟩
  rw [← hv0]
  clear hv0
  rw [rounds_succ]
  have r00 := (hB0.cell (p := ⟨r, 0, none⟩) hrl).trans (HR.out 0 _ rfl)
  have r01 := (hB0.cell (p := ⟨r, 1, none⟩) hrl).trans (HR.out 1 _ rfl)
  have r02 := (hB0.cell (p := ⟨r, 2, none⟩) hrl).trans (HR.out 2 _ rfl)
  have nm0 : v0.cell? ⟨c, 5, none⟩ = some (.string ⟨#[114, 112, 111, 112]⟩) := (hB0.cell (p := ⟨c, 5, none⟩) hcl2).trans (HC2.out.cell (i := 5) rfl)
  have hcv0 : c < v0.heap.size := Nat.lt_of_lt_of_le hcl2 hB0.size
  have hrv0 : r < v0.heap.size := Nat.lt_of_lt_of_le hrl hB0.size
  have hA0 : ∀ n, Below w2.heap.size w2 ((v0.alloc (.cells #[.string ⟨#[108, 112, 117, 115, 104]⟩, .int .u8 2, .func (.func 33) #[] #[.pointer (some ⟨ra, 0, none⟩)]] 69)).drewN n) := fun n =>
    have h1 := hB0.alloc hB0.size (.cells #[.string ⟨#[108, 112, 117, 115, 104]⟩, .int .u8 2, .func (.func 33) #[] #[.pointer (some ⟨ra, 0, none⟩)]] 69)
    ⟨h1.os, h1.tape, h1.output, h1.size, h1.block⟩
  go_wp2_with fail
  go_quiet (fail)
  rename Nat => nq0
  go_wp2_with fail
  obtain ⟨v1, hv1, hB1⟩ : ∃ v1 : World, v1 = (v0.alloc (.cells #[.string ⟨#[108, 112, 117, 115, 104]⟩, .int .u8 2, .func (.func 33) #[] #[.pointer (some ⟨ra, 0, none⟩)]] 69)).drewN nq0 ∧ Below w2.heap.size w2 v1 := ⟨_, rfl, hA0 nq0⟩
  rw [← hv1]
  clear hv1 r00 r01 r02 nm0 hA0 hcv0 hrv0
  rw [rounds_succ]
  have r10 := (hB1.cell (p := ⟨r, 3, none⟩) hrl).trans (HR.out 3 _ rfl)
  have r11 := (hB1.cell (p := ⟨r, 4, none⟩) hrl).trans (HR.out 4 _ rfl)
  have r12 := (hB1.cell (p := ⟨r, 5, none⟩) hrl).trans (HR.out 5 _ rfl)
  have nm1 : v1.cell? ⟨c, 5, none⟩ = some (.string ⟨#[114, 112, 111, 112]⟩) := (hB1.cell (p := ⟨c, 5, none⟩) hcl2).trans (HC2.out.cell (i := 5) rfl)
  have hcv1 : c < v1.heap.size := Nat.lt_of_lt_of_le hcl2 hB1.size
  have hrv1 : r < v1.heap.size := Nat.lt_of_lt_of_le hrl hB1.size
  have hA1 : ∀ n, Below w2.heap.size w2 ((v1.alloc (.cells #[.string ⟨#[114, 112, 117, 115, 104]⟩, .int .u8 2, .func (.func 33) #[] #[.pointer (some ⟨rb, 0, none⟩)]] 69)).drewN n) := fun n =>
    have h1 := hB1.alloc hB1.size (.cells #[.string ⟨#[114, 112, 117, 115, 104]⟩, .int .u8 2, .func (.func 33) #[] #[.pointer (some ⟨rb, 0, none⟩)]] 69)
    ⟨h1.os, h1.tape, h1.output, h1.size, h1.block⟩
  go_wp2_with fail
  go_quiet (fail)
  rename Nat => nq1
  go_wp2_with fail
  obtain ⟨v2, hv2, hB2⟩ : ∃ v2 : World, v2 = (v1.alloc (.cells #[.string ⟨#[114, 112, 117, 115, 104]⟩, .int .u8 2, .func (.func 33) #[] #[.pointer (some ⟨rb, 0, none⟩)]] 69)).drewN nq1 ∧ Below w2.heap.size w2 v2 := ⟨_, rfl, hA1 nq1⟩
  rw [← hv2]
  clear hv2 r10 r11 r12 nm1 hA1 hcv1 hrv1
  rw [rounds_succ]
  have r20 := (hB2.cell (p := ⟨r, 6, none⟩) hrl).trans (HR.out 6 _ rfl)
  have r21 := (hB2.cell (p := ⟨r, 7, none⟩) hrl).trans (HR.out 7 _ rfl)
  have r22 := (hB2.cell (p := ⟨r, 8, none⟩) hrl).trans (HR.out 8 _ rfl)
  have nm2 : v2.cell? ⟨c, 5, none⟩ = some (.string ⟨#[114, 112, 111, 112]⟩) := (hB2.cell (p := ⟨c, 5, none⟩) hcl2).trans (HC2.out.cell (i := 5) rfl)
  have hcv2 : c < v2.heap.size := Nat.lt_of_lt_of_le hcl2 hB2.size
  have hrv2 : r < v2.heap.size := Nat.lt_of_lt_of_le hrl hB2.size
  have hA2 : ∀ n, Below w2.heap.size w2 ((v2.alloc (.cells #[.string ⟨#[108, 112, 111, 112]⟩, .int .u8 2, .func (.func 36) #[] #[.pointer (some ⟨rc, 0, none⟩)]] 69)).drewN n) := fun n =>
    have h1 := hB2.alloc hB2.size (.cells #[.string ⟨#[108, 112, 111, 112]⟩, .int .u8 2, .func (.func 36) #[] #[.pointer (some ⟨rc, 0, none⟩)]] 69)
    ⟨h1.os, h1.tape, h1.output, h1.size, h1.block⟩
  go_wp2_with fail
  go_quiet (fail)
  rename Nat => nq2
  go_wp2_with fail
  obtain ⟨v3, hv3, hB3⟩ : ∃ v3 : World, v3 = (v2.alloc (.cells #[.string ⟨#[108, 112, 111, 112]⟩, .int .u8 2, .func (.func 36) #[] #[.pointer (some ⟨rc, 0, none⟩)]] 69)).drewN nq2 ∧ Below w2.heap.size w2 v3 := ⟨_, rfl, hA2 nq2⟩
  rw [← hv3]
  clear hv3 r20 r21 r22 nm2 hA2 hcv2 hrv2
  rw [rounds_succ]
  have r30 := (hB3.cell (p := ⟨r, 9, none⟩) hrl).trans (HR.out 9 _ rfl)
  have r31 := (hB3.cell (p := ⟨r, 10, none⟩) hrl).trans (HR.out 10 _ rfl)
  have r32 := (hB3.cell (p := ⟨r, 11, none⟩) hrl).trans (HR.out 11 _ rfl)
  have nm3 : v3.cell? ⟨c, 5, none⟩ = some (.string ⟨#[114, 112, 111, 112]⟩) := (hB3.cell (p := ⟨c, 5, none⟩) hcl2).trans (HC2.out.cell (i := 5) rfl)
  have hcv3 : c < v3.heap.size := Nat.lt_of_lt_of_le hcl2 hB3.size
  have hrv3 : r < v3.heap.size := Nat.lt_of_lt_of_le hrl hB3.size
  have hA3 : ∀ n, Below w2.heap.size w2 ((v3.alloc (.cells #[.string ⟨#[114, 112, 111, 112]⟩, .int .u8 2, .func (.func 36) #[] #[.pointer (some ⟨rd, 0, none⟩)]] 69)).drewN n) := fun n =>
    have h1 := hB3.alloc hB3.size (.cells #[.string ⟨#[114, 112, 111, 112]⟩, .int .u8 2, .func (.func 36) #[] #[.pointer (some ⟨rd, 0, none⟩)]] 69)
    ⟨h1.os, h1.tape, h1.output, h1.size, h1.block⟩
  have hrow69 := fun n => (show Row ((v3.alloc (.cells #[.string ⟨#[114, 112, 111, 112]⟩, .int .u8 2, .func (.func 36) #[] #[.pointer (some ⟨rd, 0, none⟩)]] 69)).drewN n) v3.heap.size 69 [.string ⟨#[114, 112, 111, 112]⟩, .int .u8 2, .func (.func 36) #[] #[.pointer (some ⟨rd, 0, none⟩)]] from Row.new v3 69 [.string ⟨#[114, 112, 111, 112]⟩, .int .u8 2, .func (.func 36) #[] #[.pointer (some ⟨rd, 0, none⟩)]])
  go_wp2_with fail
  go_quiet (fail)
  rename Nat => nq3
  obtain ⟨x, hx, hX, hR69⟩ : ∃ x : World, x = (v3.alloc (.cells #[.string ⟨#[114, 112, 111, 112]⟩, .int .u8 2, .func (.func 36) #[] #[.pointer (some ⟨rd, 0, none⟩)]] 69)).drewN nq3 ∧ Below w2.heap.size w2 x ∧ Row x v3.heap.size 69 [.string ⟨#[114, 112, 111, 112]⟩, .int .u8 2, .func (.func 36) #[] #[.pointer (some ⟨rd, 0, none⟩)]] := ⟨_, rfl, hA3 nq3, hrow69 nq3⟩
  rw [← hx]
  clear hx r30 r31 r32 nm3 hA3 hrow69 hcv3 hrv3
  have hbx : Below w.heap.size w x := hbw2.trans (hX.mono hbw2.size)
  have hgx : g < x.heap.size := Nat.lt_of_lt_of_le hgl hbx.size
  have kx : x.cell? ⟨g, off + 1, none⟩ = some (.string ⟨#[108]⟩) := (hbx.cell (p := ⟨g, off + 1, none⟩) hgl).trans HK.out
  have hcx := row_below HC2.out hX (Nat.le_refl _)
  have hval := value_one c _ _ p m k l0 Filled 10 xs hm x (H.out.below hbx (Nat.le_refl _)) (HKP.out.below hbx (Nat.le_refl _)) (HL.out.below hbx (Nat.le_refl _)) (HG.out.below hbx HG.out.size) hcx
  unfold listVal at hval
  have HCX := Lib.hid hcx
  clear hcx
  go_wp2_with fail
  go_at_call 15
  refine hval.mono ?_
  rintro e y ⟨u, rfl, hown, hby⟩
  have hvs := Slice.of_owns hown
  obtain ⟨sq, cq, rfl⟩ := hvs.len
  have hbw3 : Below w.heap.size w y := b_call hby hbx
  have hR69y := row_below hR69 hby (Nat.le_refl _)
  have z1 := hR69y.cell (i := 1) rfl
  have z2 := hR69y.cell (i := 2) rfl
  have hlt69 := hR69y.lt
  have hbz : Below w.heap.size w (y.alloc (.cells #[.int .u8 2, .string ⟨#[]⟩, .slice sq xs.length cq, .slice none 0 0, .slice none 0 0, .slice none 0 0, .slice none 0 0, .int .u64 0, .int .u64 0] 57)) := hbw3.alloc hbw3.size _
  have hcz := (row_below HCX.out hby (Nat.le_refl _)).alloc (.cells #[.int .u8 2, .string ⟨#[]⟩, .slice sq xs.length cq, .slice none 0 0, .slice none 0 0, .slice none 0 0, .slice none 0 0, .int .u64 0, .int .u64 0] 57)
  have hqz : (y.alloc (.cells #[.int .u8 2, .string ⟨#[]⟩, .slice sq xs.length cq, .slice none 0 0, .slice none 0 0, .slice none 0 0, .slice none 0 0, .int .u64 0, .int .u64 0] 57)).cell? ⟨rd, 0, none⟩ = some (.bool false) := (((hX.trans (hby.mono hX.size)).alloc (hX.trans (hby.mono hX.size)).size (.cells #[.int .u8 2, .string ⟨#[]⟩, .slice sq xs.length cq, .slice none 0 0, .slice none 0 0, .slice none 0 0, .slice none 0 0, .int .u64 0, .int .u64 0] 57)).cell (p := ⟨rd, 0, none⟩) hrd).trans QD.out
  have hqlt : rd < (y.alloc (.cells #[.int .u8 2, .string ⟨#[]⟩, .slice sq xs.length cq, .slice none 0 0, .slice none 0 0, .slice none 0 0, .slice none 0 0, .int .u64 0, .int .u64 0] 57)).heap.size := Go.World.cell?_lt hqz
  have hrow := rowPop false rd c g off cap p m k l0 (.slice sq xs.length cq) xs hpos hm hitems _ (hvs.below ((Below.refl _ y).alloc (Nat.le_refl _) (.cells #[.int .u8 2, .string ⟨#[]⟩, .slice sq xs.length cq, .slice none 0 0, .slice none 0 0, .slice none 0 0, .slice none 0 0, .int .u64 0, .int .u64 0] 57)) (Nat.le_refl _)) (HG.out.below hbz HG.out.size) (H.out.below hbz (Nat.le_refl _)) (HKP.out.below hbz (Nat.le_refl _)) (HL.out.below hbz (Nat.le_refl _)) hgav (HC.out.below hbz (Nat.le_refl _)) hcz hqlt hqz
  unfold callVal at hrow
  have HEZ := Lib.hid ((row_below HE2.out (hX.trans (hby.mono hX.size)) (Nat.le_refl _)).alloc (.cells #[.int .u8 2, .string ⟨#[]⟩, .slice sq xs.length cq, .slice none 0 0, .slice none 0 0, .slice none 0 0, .slice none 0 0, .int .u64 0, .int .u64 0] 57))
  clear hval hR69 hR69y hcz
  go_wp2_with fail
  generalize hZ : y.alloc (.cells #[.int .u8 2, .string ⟨#[]⟩, .slice sq xs.length cq, .slice none 0 0, .slice none 0 0, .slice none 0 0, .slice none 0 0, .int .u64 0, .int .u64 0] 57) = Z at *
  clear hZ
  go_at_call 36
  refine hrow.mono ?_
  rintro e w3 ⟨u1, n1, c1, u2, n2, c2, rfl, hS, ho⟩
  have htl := H.out.dict.tab.lt
  have hdl := H.out.dict.cell.lt
  have hml := HKP.out.one.lt
  have hkl := HKP.out.kept.lt
  have hE3 := HEZ.out.only ho (fun e => by rcases e with e | e | e <;> omega)
  have y0 := hE3.cell (i := 0) rfl
  have z0 := hE3.free 0
  have y1 := hE3.cell (i := 1) rfl
  have z1 := hE3.free 1
  have y2 := hE3.cell (i := 2) rfl
  have z2 := hE3.free 2
  have y3 := hE3.cell (i := 3) rfl
  have z3 := hE3.free 3
  have y4 := hE3.cell (i := 4) rfl
  have z4 := hE3.free 4
  have y5 := hE3.cell (i := 5) rfl
  have z5 := hE3.free 5
  have hE3' := Lib.hid hE3
  have hS' := Lib.hid hS
  clear hS
  clear hE3 hrow
  go_wp2_with fail
  try simp only [Exit.inBlock, Exit.then]
  have hF := ((((((hE3'.out.set 0 (.int .u8 4)).set 1 (.string (xs.getD (popAt false xs.length) ⟨#[]⟩))).set 2 (.int .i64 0)).set 3 (.slice none 0 0)).set 4 (.slice u1 n1 c1)).set 5 (.slice u2 n2 c2))
  unfold Row at hF
  have ho2 := (((((((Only.refl (· = w.heap.size + 1) w3).setCell ⟨w.heap.size + 1, 0, none⟩ (fun _ => rfl) (.int .u8 4)).setCell ⟨w.heap.size + 1, 1, none⟩ (fun _ => rfl) (.string (xs.getD (popAt false xs.length) ⟨#[]⟩))).setCell ⟨w.heap.size + 1, 2, none⟩ (fun _ => rfl) (.int .i64 0)).setCell ⟨w.heap.size + 1, 3, none⟩ (fun _ => rfl) (.slice none 0 0)).setCell ⟨w.heap.size + 1, 4, none⟩ (fun _ => rfl) (.slice u1 n1 c1)).setCell ⟨w.heap.size + 1, 5, none⟩ (fun _ => rfl) (.slice u2 n2 c2))
  refine bodyPost_ret (results_cell_tmp (P := Tryz.prog) rfl _ _ (w.heap.size + 1) 36 #[.int .u8 4, .string (xs.getD (popAt false xs.length) ⟨#[]⟩), .int .i64 0, .slice none 0 0, .slice u1 n1 c1, .slice u2 n2 c2] (0, 0) _ rfl (by simpa using hF) Tryz.underlying36 rfl size36) rfl ?_
  refine ⟨_, _, _, _, _, _, rfl, hS'.out.eff (by omega) hE3'.out ho2, ?_⟩
  exact ((Only.of_below (S := fun x => x = m ∨ x = p.d ∨ x = k) hbz).trans ho).then ho2 (fun i hi e => by omega)

end Go.Proofs.YtgmljeeeomjooaaGreatDoor
