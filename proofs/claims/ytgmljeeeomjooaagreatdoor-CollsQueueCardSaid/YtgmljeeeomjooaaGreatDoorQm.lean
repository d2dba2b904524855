/-
  (colls.call).pop: the walk; what Store and Did do is asked. (IN WORK)
-/
import Derived.Test.YtgmljeeeomjooaaGreatDoorQl
set_option linter.all false
namespace Go.Proofs.YtgmljeeeomjooaaGreatDoor
open Go Go.RowKit Go.Q Go.Sort

theorem size36 : (Tryz.prog.info? 36).map (·.size) = some 6 := by kernel_rfl

set_option maxHeartbeats 3200000 in
set_option maxRecDepth 100000 in
theorem pop_walk (front : Bool) (c : Nat) (there : Bool) (v : Value) (xs : List ByteArray) (hpos : 0 < xs.length) (hm : xs.length ≤ 1000) (hs : ∀ s ∈ xs, s.size ≤ 65536) (w : World) (hv : Slice w v xs) (hG : Glob w)
    (C : Value) (key : ByteArray) (s0 x0 x1 x2 nm : Value) (g off cap n : Nat) (hC : C = .slice (some ⟨g, off, none⟩) n cap) (hn : 1 < n) (hkey : w.cell? ⟨g, off + 1, none⟩ = some (.string key)) (hgl : g < w.heap.size)
    (hc : Row w c 71 [s0, x0, x1, x2, C, nm]) (R : Ending → World → Prop) (S : World → Prop)
    (hstore : ∀ w' u, Below w.heap.size w w' → w'.ownsRow w.heap.size 9 1 u (rest front xs).length (strs (rest front xs)) → Calls Tryz.prog 165 #[.pointer (some ⟨c, 0, none⟩), .string key, listVal u] w' fun e w'' => e = .returned (.tuple #[]) ∧
      (∀ k, w.heap.size ≤ k → k < w'.heap.size → w''.heap[k]? = w'.heap[k]?) ∧ w'.heap.size ≤ w''.heap.size ∧ S w'')
    (hS1 : ∀ a b, S a → Below a.heap.size a b → S b)
    (hdid : ∀ w' cs, S w' → Row w' (w.heap.size + 1) 36 cs → Calls Tryz.prog 97 #[.pointer (some ⟨c, 0, none⟩), .agg #[.int .u8 4, .string (xs.getD (popAt front xs.length) ⟨#[]⟩), .int .i64 0, .slice none 0 0]] w' fun e w'' => ∃ u1 n1 c1 u2 n2 c2, e = .returned (.agg #[.int .u8 4, .string (xs.getD (popAt front xs.length) ⟨#[]⟩), .int .i64 0, .slice none 0 0, .slice u1 n1 c1, .slice u2 n2 c2]) ∧
      (∀ k, w.heap.size ≤ k → k < w'.heap.size → w''.heap[k]? = w'.heap[k]?) ∧ w'.heap.size ≤ w''.heap.size ∧
      ∀ w6, Only (· = w.heap.size + 1) w'' w6 → R (.returned (.agg #[.int .u8 4, .string (xs.getD (popAt front xs.length) ⟨#[]⟩), .int .i64 0, .slice none 0 0, .slice u1 n1 c1, .slice u2 n2 c2])) w6) :
    Calls Tryz.prog 37 #[callVal 2 c v there, .bool front] w R := by
  have hlist := fun w' (hw : Below w.heap.size w w') => callList_any 2 c there v xs w' (hv.below hw (Nat.le_refl _)) hm hs (hG.below hw hG.size)
  unfold callVal
  unfold callVal at hlist
  obtain ⟨sp, cp, rfl⟩ := hv.len
  have hb2 : Below w.heap.size w ((w.alloc (.cells #[.pointer (some ⟨c, 0, none⟩), .int .u8 2, .string ⟨#[]⟩, .slice sp xs.length cp, .slice none 0 0, .slice none 0 0, .slice none 0 0, .slice none 0 0, .int .u64 0, .int .u64 0, .bool there] 76)).alloc (.cells #[.int .u8 0, .string ⟨#[]⟩, .int .i64 0, .slice none 0 0, .slice none 0 0, .slice none 0 0] 36)) := ((Below.refl _ w).alloc (Nat.le_refl _) _).alloc (by simp) _
  have hl2 := hlist _ hb2
  clear hlist
  have hbox := (Row.new w 76 [.pointer (some ⟨c, 0, none⟩), .int .u8 2, .string ⟨#[]⟩, .slice sp xs.length cp, .slice none 0 0, .slice none 0 0, .slice none 0 0, .slice none 0 0, .int .u64 0, .int .u64 0, .bool there]).alloc (.cells #[.int .u8 0, .string ⟨#[]⟩, .int .i64 0, .slice none 0 0, .slice none 0 0, .slice none 0 0] 36)
  have hB := Lib.hid hbox
  have heff := Row.new (w.alloc (.cells #[.pointer (some ⟨c, 0, none⟩), .int .u8 2, .string ⟨#[]⟩, .slice sp xs.length cp, .slice none 0 0, .slice none 0 0, .slice none 0 0, .slice none 0 0, .int .u64 0, .int .u64 0, .bool there] 76)) 36 [.int .u8 0, .string ⟨#[]⟩, .int .i64 0, .slice none 0 0, .slice none 0 0, .slice none 0 0]
  rw [World.size_alloc] at heff
  have hE := Lib.hid heff
  clear heff
  have hS := Lib.hid hstore
  have hG2 := Lib.hid (hG.below hb2 hG.size)
  have hs2 : w.heap.size ≤ ((w.alloc (.cells #[.pointer (some ⟨c, 0, none⟩), .int .u8 2, .string ⟨#[]⟩, .slice sp xs.length cp, .slice none 0 0, .slice none 0 0, .slice none 0 0, .slice none 0 0, .int .u64 0, .int .u64 0, .bool there] 76)).alloc (.cells #[.int .u8 0, .string ⟨#[]⟩, .int .i64 0, .slice none 0 0, .slice none 0 0, .slice none 0 0] 36)).heap.size := hb2.size
  have hG' := Lib.hid hG
  have h10 := hG.size
  have hkey' := Lib.hid hkey
  have hc' := Lib.hid hc
  clear hbox hstore hG hkey hc hv
  go_enter Tryz.func37, Tryz.ntmps37
  go_wp2_with fail
  generalize hW : (w.alloc (.cells #[.pointer (some ⟨c, 0, none⟩), .int .u8 2, .string ⟨#[]⟩, .slice sp xs.length cp, .slice none 0 0, .slice none 0 0, .slice none 0 0, .slice none 0 0, .int .u64 0, .int .u64 0, .bool there] 76)).alloc (.cells #[.int .u8 0, .string ⟨#[]⟩, .int .i64 0, .slice none 0 0, .slice none 0 0, .slice none 0 0] 36) = W at *
  clear hW
  go_at_call 94
  refine hl2.mono ?_
  rintro e w1 ⟨l, rfl, hL, hb1⟩
  have hpop := listPop_any front W.heap.size l xs hpos hm w1 hL (hG2.out.below hb1 hG2.out.size) (by omega)
  clear hl2 hL
  go_wp2_with fail
  go_at_call 100
  refine hpop.mono ?_
  rintro e w2 ⟨rfl, hL2, hb12⟩
  have hbW2 := hb1.trans hb12
  have hbw2 : Below w.heap.size w w2 := hb2.trans (hbW2.mono hs2)
  have hBr := row_below hB.out hbW2 (Nat.le_refl _)
  have e0 := hBr.cell (i := 0) rfl
  have e1 := hBr.cell (i := 1) rfl
  have e2 := hBr.cell (i := 2) rfl
  have e3 := hBr.cell (i := 3) rfl
  have e4 := hBr.cell (i := 4) rfl
  have e5 := hBr.cell (i := 5) rfl
  have e6 := hBr.cell (i := 6) rfl
  have e7 := hBr.cell (i := 7) rfl
  have e8 := hBr.cell (i := 8) rfl
  have e9 := hBr.cell (i := 9) rfl
  have e10 := hBr.cell (i := 10) rfl
  have hBr' := Lib.hid hBr
  have hL2' := Lib.hid hL2
  clear hpop hBr hL2
  go_wp2_with fail
  have hcw := hc'.out.lt
  have hst := storeList_any 2 (fun _ => True) W.heap.size c l there _ C key s0 x0 x1 x2 nm (rest front xs) (by unfold rest; split <;> simp <;> omega) w2 hL2'.out (hG'.out.below hbw2 hG'.out.size) sp xs.length cp rfl g off cap n hC hn ((hbw2.cell (p := ⟨g, off + 1, none⟩) hgl).trans hkey'.out) (Nat.lt_of_lt_of_le hgl hbw2.size) (row_below hc'.out hbw2 (Nat.le_refl _))
    (fun e w3 => e = .returned (.tuple #[]) ∧ (∀ k, w.heap.size ≤ k → k < w2.heap.size → w3.heap[k]? = w2.heap[k]?) ∧ w2.heap.size ≤ w3.heap.size ∧ S w3)
    (fun w' u hw hu => (hS.out w' u (b_call hw hbw2) (owns_mono hu hbw2.size)).mono fun e w'' ⟨h1, h2, h3, h4⟩ => ⟨h1, rfl, fun k hk hk2 => (h2 k hk (Nat.lt_of_lt_of_le hk2 hw.size)).trans (hw.block k hk2), Nat.le_trans hw.size h3, h4⟩)
  unfold callVal at hst
  go_at_call 96
  refine hst.mono ?_
  rintro e w3 ⟨rfl, hk3, hs3, hS3⟩
  have hB3 : Row w3 w.heap.size 76 _ := (hk3 w.heap.size (Nat.le_refl _) hBr'.out.lt).trans hBr'.out
  have hE2 := row_below hE.out hbW2 (Nat.le_refl _)
  have hE3 : Row w3 (w.heap.size + 1) 36 _ := (hk3 (w.heap.size + 1) (Nat.le_succ _) hE2.lt).trans hE2
  have b0 := hB3.cell (i := 0) rfl
  have hB3' := Lib.hid hB3
  have hE3' := Lib.hid hE3
  have hS3' := Lib.hid hS3
  have hdid' := Lib.hid hdid
  have hdr : Below w3.heap.size w3 w3.drew := (Below.refl _ _).drew
  clear hst hk3 e0 e1 e2 e3 e4 e5 e6 e7 e8 e9 e10 hE2 hB3 hE3 hS3 hdid
  go_wp2_with fail
  go_region_with (first
    | (go_at_call 102; refine (bulk_any _ w3.drew).mono ?_; rintro e w4 ⟨rfl, hb4⟩; have hb34 := b_call hb4 hdr; have q0 := (row_below hB3'.out hb34 (Nat.le_refl _)).cell (i := 0) rfl; have hE4 := Lib.hid (row_below hE3'.out hb34 (Nat.le_refl _)); have hd4 := hdid'.out w4 _ (hS1 _ _ hS3'.out hb34) hE4.out)
    | (go_at_call 97; refine hd4.mono ?_; rintro e w5 ⟨u1, n1, c1, u2, n2, c2, rfl, hk5, hs5, hR⟩; have hE5 : Row w5 (w.heap.size + 1) 36 _ := (hk5 (w.heap.size + 1) (Nat.le_succ _) hE4.out.lt).trans hE4.out; have z0 := hE5.cell (i := 0) rfl; have z1 := hE5.cell (i := 1) rfl; have z2 := hE5.cell (i := 2) rfl; have z3 := hE5.cell (i := 3) rfl; have z4 := hE5.cell (i := 4) rfl; have z5 := hE5.cell (i := 5) rfl; have y0 := hE5.free 0; have y1 := hE5.free 1; have y2 := hE5.free 2; have y3 := hE5.free 3; have y4 := hE5.free 4; have y5 := hE5.free 5; have hE5' := Lib.hid hE5; have hR' := Lib.hid hR; clear hE5 hR))
  all_goals
    go_wp2_with fail
    try simp only [Exit.inBlock, Exit.then]
    have hF := (((((hE5'.out.set 0 (.int .u8 4)).set 1 (.string (xs.getD (popAt front xs.length) ⟨#[]⟩))).set 2 (.int .i64 0)).set 3 (.slice none 0 0)).set 4 (.slice u1 n1 c1)).set 5 (.slice u2 n2 c2)
    unfold Row at hF
    refine bodyPost_ret (results_cell_row (P := Tryz.prog) rfl _ _ (w.heap.size + 1) 36 #[.int .u8 4, .string (xs.getD (popAt front xs.length) ⟨#[]⟩), .int .i64 0, .slice none 0 0, .slice u1 n1 c1, .slice u2 n2 c2] (0, 0) _ rfl (by simpa using hF) Tryz.underlying36 rfl size36) rfl ?_
    have ho := ((((((Only.refl (· = w.heap.size + 1) w5).setCell ⟨w.heap.size + 1, 0, none⟩ (fun _ => rfl) (.int .u8 4)).setCell ⟨w.heap.size + 1, 1, none⟩ (fun _ => rfl) (.string (xs.getD (popAt front xs.length) ⟨#[]⟩))).setCell ⟨w.heap.size + 1, 2, none⟩ (fun _ => rfl) (.int .i64 0)).setCell ⟨w.heap.size + 1, 3, none⟩ (fun _ => rfl) (.slice none 0 0)).setCell ⟨w.heap.size + 1, 4, none⟩ (fun _ => rfl) (.slice u1 n1 c1)).setCell ⟨w.heap.size + 1, 5, none⟩ (fun _ => rfl) (.slice u2 n2 c2)
    have := hR'.out _ ho
    simpa using this

end Go.Proofs.YtgmljeeeomjooaaGreatDoor
