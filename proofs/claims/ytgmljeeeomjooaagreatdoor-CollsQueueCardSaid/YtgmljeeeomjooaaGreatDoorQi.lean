/-
  quick.Delete of the sole text: contract.
-/
import Derived.Test.YtgmljeeeomjooaaGreatDoorQh
set_option linter.all false
/-
  quick.Delete of the sole text: contract.
-/
namespace Go.Proofs.YtgmljeeeomjooaaGreatDoor
open Go Go.RowKit Go.Q Go.Sort

set_option maxHeartbeats 3200000 in
set_option maxRecDepth 100000 in
/-- The sole text goes. -/
theorem del_sole (B q : Nat) (nd : Knot) (hone : nd.xs.length = 1) (w : World) (h : QuickAt w B q [nd]) (hG : Glob w) (hB : 10 ≤ B) :
    Calls Tryz.prog 583 #[.pointer (some ⟨q, 0, none⟩), .int .i64 0, .int .i64 1] w fun e w' => e = .returned (.int .i64 0) ∧ QuickAt w' B q [] ∧ Near B q w w' := by
  have ht1 : total [nd] = 1 := by simp [total, hone]
  have h' : QuickN w B q [nd] 1 := ht1 ▸ h
  have hfind : Calls Tryz.prog 247 #[.pointer (some ⟨q, 0, none⟩), .int .i64 1] w fun e w' => e = .returned (.tuple #[.pointer (some ⟨nd.x, 0, none⟩), .int .i64 1]) ∧ Below w.heap.size w w' :=
    find_any q [nd] 1 0 nd rfl 1 (by omega) (.inr (by omega)) (by omega) w h'.links h'.packs
  have hP := h.packs nd (by simp)
  have hX : Row w nd.x 395 [.pointer (some ⟨nd.p, 0, none⟩), .pointer none, .pointer none] := h.links.node 0 nd.key rfl
  have hQ := h'.links.cell
  have hql := hQ.lt
  have hBq := h.low
  have hpb := h.base nd (by simp)
  have hqp : q ≠ nd.p := row_ne hQ hP.cell (by decide)
  have hcq0 := hQ.cell (i := 0) rfl
  have hcq3 : w.cell? ⟨q, 3, none⟩ = some (.int .i64 1) := hQ.cell (i := 3) rfl
  have hq3f := hQ.free 3
  have H := Lib.hid h'
  have hG' := Lib.hid hG
  clear h h' hX hQ hP hG ht1
  go_enter Tryz.func583, Tryz.ntmps583
  go_wp2_with fail
  go_step3
  go_wp2_with fail
  go_at_call 247
  refine hfind.mono ?_
  rintro e w1 ⟨rfl, hb1⟩
  have hq1 : w1.cell? ⟨q, 3, none⟩ = some (.int .i64 1) := (hb1.cell (p := ⟨q, 3, none⟩) hql).trans hcq3
  have hqf1 : w1.frozen? ⟨q, 3, none⟩ = false := (hb1.frozen (p := ⟨q, 3, none⟩) hql).trans hq3f
  have H1 : Hid (QuickN w1 B q [nd] 1) := Lib.hid (H.out.below hb1 (Nat.le_refl _))
  have H2 : Hid (QuickN (w1.setCell ⟨q, 3, none⟩ (.int .i64 0)) B q ([] ++ nd :: []) 0) := Lib.hid (H1.out.count 0)
  have hO2 : Hid (Near B q w (w1.setCell ⟨q, 3, none⟩ (.int .i64 0))) := Lib.hid ((Near.of hb1).set 3 _)
  have hG2 : Hid (Glob (w1.setCell ⟨q, 3, none⟩ (.int .i64 0))) := Lib.hid ((hG'.out.below hb1 hG'.out.size).only ((Only.refl (· = q) w1).setCell ⟨q, 3, none⟩ (fun _ => rfl) _) (fun k hk e => by omega))
  clear hfind
  go_wp2_with fail
  go_step3
  generalize w1.setCell ⟨q, 3, none⟩ (.int .i64 0) = w2 at *
  have hP2 := H2.out.packs nd (by simp)
  have hX2 : Row w2 nd.x 395 [.pointer (some ⟨nd.p, 0, none⟩), .pointer none, .pointer none] := H2.out.links.node 0 nd.key rfl
  have c20 := hX2.cell (i := 0) rfl
  have hlen2 : Calls Tryz.prog 248 #[.pointer (some ⟨nd.p, 0, none⟩)] w2 fun e w' => e = .returned (.int .i64 1) ∧ w2 = w' := by
    have := len_any nd.p nd.b nd.xs w2 hP2
    rw [hone] at this
    exact this
  have hdel2 : Calls Tryz.prog 308 #[.pointer (some ⟨nd.p, 0, none⟩), .int .i64 0, .int .i64 1] w2 _ := delete_p nd.p nd.b nd.xs 0 1 (by omega) (by omega) w2 hP2 hG2.out (by omega)
  have hX2' := Lib.hid hX2
  have hP2' := Lib.hid hP2
  clear hX2 hP2
  go_wp2_with fail
  refine wp_loop_rounds 1 ?_
  rw [rounds_succ]
  go_wp2_with fail
  go_at_call 248
  refine hlen2.mono ?_
  rintro e w' ⟨rfl, rfl⟩
  go_wp2_with fail
  go_at_call 308
  refine hdel2.mono ?_
  rintro e w3 ⟨rfl, b', hpk, hbb, hon⟩
  have H3 := Lib.hid (H2.out.put (pre := []) (post := []) hon hpk)
  have hO3 : Hid (Near B q w w3) := Lib.hid (hO2.out.pack hon hpb.2)
  have c30 : w3.cell? ⟨nd.x, 0, none⟩ = some (.pointer (some ⟨nd.p, 0, none⟩)) := (hX2'.out.only hon (row_ne hX2'.out hP2'.out.cell (by decide))).cell (i := 0) rfl
  have c32 : w3.cell? ⟨nd.x, 2, none⟩ = some (.pointer none) := (hX2'.out.only hon (row_ne hX2'.out hP2'.out.cell (by decide))).cell (i := 2) rfl
  have hdl : (delAt nd.xs 0 1).length = 0 := by rw [delAt_length (by omega)]; omega
  have hlen3 : Calls Tryz.prog 248 #[.pointer (some ⟨nd.p, 0, none⟩)] w3 fun e w' => e = .returned (.int .i64 0) ∧ w3 = w' := by
    have := len_any nd.p b' (delAt nd.xs 0 1) w3 hpk
    rw [hdl] at this
    exact this
  have hunl := unlink_sole q nd.x nd.p 0 w3 H3.out.links
  clear hpk hdl hdel2 hlen2
  go_wp2_with fail
  go_at_call 248
  refine hlen3.mono ?_
  rintro e w' ⟨rfl, rfl⟩
  clear hlen3
  go_wp2_with fail
  go_at_call 587
  refine hunl.mono ?_
  rintro e w4 ⟨rfl, hL4, ho4⟩
  have hL4' := Lib.hid hL4
  have hf4 := find_nil q 0 w4 hL4 0
  clear hunl hL4
  go_wp2_with fail
  go_at_call 247
  refine hf4.mono ?_
  rintro e w5 ⟨rfl, hb5⟩
  have hj5 := join_nil q w5
  clear hf4
  go_wp2_with fail
  refine wp_loop_rounds 1 ?_
  rw [rounds_succ]
  go_wp2_with fail
  go_at_call 588
  refine hj5.mono ?_
  rintro e w6 ⟨rfl, hb6⟩
  have hb46 := b_call hb6 hb5
  clear hj5
  go_wp2_with fail
  refine wp_loop_rounds 1 ?_
  rw [rounds_succ]
  go_wp2_with fail
  rw [Exit.noGoto_ret]
  go_ret
  refine ⟨rfl, ⟨hL4'.out.below hb46 (Nat.le_refl _), fun k hk => by simp at hk, by simp, hBq, fun k hk => by simp at hk⟩, ?_⟩
  exact (hO3.out.head ho4).trans (Near.of hb46)

end Go.Proofs.YtgmljeeeomjooaaGreatDoor

/-
  quick.Range over all, (list.great).all: contracts.
-/
namespace Go.Q
open Go Go.RowKit

/-- What Range's closure holds between two texts. -/
structure Ranging (n₀ : Nat) (wO : World) (at_ fr to : Nat) (A : Nat) (N : Nat) (W : World) : Prop where
  below : Below n₀ wO W
  atB : Boxed W at_ 3 (.int .i64 (A : Int))
  frB : Boxed W fr 3 (.int .i64 0)
  toB : Boxed W to 3 (.int .i64 ((N : Int) - 1))

theorem ranging_own {n₀ B : Nat} {wO : World} {at_ fr to A N : Nat} (hn : n₀ ≤ wO.heap.size) (hB : n₀ ≤ B) : OwnFrom B (fun (pre : List (Nat × ByteArray)) W => Ranging n₀ wO at_ fr to (A + pre.length) N W) := by
  intro s W W' row h hg hr
  have hr2 : ∀ r, row = some r → ∃ o : Obj, W.heap[r]? = some o ∧ o.isCells = false := fun r e => (hr r e).2
  exact ⟨ownFrom_below (β := Unit) hn hB () W W' row h.below hg hr, boxed_of_grown h.atB hg hr2, boxed_of_grown h.frB hg hr2, boxed_of_grown h.toB hg hr2⟩

end Go.Q
namespace Go.Proofs.YtgmljeeeomjooaaGreatDoor
open Go Go.RowKit Go.Q Go.Sort Go.Shelf

attribute [local go_sem] Oper.semAt_some

set_option maxRecDepth 100000 in
set_option maxHeartbeats 8000000 in
theorem range1 (n₀ : Nat) (wO : World) (hnO : n₀ = wO.heap.size) (h10 : 10 ≤ n₀) (x p b : Nat) (xs ys : List ByteArray) (at_ fr to out : Nat) (N : Nat) (cs : List Value) (v0 : Value) (w : World)
    (hne : at_ ≠ out ∧ fr ≠ out ∧ to ≠ out ∧ at_ ≠ fr ∧ at_ ≠ to) (hlo : n₀ ≤ at_ ∧ n₀ ≤ out)
    (hx : Row wO x 395 (.pointer (some ⟨p, 0, none⟩) :: cs)) (hp : PackAt wO p b xs) (hG : Glob wO) (hmany : ys.length + xs.length ≤ N) (hN : N ≤ 1000)
    (hR : Ranging n₀ wO at_ fr to ys.length N w) (hv0 : Boxed w out 22 v0) (hrow0 : w.ownsRow n₀ 9 1 v0 ys.length (strs ys)) :
    Calls Tryz.prog 592 #[.pointer (some ⟨x, 0, none⟩), .pointer (some ⟨at_, 0, none⟩), .pointer (some ⟨fr, 0, none⟩), .pointer (some ⟨to, 0, none⟩), .pointer (some ⟨out, 0, none⟩)] w fun e w' =>
      e = .returned (.bool (decide ((ys.length + xs.length : Nat) ≤ (N : Int) - 1))) ∧ Ranging n₀ wO at_ fr to (ys.length + xs.length) N w' ∧ ∃ v, Boxed w' out 22 v ∧ w'.ownsRow n₀ 9 1 v (ys.length + xs.length) (strs (ys ++ xs)) := by
  obtain ⟨i0, hi, hz0, hz1, hz2⟩ := info_parts info9
  have hxw := hx.only (Only.of_below (S := fun _ => False) (hnO ▸ hR.below)) (fun h => h)
  have hpw := hp.below hR.below (hnO ▸ hp.cell.lt) (hnO ▸ hp.bytes.lt)
  have hGw := hG.below hR.below h10
  have hxc := hxw.cell (i := 0) rfl
  have hsz := hR.below.size
  refine (callsIn_wide (n := 5)).1 ?_
  refine callsIn_of_wp_marks Tryz.func592 rfl trivial ?_ rfl
  simp only [Tryz.ntmps592, List.size_toArray, List.length_cons, List.length_nil, Nat.reduceAdd, Nat.reduceSub, Array.replicate_succ, Array.replicate_zero, List.push_toArray, List.append_toArray, List.nil_append, List.cons_append]
  gi_wp2_with (refine ⟨trivial, ?_⟩; gi_at_call 307; refine (callsIn_wide.2 (all_any _ _)).mono ?_; rintro e w' ⟨rfl, rfl⟩)
  have bN := Boxed.new w 222 (.pointer (some ⟨p, 0, none⟩))
  have hB0 : Below w.heap.size w (w.alloc (.cells #[.pointer (some ⟨p, 0, none⟩)] 222)) := (Below.refl _ w).alloc (Nat.le_refl _) _
  have hp0 := hpw.below hB0 hpw.cell.lt hpw.bytes.lt
  have hG0 := hGw.below hB0 (by omega)
  have hpl := hp.cell.lt
  have hbl := hp.bytes.lt
  have hR0 : Ranging n₀ wO at_ fr to (ys.length + ([] : List (Nat × ByteArray)).length) N (w.alloc (.cells #[.pointer (some ⟨p, 0, none⟩)] 222)) := ⟨hR.below.trans (hB0.mono (by omega)), hR.atB.alloc _, hR.frB.alloc _, hR.toB.alloc _⟩
  refine wpIn_rangeFunc_ownG rfl (by omega) (gf := 334) (lb := #[.pointer (some ⟨w.heap.size, 0, none⟩)]) rfl trivial (enters_of Tryz.func334 (by kernel_rfl) rfl)
    (all_stops (fun _ => False) (fun _ _ h => h) 4 (by omega) w.heap.size p b xs (by omega) _ (fun h => h) (fun h => h) (fun _ _ h => h) (by simp) bN.cell hp0 hG0) (fun h k => Typed.trans h k) ?kb (Below.refl _ _) (fun _ => rfl)
    (fun pre W => (∃ v, Boxed W out 22 v ∧ W.ownsRow n₀ 9 1 v (ys.length + pre.length) (strs (ys ++ snds pre)) ∧ True) ∧ Ranging n₀ wO at_ fr to (ys.length + pre.length) N W)
    (fun _ _ _ => False)
    (OwnFrom.and (Own.from (holdsRow_own n₀ out 22 9 1 (fun pre : List (Nat × ByteArray) => ys.length + pre.length) (fun pre => strs (ys ++ snds pre)) (fun pre v => True)) _) (ranging_own (by omega) (by simp; omega)))
    (fun _ _ _ _ _ hs _ _ => hs)
    ⟨⟨v0, hv0.alloc _, by simpa [snds] using hrow0.alloc _, trivial⟩, hR0⟩
    (fun x' => { tmps := #[.pointer (some ⟨x, 0, none⟩), .pointer (some ⟨at_, 0, none⟩), .pointer (some ⟨fr, 0, none⟩), .pointer (some ⟨to, 0, none⟩), .pointer (some ⟨out, 0, none⟩), undef, .bool false, undef, .string x'.2, .pointer (some ⟨x, 0, none⟩), .pointer (some ⟨x, 0, none⟩), .pointer (some ⟨x, 0, none⟩), .pointer (some ⟨p, 0, none⟩), .func (.func 334) #[] #[.pointer (some ⟨w.heap.size, 0, none⟩)], .int .i64 (x'.1 : Int), .string x'.2, undef, undef, undef, undef, undef, undef, undef, undef, undef, undef, undef, undef, undef, undef, undef, undef, undef], defers := [] }) ?assign ?body ?done ?stop
  case kb =>
    intro W l o o' hl h1 h2 _
    refine ⟨by simp, fun k c t fz _ hk _ => World.putObj_heap_other fun e => ?_⟩
    subst e
    rw [h1] at hk
    cases hk
    cases h2
  case assign =>
    intro l x W K hK
    gi_wp2
    exact hK
  case body =>
    rintro l pre x' W ⟨⟨v, hv, hrow, _⟩, hRW⟩ hlt
    have hc := hv.cell
    have cA := hRW.atB.cell
    have cF := hRW.frB.cell
    have cT := hRW.toB.cell
    have fA := hRW.atB.frozen
    have hle : ((ys.length + pre.length : Nat) : Int) ≤ (N : Int) - 1 := by omega
    have h0 : (0 : Int) ≤ ((ys.length + pre.length : Nat) : Int) := by omega
    have hle1000 : ys.length + pre.length ≤ 1000 := by omega
    have hBW := hRW.below.size
    have hRW' := Lib.hid hRW
    have hlt' := Lib.hid hlt
    clear hRW hlt hR0 hR hp0 hG0 hpw hGw hx hxw hp hG hmany
    generalize hk : ys.length + pre.length = k at *
    gi_wp2_with (gi_at_builtin; refine wpListIn_append_own _ rfl _ _ 22 rfl n₀ 9 i0 (.string ⟨#[]⟩) 1 16 Tryz.underlying22 hi hz0 hz1 hz2 rfl (by decide) _ _ _ rfl (hrow.alloc _) ⟨W.heap.size, 0, none⟩ 1 1 [.string x'.2] rfl rfl (cell_one_new _ _ _) (by simp [Value.oneCell']) (by unfold maxLen; omega) (by omega) (by simp; omega) ?_; intro v' w1 hown' hgrow _; obtain ⟨g', cap', rfl⟩ := ownsRow_succ hown'; obtain ⟨hv1, hv2, hr2, hk2, hb2⟩ := hv.appended (by decide) hrow (by omega) hlo.2 hown' hgrow; have hty := typed_appended (X := fun _ => False) (v' := .slice (some ⟨g', 0, none⟩) (k + 1) cap') h10 hv hrow hlo.2 hgrow; have hA1 := (hRW'.out.atB.alloc _).kept hgrow (hRW'.out.atB.not_row (by decide) hrow); have hc1 := hv1.cell; have hf1 := hv1.frozen; have cA1 := hA1.cell; have fA1 := hA1.frozen)
    have hF2 := (((hRW'.out.frB.alloc _).kept hgrow (hRW'.out.frB.not_row (by decide) hrow)).other hne.2.1 (.slice (some ⟨g', 0, none⟩) (k + 1) cap')).other (fun e => hne.2.2.2.1 e.symm) (.int .i64 ((k : Int) + 1))
    have hT2 := (((hRW'.out.toB.alloc _).kept hgrow (hRW'.out.toB.not_row (by decide) hrow)).other hne.2.2.1 (.slice (some ⟨g', 0, none⟩) (k + 1) cap')).other (fun e => hne.2.2.2.2 e.symm) (.int .i64 ((k : Int) + 1))
    have hA2 := hA1.other hne.1 (.slice (some ⟨g', 0, none⟩) (k + 1) cap')
    have hlen : ys.length + (pre ++ [x']).length = k + 1 := by rw [List.length_append, ← hk]; simp; omega
    have hstr : strs (ys ++ snds (pre ++ [x'])) = strs (ys ++ snds pre) ++ [Value.string x'.2] := by rw [snds_snoc, ← List.append_assoc]; simp [strs]
    have hne2 : (some at_ : Option Nat) ≠ (Value.slice (some ⟨g', 0, none⟩) (k + 1) cap').ownBlock := hA2.not_row (by decide) hr2
    refine ⟨(hk2.trans (KeepsOthers.setCell _ _ _)).from _, hty.trans (Typed.only ((Only.refl (· = at_) _).setCell ⟨at_, 0, none⟩ (fun _ => rfl) _) fun i c t fz e hc ht => ?_), ⟨_, hv2.other (fun e => hne.1 e.symm) _, ?_, trivial⟩, hRW'.out.below.trans (hb2.setCell (p := ⟨at_, 0, none⟩) hlo.1 _), ?_, hF2, hT2⟩
    · subst e
      rw [show _ = some (Obj.cells #[_] 3 (0, 0)) from hA2] at hc
      cases hc
      rcases ht with h | h | h
      · exact absurd h (by decide)
      · exact absurd h (by decide)
      · omega
    · rw [hlen, hstr]
      exact hr2.kept (grownBy_setCell' _ at_ _) (.inr fun e => hne2 e.symm)
    · rw [hlen]
      have := hA2.set (.int .i64 ((k : Int) + 1))
      simpa using this
  case done =>
    rintro D ts W hD rfl ⟨⟨v, hv, hrow, _⟩, hRW⟩ hK
    rw [upto_length, snds_upto] at hrow
    rw [upto_length] at hRW
    have cA := hRW.atB.cell
    have cT := hRW.toB.cell
    have hRW' := Lib.hid hRW
    clear hRW hR0 hR hp0 hG0 hpw hGw hx hxw hp hG
    generalize hk : ys.length + xs.length = k at *
    gi_wp2
    have hr2 : ∀ r, (some D : Option Nat) = some r → ∃ o : Obj, W.heap[r]? = some o ∧ o.isCells = false := fun r e => by cases e; exact ⟨_, hK, rfl⟩
    have hg := grownBy_putObj' W D (.deferred none)
    have hDn : w.heap.size + 1 ≤ D := by simpa using hD
    refine ⟨by simp, .inl ⟨_, _, rfl, run_takeDeferred hK, ?_⟩⟩
    refine ⟨_, results_tmp rfl _ _ _, ?_, ?_, v, boxed_of_grown hv hg hr2, ?_⟩
    · rw [hk]; rfl
    · rw [hk]
      exact ⟨ownFrom_below (β := Unit) (B := D) (by omega) (by omega) () W _ (some D) hRW'.out.below hg (fun r e => by cases e; exact ⟨Nat.le_refl _, _, hK, rfl⟩), boxed_of_grown hRW'.out.atB hg hr2, boxed_of_grown hRW'.out.frB hg hr2, boxed_of_grown hRW'.out.toB hg hr2⟩
    · rw [hk]
      exact ownsRow_putObj hrow _ hK rfl
  case stop =>
    rintro D c pre W _ _ h _
    exact h.elim

theorem total_take_le (ns : List Knot) (i : Nat) : total (ns.take i) ≤ total ns := by
  conv => rhs; rw [← List.take_append_drop i ns, total_append]
  omega
theorem texts_take_all {ns : List Knot} {i : Nat} (h : total (ns.take i) = total ns) : texts (ns.take i) = texts ns := by
  have e : texts ns = texts (ns.take i) ++ texts (ns.drop i) := by rw [← texts_append, List.take_append_drop]
  have hl : (texts (ns.drop i)).length = 0 := by
    have := congrArg List.length e
    rw [List.length_append, texts_length, texts_length, h] at this
    omega
  rw [e, List.length_eq_zero_iff.1 hl, List.append_nil]
theorem texts_take_succ {ns : List Knot} {i : Nat} {nd : Knot} (h : ns[i]? = some nd) : texts (ns.take (i + 1)) = texts (ns.take i) ++ nd.xs := by
  rw [List.take_add_one, h, texts_append]
  simp [texts]

theorem each_range (B q : Nat) (ns : List Knot) (wO : World) (h : QuickAt wO B q ns) (ht : total ns ≤ 1000) (hG : Glob wO) (at_ fr to out : Nat) (hne : at_ ≠ out ∧ fr ≠ out ∧ to ≠ out ∧ at_ ≠ fr ∧ at_ ≠ to) (hlo : wO.heap.size ≤ at_ ∧ wO.heap.size ≤ out)
    (w : World) (hR : Ranging wO.heap.size wO at_ fr to 0 (total ns) w) (hv : Boxed w out 22 (.slice none 0 0)) :
    Calls Tryz.prog 304 #[.pointer (some ⟨q, 0, none⟩), .func (.func 592) #[] #[.pointer (some ⟨at_, 0, none⟩), .pointer (some ⟨fr, 0, none⟩), .pointer (some ⟨to, 0, none⟩), .pointer (some ⟨out, 0, none⟩)]] w fun e w' =>
      e = .returned (.tuple #[]) ∧ ∃ v, Boxed w' out 22 v ∧ w'.ownsRow wO.heap.size 9 1 v (total ns) (strs (texts ns)) ∧ Below wO.heap.size wO w' := by
  have heach := each_any 592 #[.pointer (some ⟨at_, 0, none⟩), .pointer (some ⟨fr, 0, none⟩), .pointer (some ⟨to, 0, none⟩), .pointer (some ⟨out, 0, none⟩)] q (keys ns) (total ns)
    (fun i W => Ranging wO.heap.size wO at_ fr to (texts (ns.take i)).length (total ns) W ∧ ∃ v, Boxed W out 22 v ∧ W.ownsRow wO.heap.size 9 1 v (texts (ns.take i)).length (strs (texts (ns.take i))))
    (fun W => ∃ v, Boxed W out 22 v ∧ W.ownsRow wO.heap.size 9 1 v (total ns) (strs (texts ns)) ∧ Below wO.heap.size wO W) w (enters_of Tryz.func592 (by kernel_rfl) rfl)
    (fun i W hI => h.links.below hI.1.below (Nat.le_refl _))
    (by
      rintro i k hk W ⟨hRi, v, hv, hrow⟩
      rw [keys_get] at hk
      obtain ⟨nd, hnd, rfl⟩ := Option.map_eq_some_iff.1 hk
      have hx := h.links.node i nd.key (by rw [keys_get, hnd]; rfl)
      have htk := total_take_le ns (i + 1)
      have hlen2 : (texts (ns.take (i + 1))).length = (texts (ns.take i)).length + nd.xs.length := by rw [texts_take_succ hnd, List.length_append]
      rw [texts_length] at hlen2
      have := range1 wO.heap.size wO rfl hG.size nd.x nd.p nd.b nd.xs (texts (ns.take i)) at_ fr to out (total ns) _ v W hne hlo hx (h.packs nd (List.mem_of_getElem? hnd)) hG (by omega) ht hRi hv hrow
      refine this.mono ?_
      rintro e W' ⟨rfl, hR', v', hv', hrow'⟩
      rw [← texts_take_succ hnd] at hrow'
      by_cases hc : ((texts (ns.take i)).length + nd.xs.length : Nat) ≤ (total ns : Int) - 1
      · refine .inl ⟨by rw [decide_eq_true hc], ?_, v', hv', ?_⟩
        · rw [texts_length, hlen2]; exact hR'
        · rw [texts_length, hlen2]; exact hrow'
      · have hall : total (ns.take (i + 1)) = total ns := by omega
        refine .inr ⟨by rw [decide_eq_false hc], v', hv', ?_, hR'.below⟩
        rw [← hlen2, hall, texts_take_all hall] at hrow'
        exact hrow')
    ⟨hR, _, hv, by simpa [texts, strs] using World.ownsRow_nil _ _ _ _⟩
  refine heach.mono ?_
  rintro e w' ⟨rfl, ⟨h1, v, h2, h3⟩ | h⟩
  · rw [keys_length, List.take_length, texts_length] at h3
    exact ⟨rfl, v, h2, h3, h1.below⟩
  · exact ⟨rfl, h⟩

set_option maxRecDepth 100000 in
set_option maxHeartbeats 4000000 in
theorem range_all (B q : Nat) (ns : List Knot) (w : World) (h : QuickAt w B q ns) (ht : total ns ≤ 1000) (hG : Glob w) :
    Calls Tryz.prog 591 #[.pointer (some ⟨q, 0, none⟩), .int .i64 0, .int .i64 (-1)] w fun e w' => Made w w' (texts ns) e := by
  have h10 := hG.size
  have hlen := fun w' (hw : Below w.heap.size w w') => quickLen_any q (keys ns) (total ns) w' (h.links.below hw (Nat.le_refl _))
  have hql := h.links.cell.lt
  have bF := Boxed.new w 3 (.int .i64 0)
  have bT := Boxed.new (w.alloc (.cells #[.int .i64 0] 3)) 3 (.int .i64 (-1))
  have bO := Boxed.new ((w.alloc (.cells #[.int .i64 0] 3)).alloc (.cells #[.int .i64 (-1)] 3)) 22 (.slice none 0 0)
  rw [World.size_alloc] at bT bO
  rw [World.size_alloc] at bO
  have hB0 : Below w.heap.size w (((w.alloc (.cells #[.int .i64 0] 3)).alloc (.cells #[.int .i64 (-1)] 3)).alloc (.cells #[.slice none 0 0] 22)) := (((Below.refl _ w).alloc (Nat.le_refl _) _).alloc (by simp) _).alloc (by simp; omega) _
  have hs3 : (((w.alloc (.cells #[.int .i64 0] 3)).alloc (.cells #[.int .i64 (-1)] 3)).alloc (.cells #[.slice none 0 0] 22)).heap.size = w.heap.size + 3 := by simp
  have hlen0 := hlen _ hB0
  have cF := ((bF.alloc (.cells #[.int .i64 (-1)] 3)).alloc (.cells #[.slice none 0 0] 22)).cell
  have cT := (bT.alloc (.cells #[.slice none 0 0] 22)).cell
  have fT := (bT.alloc (.cells #[.slice none 0 0] 22)).frozen
  have ht' : (total ns : Int) ≤ 1000 := by omega
  have hT' := Lib.hid ht
  have H := Lib.hid h
  clear h ht hlen
  generalize hN : total ns = N at *
  go_enter Tryz.func591, Tryz.ntmps591
  go_wp2_with fail
  go_at_call 585
  refine hlen0.mono ?_
  rintro e w' ⟨rfl, rfl⟩
  have bF0 := (bF.alloc (.cells #[.int .i64 (-1)] 3)).alloc (.cells #[.slice none 0 0] 22)
  have bT0 := bT.alloc (.cells #[.slice none 0 0] 22)
  have bO0 := bO
  clear bF bT bO hlen0
  generalize ((w.alloc (.cells #[.int .i64 0] 3)).alloc (.cells #[.int .i64 (-1)] 3)).alloc (.cells #[.slice none 0 0] 22) = W0 at *
  have hsub : (-1 : Int) + (N : Int) = (N : Int) - 1 := by omega
  have bT1 := bT0.set (.int .i64 ((N : Int) - 1))
  have bF1 := bF0.other (B' := w.heap.size + 1) (by omega) (.int .i64 ((N : Int) - 1))
  have bO1 := bO0.other (B' := w.heap.size + 1) (by omega) (.int .i64 ((N : Int) - 1))
  have hB1 := hB0.setCell (p := ⟨w.heap.size + 1, 0, none⟩) (Nat.le_succ _) (.int .i64 ((N : Int) - 1))
  have hs1 : (W0.setCell ⟨w.heap.size + 1, 0, none⟩ (.int .i64 ((N : Int) - 1))).heap.size = w.heap.size + 3 := by rw [← hs3]; simp [World.setCell]
  have bA1 := Boxed.new (W0.setCell ⟨w.heap.size + 1, 0, none⟩ (.int .i64 ((N : Int) - 1))) 3 (.int .i64 0)
  rw [hs1] at bA1
  have hRng : Ranging w.heap.size w (w.heap.size + 3) w.heap.size (w.heap.size + 1) 0 N ((W0.setCell ⟨w.heap.size + 1, 0, none⟩ (.int .i64 ((N : Int) - 1))).alloc (.cells #[.int .i64 0] 3)) :=
    ⟨hB1.alloc (by omega) _, bA1, bF1.alloc _, bT1.alloc _⟩
  have heach := each_range B q ns w H.out (by rw [hN]; exact hT'.out) hG (w.heap.size + 3) w.heap.size (w.heap.size + 1) (w.heap.size + 1 + 1) ⟨by omega, by omega, by omega, by omega, by omega⟩ ⟨by omega, by omega⟩ _ (by rw [hN]; exact hRng) (bO1.alloc _)
  clear bT1 bF1 bO1 hB1 bA1 hRng bF0 bT0 bO0 hB0
  go_wp2_with fail
  go_at_call 304
  refine heach.mono ?_
  rintro e w2 ⟨rfl, v, hv, hrow, hb⟩
  have c1 := hv.cell
  have f1 := hv.frozen
  obtain ⟨sp, ln, cp, rfl⟩ : ∃ sp l c, v = .slice sp l c := by
    rcases hrow.2 with ⟨rfl, _⟩ | ⟨g, cap, cur, rfl, _⟩ <;> exact ⟨_, _, _, rfl⟩
  clear heach
  go_wp2_with fail
  try simp only [Exit.inBlock, Exit.then]
  have e1 := (hv.set (.slice sp ln cp)).cell
  refine bodyPost_ret (v := .slice sp ln cp) ?_ rfl ⟨_, rfl, ?_, ?_⟩
  · simp [results, Tryz.f591, go_sem, e1]
  · rw [texts_length]
    exact hrow.kept (grownBy_setCell' _ _ _) (.inr (hv.not_row (by decide) hrow).symm)
  · exact hb.setCell (p := ⟨w.heap.size + 1 + 1, 0, none⟩) (by simp; omega) _

set_option maxRecDepth 100000 in
set_option maxHeartbeats 1600000 in
theorem great_all (B q : Nat) (ns : List Knot) (w : World) (h : QuickAt w B q ns) (ht : total ns ≤ 1000) (hG : Glob w) :
    Calls Tryz.prog 590 #[.agg #[.pointer (some ⟨q, 0, none⟩)]] w fun e w' => Made w w' (texts ns) e := by
  have hB0 : Below w.heap.size w (w.alloc (.cells #[.pointer (some ⟨q, 0, none⟩)] 348)) := (Below.refl _ w).alloc (Nat.le_refl _) _
  have hr := range_all B q ns _ (h.below hB0 (Nat.le_refl _)) ht (hG.below hB0 hG.size)
  clear h hG
  go_enter Tryz.func590, Tryz.ntmps590
  go_wp2_with fail
  go_at_call 591
  refine hr.mono ?_
  rintro e w2 ⟨v, rfl, hrow, hb⟩
  go_wp2_with fail
  go_ret
  exact ⟨v, rfl, owns_mono hrow (by simp), b_call hb hB0⟩

end Go.Proofs.YtgmljeeeomjooaaGreatDoor

/-
  The methods behind list's interface.
-/
namespace Go.Proofs.YtgmljeeeomjooaaGreatDoor
open Go Go.RowKit Go.Q Go.Sort

theorem inv_small_Len (p : Nat) (w : World) : (method 725 302 (.agg #[.pointer (some ⟨p, 0, none⟩)]) "Len").run Tryz.prog w = .ok (248, .pointer (some ⟨p, 0, none⟩)) w := by kernel_rfl
theorem inv_small_Insert (p : Nat) (w : World) : (method 725 302 (.agg #[.pointer (some ⟨p, 0, none⟩)]) "Insert").run Tryz.prog w = .ok (250, .pointer (some ⟨p, 0, none⟩)) w := by kernel_rfl
theorem inv_small_Get (p : Nat) (w : World) : (method 725 302 (.agg #[.pointer (some ⟨p, 0, none⟩)]) "Get").run Tryz.prog w = .ok (395, .pointer (some ⟨p, 0, none⟩)) w := by kernel_rfl
theorem inv_small_Delete (p : Nat) (w : World) : (method 725 302 (.agg #[.pointer (some ⟨p, 0, none⟩)]) "Delete").run Tryz.prog w = .ok (308, .pointer (some ⟨p, 0, none⟩)) w := by kernel_rfl
theorem inv_small_all (p : Nat) (w : World) : (method 725 302 (.agg #[.pointer (some ⟨p, 0, none⟩)]) "stillroom/list.all").run Tryz.prog w = .ok (548, .agg #[.pointer (some ⟨p, 0, none⟩)]) w := by kernel_rfl
theorem assert_small (p : Nat) (w : World) : (Instr.typeAssert (.iface 302 (.agg #[.pointer (some ⟨p, 0, none⟩)])) 272 302 true).run Tryz.prog w = .ok (.tuple #[.agg #[.pointer (some ⟨p, 0, none⟩)], .bool true]) w := by kernel_rfl
theorem inv_great_Len (p : Nat) (w : World) : (method 725 348 (.agg #[.pointer (some ⟨p, 0, none⟩)]) "Len").run Tryz.prog w = .ok (585, .pointer (some ⟨p, 0, none⟩)) w := by kernel_rfl
theorem inv_great_Insert (p : Nat) (w : World) : (method 725 348 (.agg #[.pointer (some ⟨p, 0, none⟩)]) "Insert").run Tryz.prog w = .ok (210, .pointer (some ⟨p, 0, none⟩)) w := by kernel_rfl
theorem inv_great_Get (p : Nat) (w : World) : (method 725 348 (.agg #[.pointer (some ⟨p, 0, none⟩)]) "Get").run Tryz.prog w = .ok (584, .pointer (some ⟨p, 0, none⟩)) w := by kernel_rfl
theorem inv_great_Delete (p : Nat) (w : World) : (method 725 348 (.agg #[.pointer (some ⟨p, 0, none⟩)]) "Delete").run Tryz.prog w = .ok (583, .pointer (some ⟨p, 0, none⟩)) w := by kernel_rfl
theorem inv_great_all (p : Nat) (w : World) : (method 725 348 (.agg #[.pointer (some ⟨p, 0, none⟩)]) "stillroom/list.all").run Tryz.prog w = .ok (590, .agg #[.pointer (some ⟨p, 0, none⟩)]) w := by kernel_rfl
theorem assert_great (p : Nat) (w : World) : (Instr.typeAssert (.iface 348 (.agg #[.pointer (some ⟨p, 0, none⟩)])) 272 302 true).run Tryz.prog w = .ok (.tuple #[.agg #[.pointer none], .bool false]) w := by kernel_rfl

end Go.Proofs.YtgmljeeeomjooaaGreatDoor

/-
  list.New, gone, Len, Small, grow, Push: contracts.
-/
namespace Go.Q
open Go Go.RowKit

/-- A list that is kept small. -/
structure SmallAt (w : World) (B l : Nat) (xs : List ByteArray) (p b : Nat) : Prop where
  cell : Row w l 274 [.iface 302 (.agg #[.pointer (some ⟨p, 0, none⟩)])]
  pack : PackAt w p b xs
  few : xs.length ≤ 32
  low : B ≤ p ∧ B ≤ l
/-- A list that is kept great. -/
structure GreatAt (F : List Knot → Prop) (w : World) (B l : Nat) (xs : List ByteArray) (q C : Nat) (ns : List Knot) : Prop where
  cell : Row w l 274 [.iface 348 (.agg #[.pointer (some ⟨q, 0, none⟩)])]
  quick : QuickAt w C q ns
  shape : F ns
  texts : texts ns = xs
  low : B ≤ l ∧ B ≤ q ∧ B ≤ C
  base : 10 ≤ C ∧ C ≤ w.heap.size ∧ l < C
/-- A list. -/
def ListAt (F : List Knot → Prop) (w : World) (B l : Nat) (xs : List ByteArray) : Prop := (∃ p b, SmallAt w B l xs p b) ∨ ∃ q C ns, GreatAt F w B l xs q C ns

theorem row_below {C : Nat} {w w' : World} {b : Nat} {t : TypeId} {cs : List Value} (h : Row w b t cs) (hb : Below C w w') (hC : w.heap.size ≤ C) : Row w' b t cs :=
  (hb.block b (Nat.lt_of_lt_of_le h.lt hC)).trans h
theorem SmallAt.below {C : Nat} {w w' : World} {B l p b : Nat} {xs : List ByteArray} (h : SmallAt w B l xs p b) (hb : Below C w w') (hC : w.heap.size ≤ C) : SmallAt w' B l xs p b :=
  ⟨row_below h.cell hb hC, h.pack.below hb (Nat.lt_of_lt_of_le h.pack.cell.lt hC) (Nat.lt_of_lt_of_le h.pack.bytes.lt hC), h.few, h.low⟩
theorem GreatAt.below {F : List Knot → Prop} {C : Nat} {w w' : World} {B l q D : Nat} {ns : List Knot} {xs : List ByteArray} (h : GreatAt F w B l xs q D ns) (hb : Below C w w') (hC : w.heap.size ≤ C) : GreatAt F w' B l xs q D ns :=
  ⟨row_below h.cell hb hC, h.quick.below hb hC, h.shape, h.texts, h.low, h.base.1, Nat.le_trans h.base.2.1 hb.size, h.base.2.2⟩
theorem ListAt.below {F : List Knot → Prop} {C : Nat} {w w' : World} {B l : Nat} {xs : List ByteArray} (h : ListAt F w B l xs) (hb : Below C w w') (hC : w.heap.size ≤ C) : ListAt F w' B l xs := by
  rcases h with ⟨p, b, h⟩ | ⟨q, D, ns, h⟩
  · exact .inl ⟨p, b, h.below hb hC⟩
  · exact .inr ⟨q, D, ns, h.below hb hC⟩
theorem GreatAt.total {F : List Knot → Prop} {w : World} {B l q D : Nat} {ns : List Knot} {xs : List ByteArray} (h : GreatAt F w B l xs q D ns) : total ns = xs.length := by
  rw [← texts_length, h.texts]
theorem ListAt.lt {F : List Knot → Prop} {w : World} {B l : Nat} {xs : List ByteArray} (h : ListAt F w B l xs) : l < w.heap.size ∧ B ≤ l := by
  rcases h with ⟨p, b, h⟩ | ⟨q, D, ns, h⟩
  · exact ⟨h.cell.lt, h.low.2⟩
  · exact ⟨h.cell.lt, h.low.1⟩

end Go.Q
namespace Go.Proofs.YtgmljeeeomjooaaGreatDoor
open Go Go.RowKit Go.Q Go.Sort

set_option maxHeartbeats 1600000 in
set_option maxRecDepth 100000 in
theorem listNew_any (B : Nat) (w : World) (hB : B ≤ w.heap.size) : Calls Tryz.prog 139 #[] w fun e w' => ∃ l, e = .returned (.pointer (some ⟨l, 0, none⟩)) ∧ ListAt Filled w' B l [] ∧ w.heap.size ≤ l ∧ Below w.heap.size w w' := by
  have hnew := new_any w
  go_enter Tryz.func139, Tryz.ntmps139
  go_wp2_with fail
  go_at_call 140
  refine hnew.mono ?_
  rintro e w1 ⟨rfl, hpk, hb⟩
  have hs := hb.size
  go_wp2_with fail
  go_ret
  exact ⟨_, rfl, .inl ⟨_, _, Row.new w1 274 [.iface 302 (.agg #[.pointer (some ⟨w.heap.size + 1, 0, none⟩)])], hpk.only ((Only.refl (fun _ => False) w1).alloc _) (fun h => h) (fun h => h), by simp, by omega, by omega⟩, hs, hb.alloc hs _⟩

set_option maxHeartbeats 1600000 in
set_option maxRecDepth 100000 in
theorem listGone_any (l : Nat) (t : TypeId) (v : Value) (w : World) (h : Row w l 274 [.iface t v]) : Calls Tryz.prog 163 #[.pointer (some ⟨l, 0, none⟩)] w fun e w' => e = .returned (.bool false) ∧ w = w' := by
  have hc := h.cell (i := 0) rfl
  go_enter Tryz.func163, Tryz.ntmps163
  go_wp2_with fail
  go_ret
  exact ⟨rfl, rfl⟩

set_option maxHeartbeats 1600000 in
set_option maxRecDepth 100000 in
theorem listLen_any (F : List Knot → Prop) (B l : Nat) (xs : List ByteArray) (w : World) (h : ListAt F w B l xs) : Calls Tryz.prog 99 #[.pointer (some ⟨l, 0, none⟩)] w fun e w' => e = .returned (.int .i64 (xs.length : Int)) ∧ w = w' := by
  rcases h with ⟨p, b, h⟩ | ⟨q, D, ns, h⟩
  · have hg := listGone_any l _ _ w h.cell
    have hc := h.cell.cell (i := 0) rfl
    have hl := len_any p b xs w h.pack
    have hm := inv_small_Len p w
    generalize xs.length = n at *
    clear h
    go_enter Tryz.func99, Tryz.ntmps99
    go_wp2_with fail
    go_at_call 163
    refine hg.mono ?_
    rintro e w' ⟨rfl, rfl⟩
    go_wp2_with fail
    go_at_call 248
    refine hl.mono ?_
    rintro e w' ⟨rfl, rfl⟩
    go_wp2_with fail
    go_ret
    exact ⟨rfl, rfl⟩
  · have hg := listGone_any l _ _ w h.cell
    have hc := h.cell.cell (i := 0) rfl
    have hl := quickLen_any q _ _ w h.quick.links
    rw [h.total] at hl
    have hm := inv_great_Len q w
    generalize xs.length = n at *
    clear h
    go_enter Tryz.func99, Tryz.ntmps99
    go_wp2_with fail
    go_at_call 163
    refine hg.mono ?_
    rintro e w' ⟨rfl, rfl⟩
    go_wp2_with fail
    go_at_call 585
    refine hl.mono ?_
    rintro e w' ⟨rfl, rfl⟩
    go_wp2_with fail
    go_ret
    exact ⟨rfl, rfl⟩

set_option maxHeartbeats 1600000 in
set_option maxRecDepth 100000 in
theorem listSmall_any (B l : Nat) (xs : List ByteArray) (p b : Nat) (w : World) (h : SmallAt w B l xs p b) : Calls Tryz.prog 208 #[.pointer (some ⟨l, 0, none⟩)] w fun e w' => e = .returned (.bool true) ∧ Below w.heap.size w w' := by
  have hg := listGone_any l _ _ w h.cell
  have hc := h.cell.cell (i := 0) rfl
  have hm := assert_small p w
  clear h
  go_enter Tryz.func208, Tryz.ntmps208
  go_wp2_with fail
  go_at_call 163
  refine hg.mono ?_
  rintro e w' ⟨rfl, rfl⟩
  go_wp2_with fail
  go_ret
  exact ⟨rfl, (Below.refl _ _).alloc (Nat.le_refl _) _⟩

set_option maxHeartbeats 1600000 in
set_option maxRecDepth 100000 in
theorem listGreat_any (F : List Knot → Prop) (B l : Nat) (xs : List ByteArray) (q D : Nat) (ns : List Knot) (w : World) (h : GreatAt F w B l xs q D ns) : Calls Tryz.prog 208 #[.pointer (some ⟨l, 0, none⟩)] w fun e w' => e = .returned (.bool false) ∧ Below w.heap.size w w' := by
  have hg := listGone_any l _ _ w h.cell
  have hc := h.cell.cell (i := 0) rfl
  have hm := assert_great q w
  clear h
  go_enter Tryz.func208, Tryz.ntmps208
  go_wp2_with fail
  go_at_call 163
  refine hg.mono ?_
  rintro e w' ⟨rfl, rfl⟩
  go_wp2_with fail
  go_ret
  exact ⟨rfl, (Below.refl _ _).alloc (Nat.le_refl _) _⟩

end Go.Proofs.YtgmljeeeomjooaaGreatDoor
