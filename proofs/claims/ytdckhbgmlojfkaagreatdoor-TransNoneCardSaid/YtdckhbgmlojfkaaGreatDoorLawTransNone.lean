/-
  TransNone: for every input the law returns true, and what was handed in reads as before.
-/
import Derived.Test.YtdckhbgmlojfkaaGreatDoorRunTransNone
import Derived.Test.YtdckhbgmlojfkaaGreatDoorCards
import Derived.Test.YtdckhbgmlojfkaaGreatDoorTieZ
import Derived.Test.YtdckhbgmlojfkaaGreatDoorFactsTransNone
import Derived.Test.YtdckhbgmlojfkaaGreatDoorWitTransNone
import Derived.WalkKit
import Derived.ProofKit
namespace Go.Proofs.YtdckhbgmlojfkaaGreatDoor.transNone
open Go Go.Ev Go.ChangeShapes Go.WideShapes Go.ChangeAt Go.RowKit

theorem mixed : Tryz.prog.follows .mixedOrders = true := by kernel_rfl
theorem few : Tryz.prog.globals.size ≤ 5000 := of_decide_eq_true (by kernel_rfl)

theorem walk (l0 l1 : List Value) (h0 : l0.length = 4) (h1 : l1.length = 5) (ho : ∀ v ∈ l0 ++ l1, ∀ x, v ≠ .agg x ∧ v ≠ .tuple x) (W : World) :
    Calls Tryz.prog 3 #[.agg ⟨l0⟩, .agg ⟨l1⟩] W fun e w' => e = .returned (.bool true) ∧ Kept W w' := by
  have hl : LRel (globS Tryz.prog.globals.size 5000 (l0 ++ l1)) [.agg #[.chan (some 5000), .chan (some 5001), .chan (some 5002), .chan (some 5003)], .agg #[.chan (some 5004), .chan (some 5005), .chan (some 5006), .chan (some 5007), .chan (some 5008)]] [.agg ⟨l0⟩, .agg ⟨l1⟩] := by
    have r0 : VRel (globS Tryz.prog.globals.size 5000 (l0 ++ l1)) (.agg ⟨symCells 5000 0 l0.length⟩) (.agg ⟨l0⟩) := by
      refine sym_agg (b := 5000) few 0 l0 (fun i hi => ?_) fun v hv => ho v (by simp [hv])
      rw [Nat.zero_add, List.getElem?_append_left hi]
    rw [h0] at r0
    have r1 : VRel (globS Tryz.prog.globals.size 5000 (l0 ++ l1)) (.agg ⟨symCells 5000 4 l1.length⟩) (.agg ⟨l1⟩) := by
      refine sym_agg (b := 5000) few 4 l1 (fun i hi => ?_) fun v hv => ho v (by simp [hv])
      rw [List.getElem?_append_right (by omega)]; congr 1; omega
    rw [h1] at r1
    exact .cons r0 (.cons r1 (.nil _))
  exact calls_symF (Cx.sy_ok mixed (by intro en he; cases he)) (run _) hl few (by simp only [List.length_append, h0, h1]; exact Nat.le_refl _) W

theorem cellsT0 : Tryz.prog.cellTypes Tryz.prog.depth 25 = some [3, 2, 22, 23] := by kernel_rfl
theorem cellsN0 : Tryz.prog.cellsOf 25 = 4 := by kernel_rfl
theorem reads0 : Tryz.prog.readableRec 25 = true := by kernel_rfl
theorem rowed0 : 25 < Tryz.prog.types.size := of_decide_eq_true (by kernel_rfl)
theorem cellsT1 : Tryz.prog.cellTypes Tryz.prog.depth 31 = some [26, 5, 2, 27, 29] := by kernel_rfl
theorem cellsN1 : Tryz.prog.cellsOf 31 = 5 := by kernel_rfl
theorem reads1 : Tryz.prog.readableRec 31 = true := by kernel_rfl
theorem rowed1 : 31 < Tryz.prog.types.size := of_decide_eq_true (by kernel_rfl)
theorem out : laidOutB Tryz.prog = true := jf2

set_option maxRecDepth 100000 in
theorem contract (H : Type) (enc : TypeId × Value → H) (W : World) (base : Nat) (args : Array Value) (ds gs : List (DataW H)) (before : List MemPlace)
    (hval : ∀ (j : Nat) t v, Tryz.f3.params[j]? = some t → args[j]? = some v → Value.okWide Tryz.prog W .any base t v)
    (hW : DataW.Whole enc Tryz.prog Tryz.f3.params.toList Rows.transNoneSpec.vars false W args.toList ds gs before) :
    Calls Tryz.prog 3 args W fun e W' => ∃ v, e = .returned v ∧ Rows.transNoneSpec.post enc Tryz.prog Tryz.f3 false true false false W args v W' := by
  have hW' := hW
  obtain ⟨p, q, hA0, hV, rfl, hfz, hnd⟩ := hW
  have hA : DataW.TrodAll enc Tryz.prog W 0 (fun _ => true) true Tryz.f3.params.toList args.toList ds p := hA0
  rw [Tryz.params3] at hA hval
  obtain ⟨rfl, rfl⟩ := trodVars_none hV
  obtain ⟨v0, vs0, d0, ds0, p0, q0, hargs, rfl, rfl, t0, r0⟩ := trodAll_cons hA
  obtain ⟨v1, vs1, d1, ds1, p1, q1, hvs1, rfl, rfl, t1, r1⟩ := trodAll_cons r0
  obtain ⟨rfl, rfl, rfl⟩ := trodAll_nil r1
  obtain rfl : args = #[v0, v1] := by cases args; simp_all
  obtain ⟨c0, rfl, hsz0, hrow0⟩ := structCells Tryz.underlying25 (hval 0 25 v0 rfl rfl)
  rw [cellsN0] at hsz0
  have one0 : ∀ v ∈ c0.toList, ∀ x, v ≠ .agg x ∧ v ≠ .tuple x := okWide_ones hrow0 cellsT0 hsz0
  obtain ⟨c1, rfl, hsz1, hrow1⟩ := structCells Tryz.underlying31 (hval 1 31 v1 rfl rfl)
  rw [cellsN1] at hsz1
  have one1 : ∀ v ∈ c1.toList, ∀ x, v ≠ .agg x ∧ v ≠ .tuple x := okWide_ones hrow1 cellsT1 hsz1
  clear hA0 hA
  simp only [List.append_nil] at hW'
  have hlt : ∀ x ∈ p0 ++ p1, x.block < W.heap.size := fun x hx => hW'.lt x (by simpa using hx)
  refine (walk c0.toList c1.toList (by rw [Array.length_toList, hsz0]) (by rw [Array.length_toList, hsz1]) (by
    intro v hv
    simp only [List.mem_append] at hv
    rcases hv with hv | hv
    · exact one0 v hv
    · exact one1 v hv) W).mono fun e W' ⟨he, hk⟩ => ?_
  subst he
  exact ⟨_, rfl, post_of_kept (pa := p0 ++ p1) (pv := []) hW' (fun _ _ _ => trodAll_cons_mk (shut_bool Tryz.underlying4 _) trodAll_mk0)
    (fun sp hsp => trodAll_mk2 (hk.trod out reads0 rowed0 t0 (fun x hx => hlt x (by simp [hx])) fun x hx => hsp x (by simp [hx])) (hk.trod out reads1 rowed1 t1 (fun x hx => hlt x (by simp [hx])) fun x hx => hsp x (by simp [hx]))) (fun _ _ => rfl) (List.append_nil _).symm hk (ok_one (by kernel_rfl) rfl (okWide_bool_mk Tryz.underlying4 _))⟩


set_option maxRecDepth 100000 in
theorem lifted (os : Os) (started : os.Started) (H : Type) (enc : TypeId × Value → H) (F : Stop.Interp) :
    ReturnsInHanded {} Tryz.checked os 3 .any ((OpenSpec.ofChange Rows.transNoneSpec).preRow enc Tryz.prog Tryz.f3 Rows.transNoneRow.domain false Rows.transNoneRow.laid) (((OpenSpec.ofChange Rows.transNoneSpec).at F).post enc Tryz.prog Tryz.f3 false true false false) := by
  obtain ⟨places, hx⟩ := readsAt os enc
  refine returnsInHanded_of_row (C := Tryz.checked) (s := OpenSpec.ofChange Rows.transNoneSpec) own started noInit Tryz.func3
    (witness_shaped (enc := enc) (C := Tryz.checked) false (World.laidAll Tryz.prog os laidAll) wargs (World.laidAll_os _ _ _) (World.shaped_of_ZipB (witV os) (witR os)) (witOk os)
      (OpenSpec.preRow_of_cond 8 hx (by kernel_rfl) (fun k hk => by cases hk) (witSz os enc) (door_met os wargs))) ?_
  intro W base args ds gs before hval hW _ _ _ _ _ _
  exact contract H enc W base args ds gs before hval hW

theorem isInst : Tryz.f3.isInstance Tryz.prog Rows.transNoneRow.origin Rows.transNoneRow.targs := of_decide_eq_true (by kernel_rfl)
theorem isWrap : Tryz.f3.isWrapper Tryz.prog Rows.transNoneRow.wrapper Rows.transNoneRow.mainSum := by unfold Func.isWrapper; first | (rw [if_pos (by decide +kernel)]; kernel_rfl) | (rw [if_neg (by decide +kernel)]; exact ⟨rfl, rfl⟩)
theorem said : Rows.TransNoneSaid :=
  OpenClaim.holds_of_cond 3 Tryz.f3 rfl rfl rfl rfl rfl rfl rfl ⟨rfl, rfl, rfl, rfl, rfl⟩ rfl rfl rfl rfl rfl named Tryz.func3 facts isInst isWrap
    (fun os started H enc _ F => by rw [OpenClaim.pre_eq_preRow]; exact lifted os started H enc F)

theorem plain (f : FuncId) (fn : Func) (hf : Tryz.pinned.checked.prog.funcNamed "stillroom/stillroomlaw23.TransNone" = some f) (hfn : Tryz.pinned.checked.prog.funcs[f]? = some fn) :
    true = Tryz.pinned.checked.prog.looks [] ∧ ∀ (j : Nat) t, fn.params[j]? = some t → Tryz.pinned.checked.prog.wantsStandIn t = false := by
  obtain rfl : f = 3 := Option.some.inj (named.symm.trans hf) |>.symm
  obtain rfl : fn = Tryz.f3 := (Option.some.inj (Tryz.func3.symm.trans hfn)).symm
  refine ⟨looked, fun j t ht => ?_⟩
  rw [Tryz.params3] at ht
  have ht' := Array.mem_of_getElem? ht
  simp only [List.mem_toArray, List.mem_cons, List.not_mem_nil, or_false] at ht'
  rcases ht' with rfl | rfl
  · exact noStandIn0
  · exact noStandIn1

theorem rowTie : Rows.transNoneRow.laidByTextAt .later Tryz.pinned [.data, .data, .data, .sentinel, .sentinel, .pinned, .data, .data, .pinned, .data, .pinned] true :=
  OpenClaim.laidByTextAt_pinned rfl rfl tieWhole rfl rfl rfl rfl (fun y hy _e => by
    simp only [Rows.transNoneRow, List.zip_cons_cons, List.zip_nil_right, List.mem_cons, List.mem_nil_iff, or_false] at hy
    rcases hy with rfl | rfl | rfl | rfl | rfl | rfl | rfl | rfl | rfl | rfl | rfl
    · cases _e
    · cases _e
    · cases _e
    · cases _e
    · cases _e
    · exact ⟨pin_laid_unicode_utf8_first, by kernel_rfl⟩
    · cases _e
    · cases _e
    · exact ⟨pin_laid_internal_strconv_pow10Tab, by kernel_rfl⟩
    · cases _e
    · exact ⟨pin_laid_internal_strconv_leftcheats, by kernel_rfl⟩) fits1
theorem card : Rows.TransNoneCardSaid :=
  Claim7.holds_tied_plain_at .later [] _ _ _ _ said (fun _ h => by cases h) wfb (fun _ h => by cases h) rowTie rfl ⟨rfl, rfl⟩ mainIs rfl plain goesBy
end Go.Proofs.YtdckhbgmlojfkaaGreatDoor.transNone
namespace Go.Proofs.YtdckhbgmlojfkaaGreatDoor
/-- The card. -/
theorem transNoneHolds : Rows.TransNoneCardSaid := transNone.card
end Go.Proofs.YtdckhbgmlojfkaaGreatDoor
