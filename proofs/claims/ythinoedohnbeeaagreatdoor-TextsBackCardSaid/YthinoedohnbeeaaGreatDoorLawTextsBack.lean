/-
  TextsBack: for every input the law returns true, and what was handed in reads as before.
-/
import Derived.Test.YthinoedohnbeeaaGreatDoorRt
import Derived.Test.YthinoedohnbeeaaGreatDoorCards
import Derived.Test.YthinoedohnbeeaaGreatDoorTieZ
import Derived.Test.YthinoedohnbeeaaGreatDoorFactsTextsBack
import Derived.Test.YthinoedohnbeeaaGreatDoorWitTextsBack
import Derived.Test.YthinoedohnbeeaaGreatDoorEvD
import Derived.Lib.LaidTab
import Derived.WalkKit
import Derived.ProofKit
namespace Go.Proofs.YthinoedohnbeeaaGreatDoor.textsBack
open Go Go.Ev Go.ChangeShapes Go.WideShapes Go.ChangeAt Go.RowKit

theorem out : laidOutB Tryz.prog = true := by kernel_rfl
theorem reads : Tryz.prog.readableRec 2 = true := by kernel_rfl
theorem rowed : 2 < Tryz.prog.types.size := of_decide_eq_true (by kernel_rfl)
theorem globType : (Tryz.prog.globals[0]?).map (·.type) = some 244 := by kernel_rfl
theorem elemCells : Tryz.prog.cellsOf 30 = 1 := by kernel_rfl
theorem tabCells : Tryz.prog.cellsOf 244 = 20 := by kernel_rfl
theorem tab_of {W : World} (h : laidMetH Tryz.prog Rows.textsBackRow.laid W) : Lib.TabIs Tryz.prog W "internal/strconv.uint64pow10" .u64 Lib.pow10Tab := by
  have h' := (MakeChecks.laidMetH_plain _ _ _ (by kernel_rfl)).mp h
  exact Lib.tabIs_of_head pow_global globType Tryz.underlying244 Tryz.underlying30 elemCells tabCells h'

set_option maxRecDepth 100000 in
theorem contract (H : Type) (enc : TypeId × Value → H) (W : World) (base : Nat) (args : Array Value) (ds gs : List (DataW H)) (before : List MemPlace)
    (hval : ∀ (j : Nat) t v, Tryz.f3.params[j]? = some t → args[j]? = some v → Value.okWide Tryz.prog W .any base t v)
    (hW : DataW.Whole enc Tryz.prog Tryz.f3.params.toList Rows.textsBackSpec.vars false W args.toList ds gs before) (hlaid : laidMetH Tryz.prog Rows.textsBackRow.laid W) :
    Calls Tryz.prog 3 args W fun e W' => ∃ v, e = .returned v ∧ Rows.textsBackSpec.post enc Tryz.prog Tryz.f3 false true false false W args v W' := by
  have hW' := hW
  obtain ⟨p, q, hA0, hV, rfl, hfz, hnd⟩ := hW
  have hA : DataW.TrodAll enc Tryz.prog W 0 (fun _ => true) true Tryz.f3.params.toList args.toList ds p := hA0
  rw [Tryz.params3] at hA hval
  obtain ⟨v0, vs0, d0, ds0, p0, q0, hargs, rfl, rfl, t0, r0⟩ := trodAll_cons hA
  obtain ⟨v1, vs1, d1, ds1, p1, q1, hvs1, rfl, rfl, t1, r1⟩ := trodAll_cons r0
  obtain ⟨rfl, rfl, rfl⟩ := trodAll_nil r1
  obtain rfl : args = #[v0, v1] := by cases args; simp_all
  obtain ⟨rfl, rfl⟩ := trodVars_none hV
  have c0 : Cell.okWide Tryz.prog W .any base 2 v0 := by simpa [Value.okWide, Tryz.underlying2] using hval 0 2 v0 rfl rfl
  have c1 : Cell.okWide Tryz.prog W .any base 2 v1 := by simpa [Value.okWide, Tryz.underlying2] using hval 1 2 v1 rfl rfl
  obtain ⟨m, rfl, hm⟩ := cell_int Tryz.underlying2 c0
  obtain ⟨n, rfl, hn⟩ := cell_int Tryz.underlying2 c1
  clear hA0 hA
  simp only [List.append_nil] at hW'
  have hlt : ∀ x ∈ p0 ++ p1, x.block < W.heap.size := fun x hx => hW'.lt x (by simpa using hx)
  refine (back_row m n hm hn W (tab_of hlaid)).mono fun e W' ⟨he, hk⟩ => ?_
  subst he
  exact ⟨_, rfl, post_of_kept (pa := p0 ++ p1) (pv := []) hW' (fun _ _ _ => trodAll_cons_mk (shut_bool Tryz.underlying4 _) trodAll_mk0)
    (fun sp hsp => trodAll_mk2 (hk.trod out reads rowed t0 (fun x hx => hlt x (by simp [hx])) fun x hx => hsp x (by simp [hx])) (hk.trod out reads rowed t1 (fun x hx => hlt x (by simp [hx])) fun x hx => hsp x (by simp [hx]))) (fun _ _ => rfl) (List.append_nil _).symm hk (ok_one (by kernel_rfl) rfl (okWide_bool_mk Tryz.underlying4 _))⟩


set_option maxRecDepth 100000 in
theorem lifted (os : Os) (started : os.Started) (H : Type) (enc : TypeId × Value → H) (F : Stop.Interp) :
    ReturnsInHanded {} Tryz.checked os 3 .any ((OpenSpec.ofChange Rows.textsBackSpec).preRow enc Tryz.prog Tryz.f3 Rows.textsBackRow.domain false Rows.textsBackRow.laid) (((OpenSpec.ofChange Rows.textsBackSpec).at F).post enc Tryz.prog Tryz.f3 false true false false) := by
  obtain ⟨places, hx⟩ := readsAt os enc
  refine returnsInHanded_of_row (C := Tryz.checked) (s := OpenSpec.ofChange Rows.textsBackSpec) own started noInit Tryz.func3
    (witness_shaped (enc := enc) (C := Tryz.checked) false (doorAt Tryz.prog 400 543 os) wargs rfl (shaped_of_fast (witV os) (witR os)) (witOk os)
      (OpenSpec.preRow_of_cond 8 hx (by kernel_rfl) (fun k hk => by cases hk) (witSz os enc) (door_met os wargs))) ?_
  intro W base args ds gs before hval hW _ _ _ hl _ _
  exact contract H enc W base args ds gs before hval hW hl

theorem isInst : Tryz.f3.isInstance Tryz.prog Rows.textsBackRow.origin Rows.textsBackRow.targs := of_decide_eq_true (by kernel_rfl)
theorem isWrap : Tryz.f3.isWrapper Tryz.prog Rows.textsBackRow.wrapper Rows.textsBackRow.mainSum := by unfold Func.isWrapper; first | (rw [if_pos (by decide +kernel)]; kernel_rfl) | (rw [if_neg (by decide +kernel)]; exact ⟨rfl, rfl⟩)
theorem said : Rows.TextsBackSaid :=
  OpenClaim.holds_of_cond 3 Tryz.f3 rfl rfl rfl rfl rfl rfl rfl ⟨rfl, rfl, rfl, rfl, rfl⟩ rfl rfl rfl rfl rfl named Tryz.func3 facts isInst isWrap
    (fun os started H enc _ F => by rw [OpenClaim.pre_eq_preRow]; exact lifted os started H enc F)

theorem plain (f : FuncId) (fn : Func) (hf : Tryz.pinned.checked.prog.funcNamed "stillroom/stillroomlaw20.TextsBack" = some f) (hfn : Tryz.pinned.checked.prog.funcs[f]? = some fn) :
    true = Tryz.pinned.checked.prog.looks [] ∧ ∀ (j : Nat) t, fn.params[j]? = some t → Tryz.pinned.checked.prog.wantsStandIn t = false := by
  obtain rfl : f = 3 := Option.some.inj (named.symm.trans hf) |>.symm
  obtain rfl : fn = Tryz.f3 := (Option.some.inj (Tryz.func3.symm.trans hfn)).symm
  refine ⟨looked, fun j t ht => ?_⟩
  rw [Tryz.params3] at ht
  have ht' := Array.mem_of_getElem? ht
  simp only [List.mem_toArray, List.mem_cons, List.not_mem_nil, or_false] at ht'
  rcases ht' with rfl | rfl
  · exact noStandIn0
  · exact noStandIn1

theorem rowTie : Rows.textsBackRow.laidByTextAt .later Tryz.pinned [.data, .data, .data, .sentinel, .sentinel] true := OpenClaim.laidByTextAt_later rfl rfl tieWhole noOwnUns
theorem card : Rows.TextsBackCardSaid :=
  Claim7.holds_tied_plain_at .later [] _ _ _ _ said (fun _ h => by cases h) wfb (fun _ h => by cases h) rowTie rfl ⟨rfl, rfl⟩ mainIs rfl plain goesBy
end Go.Proofs.YthinoedohnbeeaaGreatDoor.textsBack
namespace Go.Proofs.YthinoedohnbeeaaGreatDoor
/-- The card. -/
theorem textsBackHolds : Rows.TextsBackCardSaid := textsBack.card
end Go.Proofs.YthinoedohnbeeaaGreatDoor
