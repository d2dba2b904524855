/-
  SpaceNone: for every input the law returns true, and what was handed in reads as before.
-/
import Derived.Test.YtagpkkofjehcnaaGreatDoorTwAe
import Derived.Test.YtagpkkofjehcnaaGreatDoorCards
import Derived.Test.YtagpkkofjehcnaaGreatDoorTieZ
import Derived.Test.YtagpkkofjehcnaaGreatDoorFactsSpaceNone
import Derived.Test.YtagpkkofjehcnaaGreatDoorWitSpaceNone
import Derived.Test.YtagpkkofjehcnaaGreatDoorEvD
import Derived.WalkKit
import Derived.ProofKit
namespace Go.Proofs.YtagpkkofjehcnaaGreatDoor.spaceNone
open Go Go.Ev Go.ChangeShapes Go.WideShapes Go.ChangeAt Go.RowKit

theorem kept_of {w w' : World} (h : Below w.heap.size w w') : Kept w w' := ⟨h.size, h.os, h.output, h.block⟩
theorem out : laidOutB Tryz.prog = true := by kernel_rfl
theorem reads : Tryz.prog.readableRec 22 = true := by kernel_rfl
theorem rowed : 22 < Tryz.prog.types.size := of_decide_eq_true (by kernel_rfl)

set_option maxRecDepth 100000 in
theorem contract (H : Type) (enc : TypeId × Value → H) (W : World) (base : Nat) (args : Array Value) (ds gs : List (DataW H)) (before : List MemPlace)
    (hval : ∀ (j : Nat) t v, Tryz.f3.params[j]? = some t → args[j]? = some v → Value.okWide Tryz.prog W .any base t v)
    (hW : DataW.Whole enc Tryz.prog Tryz.f3.params.toList Rows.spaceNoneSpec.vars false W args.toList ds gs before)
    (hsz0 : (DataW.weightsEach Tryz.prog (Tryz.f3.params.toList ++ (OpenSpec.ofChange Rows.spaceNoneSpec).bare.plain.varTypes Tryz.prog) (ds ++ gs)).all (· ≤ reachBytes) = true) :
    Calls Tryz.prog 3 args W fun e W' => ∃ v, e = .returned v ∧ Rows.spaceNoneSpec.post enc Tryz.prog Tryz.f3 false true false false W args v W' := by
  have hW' := hW
  obtain ⟨p, q, hA0, hV, rfl, hfz, hnd⟩ := hW
  have hA : DataW.TrodAll enc Tryz.prog W 0 (fun _ => true) true Tryz.f3.params.toList args.toList ds p := hA0
  have hsz : (DataW.weightsEach Tryz.prog (Tryz.f3.params.toList ++ Rows.spaceNoneSpec.plain.varTypes Tryz.prog) (ds ++ gs)).all (· ≤ reachBytes) = true := hsz0
  rw [Tryz.params3] at hA hval hsz
  obtain ⟨v0, vs0, d0, ds0, p0, q0, hargs, rfl, rfl, h0, r0⟩ := trodAll_cons hA
  obtain ⟨rfl, rfl, rfl⟩ := trodAll_nil r0
  obtain rfl : args = #[v0] := by cases args; simp_all
  obtain ⟨rfl, rfl⟩ := trodVars_none hV
  obtain ⟨a1, len, cap, rfl⟩ := okWide_slice Tryz.underlying22 (hval 0 22 v0 rfl rfl)
  have hs : Sized Tryz.prog 22 d0 := fun n hn => by
    have := List.all_eq_true.1 hsz n (DataW.weights_mem_each (j := 0) rfl rfl n hn)
    simpa using this
  clear hA0 hA
  simp only [List.append_nil] at hW'
  have hlt : ∀ x ∈ p0, x.block < W.heap.size := hW'.lt
  refine (space_row _ W h0 rfl hs).mono fun e W' ⟨he, hb⟩ => ?_
  have hk := kept_of hb
  subst he
  exact ⟨_, rfl, post_of_kept (pa := p0) (pv := []) hW' (fun _ _ _ => trodAll_cons_mk (shut_bool Tryz.underlying4 _) trodAll_mk0)
    (fun sp hsp => trodAll_mk1 (hk.trod out reads rowed h0 hlt fun x hx => hsp x hx)) (fun _ _ => rfl) (List.append_nil _).symm hk (ok_one (by kernel_rfl) rfl (okWide_bool_mk Tryz.underlying4 _))⟩


set_option maxRecDepth 100000 in
theorem lifted (os : Os) (started : os.Started) (H : Type) (enc : TypeId × Value → H) (F : Stop.Interp) :
    ReturnsInHanded {} Tryz.checked os 3 .any ((OpenSpec.ofChange Rows.spaceNoneSpec).preRow enc Tryz.prog Tryz.f3 Rows.spaceNoneRow.domain false Rows.spaceNoneRow.laid) (((OpenSpec.ofChange Rows.spaceNoneSpec).at F).post enc Tryz.prog Tryz.f3 false true false false) := by
  obtain ⟨places, hx⟩ := readsAt os enc
  refine returnsInHanded_of_row (C := Tryz.checked) (s := OpenSpec.ofChange Rows.spaceNoneSpec) own started noInit Tryz.func3
    (witness_shaped (enc := enc) (C := Tryz.checked) false (doorAt Tryz.prog 400 579 os) wargs rfl (shaped_of_fast (witV os) (witR os)) (witOk os)
      (OpenSpec.preRow_of_cond 8 hx (by kernel_rfl) (fun k hk => by cases hk) (witSz os enc) (door_met os wargs))) ?_
  intro W base args ds gs before hval hW _ _ hsz _ _ _
  exact contract H enc W base args ds gs before hval hW hsz

theorem isInst : Tryz.f3.isInstance Tryz.prog Rows.spaceNoneRow.origin Rows.spaceNoneRow.targs := of_decide_eq_true (by kernel_rfl)
theorem isWrap : Tryz.f3.isWrapper Tryz.prog Rows.spaceNoneRow.wrapper Rows.spaceNoneRow.mainSum := by unfold Func.isWrapper; first | (rw [if_pos (by decide +kernel)]; kernel_rfl) | (rw [if_neg (by decide +kernel)]; exact ⟨rfl, rfl⟩)
theorem said : Rows.SpaceNoneSaid :=
  OpenClaim.holds_of_cond 3 Tryz.f3 rfl rfl rfl rfl rfl rfl rfl ⟨rfl, rfl, rfl, rfl, rfl⟩ rfl rfl rfl rfl rfl named Tryz.func3 facts isInst isWrap
    (fun os started H enc _ F => by rw [OpenClaim.pre_eq_preRow]; exact lifted os started H enc F)

theorem plain (f : FuncId) (fn : Func) (hf : Tryz.pinned.checked.prog.funcNamed "stillroom/stillroomlaw17.SpaceNone" = some f) (hfn : Tryz.pinned.checked.prog.funcs[f]? = some fn) :
    true = Tryz.pinned.checked.prog.looks [] ∧ ∀ (j : Nat) t, fn.params[j]? = some t → Tryz.pinned.checked.prog.wantsStandIn t = false := by
  obtain rfl : f = 3 := Option.some.inj (named.symm.trans hf) |>.symm
  obtain rfl : fn = Tryz.f3 := (Option.some.inj (Tryz.func3.symm.trans hfn)).symm
  refine ⟨looked, fun j t ht => ?_⟩
  rw [Tryz.params3] at ht
  have ht' := Array.mem_of_getElem? ht
  simp only [List.mem_toArray, List.mem_cons, List.not_mem_nil, or_false] at ht'
  subst ht'
  exact noStandIn0

theorem rowTie : Rows.spaceNoneRow.laidByTextAt .later Tryz.pinned [.data, .data, .data, .sentinel, .sentinel] true := OpenClaim.laidByTextAt_later rfl rfl tieWhole noOwnUns
theorem card : Rows.SpaceNoneCardSaid :=
  Claim7.holds_tied_plain_at .later [] _ _ _ _ said (fun _ h => by cases h) wfb (fun _ h => by cases h) rowTie rfl ⟨rfl, rfl⟩ mainIs rfl plain goesBy
end Go.Proofs.YtagpkkofjehcnaaGreatDoor.spaceNone
namespace Go.Proofs.YtagpkkofjehcnaaGreatDoor
/-- The card. -/
theorem spaceNoneHolds : Rows.SpaceNoneCardSaid := spaceNone.card
end Go.Proofs.YtagpkkofjehcnaaGreatDoor
