/-
  TextsBits: for every input the law returns true, and what was handed in reads as before.
-/
import Derived.Test.YtehpbcpnmnhdbaaGreatDoorRt
import Derived.Test.YtehpbcpnmnhdbaaGreatDoorCards
import Derived.Test.YtehpbcpnmnhdbaaGreatDoorTieZ
import Derived.Test.YtehpbcpnmnhdbaaGreatDoorFactsTextsBits
import Derived.Test.YtehpbcpnmnhdbaaGreatDoorWitTextsBits
import Derived.Test.YtehpbcpnmnhdbaaGreatDoorEvD
import Derived.Lib.LaidTab
import Derived.WalkKit
import Derived.ProofKit
namespace Go.Proofs.YtehpbcpnmnhdbaaGreatDoor.textsBits
open Go Go.Ev Go.ChangeShapes Go.WideShapes Go.ChangeAt Go.RowKit

theorem out : laidOutB Tryz.prog = true := by kernel_rfl
theorem cellsT : Tryz.prog.cellTypes Tryz.prog.depth 24 = some [9, 22, 4, 22] := by kernel_rfl
theorem cellsN : Tryz.prog.cellsOf 24 = 4 := by kernel_rfl
theorem reads : Tryz.prog.readableRec 24 = true := by kernel_rfl
theorem rowed : 24 < Tryz.prog.types.size := of_decide_eq_true (by kernel_rfl)
theorem globType : (Tryz.prog.globals[0]?).map (·.type) = some 254 := by kernel_rfl
theorem elemCells : Tryz.prog.cellsOf 33 = 1 := by kernel_rfl
theorem tabCells : Tryz.prog.cellsOf 254 = 20 := by kernel_rfl
theorem tab_of {W : World} (h : laidMetH Tryz.prog Rows.textsBitsRow.laid W) : Lib.TabIs Tryz.prog W "internal/strconv.uint64pow10" .u64 Lib.pow10Tab := by
  have h' := (MakeChecks.laidMetH_plain _ _ _ (by kernel_rfl)).mp h
  exact Lib.tabIs_of_head pow_global globType Tryz.underlying254 Tryz.underlying33 elemCells tabCells h'
theorem cell_str {P : Program} {w : World} {r : Reach} {base : Nat} {t : TypeId} {v : Value} (ht : P.underlying t = some .string) (h : Cell.okWide P w r base t v) : ∃ n, v = .string n := by
  unfold Cell.okWide at h
  rw [ht] at h
  cases v <;> first | exact ⟨_, rfl⟩ | (simp [Cell.ok, ht] at h)
theorem cell_boo {P : Program} {w : World} {r : Reach} {base : Nat} {t : TypeId} {v : Value} (ht : P.underlying t = some .bool) (h : Cell.okWide P w r base t v) : ∃ n, v = .bool n := by
  unfold Cell.okWide at h
  rw [ht] at h
  cases v <;> first | exact ⟨_, rfl⟩ | (simp [Cell.ok, ht] at h)

set_option maxRecDepth 100000 in
theorem contract (H : Type) (enc : TypeId × Value → H) (W : World) (base : Nat) (args : Array Value) (ds gs : List (DataW H)) (before : List MemPlace)
    (hval : ∀ (j : Nat) t v, Tryz.f3.params[j]? = some t → args[j]? = some v → Value.okWide Tryz.prog W .any base t v)
    (hW : DataW.Whole enc Tryz.prog Tryz.f3.params.toList Rows.textsBitsSpec.vars false W args.toList ds gs before) (hlaid : laidMetH Tryz.prog Rows.textsBitsRow.laid W) :
    Calls Tryz.prog 3 args W fun e W' => ∃ v, e = .returned v ∧ Rows.textsBitsSpec.post enc Tryz.prog Tryz.f3 false true false false W args v W' := by
  have hW' := hW
  obtain ⟨p, q, hA0, hV, rfl, hfz, hnd⟩ := hW
  have hA : DataW.TrodAll enc Tryz.prog W 0 (fun _ => true) true Tryz.f3.params.toList args.toList ds p := hA0
  rw [Tryz.params3] at hA hval
  obtain ⟨v0, vs0, d0, ds0, p0, q0, hargs, rfl, rfl, h0, r0⟩ := trodAll_cons hA
  obtain ⟨rfl, rfl, rfl⟩ := trodAll_nil r0
  obtain rfl : args = #[v0] := by cases args; simp_all
  obtain ⟨rfl, rfl⟩ := trodVars_none hV
  obtain ⟨cs, rfl, hsz, hrow⟩ := structCells Tryz.underlying24 (hval 0 24 v0 rfl rfl)
  rw [cellsN] at hsz
  obtain ⟨v1, e1, c1⟩ := okWide_cell hrow cellsT hsz (i := 0) rfl
  obtain ⟨v2, e2, c2⟩ := okWide_cell hrow cellsT hsz (i := 1) rfl
  obtain ⟨v3, e3, c3⟩ := okWide_cell hrow cellsT hsz (i := 2) rfl
  obtain ⟨v4, e4, c4⟩ := okWide_cell hrow cellsT hsz (i := 3) rfl
  obtain ⟨s, rfl⟩ := cell_str Tryz.underlying9 c1
  obtain ⟨a', rfl, ha⟩ := cell_int Tryz.underlying22 c2
  obtain ⟨one, rfl⟩ := cell_boo Tryz.underlying4 c3
  obtain ⟨o', rfl, ho⟩ := cell_int Tryz.underlying22 c4
  have ha0 : 0 ≤ a' ∧ a' < 65536 := by have h1 := ha.1; have h2 := ha.2; simp [IntKind.min, IntKind.max, IntKind.signed, IntKind.bits] at h1 h2; omega
  have ho0 : 0 ≤ o' ∧ o' < 65536 := by have h1 := ho.1; have h2 := ho.2; simp [IntKind.min, IntKind.max, IntKind.signed, IntKind.bits] at h1 h2; omega
  obtain ⟨a, rfl⟩ := Int.eq_ofNat_of_zero_le ha0.1
  obtain ⟨o, rfl⟩ := Int.eq_ofNat_of_zero_le ho0.1
  obtain rfl : cs = #[.string s, .int .u16 a, .bool one, .int .u16 o] := arr_of hsz fun i hi => by
    match i, hi with
    | 0, _ => exact e1
    | 1, _ => exact e2
    | 2, _ => exact e3
    | 3, _ => exact e4
    | n + 4, h => exact absurd h (by simp)
  clear hA0 hA
  simp only [List.append_nil] at hW'
  have hlt : ∀ x ∈ p0, x.block < W.heap.size := hW'.lt
  refine (bits_row s a o one (by omega) (by omega) W (tab_of hlaid)).mono fun e W' ⟨he, hk⟩ => ?_
  subst he
  exact ⟨_, rfl, post_of_kept (pa := p0) (pv := []) hW' (fun _ _ _ => trodAll_cons_mk (shut_bool Tryz.underlying4 _) trodAll_mk0)
    (fun sp hsp => trodAll_mk1 (hk.trod out reads rowed h0 hlt fun x hx => hsp x hx)) (fun _ _ => rfl) (List.append_nil _).symm hk (ok_one (by kernel_rfl) rfl (okWide_bool_mk Tryz.underlying4 _))⟩


set_option maxRecDepth 100000 in
theorem lifted (os : Os) (started : os.Started) (H : Type) (enc : TypeId × Value → H) (F : Stop.Interp) :
    ReturnsInHanded {} Tryz.checked os 3 .any ((OpenSpec.ofChange Rows.textsBitsSpec).preRow enc Tryz.prog Tryz.f3 Rows.textsBitsRow.domain false Rows.textsBitsRow.laid) (((OpenSpec.ofChange Rows.textsBitsSpec).at F).post enc Tryz.prog Tryz.f3 false true false false) := by
  obtain ⟨places, hx⟩ := readsAt os enc
  refine returnsInHanded_of_row (C := Tryz.checked) (s := OpenSpec.ofChange Rows.textsBitsSpec) own started noInit Tryz.func3
    (witness_shaped (enc := enc) (C := Tryz.checked) false (doorAt Tryz.prog 400 545 os) wargs rfl (shaped_of_fast (witV os) (witR os)) (witOk os)
      (OpenSpec.preRow_of_cond 8 hx (by kernel_rfl) (fun k hk => by cases hk) (witSz os enc) (door_met os wargs))) ?_
  intro W base args ds gs before hval hW _ _ _ hl _ _
  exact contract H enc W base args ds gs before hval hW hl

theorem isInst : Tryz.f3.isInstance Tryz.prog Rows.textsBitsRow.origin Rows.textsBitsRow.targs := of_decide_eq_true (by kernel_rfl)
theorem isWrap : Tryz.f3.isWrapper Tryz.prog Rows.textsBitsRow.wrapper Rows.textsBitsRow.mainSum := by unfold Func.isWrapper; first | (rw [if_pos (by decide +kernel)]; kernel_rfl) | (rw [if_neg (by decide +kernel)]; exact ⟨rfl, rfl⟩)
theorem said : Rows.TextsBitsSaid :=
  OpenClaim.holds_of_cond 3 Tryz.f3 rfl rfl rfl rfl rfl rfl rfl ⟨rfl, rfl, rfl, rfl, rfl⟩ rfl rfl rfl rfl rfl named Tryz.func3 facts isInst isWrap
    (fun os started H enc _ F => by rw [OpenClaim.pre_eq_preRow]; exact lifted os started H enc F)

theorem plain (f : FuncId) (fn : Func) (hf : Tryz.pinned.checked.prog.funcNamed "stillroom/stillroomlaw20.TextsBits" = some f) (hfn : Tryz.pinned.checked.prog.funcs[f]? = some fn) :
    true = Tryz.pinned.checked.prog.looks [] ∧ ∀ (j : Nat) t, fn.params[j]? = some t → Tryz.pinned.checked.prog.wantsStandIn t = false := by
  obtain rfl : f = 3 := Option.some.inj (named.symm.trans hf) |>.symm
  obtain rfl : fn = Tryz.f3 := (Option.some.inj (Tryz.func3.symm.trans hfn)).symm
  refine ⟨looked, fun j t ht => ?_⟩
  rw [Tryz.params3] at ht
  have ht' := Array.mem_of_getElem? ht
  simp only [List.mem_toArray, List.mem_cons, List.not_mem_nil, or_false] at ht'
  subst ht'
  exact noStandIn0

theorem rowTie : Rows.textsBitsRow.laidByTextAt .later Tryz.pinned [.data, .data, .data, .sentinel, .sentinel] true := OpenClaim.laidByTextAt_later rfl rfl tieWhole noOwnUns
theorem card : Rows.TextsBitsCardSaid :=
  Claim7.holds_tied_plain_at .later [] _ _ _ _ said (fun _ h => by cases h) wfb (fun _ h => by cases h) rowTie rfl ⟨rfl, rfl⟩ mainIs rfl plain goesBy
end Go.Proofs.YtehpbcpnmnhdbaaGreatDoor.textsBits
namespace Go.Proofs.YtehpbcpnmnhdbaaGreatDoor
/-- The card. -/
theorem textsBitsHolds : Rows.TextsBitsCardSaid := textsBits.card
end Go.Proofs.YtehpbcpnmnhdbaaGreatDoor
