/-
  CollsQueue: for every input the law returns true, and what was handed in reads as before.
-/
import Derived.Test.YtgmljeeeomjooaaGreatDoorQz
import Derived.Test.YtgmljeeeomjooaaGreatDoorQy
import Derived.Test.YtgmljeeeomjooaaGreatDoorCards
import Derived.Test.YtgmljeeeomjooaaGreatDoorTieZ
import Derived.Test.YtgmljeeeomjooaaGreatDoorFactsCollsQueue
import Derived.Test.YtgmljeeeomjooaaGreatDoorWitCollsQueue
import Derived.Test.YtgmljeeeomjooaaGreatDoorEvD
import Derived.Lib.LaidTab
import Derived.WalkKit
import Derived.ProofKit
namespace Go.Proofs.YtgmljeeeomjooaaGreatDoor.collsQueue
open Go Go.Ev Go.ChangeShapes Go.WideShapes Go.ChangeAt Go.RowKit Go.Q

theorem out : laidOutB Tryz.prog = true := by kernel_rfl
theorem reads : Tryz.prog.readableRec 22 = true := by kernel_rfl
theorem rowed : 22 < Tryz.prog.types.size := of_decide_eq_true (by kernel_rfl)
theorem readsB : Tryz.prog.readableRec 4 = true := by kernel_rfl
theorem rowedB : 4 < Tryz.prog.types.size := of_decide_eq_true (by kernel_rfl)
theorem cellsS : Tryz.prog.cellsOf 9 = 1 := by kernel_rfl
theorem globType : (Tryz.prog.globals[4]?).map (·.type) = some 446 := by kernel_rfl
theorem elemCells : Tryz.prog.cellsOf 48 = 1 := by kernel_rfl
theorem tabCells : Tryz.prog.cellsOf 446 = 20 := by kernel_rfl
theorem tab_of {W : World} (h : laidMetH Tryz.prog Rows.collsQueueRow.laid W) : Lib.TabIs Tryz.prog W "internal/strconv.uint64pow10" .u64 Lib.pow10Tab := by
  have h' := (MakeChecks.laidMetH_plain _ _ _ (by kernel_rfl)).mp h
  exact Lib.tabIs_of_head pow_global globType Tryz.underlying446 Tryz.underlying48 elemCells tabCells h'
theorem cell_boo {P : Program} {w : World} {r : Reach} {base : Nat} {t : TypeId} {v : Value} (ht : P.underlying t = some .bool) (h : Cell.okWide P w r base t v) : ∃ n, v = .bool n := by
  unfold Cell.okWide at h
  rw [ht] at h
  cases v <;> first | exact ⟨_, rfl⟩ | (simp [Cell.ok, ht] at h)
theorem small : Tryz.prog.globals.size ≤ 17 := of_decide_eq_true (by kernel_rfl)
theorem great : 17 < (begin Tryz.prog (fun _ _ => 0) default).world.heap.size := of_decide_eq_true (by kernel_rfl)
theorem size_of {W : World} (h : W.ShapedOpen Tryz.prog) : 10 ≤ W.heap.size := by
  obtain ⟨o, o₀, h1, _⟩ := h.2 17 small great
  have := (Array.getElem?_eq_some_iff.1 h1).1
  omega
theorem one_of {v : Value} (h : v = .nilIface ∨ ∃ te pe, v = .iface te pe) : ∀ c, v ≠ .agg c ∧ v ≠ .tuple c := by
  rcases h with rfl | ⟨_, _, rfl⟩ <;> exact fun c => ⟨by simp, by simp⟩

set_option maxRecDepth 100000 in
theorem contract (H : Type) (enc : TypeId × Value → H) (W : World) (base : Nat) (args : Array Value) (ds gs : List (DataW H)) (before : List MemPlace)
    (hval : ∀ (j : Nat) t v, Tryz.f3.params[j]? = some t → args[j]? = some v → Value.okWide Tryz.prog W .any base t v)
    (hW : DataW.Whole enc Tryz.prog Tryz.f3.params.toList Rows.collsQueueSpec.vars false W args.toList ds gs before) (hlaid : laidMetH Tryz.prog Rows.collsQueueRow.laid W) (hshape : W.ShapedOpen Tryz.prog) :
    Calls Tryz.prog 3 args W fun e W' => ∃ v, e = .returned v ∧ Rows.collsQueueSpec.post enc Tryz.prog Tryz.f3 false true false false W args v W' := by
  have hW' := hW
  obtain ⟨p, q, hA0, hV, rfl, hfz, hnd⟩ := hW
  have hA : DataW.TrodAll enc Tryz.prog W 0 (fun _ => true) true Tryz.f3.params.toList args.toList ds p := hA0
  rw [Tryz.params3] at hA hval
  obtain ⟨v0, vs0, d0, ds0, p0, q0, hargs, rfl, rfl, h0, r0⟩ := trodAll_cons hA
  obtain ⟨v1, vs1, d1, ds1, p1, q1, hvs1, rfl, rfl, t1, r1⟩ := trodAll_cons r0
  obtain ⟨rfl, rfl, rfl⟩ := trodAll_nil r1
  obtain rfl : args = #[v0, v1] := by cases args; simp_all
  obtain ⟨rfl, rfl⟩ := trodVars_none hV
  obtain ⟨a1, len, cap, rfl⟩ := okWide_slice Tryz.underlying22 (hval 0 22 v0 rfl rfl)
  have c1 : Cell.okWide Tryz.prog W .any base 4 v1 := by simpa [Value.okWide, Tryz.underlying4] using hval 1 4 v1 rfl rfl
  obtain ⟨front, rfl⟩ := cell_boo Tryz.underlying4 c1
  clear hA0 hA
  simp only [List.append_nil] at hW'
  have hlt : ∀ x ∈ p0 ++ p1, x.block < W.heap.size := fun x hx => hW'.lt x (by simpa using hx)
  obtain ⟨vs, els, fzs, hws, hos⟩ := laid_iface2 hlaid (by kernel_rfl) (k := 3) rfl (g := 2) (by kernel_rfl) (t := 265) (by kernel_rfl) Tryz.underlying265
  obtain ⟨vr, elr, fzr, hwr, hor⟩ := laid_iface2 hlaid (by kernel_rfl) (k := 4) rfl (g := 3) (by kernel_rfl) (t := 265) (by kernel_rfl) Tryz.underlying265
  have hG : Glob W := ⟨tab_of hlaid, ⟨vs, by simp [World.cell?, hws], hos⟩, ⟨vr, by simp [World.cell?, hwr], hor⟩, size_of hshape⟩
  have hE : Errs W := ⟨vs, els, fzs, vr, elr, fzr, hws, hwr, one_of hos, one_of hor⟩
  have hread : 0 < len → ∃ (g off : Nat) (xs : List ByteArray), a1 = some ⟨g, off, none⟩ ∧ xs.length = len ∧ g < W.heap.size ∧ ∀ k (hk : k < xs.length), W.cell? ⟨g, off + k, none⟩ = some (.string xs[k]) := fun hn => by
    obtain ⟨fuel, h0'⟩ := h0
    exact strings_read Tryz.underlying22 Tryz.underlying9 cellsS h0' hn
  refine (queue_any front a1 len cap W hG hE hread).mono fun e W' ⟨he, hk⟩ => ?_
  subst he
  exact ⟨_, rfl, post_of_kept (pa := p0 ++ p1) (pv := []) hW' (fun _ _ _ => trodAll_cons_mk (shut_bool Tryz.underlying4 _) trodAll_mk0)
    (fun sp hsp => trodAll_mk2 (hk.trod out reads rowed h0 (fun x hx => hlt x (by simp [hx])) fun x hx => hsp x (by simp [hx])) (hk.trod out readsB rowedB t1 (fun x hx => hlt x (by simp [hx])) fun x hx => hsp x (by simp [hx]))) (fun _ _ => rfl) (List.append_nil _).symm hk (ok_one (by kernel_rfl) rfl (okWide_bool_mk Tryz.underlying4 _))⟩


set_option maxRecDepth 100000 in
theorem lifted (os : Os) (started : os.Started) (H : Type) (enc : TypeId × Value → H) (F : Stop.Interp) :
    ReturnsInHanded {} Tryz.checked os 3 .any ((OpenSpec.ofChange Rows.collsQueueSpec).preRow enc Tryz.prog Tryz.f3 Rows.collsQueueRow.domain false Rows.collsQueueRow.laid) (((OpenSpec.ofChange Rows.collsQueueSpec).at F).post enc Tryz.prog Tryz.f3 false true false false) := by
  obtain ⟨places, hx⟩ := readsAt os enc
  refine returnsInHanded_of_row (C := Tryz.checked) (s := OpenSpec.ofChange Rows.collsQueueSpec) own started noInit Tryz.func3
    (witness_shaped (enc := enc) (C := Tryz.checked) false (doorAt Tryz.prog 400 615 os) wargs rfl (shaped_of_fast (witV os) (witR os)) (witOk os)
      (OpenSpec.preRow_of_cond 8 hx (by kernel_rfl) (fun k hk => by cases hk) (witSz os enc) (door_met os wargs))) ?_
  intro W base args ds gs before hval hW _ _ _ hl hsh _
  exact contract H enc W base args ds gs before hval hW hl hsh

theorem isInst : Tryz.f3.isInstance Tryz.prog Rows.collsQueueRow.origin Rows.collsQueueRow.targs := of_decide_eq_true (by kernel_rfl)
theorem isWrap : Tryz.f3.isWrapper Tryz.prog Rows.collsQueueRow.wrapper Rows.collsQueueRow.mainSum := by unfold Func.isWrapper; first | (rw [if_pos (by decide +kernel)]; kernel_rfl) | (rw [if_neg (by decide +kernel)]; exact ⟨rfl, rfl⟩)
theorem said : Rows.CollsQueueSaid :=
  OpenClaim.holds_of_cond 3 Tryz.f3 rfl rfl rfl rfl rfl rfl rfl ⟨rfl, rfl, rfl, rfl, rfl⟩ rfl rfl rfl rfl rfl named Tryz.func3 facts isInst isWrap
    (fun os started H enc _ F => by rw [OpenClaim.pre_eq_preRow]; exact lifted os started H enc F)

theorem plain (f : FuncId) (fn : Func) (hf : Tryz.pinned.checked.prog.funcNamed "stillroom/stillroomlaw21.CollsQueue" = some f) (hfn : Tryz.pinned.checked.prog.funcs[f]? = some fn) :
    true = Tryz.pinned.checked.prog.looks [] ∧ ∀ (j : Nat) t, fn.params[j]? = some t → Tryz.pinned.checked.prog.wantsStandIn t = false := by
  obtain rfl : f = 3 := Option.some.inj (named.symm.trans hf) |>.symm
  obtain rfl : fn = Tryz.f3 := (Option.some.inj (Tryz.func3.symm.trans hfn)).symm
  refine ⟨looked, fun j t ht => ?_⟩
  rw [Tryz.params3] at ht
  have ht' := Array.mem_of_getElem? ht
  simp only [List.mem_toArray, List.mem_cons, List.not_mem_nil, or_false] at ht'
  rcases ht' with rfl | rfl
  · exact noStandIn0
  · exact noStandIn1

theorem rowTie : Rows.collsQueueRow.laidByTextAt .later Tryz.pinned [.data, .data, .data, .sentinel, .sentinel] true := OpenClaim.laidByTextAt_later rfl rfl tieWhole noOwnUns
theorem card : Rows.CollsQueueCardSaid :=
  Claim7.holds_tied_plain_at .later [] _ _ _ _ said (fun _ h => by cases h) wfb (fun _ h => by cases h) rowTie rfl ⟨rfl, rfl⟩ mainIs rfl plain goesBy
end Go.Proofs.YtgmljeeeomjooaaGreatDoor.collsQueue
namespace Go.Proofs.YtgmljeeeomjooaaGreatDoor
/-- The card. -/
theorem collsQueueHolds : Rows.CollsQueueCardSaid := collsQueue.card
end Go.Proofs.YtgmljeeeomjooaaGreatDoor
