/-
  What operations and calls on the unknown numbers, and on their texts, come to.
-/
import Derived.Test.YtehpbcpnmnhdbaaGreatDoorRa
import Derived.Test.YtehpbcpnmnhdbaaGreatDoorNum
import Derived.Test.YtehpbcpnmnhdbaaGreatDoorEvNum
import Derived.Test.YtehpbcpnmnhdbaaGreatDoorEvD
import Derived.Shelf.SlSorted.Search
set_option linter.all false
namespace Go.Proofs.YtehpbcpnmnhdbaaGreatDoor
open Go Go.Ev Go.RowKit

theorem mixed : Tryz.prog.follows .mixedOrders = true := by kernel_rfl
noncomputable abbrev base : Cx := Cx.of Tryz.prog
theorem baseOk : base.Ok := Cx.of_ok Tryz.prog mixed

/-- In the range of an int64. -/
def In64 (n : Int) : Prop := -9223372036854775808 ≤ n ∧ n ≤ 9223372036854775807

theorem wrap_in {n : Int} (h : In64 n) : wrapF .i64 n = n := by
  rw [wrapF_eq]
  have := h.1
  have := h.2
  simp only [IntKind.wrap, IntKind.signed, IntKind.bits]
  first | (simp; omega) | omega

section
variable {X : Cx} {ρ : Rn} (hg : GRel X ρ)
include hg
theorem sy_mk {i : Nat} {v : Value} (h : X.sym (5000 + i) = some v) (ho : ∀ c, v ≠ .agg c ∧ v ≠ .tuple c) : VRel ρ (sy i) v := by
  obtain ⟨L, hL, hs⟩ := hg.2 _ _ h
  exact .sym hL hs ho
theorem sy_get {i : Nat} {v a' : Value} (h : X.sym (5000 + i) = some v) (hr : VRel ρ (sy i) a') : a' = v := sym_inv hg h hr
end

theorem pow_is : (Lib.pow10Tab.map fun z => Value.int .u64 z) = pow := by kernel_rfl
theorem pow_global : Tryz.prog.globalNamed "internal/strconv.uint64pow10" = some 0 := by kernel_rfl

theorem tab_of {ρ : Rn} {w : World} (hrom : ∃ (cs' : Array Value) (el : TypeId) (fz : Nat × Nat), w.heap[0]? = some (.cells cs' el fz) ∧ cs'.size = pow.length ∧ ∀ (i : Nat) v, pow[i]? = some v → ∃ v', cs'[i]? = some v' ∧ VRel ρ v v') :
    Lib.TabIs Tryz.prog w "internal/strconv.uint64pow10" .u64 Lib.pow10Tab := by
  obtain ⟨cs', el, fz, hw, hsz, hcs⟩ := hrom
  unfold Lib.TabIs World.var?
  rw [pow_global]
  simp only [Option.bind_some, hw]
  rw [pow_is]
  congr 1
  refine Array.ext (by rw [hsz]; simp) fun q h1 h2 => ?_
  obtain ⟨v', hv', hr⟩ := hcs q (pow.toArray[q]) (by simp at h2 ⊢)
  have hc : clos1 (pow.toArray[q]) = true := by
    have : pow.all clos1 = true := by kernel_rfl
    exact List.all_eq_true.1 this _ (by simp)
  rw [Array.getElem?_eq_getElem h1] at hv'
  rw [Option.some.inj hv', closed_eq hr hc]

theorem fi_ok {X : Cx} (hP : X.P = Tryz.prog) {i j : Nat} {x : Int} (hi : X.sym (5000 + i) = some (.int .i64 x)) (hj : X.sym (5000 + j) = some (.string (itxt x))) (hx : In64 x) :
    OrfOk X ⟨14, [sy i, .int .i64 10], rom0, sy j⟩ := by
  refine ⟨⟨Tryz.f14, _, by rw [hP]; exact Tryz.func14, rfl, rfl⟩, ?_⟩
  intro ρ hg w as' hl hrom
  obtain ⟨a, as2, rfl, ha, hl⟩ := hl.uncons
  obtain ⟨b, as3, rfl, hb, hl⟩ := hl.uncons
  obtain rfl := hl.unnil
  obtain rfl := sy_get hg hi ha
  obtain rfl : b = .int .i64 10 := closed_eq hb rfl
  rw [hP]
  have htab := tab_of (hrom 0 pow rfl)
  refine (Tryz.strconv_FormatInt_10 x hx.1 hx.2 w htab).mono ?_
  rintro e w' ⟨rfl, k, os, rfl⟩
  exact ⟨_, rfl, sy_mk hg hj (fun c => ⟨by simp, by simp⟩), below_grown_sl w.heap.size w k os (Nat.le_refl _)⟩

theorem pi_ok {X : Cx} (hP : X.P = Tryz.prog) {i j : Nat} {x : Int} (hi : X.sym (5000 + i) = some (.string (itxt x))) (hj : X.sym (5000 + j) = some (.int .i64 x)) (hx : In64 x) :
    OrfOk X ⟨88, [sy i, .int .i64 10, .int .i64 64], none, .tuple #[sy j, .nilIface]⟩ := by
  refine ⟨⟨Tryz.f88, _, by rw [hP]; exact Tryz.func88, rfl, rfl⟩, ?_⟩
  intro ρ hg w as' hl hrom
  obtain ⟨a, as2, rfl, ha, hl⟩ := hl.uncons
  obtain ⟨b, as3, rfl, hb, hl⟩ := hl.uncons
  obtain ⟨c, as4, rfl, hc, hl⟩ := hl.uncons
  obtain rfl := hl.unnil
  obtain rfl := sy_get hg hi ha
  obtain rfl : b = .int .i64 10 := closed_eq hb rfl
  obtain rfl : c = .int .i64 64 := closed_eq hc rfl
  rw [hP]
  refine (Tryz.strconv_ParseInt_10_at64_ok (itxt x) (by have := itxt_size x hx.1 hx.2; omega) x (itxt_parse x hx.1 hx.2) w).mono ?_
  rintro e w' ⟨rfl, hw⟩
  refine ⟨_, rfl, .tupA (LRel.arr (.cons (sy_mk hg hj (fun c => ⟨by simp, by simp⟩)) (.cons .nilIface (.nil ρ)))), ?_⟩
  rcases hw with rfl | ⟨t, rfl⟩
  · exact Below.refl _ _
  · exact Lib.bytesWorld_below w 5 t

/-! ### Operations -/

theorem len_ok {X : Cx} (hP : X.P = Tryz.prog) {i j : Nat} {s : ByteArray} (hi : X.sym (5000 + i) = some (.string s)) (hj : X.sym (5000 + j) = some (.int .i64 s.size)) : OrvOk X ⟨.len 9, [sy i], sy j⟩ := by
  intro ρ hg as' hl w
  obtain ⟨a, as2, rfl, ha, hl⟩ := hl.uncons
  obtain rfl := hl.unnil
  obtain rfl := sy_get hg hi ha
  refine ⟨.int .i64 s.size, ?_, sy_mk hg hj (fun c => ⟨by simp, by simp⟩)⟩
  intro ats ty ht
  rw [hP]
  have hu : (underlying 9).run Tryz.prog w = .ok .string w := run_under baseOk (X := base) (by kernel_rfl) w
  unfold Builtin.len_
  simp [ht, hu, goInt]

theorem cs_ok {X : Cx} (hP : X.P = Tryz.prog) {i : Nat} {s : ByteArray} {t u : TypeId} (hc : ∀ s, convA base t u (.string s) = some (.string s)) (hi : X.sym (5000 + i) = some (.string s)) : OrvOk X ⟨.conv t u, [sy i], sy i⟩ := by
  intro ρ hg as' hl w
  obtain ⟨a, as2, rfl, ha, hl⟩ := hl.uncons
  obtain rfl := hl.unnil
  obtain rfl := sy_get hg hi ha
  refine ⟨.string s, ?_, sy_mk hg hi (fun c => ⟨by simp, by simp⟩)⟩
  rw [hP]
  obtain ⟨v', h1, h2⟩ := convA_ok baseOk (hc s) (ρ := ρ) (.string s) w
  rw [closed_eq h2 rfl] at h1
  exact h1

theorem ci_ok {X : Cx} (hP : X.P = Tryz.prog) {i j : Nat} {x y : Int} {k k' : IntKind} {t u : TypeId} (hc : ∀ y, convA base t u (.int k y) = some (.int k' (wrapF k' y))) (hw : wrapF k' x = y) (hi : X.sym (5000 + i) = some (.int k x)) (hj : X.sym (5000 + j) = some (.int k' y)) : OrvOk X ⟨.conv t u, [sy i], sy j⟩ := by
  intro ρ hg as' hl w
  obtain ⟨a, as2, rfl, ha, hl⟩ := hl.uncons
  obtain rfl := hl.unnil
  obtain rfl := sy_get hg hi ha
  refine ⟨.int k' y, ?_, sy_mk hg hj (fun c => ⟨by simp, by simp⟩)⟩
  rw [hP]
  obtain ⟨v', h1, h2⟩ := convA_ok baseOk ((hc x).trans (by rw [hw])) (ρ := ρ) (.int k x) w
  rw [closed_eq h2 rfl] at h1
  exact h1

/-! ### Comparisons -/

theorem cmp_ok {X : Cx} (hP : X.P = Tryz.prog) {op : BinOp} {t : TypeId} {a b : Value} {r : Bool} {va vb : Value} (ha : ∀ ρ, GRel X ρ → ∀ a', VRel ρ a a' → a' = va) (hb : ∀ ρ, GRel X ρ → ∀ b', VRel ρ b b' → b' = vb)
    (hgd : ∀ x y, guardOk base op t x y va vb = true) (hca : clos1 va = true) (hcb : clos1 vb = true) (hbin : binA base op t va vb = some (.bool r)) : OrcOk X ⟨op, t, a, b, r⟩ := by
  intro ρ hg x y a' b' h1 h2 w
  obtain rfl := ha ρ hg _ h1
  obtain rfl := hb ρ hg _ h2
  rw [hP]
  have g := eqGuard_ok (X := base) (hgd x y) (clos1_rel ρ hca) (clos1_rel ρ hcb) w
  obtain ⟨v', h3, h4⟩ := binA_ok baseOk hbin (clos1_rel ρ hca) (clos1_rel ρ hcb) w
  rw [closed_eq h4 rfl] at h3
  simp only [Sem.run_bind]
  have g' : (eqGuard op t x y a' b').run Tryz.prog w = .ok () w := g
  have h3' : (Go.binOp op t a' b').run Tryz.prog w = .ok (.bool r) w := h3
  rw [g']
  simp [h3']

end Go.Proofs.YtehpbcpnmnhdbaaGreatDoor
