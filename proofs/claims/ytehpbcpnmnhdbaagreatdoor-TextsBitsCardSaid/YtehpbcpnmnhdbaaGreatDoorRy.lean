/-
  setbit as other means of the evaluator: its store and its telling are calls of it.
-/
import Derived.Test.YtehpbcpnmnhdbaaGreatDoorRa
import Derived.Test.YtehpbcpnmnhdbaaGreatDoorRx
import Derived.Test.YtehpbcpnmnhdbaaGreatDoorRz
set_option linter.all false
namespace Go.Proofs.YtehpbcpnmnhdbaaGreatDoor
open Go Go.Ev Go.RowKit

theorem calls_sound {X : Cx} {call : Callf} (hcs : CallSound X call) {f : FuncId} {args : List Value} {H H' : Heap} {c c' : Nat} {v : Value} (h : call (.fn f args) H c = some (v, H', c')) {g : Func} {b : Code} (hf : X.P.funcs[f]? = some g) (hb : g.body = some b)
    {ρ : Rn} {w : World} {args' : List Value} (hl : LRel ρ args args') (hw : WRel ρ H w) (hbl : ρ.Below c) (hg : GRel X ρ) :
    Calls X.P f args'.toArray w fun e w' => ∃ ρ' v', e = .returned v' ∧ VRel ρ' v v' ∧ Goes ρ H w ρ' H' w' ∧ ρ'.Below c' ∧ c ≤ c' ∧ ∀ m, m < c → ρ' m = ρ m := by
  intro cs
  obtain ⟨ρ', v', w', hen, hv, hgo, hr⟩ := hcs.2 f args H c v H' c' h ρ w args' cs hl hw hbl hg
  rcases hen with h1 | ⟨_, fr, hst, hfn, hlv⟩
  · exfalso
    unfold callFunc at h1
    simp only [Sem.run_bind, run_program, Result.andThen_ok, hf] at h1
    cases hn : (g.name == "runtime.NumGoroutine") <;> simp [hb, hn] at h1
  · exact ⟨.returned v', w', fr, ⟨ρ', v', rfl, hv, hgo, hr⟩, hst, hfn, hlv⟩

theorem grel_ext {X : Cx} {ρ ρ' : Rn} (h : GRel X ρ) (he : ρ.Ext ρ') : GRel X ρ' :=
  ⟨fun g hg => he _ _ (h.1 g hg), fun r v hr => by obtain ⟨L, hL, hs⟩ := h.2 r v hr; exact ⟨L, he _ _ hL, hs⟩⟩

theorem goes_but {ρ ρ' : Rn} {H H' : Heap} {W w' w'' : World} {M : Nat} (h : Goes ρ H W ρ' H' w') (hM : ∀ n o L, H'.get n = some o → ρ' n = some L → L.block ≠ M) (hlo : W.heap.size ≤ M) (hb : But M w' w'') : Goes ρ H W ρ' H' w'' where
  ext := h.ext
  rel := ⟨fun n o hn => by
    obtain ⟨L, o', h1, h2, h3⟩ := h.rel.obj n o hn
    exact ⟨L, o', h1, (hb.2.2.2 _ (hM n o L hn h1)).trans h2, h3⟩, h.rel.inj⟩
  size := by rw [hb.2.2.1]; exact h.size
  os := hb.1.trans h.os
  output := (Prod.ext hb.2.1.1 hb.2.1.2).trans h.output
  same := fun b hb' hno => (hb.2.2.2 b (by omega)).trans (h.same b hb' hno)
  new := h.new

/-- A block of closed shape. -/
theorem cell_of {ρ : Rn} {H : Heap} {w : World} (hw : WRel ρ H w) {n : Nat} {cs : List Value} {el : TypeId} {str : Bool} (hn : H.get n = some (.cells cs el none str)) :
    ∃ L cs' fz, ρ n = some L ∧ L.shift = 0 ∧ L.opn = none ∧ w.heap[L.block]? = some (.cells cs' el fz) ∧ ∀ (i : Nat) v, cs[i]? = some v → ∃ v', w.cell? ⟨L.block, i, none⟩ = some v' ∧ VRel ρ v v' := by
  obtain ⟨L, o', hL, ho, hr⟩ := hw.obj n _ hn
  cases o' with
  | cells cs' el' fz =>
    simp only [ORel] at hr
    obtain ⟨rfl, h1, h2, _, _, _, h3⟩ := hr
    refine ⟨L, cs', fz, hL, h3 trivial, by simpa using h1, ho, fun i v hv => ?_⟩
    obtain ⟨v', hv', hr'⟩ := h2 i v hv
    rw [h3 trivial] at hv'
    exact ⟨v', by simpa [World.cell?, ho] using hv', hr'⟩
  | _ => simp only [ORel] at hr

theorem unslice {ρ : Rn} {p : Option Addr} {l c : Nat} {v : Value} (h : VRel ρ (.slice p l c) v) : ∃ p' l' c', v = .slice p' l' c' := by
  cases h with
  | sliceNil l c => exact ⟨_, _, _, rfl⟩
  | slice _ _ _ _ _ => exact ⟨_, _, _, rfl⟩

theorem setbitRun_inv {one : Bool} {call : Callf} {args : List Value} {H : Heap} {c : Nat} {r : Value × Heap × Nat} (h : setbitRun one call args H c = some r) :
    ∃ k cb ob e1 e2 e3 e4 e5 e6 t1 q1 f1 f2 t2 q2 H' c' k1 n1 s2 p4 l4 c4 p5 l5 c5 p6 l6 c6 H'' c'', args = [.agg ⟨[.pointer (some ⟨k, 0, none⟩), sy 0, .bool true]⟩] ∧ H.get 0 = some (.rom ob pow) ∧
      H.get k = some (.cells [e1, e2, e3, e4, .slice (some ⟨cb, 0, none⟩) 4 4, e5] t1 none q1) ∧ H.get cb = some (.cells [f1, f2, sy 6, .string (word one)] t2 none q2) ∧
      call (.fn 93 [.agg ⟨[.pointer (some ⟨k, 0, none⟩), sy 0, .bool true]⟩, sy 11]) H c = some (.tuple ⟨[]⟩, H', c') ∧
      call (.fn 94 [.pointer (some ⟨k, 0, none⟩), .agg ⟨[.int .u8 3, .string ⟨#[]⟩, sy 15, .slice none 0 0]⟩]) H' c' = some (.agg ⟨[.int k1 n1, .string s2, sy 15, .slice p4 l4 c4, .slice p5 l5 c5, .slice p6 l6 c6]⟩, H'', c'') ∧
      r = (.agg ⟨[.int k1 n1, .string s2, sy 15, .slice p4 l4 c4, .slice p5 l5 c5, .slice p6 l6 c6]⟩, H'', c'') ∧ e6 = e5 := by
  unfold setbitRun at h
  split at h
  · rename_i k v1
    split at h
    · rename_i ob cs0 e1 e2 e3 e4 cb e5 t1 q1 h0 hk
      split at h
      · rename_i f1 f2 p wd t2 q2 hcb
        cases hc : (vEq 2 v1 (sy 0) && (vEqs (vEq 2) cs0 pow && (vEq 2 p (sy 6) && vEq 2 wd (.string (word one))))) with
        | false => rw [hc, cond_false] at h; cases h
        | true =>
          rw [hc, cond_true] at h
          simp only [Bool.and_eq_true] at hc
          obtain ⟨g1, g2, g3, g4⟩ := hc
          have g1 := vEq_eq _ _ _ g1
          have g2 := vEqs_eq (vEq_eq 2) _ _ g2
          have g3 := vEq_eq _ _ _ g3
          have g4 := vEq_eq _ _ _ g4
          subst g1 g2 g3 g4
          split at h
          · rename_i H' c' h93
            split at h
            · rename_i k1 n1 s2 x3 p4 l4 c4 p5 l5 c5 p6 l6 c6 H'' c'' h94
              cases hx : vEq 2 x3 (sy 15) with
              | false => rw [hx, cond_false] at h; cases h
              | true =>
                rw [hx, cond_true] at h
                have g5 := vEq_eq _ _ _ hx
                subst g5
                cases h
                exact ⟨k, cb, ob, e1, e2, e3, e4, e5, e5, t1, q1, f1, f2, t2, q2, H', c', k1, n1, s2, p4, l4, c4, p5, l5, c5, p6, l6, c6, H'', c'', rfl, h0, hk, hcb, h93, h94, rfl, rfl⟩
            · cases h
          · cases h
      · cases h
    · cases h
  · cases h

theorem setbit_ok {X : Cx} (hP : X.P = Tryz.prog) (one : Bool) {v : ByteArray} {n : Nat} (hn : n < 65536) (hv : v.size ≤ 2000) (s0 : X.sym (5000 + 0) = some (.string v)) (s6 : X.sym (5000 + 6) = some (.string (itxt n)))
    (s11 : X.sym (5000 + 11) = some (.string (setB v n one))) (s15 : X.sym (5000 + 15) = some (.int .i64 (hasB v n))) (hnG : 0 < X.nG) : OrgOk X ⟨52, setbitRun one⟩ := by
  intro call hcs args H c v0 H2 c2 h ρ W args' cs hl hw hb hg
  have h : setbitRun one call args H c = some (v0, H2, c2) := h
  obtain ⟨k, cb, ob, e1, e2, e3, e4, e5, e6, t1, q1, f1, f2, t2, q2, H', c', k1, n1, x2, p4, l4, c4, p5, l5, c5, p6, l6, c6, H'', c'', rfl, h0, hk, hcb, h93, h94, he, _⟩ := setbitRun_inv h
  cases he
  obtain ⟨L, csk, fzk, hL, hsh, hop, hblk, hcell⟩ := cell_of hw hk
  obtain ⟨y4, hy4, hr4⟩ := hcell 4 _ rfl
  obtain ⟨L2, csc, fzc, hL2, hsh2, hop2, hblk2, hcell2⟩ := cell_of hw hcb
  obtain ⟨y2, hy2, hr2⟩ := hcell2 2 _ rfl
  obtain ⟨y3, hy3, hr3⟩ := hcell2 3 _ rfl
  obtain rfl := sy_get hg s6 hr2
  obtain rfl : y3 = .string (word one) := closed_eq hr3 (by cases one <;> rfl)
  have hy4' : y4 = .slice (some ⟨L2.block, 0, none⟩) 4 4 := by
    cases hr4 with
    | @slice _ a' _ _ cap' L3 h1 h2 h3 h3' h4 =>
      rw [hL2] at h1
      cases h1
      unfold SlRel at h4
      rw [hop2] at h4
      obtain ⟨h5, rfl⟩ := h4
      obtain ⟨b1, o1, sp1⟩ := a'
      simp only at h2 h3' h5
      subst h2 h3' h5
      rw [hsh2]
  subst hy4'
  obtain ⟨a, as2, rfl, ha, hl⟩ := hl.uncons
  obtain rfl := hl.unnil
  have ha0 := ha
  obtain ⟨b, rfl, hab⟩ := ha.unagg
  have hb3 : b = #[.pointer (some ⟨L.block, 0, none⟩), .string v, .bool true] := by
    have hq := hab.list
    obtain ⟨z1, zs, e1, hz1, hq⟩ := hq.uncons
    obtain ⟨z2, zs, rfl, hz2, hq⟩ := hq.uncons
    obtain ⟨z3, zs, rfl, hz3, hq⟩ := hq.uncons
    obtain rfl := hq.unnil
    obtain rfl := sy_get hg s0 hz2
    obtain rfl := hz3.unbool
    obtain ⟨a', L', rfl, g1, g2, g3, g4⟩ := hz1.unptr
    simp only at g1 g3 g4
    rw [hL] at g1
    cases g1
    rw [hsh] at g3
    obtain ⟨b1, o1, sp1⟩ := a'
    simp only at g2 g3 g4
    subst g2 g3 g4
    exact Array.ext' e1
  subst hb3
  have hkb : L.block < W.heap.size := (Array.getElem?_eq_some_iff.1 hblk).1
  have hcbl : L2.block < W.heap.size := (Array.getElem?_eq_some_iff.1 hblk2).1
  have hpos : 0 < W.heap.size := by omega
  have htab : Lib.TabIs Tryz.prog W "internal/strconv.uint64pow10" .u64 Lib.pow10Tab := by
    obtain ⟨L0, o', hL0, ho, hrel⟩ := hw.obj 0 _ h0
    rw [hg.1 0 hnG] at hL0
    cases hL0
    have hrel' : o' = ob ∧ (0 : Nat) = 0 ∧ ∃ (cs' : Array Value) (el : TypeId) (fz : Nat × Nat), (ob = .cells cs' el fz ∧ cs'.size = pow.length) ∧ ∀ (i : Nat) v, pow[i]? = some v → ∃ v', cs'[i]? = some v' ∧ VRel ρ v v' := by
      cases o' <;> simpa only [ORel] using hrel
    obtain ⟨e1, _, cs', el, fz, ⟨e3, e4⟩, e5⟩ := hrel'
    rw [e1, e3] at ho
    exact tab_of ⟨cs', el, fz, ho, e4, e5⟩
  have hx93 : X.P.funcs[93]? = some Tryz.f93 := by rw [hP]; exact Tryz.func93
  have hx94 : X.P.funcs[94]? = some Tryz.f94 := by rw [hP]; exact Tryz.func94
  have main := setbit_row
    (fun w w' => ∃ ρ', Goes ρ H w ρ' H' w' ∧ ρ'.Below c' ∧ c ≤ c' ∧ ∀ m, m < c → ρ' m = ρ m)
    (fun l w' => ∃ ρ'', VRel ρ'' (.agg ⟨[.int k1 n1, .string x2, sy 15, .slice p4 l4 c4, .slice p5 l5 c5, .slice p6 l6 c6]⟩) (.agg l) ∧ Goes ρ H W ρ'' H2 w' ∧ ρ''.Below c2 ∧ c ≤ c2 ∧ (∀ m, m < c → ρ'' m = ρ m) ∧ ∀ n o L, H2.get n = some o → ρ'' n = some L → L.block ≠ W.heap.size + 1)
    W L.block L2.block v (itxt n) n one hn hv hkb hcbl hy4 hy2 hy3
    (fun w hbw => bit_row n hn w (tab_below hbw hpos htab) (by have := hbw.size; omega))
    (fun w hbw => by
      have hww := (Goes.of_below hw hbw).rel
      have hl93 : LRel ρ [.agg ⟨[.pointer (some ⟨k, 0, none⟩), sy 0, .bool true]⟩, sy 11] [.agg #[.pointer (some ⟨L.block, 0, none⟩), .string v, .bool true], .string (setB v n one)] :=
        .cons ha0 (.cons (sy_mk hg s11 (fun c => ⟨by simp, by simp⟩)) (.nil ρ))
      have := calls_sound hcs h93 hx93 rfl hl93 hww hb hg
      rw [hP] at this
      refine this.mono ?_
      rintro e w' ⟨ρ', v', rfl, hv', hgo, hr⟩
      obtain ⟨b', rfl, hb'⟩ := hv'.untup
      have : b' = #[] := by
        have := hb'.1
        exact Array.eq_empty_of_size_eq_zero (by simpa using this.symm)
      subst this
      exact ⟨rfl, ρ', hgo, hr⟩)
    (fun w w' ⟨ρ', hgo, _⟩ => by
      refine ⟨hgo.size, fun b hb1 hb2 => hgo.same b hb2 fun m o K hm hK e => ?_⟩
      obtain ⟨K', o', hK', ho', _⟩ := hw.obj m o hm
      rw [hK] at hK'; cases hK'
      have := (Array.getElem?_eq_some_iff.1 ho').1
      omega)
    (fun w w' w'' ⟨ρ', hgo, hr⟩ hbw => ⟨ρ', hgo.trans (Goes.of_below hgo.rel hbw), hr⟩)
    (fun w0 w hbw0 hsz0 ⟨ρ', hgo, hbl', hcc, hag⟩ => by
      have hg' := grel_ext hg hgo.ext
      have hptr : VRel ρ' (.pointer (some ⟨k, 0, none⟩)) (.pointer (some ⟨L.block, 0, none⟩)) := .ptr (hgo.ext _ _ hL) rfl (by rw [hsh]) rfl
      have hl94 : LRel ρ' [.pointer (some ⟨k, 0, none⟩), .agg ⟨[.int .u8 3, .string ⟨#[]⟩, sy 15, .slice none 0 0]⟩] [.pointer (some ⟨L.block, 0, none⟩), .agg #[.int .u8 3, .string ⟨#[]⟩, .int .i64 (hasB v n), .slice none 0 0]] :=
        .cons hptr (.cons (.aggA (LRel.arr (.cons (.int _ _) (.cons (.string _) (.cons (sy_mk hg' s15 (fun c => ⟨by simp, by simp⟩)) (.cons (.sliceNil _ _) (.nil ρ'))))))) (.nil ρ'))
      have := calls_sound hcs h94 hx94 rfl hl94 hgo.rel hbl' hg'
      rw [hP] at this
      refine this.mono ?_
      rintro e w' ⟨ρ'', v', rfl, hv', hgo2, hbl'', hcc', hag'⟩
      have hg'' := grel_ext hg' hgo2.ext
      have hnew : ∀ n o K, H'.get n = some o → ρ' n = some K → K.block ≠ W.heap.size + 1 := by
        intro m o K hm hK e
        rcases hgo.new m o K hm hK with h1 | ⟨m', p, K', hm', hK', e'⟩
        · omega
        · obtain ⟨K1, o', hK1, ho', _⟩ := hw.obj m' p hm'
          rw [hK'] at hK1; cases hK1
          have := (Array.getElem?_eq_some_iff.1 ho').1
          omega
      have hs0 := hgo.size
      have hv0 := hv'
      obtain ⟨b', rfl, hb'⟩ := hv'.unagg
      have hq := hb'.list
      obtain ⟨z1, zs, g1, hz1, hq⟩ := hq.uncons
      obtain ⟨z2, zs, rfl, hz2, hq⟩ := hq.uncons
      obtain ⟨z3, zs, rfl, hz3, hq⟩ := hq.uncons
      obtain ⟨z4, zs, rfl, hz4, hq⟩ := hq.uncons
      obtain ⟨z5, zs, rfl, hz5, hq⟩ := hq.uncons
      obtain ⟨z6, zs, rfl, hz6, hq⟩ := hq.uncons
      obtain rfl := hq.unnil
      obtain rfl := hz1.unint
      obtain rfl := hz2.unstr
      obtain rfl := sy_get hg'' s15 hz3
      obtain ⟨p4', l4', c4', rfl⟩ := unslice hz4
      obtain ⟨p5', l5', c5', rfl⟩ := unslice hz5
      obtain ⟨p6', l6', c6', rfl⟩ := unslice hz6
      have g1 : b' = #[.int k1 n1, .string x2, .int .i64 (hasB v n), .slice p4' l4' c4', .slice p5' l5' c5', .slice p6' l6' c6'] := Array.ext' g1
      subst g1
      refine ⟨_, _, _, _, _, _, _, _, _, _, _, _, _, rfl, ⟨ρ'', hv0, ((Goes.of_below hw hbw0).trans hgo).trans hgo2, hbl'', by omega, fun m hm => (hag' m (by omega)).trans (hag m hm), ?_⟩, ?_⟩
      · intro m o K hm hK e
        rcases hgo2.new m o K hm hK with h1 | ⟨m', p, K', hm', hK', e'⟩
        · omega
        · exact hnew m' p K' hm' hK' (e'.trans e)
      · intro b hb1 hb2
        refine hgo2.same b (by omega) fun m o K hm hK e => ?_
        rcases hgo.new m o K hm hK with h1 | ⟨m', p, K', hm', hK', e'⟩
        · omega
        · obtain ⟨K1, o', hK1, ho', _⟩ := hw.obj m' p hm'
          rw [hK'] at hK1; cases hK1
          have := (Array.getElem?_eq_some_iff.1 ho').1
          omega)
  obtain ⟨e, w'', fr', ⟨l, w', rfl, ⟨ρ'', hvr, hgo, hbl, hcc, hag, hM⟩, hbut⟩, hst, hfn, hlv⟩ := main cs
  refine ⟨ρ'', .agg l, w'', .inr ⟨?_, fr', by rw [hP]; exact hst, hfn, by rw [hP]; exact hlv⟩, hvr, goes_but hgo hM (by omega) hbut, hbl, hcc, hag⟩
  have hx52 : X.P.funcs[52]? = some Tryz.f52 := by rw [hP]; exact Tryz.func52
  have hnm : (Tryz.f52.name == "runtime.NumGoroutine") = false := rfl
  have hbody : Tryz.f52.body.isSome = true := rfl
  obtain ⟨bd, hbd⟩ := Option.isSome_iff_exists.1 hbody
  unfold callFunc
  simp only [Sem.run_bind, run_program, Result.andThen_ok, hx52, hnm]
  simp [hbd]

end Go.Proofs.YtehpbcpnmnhdbaaGreatDoor
