/-
  The evaluator and what it says of the model: a part of it.
-/
import Derived.Test.YtgmljeeeomjooaaGreatDoorEvB
import Derived.Test.YtgmljeeeomjooaaGreatDoorEvA
import Derived.Lib.Builder
import Derived.Lib.UnsafeStr
import Derived.RangeFuncRecord
import Derived.KernelRfl
set_option linter.all false

namespace Go.Ev
variable [Gho]

theorem ORel.cellsInv {ρ : Rn} {L : Loc} {cs : List Value} {el : TypeId} {opn : Option Nat} {str : Bool} {o' : Obj} (h : ORel ρ L (.cells cs el opn str) o') :
    ∃ cs' fz, o' = .cells cs' el fz ∧ L.opn = opn.map (fun e => (e, cs'.size)) ∧ (∀ (i : Nat) v, cs[i]? = some v → ∃ v', cs'[i + L.shift]? = some v' ∧ VRel ρ v v') ∧
      (∀ i, i < cs.length → ¬ (fz.1 ≤ i + L.shift ∧ i + L.shift < fz.2)) ∧ (opn.isSome = true → ∀ i, i < cs'.size → ¬ (fz.1 ≤ i ∧ i < fz.2)) ∧ (str = false → fz.1 = fz.2) ∧ (opn = none → L.shift = 0) := by
  cases o' with
  | cells cs' el' fz =>
    simp only [ORel] at h
    obtain ⟨rfl, h⟩ := h
    exact ⟨cs', fz, rfl, h⟩
  | _ => simp [ORel] at h
theorem ORel.mapInv {ρ : Rn} {L : Loc} {es : List MapEntry} {clock : Nat} {o' : Obj} (h : ORel ρ L (.map es clock) o') :
    ∃ es', o' = .map es' clock ∧ ERel ρ es es'.toList := by
  cases o' with
  | map es' clock' =>
    simp only [ORel] at h
    obtain ⟨rfl, h1, h2⟩ := h
    exact ⟨es', rfl, by simpa using h1, fun i e e' he he' => h2 i e e' he (by simpa using he')⟩
  | _ => simp [ORel] at h

theorem bytesOf_run {P : Program} {ρ : Rn} (w : World) (f : Value → ByteArray → Sem (ForInStep ByteArray)) (hf : ∀ n s, f (.int .u8 n) s = pure (ForInStep.yield (s.push (UInt8.ofNat n.toNat)))) :
    ∀ (l : List Value) (l' : List Value) (s : List UInt8) (acc : ByteArray), bytesOf l = some s → LRel ρ l l' → (forIn l' acc f).run P w = .ok ⟨⟨acc.data.toList ++ s⟩⟩ w
  | [], l', s, acc, h, hl => by
    simp only [bytesOf] at h; cases h
    rw [hl.unnil]
    simp
  | v :: l, l', s, acc, h, hl => by
    obtain ⟨v', m, rfl, hv, hm⟩ := hl.uncons
    unfold bytesOf at h
    split at h
    · rename_i he; cases he
    · rename_i n r he
      cases he
      simp only [Option.map_eq_some_iff] at h
      obtain ⟨t, ht, rfl⟩ := h
      have := hv.unint; subst this
      rw [List.forIn_cons, hf]
      simp only [pure_bind]
      rw [bytesOf_run w f hf l m t _ ht hm]
      congr 1
      simp [ByteArray.push]
    · cases h

theorem ite_block (c : Prop) [Decidable c] (a : Addr) (n : Nat) : (if c then a else a.add n).block = a.block := by
  by_cases h : c
  · rw [if_pos h]
  · rw [if_neg h, add_block]
theorem ite_spot (c : Prop) [Decidable c] {a : Addr} (ha : a.spot = none) (n : Nat) : (if c then a else a.add n).spot = none := by
  by_cases h : c
  · rw [if_pos h]; exact ha
  · rw [if_neg h]; exact add_spot ha n

section
variable {X : Cx} (ok : X.Ok) {ρ : Rn}
include ok

theorem loadAt_ok {H : Heap} {w : World} (hw : WRel ρ H w) {t : TypeId} {a : Addr} {v va : Value} (hva : VRel ρ (.pointer (some a)) va)
    (h : (match X.isAgg t, X.size t with
      | some true, some n => (cellsAt H a n).map fun l => Value.agg ⟨l⟩
      | some false, some _ => match a.spot, H.get a.block with
        | none, some (.cells cs _ _ _) => cs[a.off]?
        | _, _ => none
      | _, _ => none) = some v) : ∃ v', (Instr.loadAt t va).run X.P w = .ok v' w ∧ VRel ρ v v' := by
  obtain ⟨a', L, rfl, h1, h2, h3, h4⟩ := hva.unptr
  unfold Instr.loadAt loadVar
  simp only [Sem.run_bind, sure_ok, Result.andThen_ok]
  split at h
  · rename_i n hg hn
    simp only [Option.map_eq_some_iff] at h
    obtain ⟨l, hl, rfl⟩ := h
    obtain ⟨l', hr, hrel, _⟩ := cellsAt_ok (X := X) hw hl h1 h2 h3 h4
    exact ⟨.agg l'.toArray, by simp [run_agg ok hg, run_size ok hn, hr], .aggA hrel.arr⟩
  · rename_i n hg hn
    split at h
    · rename_i cs el opn str hsp hH
      obtain ⟨v', hc, hrel⟩ := cell_of hw hH h1 h h2 h3 (h4.trans hsp)
      exact ⟨v', by simp [run_agg ok hg, hc], hrel⟩
    · cases h
  · cases h

theorem evRead_ok {o : Oper} {e : Operand → Option Value} {r : Operand → Value} (hr : OpRel ρ e r) {H : Heap} {w : World} (hw : WRel ρ H w) {v : Value} (h : evRead X e o.op H = some v) :
    ∃ v', Gives X.P r o w v' ∧ VRel ρ v v' := by
  obtain ⟨dst, op, ty, pos, after, guard⟩ := o
  simp only at h
  cases op with
  | load t x =>
    simp only [evRead] at h
    split at h
    · rename_i a n hx hg hn
      obtain ⟨v', hv, hrel⟩ := loadAt_ok ok hw (hr x _ hx) (t := t) (v := v) (by rw [hg, hn]; exact h)
      exact ⟨v', gives_v (s := Instr.loadAt t (r x)) rfl hv, hrel⟩
    · rename_i a n hx hg hn
      obtain ⟨v', hv, hrel⟩ := loadAt_ok ok hw (hr x _ hx) (t := t) (v := v) (by rw [hg, hn]; exact h)
      exact ⟨v', gives_v (s := Instr.loadAt t (r x)) rfl hv, hrel⟩
    · cases h
  | slice t x lo hi mx =>
    simp only [evRead] at h
    split at h
    · rename_i el len cap hu hx
      split at h
      · rename_i s l hh m hs hb
        cases h
        have hxr := hr x _ hx
        generalize hrx : r x = y at hxr
        cases hxr with
        | sliceNil _ _ =>
        obtain ⟨hrun, hle, _, _, hmx, _⟩ := boundsA_ok (X := X) hr hb (Nat.le_refl _) (fun _ => rfl) true w
        have hm : (if mx.isSome = true then m else cap) = m := by
          cases mx with
          | none => simp [hmx rfl]
          | some _ => simp
        rw [hm] at hrun
        refine ⟨.slice none (hh - l) (m - l), gives_v (s := Instr.sliceAt t (r x) (lo.map r) (hi.map r) (mx.map r)) rfl ?_, .sliceNil _ _⟩
        rw [hrx]
        unfold Instr.sliceAt Instr.slice
        simp [run_under ok hu, hrun, run_size ok hs]
      · cases h
    · rename_i el a len cap hu hx
      split at h
      · rename_i s cs el' opn str l hh m hs hH hb
        cases hc : (opnOk opn s mx && Nat.ble hh m) with
        | false => rw [hc, cond_false] at h; cases h
        | true =>
          rw [hc, cond_true] at h
          cases h
          rw [Bool.and_eq_true] at hc
          have hhm := Nat.le_of_ble_eq_true hc.2
          have hxr := hr x _ hx
          generalize hrx : r x = y at hxr
          cases hxr with
          | @slice _ a' _ _ cap' L h1 h2 h3 h3' h4 =>
          obtain ⟨K, o', hK, hk, hrel⟩ := hw.obj a.block _ hH
          rw [h1] at hK; cases hK
          obtain ⟨cs', fz, rfl, hopn, _⟩ := hrel.cellsInv
          have hcap : cap ≤ cap' ∧ (mx.isSome = true → cap' = cap) := by
            unfold SlRel at h4
            cases opn with
            | none => rw [hopn] at h4; simp at h4; exact ⟨by omega, fun _ => h4.2⟩
            | some z =>
              rw [hopn] at h4; simp at h4
              refine ⟨h4.1, fun hm => ?_⟩
              have := hc.1
              cases mx <;> simp [opnOk] at hm this
          obtain ⟨hrun, hle, _, _, hmx, hmc⟩ := boundsA_ok (X := X) hr hb hcap.1 hcap.2 true w
          refine ⟨.slice (some (if (if mx.isSome = true then m else cap') = l then a' else a'.add (l * s))) (hh - l) ((if mx.isSome = true then m else cap') - l),
            gives_v (s := Instr.sliceAt t (r x) (lo.map r) (hi.map r) (mx.map r)) rfl ?_, ?_⟩
          · rw [hrx]
            unfold Instr.sliceAt Instr.slice
            simp only [Sem.run_bind, run_under ok hu, Result.andThen_ok, hrun, run_size ok hs, Sem.run_pure]
            by_cases e : (if mx.isSome = true then m else cap') = l
            · simp [e]
            · simp [e]
          · have blk : (bif Nat.beq m l then a else addrAdd a (l * s)).block = a.block := by
              cases Nat.beq m l <;> simp [addrAdd_eq, add_block]
            have spt : (bif Nat.beq m l then a else addrAdd a (l * s)).spot = none := by
              cases Nat.beq m l
              · rw [cond_false, addrAdd_eq]; exact add_spot h3 _
              · exact h3
            refine .slice (L := L) (by rw [blk]; exact h1) ?_ spt ?_ ?_
            · rw [ite_block]; exact h2
            · exact ite_spot _ h3' _
            · unfold SlRel at h4 ⊢
              cases opn with
              | none =>
                rw [hopn] at h4 ⊢
                simp only [Option.map_none] at h4 ⊢
                obtain ⟨ho, rfl⟩ := h4
                have hmm : (if mx.isSome = true then m else cap') = m := by
                  cases mx with
                  | none => simp [hmx rfl]
                  | some _ => simp
                rw [hmm]
                refine ⟨?_, rfl⟩
                by_cases e : m = l
                · rw [if_pos e, Tr.beq_true' e, cond_true]; exact ho
                · rw [if_neg e, Tr.beq_false' e, cond_false, addrAdd_eq, add_off, add_off, ho]; omega
              | some z =>
                rw [hopn] at h4 ⊢
                simp only [Option.map_some] at h4 ⊢
                have hz := hc.1
                simp only [opnOk, Bool.and_eq_true] at hz
                have hzs := Nat.eq_of_beq_eq_true hz.1
                have hmn : mx = none := by cases mx <;> simp at hz ⊢
                subst hmn
                subst hzs
                have hmcap := hmx rfl
                subst hmcap
                simp only [Option.isSome_none, Bool.false_eq_true, if_false]
                obtain ⟨q1, q2, q3⟩ := h4
                refine ⟨by omega, ?_, ?_⟩
                · by_cases e : cap' = l
                  · rw [if_pos e]
                    have : a'.off ≤ cs'.size := Nat.le_trans (Nat.le_add_right _ _) q2
                    rw [e, Nat.sub_self, Nat.zero_mul]; omega
                  · rw [if_neg e, add_off]
                    have hl : l ≤ cap' := by omega
                    have e1 : l * z + (cap' - l) * z = cap' * z := by rw [← Nat.add_mul]; congr 1; omega
                    omega
                · intro hpos
                  have hml : ¬ m = l := by omega
                  have hcl : ¬ cap' = l := by omega
                  rw [if_neg hcl, Tr.beq_false' hml, cond_false, addrAdd_eq, add_off, add_off, q3 (by omega)]; omega
      · cases h
    · rename_i n el a hu hx
      split at h
      · rename_i s cs el' str l hh m hsp hs hH hb
        cases h
        obtain ⟨a', L, he, h1, h2, h3, h4⟩ := (hr x _ hx).unptr
        obtain ⟨K, o', hK, hk, hrel⟩ := hw.obj a.block _ hH
        rw [h1] at hK; cases hK
        obtain ⟨cs', fz, rfl, hopn, _⟩ := hrel.cellsInv
        obtain ⟨hrun, hle, _, _, hmx, hmc⟩ := boundsA_ok (X := X) hr hb (Nat.le_refl _) (fun _ => rfl) false w
        have hmm : (if mx.isSome = true then m else n) = m := by
          cases mx with
          | none => simp [hmx rfl]
          | some _ => simp
        rw [hmm] at hrun
        refine ⟨.slice (some (if m = l then a' else a'.add (l * s))) (hh - l) (m - l), gives_v (s := Instr.sliceAt t (r x) (lo.map r) (hi.map r) (mx.map r)) rfl ?_, ?_⟩
        · rw [he]
          unfold Instr.sliceAt
          simp only [Sem.run_bind, run_under ok hu, Result.andThen_ok, sure_ok, hrun, run_size ok hs, Sem.run_pure]
        · have blk : (bif Nat.beq m l then a else addrAdd a (l * s)).block = a.block := by
            cases Nat.beq m l <;> simp [addrAdd_eq, add_block]
          have spt : (bif Nat.beq m l then a else addrAdd a (l * s)).spot = none := by
            cases Nat.beq m l
            · rw [cond_false, addrAdd_eq]; exact add_spot hsp _
            · exact hsp
          refine .slice (L := L) (by rw [blk]; exact h1) ?_ spt ?_ ?_
          · rw [ite_block]; exact h2
          · exact ite_spot _ (h4.trans hsp) _
          · unfold SlRel
            rw [hopn]
            simp only [Option.map_none]
            refine ⟨?_, trivial⟩
            by_cases e : m = l
            · rw [if_pos e, Tr.beq_true' e, cond_true]; exact h3
            · rw [if_neg e, Tr.beq_false' e, cond_false, addrAdd_eq, add_off, add_off, h3]; omega
      · cases h
    · cases h
  | lookup t x k cok =>
    simp only [evRead] at h
    have pair : ∀ (u u' : Value), VRel ρ u u' → ∀ b, VRel ρ (bif cok then .tuple #[u, .bool b] else u) (if cok then .tuple #[u', .bool b] else u') := by
      intro u u' hu b
      cases cok with
      | true => exact .tupA (LRel.arr (.cons hu (.cons (.bool b) (.nil ρ))))
      | false => exact hu
    split at h
    · rename_i kt el k' hu hx hk
      have hxr := hr x _ hx
      generalize hrx : r x = y at hxr
      cases hxr with
      | mapNil =>
      cases hc : (X.keyTy kt && X.keyFits kt k') with
      | false => rw [hc, cond_false] at h; cases h
      | true =>
        rw [hc, cond_true] at h
        rw [Bool.and_eq_true] at hc
        simp only [Option.map_eq_some_iff] at h
        obtain ⟨z, hz, rfl⟩ := h
        obtain ⟨hzr, hzz⟩ := zeroV_ok (ρ := ρ) ok hz w
        have hl : X.look kt k' [] = some none := by
          unfold Cx.look
          rw [hc.1, hc.2]; rfl
        obtain ⟨hkk, _, _, r', hr', hrel⟩ := look_ok ok (hr k _ hk) (es := []) (es' := []) ⟨rfl, fun i e e' h => by simp at h⟩ hl w
        cases r' with
        | some q => cases hrel
        | none =>
          refine ⟨_, gives_v (s := Instr.lookup t (r x) (r k) cok) rfl ?_, pair z z hzz false⟩
          rw [hrx, hkk]
          unfold Instr.lookup
          rw [hkk] at hr'
          simp [run_under ok hu, checkKey_ok ok hc.1 hc.2, hr', hzr]
    · rename_i kt el m k' hu hx hk
      have hxr := hr x _ hx
      generalize hrx : r x = y at hxr
      cases hxr with
      | @map _ L hL =>
      split at h
      · rename_i es clock hH
        obtain ⟨K, o', hK, hko, hrel⟩ := hw.obj m _ hH
        rw [hL] at hK; cases hK
        obtain ⟨es', rfl, he⟩ := hrel.mapInv
        split at h
        · rename_i i v' hl
          cases h
          obtain ⟨hkk, q1, q2, r', hr', hrel'⟩ := look_ok ok (hr k _ hk) he hl w
          cases r' with
          | none => cases hrel'
          | some q =>
            obtain ⟨j, u⟩ := q
            obtain ⟨rfl, hv⟩ := hrel'
            refine ⟨_, gives_v (s := Instr.lookup t (r x) (r k) cok) rfl ?_, pair v' u hv true⟩
            rw [hrx, hkk]
            rw [hkk] at hr'
            unfold Instr.lookup
            simp [run_under ok hu, getObj, Sem.run, hko, checkKey_ok ok q1 q2, hr']
        · rename_i hl
          simp only [Option.map_eq_some_iff] at h
          obtain ⟨z, hz, rfl⟩ := h
          obtain ⟨hzr, hzz⟩ := zeroV_ok (ρ := ρ) ok hz w
          obtain ⟨hkk, q1, q2, r', hr', hrel'⟩ := look_ok ok (hr k _ hk) he hl w
          cases r' with
          | some q => cases hrel'
          | none =>
            refine ⟨_, gives_v (s := Instr.lookup t (r x) (r k) cok) rfl ?_, pair z z hzz false⟩
            rw [hrx, hkk]
            rw [hkk] at hr'
            unfold Instr.lookup
            simp [run_under ok hu, getObj, Sem.run, hko, checkKey_ok ok q1 q2, hr', hzr]
        · cases h
      · cases h
    · cases h
  | convert s d x =>
    simp only [evRead] at h
    split at h
    · rename_i el b n cp hs hd hx
      split at h
      · rename_i hel
        have hxr := hr x _ hx
        generalize hrx : r x = y at hxr
        cases b with
        | none =>
          simp only at h; cases h
          cases hxr with
          | sliceNil _ _ =>
          refine ⟨_, gives_v (s := Go.convert s d (r x)) rfl ?_, .string _⟩
          rw [hrx]
          unfold Go.convert
          simp [run_under ok hs, run_under ok hd, run_under ok hel, Conv.bytesToString]
        | some a =>
          simp only at h
          split at h
          · rename_i l hl
            simp only [Option.map_eq_some_iff] at h
            obtain ⟨s', hs', rfl⟩ := h
            cases hxr with
            | @slice _ a' _ _ cap' L h1 h2 h3 h3' h4 =>
            have ho : n = 0 ∨ a'.off = a.off + L.shift := by
              unfold SlRel at h4
              split at h4
              · exact .inr h4.1
              · by_cases e : n = 0
                · exact .inl e
                · exact .inr (h4.2.2 (by omega))
            have hrun : ∃ l' : List Value, (loadCells a' n).run X.P w = .ok l'.toArray w ∧ LRel ρ l l' := by
              rcases ho with e | ho
              · subst e
                have hl0 : l = [] := by
                  unfold cellsAt at hl
                  split at hl
                  · obtain ⟨_, rfl⟩ := cut_ok hl; simp
                  · cases hl
                subst hl0
                exact ⟨[], by simp [loadCells, loadCellsFrom], .nil ρ⟩
              · obtain ⟨l', p, q, _⟩ := cellsAt_ok (X := X) hw hl h1 h2 ho (h3'.trans h3.symm)
                exact ⟨l', p, q⟩
            obtain ⟨l', hrl, hll⟩ := hrun
            refine ⟨_, gives_v (s := Go.convert s d (r x)) rfl ?_, .string _⟩
            rw [hrx]
            unfold Go.convert
            simp only [Sem.run_bind, run_under ok hs, run_under ok hd, Result.andThen_ok, run_under ok hel]
            unfold Conv.bytesToString
            simp only [Sem.run_bind, hrl, Result.andThen_ok]
            rw [← Array.forIn_toList]
            rw [bytesOf_run (P := X.P) w _ (fun n s => rfl) l l' s' ByteArray.empty hs' hll]
            simp only [Result.andThen_ok, Sem.run_pure]
            rfl
          · cases h
      · cases h
    · cases h
  | call c =>
    simp only [evRead] at h
    obtain ⟨callee, args, argTypes⟩ := c
    have bi : ∀ (b : Builtin) (s : Sem Value) (v' : Value), callee = .builtin b →
        (∀ cs, builtin b argTypes ty cs (args.map r) = (do pure (.value (← s)))) → s.run X.P w = .ok v' w →
        Gives X.P r ⟨dst, .call ⟨callee, args, argTypes⟩, ty, pos, after, guard⟩ w v' := by
      intro b s v' hcal hbi hs
      subst hcal
      unfold Gives execOp resolve
      simp [invoke, hbi, hs]
    split at h
    · rename_i t hcal ht hargs
      split at h
      · rename_i kt el hu
        cases h
        have hl := evL_ok hr args.toList _ hargs
        obtain ⟨x', m, hxm, hx, hm⟩ := hl.uncons
        have hm' := hm.unnil
        subst hm'
        have ha : args.map r = #[x'] := by apply Array.ext'; simpa using hxm
        cases hx
        refine ⟨_, bi .len (Builtin.len_ argTypes ty (args.map r)) (goInt ((0 : Nat) : Int)) hcal (fun _ => rfl) ?_, .int _ _⟩
        unfold Builtin.len_
        simp [ht, ha, run_under ok hu]
      · cases h
    · rename_i t m hcal ht hargs
      split at h
      · rename_i kt el es clock hu hH
        cases h
        have hl := evL_ok hr args.toList _ hargs
        obtain ⟨x', m', hxm, hx, hm⟩ := hl.uncons
        have hm' := hm.unnil
        subst hm'
        have ha : args.map r = #[x'] := by apply Array.ext'; simpa using hxm
        cases hx with
        | @map _ L hL =>
        obtain ⟨K, o', hK, hko, hrel⟩ := hw.obj m _ hH
        rw [hL] at hK; cases hK
        obtain ⟨es', rfl, he⟩ := hrel.mapInv
        refine ⟨_, bi .len (Builtin.len_ argTypes ty (args.map r)) (goInt (es.length : Nat)) hcal (fun _ => rfl) ?_, .int _ _⟩
        unfold Builtin.len_
        have hlen : es'.size = es.length := by have := he.1; simp at this; omega
        simp [ht, ha, run_under ok hu, getObj, Sem.run, hko, hlen]
      · cases h
    · rename_i t a ln n hcal ht hargs
      split at h
      · rename_i el cs el' str hu hH
        cases h
        have hl := evL_ok hr args.toList _ hargs
        obtain ⟨x', m', hxm, hx, hm⟩ := hl.uncons
        have hm' := hm.unnil
        subst hm'
        have ha : args.map r = #[x'] := by apply Array.ext'; simpa using hxm
        cases hx with
        | @slice _ a' _ _ cap' L h1 h2 h3 h3' h4 =>
        obtain ⟨K, o', hK, hko, hrel⟩ := hw.obj a.block _ hH
        rw [h1] at hK; cases hK
        obtain ⟨cs', fz, rfl, hopn, _⟩ := hrel.cellsInv
        unfold SlRel at h4
        rw [hopn] at h4
        simp only [Option.map_none] at h4
        obtain ⟨_, rfl⟩ := h4
        refine ⟨_, bi .cap (Builtin.cap_ argTypes ty (args.map r)) (goInt (cap' : Nat)) hcal (fun _ => rfl) ?_, .int _ _⟩
        unfold Builtin.cap_
        simp [ht, ha, run_under ok hu]
      · cases h
    · cases h
  | binOp op t x y yt =>
    simp only [evRead] at h
    split at h
    · rename_i a b el hx hy hu
      split at h
      · rename_i n cs1 ea o1 cs2 eb o2 hs hsa hsb hHa hHb
        cases hop : eqOp op with
        | false => rw [hop, cond_false] at h; cases h
        | true =>
          rw [hop, cond_true] at h
          cases h
          obtain ⟨a', L, hea, p1, p2, p3, p4⟩ := (hr x _ hx).unptr
          obtain ⟨b', M, heb, q1, q2, q3, q4⟩ := (hr y _ hy).unptr
          have hq : (Op.equal t (r x) (r y)).run X.P w = .ok (Nat.beq a.block b.block && Nat.beq a.off b.off) w := by
            rw [hea, heb]
            show (Op.equalIn (9999 + 1) t (.pointer (some a')) (.pointer (some b'))).run X.P w = _
            unfold Op.equalIn
            simp only [Sem.run_bind, run_under ok hu, Result.andThen_ok, run_size ok hs]
            rw [if_pos (by simp)]
            unfold sameAddr
            by_cases hbl : a.block = b.block
            · have hLM : L = M := by rw [hbl, q1] at p1; cases p1; rfl
              subst hLM
              have e1 : (a'.block == b'.block) = true := by simp [p2, q2]
              rw [e1]
              simp only [if_true, Sem.run_pure]
              congr 1
              rw [Tr.beq_true' hbl, Bool.true_and, nbeq, Bool.eq_iff_iff, beq_iff_eq, decide_eq_true_eq]
              obtain ⟨ab, ao, as⟩ := a'
              obtain ⟨bb, bo, bs⟩ := b'
              simp only [Addr.mk.injEq] at *
              constructor
              · rintro ⟨_, h, _⟩; omega
              · intro h; exact ⟨by omega, by omega, by rw [p4, q4, hsa, hsb]⟩
            · have hne : a'.block ≠ b'.block := fun e => hbl (hw.inj a.block _ b.block _ L M hHa hHb p1 q1 (by rw [← p2, ← q2]; exact e))
              have e1 : (a'.block == b'.block) = false := by simp [hne]
              obtain ⟨K, o', hK, hko, hrel⟩ := hw.obj a.block _ hHa
              rw [p1] at hK; cases hK
              obtain ⟨ca, fa, rfl, _, _, _, _, hfa, _⟩ := hrel.cellsInv
              obtain ⟨K2, o2', hK2, hko2, hrel2⟩ := hw.obj b.block _ hHb
              rw [q1] at hK2; cases hK2
              obtain ⟨cb, fb, rfl, _, _, _, _, hfb, _⟩ := hrel2.cellsInv
              have fz : ∀ (c : Array Value) (f : Nat × Nat) (B : Nat) (el : TypeId) (q : Addr), w.heap[B]? = some (.cells c el f) → (∀ i, ¬ (f.1 ≤ i ∧ i < f.2)) → q.block = B → w.frozen? q = false := by
                intro c f B el q hB hf hq
                unfold World.frozen?
                rw [hq, hB]
                obtain ⟨lo, hi⟩ := f
                have := hf q.off
                simp at this ⊢
                omega
              have sh : ∀ (c : Array Value) (f : Nat × Nat) (B : Nat) (el : TypeId), w.heap[B]? = some (.cells c el f) → w.shape? B = some (el, c.size) := by
                intro c f B el hB
                unfold World.shape?
                rw [hB]
              have s1 := sh ca fa _ _ hko
              have s2 := sh cb fb _ _ hko2
              have f1 := fz ca fa _ _ a' hko (fun i => by have := hfa rfl; omega) p2
              have f2 := fz cb fb _ _ b' hko2 (fun i => by have := hfb rfl; omega) q2
              have f3 := fz ca fa _ _ { block := a'.block, off := ca.size } hko (fun i => by have := hfa rfl; omega) p2
              have f4 := fz cb fb _ _ { block := b'.block, off := cb.size } hko2 (fun i => by have := hfb rfl; omega) q2
              rw [← p2] at s1
              rw [← q2] at s2
              have hv : (Nat.beq a.block b.block && Nat.beq a.off b.off) = false := by rw [Tr.beq_false' hbl]; rfl
              rw [hv, e1]
              simp [f1, f2, f3, f4, s1, s2, noView, viewAt, mayBeOne, stringish]
          cases op <;> simp [eqOp] at hop
          · refine ⟨.bool _, gives_v (s := (do eqGuard .eql t x y (r x) (r y); Go.binOp .eql t (r x) (r y))) rfl ?_, .bool _⟩
            rw [hea, heb] at hq ⊢
            rw [binOp_eql rfl]
            simp [hq, eqGuard]
          · refine ⟨.bool _, gives_v (s := (do eqGuard .neq t x y (r x) (r y); Go.binOp .neq t (r x) (r y))) rfl ?_, .bool _⟩
            rw [hea, heb] at hq ⊢
            rw [binOp_neq rfl]
            simp [hq, eqGuard]
      · cases h
    · cases h
  | entry x =>
    simp only [evRead] at h
    split at h
    · rename_i rr sp hx
      obtain ⟨a', L, hea, p1, p2, p3, p4⟩ := (hr x _ hx).unptr
      split at h
      · rename_i m since seen stepped hH
        obtain ⟨K, o', hK, hko, hrel⟩ := hw.obj rr _ hH
        rw [p1] at hK; cases hK
        split at h
        · rename_i es clock stamp hHm hst
          cases hcl : Nat.beq clock stepped with
          | false => rw [hcl, cond_false] at h; cases h
          | true =>
            rw [hcl, cond_true] at h
            have hcs := Nat.eq_of_beq_eq_true hcl
            subst hcs
            split at h
            · rename_i y hf
              cases h
              obtain ⟨M, q', hM, hkm, hrelm⟩ := hw.obj m _ hHm
              obtain ⟨es', rfl, he⟩ := hrelm.mapInv
              cases o' with
              | mapIter mm si se st =>
                simp only [ORel] at hrel
                obtain ⟨hsh, rfl, rfl, rfl, hmm⟩ := hrel
                cases mm with
                | none => exact hmm.elim
                | some bb =>
                  obtain ⟨K, hK, rfl⟩ := hmm
                  rw [hM] at hK; cases hK
                  have hfind : ∀ (l l' : List MapEntry), ERel ρ l l' → ∀ y, l.find? (fun x => Nat.beq x.born stamp) = some y →
                      ∃ y', l'.find? (fun e => e.born == stamp) = some y' ∧ VRel ρ y.key y'.key ∧ VRel ρ y.val y'.val := by
                    intro l
                    induction l with
                    | nil => intro l' _ y hy; simp at hy
                    | cons e l ih =>
                      intro l' hl y hy
                      obtain ⟨e', t, rfl, hb, hk, hv, ht⟩ := hl.uncons
                      rw [List.find?_cons] at hy ⊢
                      have hbb : (e'.born == stamp) = Nat.beq e.born stamp := by rw [hb, nbeq]; rfl
                      rw [hbb]
                      cases hc : Nat.beq e.born stamp with
                      | true => rw [hc] at hy; cases hy; exact ⟨e', rfl, hk, hv⟩
                      | false => rw [hc] at hy; exact ih t ht y hy
                  obtain ⟨y', hf', hk, hv⟩ := hfind es es'.toList he y hf
                  refine ⟨.tuple #[y'.key, y'.val], gives_v (s := Instr.entry (r x)) rfl ?_, .tupA (LRel.arr (.cons hk (.cons hv (.nil ρ))))⟩
                  rw [hea]
                  obtain ⟨ab, ao, as⟩ := a'
                  simp only at p2 p3 p4
                  have h0 : ao = 0 := by omega
                  subst h0 p2
                  have hbk : seen.toArray.back? = some stamp := by rw [← hst]; simp
                  unfold Instr.entry
                  simp only [Sem.run_bind, getObj, Sem.run, hko, hkm, Result.andThen_ok, hbk]
                  have hfa : Array.find? (fun x => x.born == stamp) es' = some y' := by rw [← Array.find?_toList]; exact hf'
                  simp [hfa]
              | _ => simp [ORel] at hrel
            · cases h
        · cases h
      · cases h
    · cases h
  | _ => simp [evRead] at h

end
end Go.Ev

namespace Go.Ev
variable [Gho]

theorem range_zero (f : Nat → Value) : (Array.range 0).map f = #[] := by apply Array.ext'; simp

theorem rep_length (c : Nat) (z : List Value) : (rep c z).length = c * z.length := by
  induction c with
  | zero => simp [rep]
  | succ c ih => simp [rep, ih, Nat.add_mul, Nat.add_comm]

theorem rep_get (c : Nat) (z : List Value) : ∀ i, i < c * z.length → (rep c z)[i]? = z[i % z.length]? := by
  induction c with
  | zero => intro i h; simp at h
  | succ c ih =>
    intro i h
    simp only [rep]
    by_cases hi : i < z.length
    · rw [List.getElem?_append_left hi, Nat.mod_eq_of_lt hi]
    · rw [List.getElem?_append_right (by omega), ih (i - z.length) (by rw [Nat.add_mul] at h; omega)]
      congr 1
      rw [Nat.mod_eq_sub_mod (by omega : i ≥ z.length)]

/-- The zero cells of so many elements, over names and in the model. -/
theorem rep_rel {ρ : Rn} {c s : Nat} {z : List Value} {zv : Array Value} (hz : zv.toList = z) (hzz : LRel ρ z z) (hs : z.length = s) :
    LRel ρ (rep c z) ((Array.range (c * s)).map fun i => zv[i % zv.size]!).toList := by
  have hzs : zv.size = s := by rw [← hs, ← hz]; simp
  subst hs
  refine ⟨by rw [rep_length]; simp, fun i x y hx hy => ?_⟩
  have hi : i < c * z.length := by rw [← rep_length]; exact (List.getElem?_eq_some_iff.1 hx).1
  rw [rep_get c z i hi] at hx
  have hpos : 0 < z.length := by
    rcases Nat.eq_zero_or_pos z.length with e | e
    · rw [e] at hi; simp at hi
    · exact e
  have hm : i % z.length < zv.size := by rw [hzs]; exact Nat.mod_lt _ hpos
  generalize hk : i % z.length = k at hx hm
  have hy' : y = zv[k] := by
    simp [hi, hzs, hk] at hy
    rw [getElem!_pos zv k hm] at hy
    exact hy.symm
  have hzi : z[k]? = some zv[k] := by
    rw [← hz, Array.getElem?_toList]
    exact Array.getElem?_eq_getElem hm
  exact hzz.2 _ _ _ hx (by rw [hy']; exact hzi)

/-- A location of a block whose size is known. -/
def newLoc (w : World) : Loc := ⟨w.heap.size, 0, none, none, none⟩

theorem orel_cells {ρ : Rn} {cs : List Value} {cs' : Array Value} (h : LRel ρ cs cs'.toList) (el : TypeId) (str : Bool) (b : Nat) :
    ORel ρ ⟨b, 0, none, none, none⟩ (.cells cs el none str) (.cells cs' el (0, 0)) := by
  simp only [ORel]
  refine ⟨trivial, rfl, fun i v hv => ?_, fun i _ => by omega, fun _ i _ => by omega, fun _ => trivial, fun _ => by trivial⟩
  obtain ⟨v', hv', hr⟩ := h.get hv
  exact ⟨v', by simpa using hv', hr⟩

section
variable {X : Cx} (ok : X.Ok) {ρ : Rn}
include ok

/-- What is said of an operation that makes a block. -/
def AllocSaid (X : Cx) (ρ : Rn) (H : Heap) (w : World) (o : Oper) (r : Operand → Value) (ob : AObj) (mk : Nat → Value) : Prop :=
  ∀ n, ρ n = none → ∃ L v' w', (execOp r o).run X.P w = .ok (.value v') w' ∧ Goes ρ H w (ρ.add n L) (H.set n ob) w' ∧ VRel (ρ.add n L) (mk n) v'

omit ok in
theorem alloc_cells {H : Heap} {w : World} (hw : WRel ρ H w) {o : Oper} {r : Operand → Value} {s : Sem Value} (hs : execOp r o = (do pure (.value (← s))))
    {cs : List Value} {cs' : Array Value} {el : TypeId} (hc : LRel ρ cs cs'.toList) {mk : Nat → Value} {mk' : Addr → Value}
    (hrun : s.run X.P w = .ok (mk' ⟨w.heap.size, 0, none⟩) { w with heap := w.heap.push (.cells cs' el (0, 0)) })
    (hmk : ∀ n, ρ n = none → VRel (ρ.add n (newLoc w)) (mk n) (mk' ⟨w.heap.size, 0, none⟩)) : AllocSaid X ρ H w o r (.cells cs el none false) mk := by
  intro n hn
  refine ⟨newLoc w, _, _, ?_, Goes.alloc hw hn rfl (orel_cells (hc.mono (Rn.ext_add hn)) el false _), hmk n hn⟩
  rw [hs]
  simp only [Sem.run_bind, hrun, Result.andThen_ok, Sem.run_pure]

omit ok in
theorem ptr_new {w : World} {n : Nat} : VRel (ρ.add n (newLoc w)) (.pointer (some ⟨n, 0, none⟩)) (.pointer (some ⟨w.heap.size, 0, none⟩)) :=
  .ptr (L := newLoc w) (Rn.add_same ..) rfl rfl rfl
omit ok in
theorem slice_new {w : World} {n l c : Nat} : VRel (ρ.add n (newLoc w)) (.slice (some ⟨n, 0, none⟩) l c) (.slice (some ⟨w.heap.size, 0, none⟩) l c) :=
  .slice (L := newLoc w) (Rn.add_same ..) rfl rfl rfl ⟨rfl, rfl⟩

theorem evAlloc_ok {o : Oper} {e : Operand → Option Value} {r : Operand → Value} (hr : OpRel ρ e r) {H : Heap} {w : World} (hw : WRel ρ H w) {ob : AObj} {mk : Nat → Value}
    (h : evAlloc X e o.op = some (ob, mk)) : AllocSaid X ρ H w o r ob mk := by
  obtain ⟨dst, op, ty, pos, after, guard⟩ := o
  simp only at h
  cases op with
  | alloc t =>
    simp only [evAlloc, Option.map_eq_some_iff] at h
    obtain ⟨z, hz, he⟩ := h
    cases he
    obtain ⟨zv, hzr, hzc, hzz⟩ := zero_ok (ρ := ρ) ok hz w
    refine alloc_cells hw (s := Instr.alloc t true (.tuple #[])) rfl (cs' := zv.cells) (by rw [hzc]; exact hzz) (mk' := fun a => .pointer (some a)) ?_ (fun n hn => ptr_new)
    unfold Instr.alloc newVar newRow
    simp [hzr]
  | box t x =>
    simp only [evAlloc, Option.map_eq_some_iff] at h
    obtain ⟨v, hv, he⟩ := h
    cases he
    refine alloc_cells hw (s := Instr.box t (r x)) rfl (cs' := (r x).cells) (hr x v hv).cells (mk' := fun a => .pointer (some a)) ?_ (fun n hn => ptr_new)
    unfold Instr.box newVar newRow
    simp
  | buildSlice t len parts =>
    simp only [evAlloc] at h
    split at h
    · rename_i el ps hu hps
      split at h
      · rename_i s hs
        cases hb : Nat.ble (len * s) 16777216 with
        | false => rw [hb, cond_false] at h; cases h
        | true =>
          rw [hb, cond_true] at h
          have hle := Nat.le_of_ble_eq_true hb
          split at h
          · rename_i z hz
            cases hc : (Nat.beq (len * s) 0 || Nat.beq z.length s) with
            | false => rw [hc, cond_false] at h; cases h
            | true =>
              rw [hc, cond_true] at h
              simp only [Option.map_eq_some_iff] at h
              obtain ⟨l, hl, he⟩ := h
              cases he
              have hpp := evParts_ok hr parts.toList ps hps
              have hn1 : ¬ len * s > 2 ^ 24 := by omega
              by_cases e0 : len * s = 0
              · rw [Tr.beq_true' e0, cond_true] at hl
                obtain ⟨a, ha, hra⟩ := fillB_ok (cs' := #[]) hpp hl (.nil ρ)
                refine alloc_cells hw (s := Instr.buildSlice t len (parts.map fun (i, x) => (i, r x))) rfl (cs' := a) hra (mk' := fun q => .slice (some q) len len) ?_ (fun n hn => slice_new)
                unfold Instr.buildSlice newRow
                simp only [Sem.run_bind, run_under ok hu, run_size ok hs, Result.andThen_ok, if_neg hn1, Sem.run_ite, if_pos e0, Sem.run_pure]
                have ha' : Instr.fill (fun i => some (i * s, s)) ((Array.range (len * s)).map fun i => (#[] : Array Value)[i % (#[] : Array Value).size]!) (parts.map fun (i, x) => (i, r x)).toList = some a := by
                  rw [e0, range_zero]; simpa using ha
                simp only [ha', run_newObj, Result.andThen_ok, Sem.run_pure, Sem.run_bind]
              · rw [Tr.beq_false' e0, cond_false] at hl hz
                rw [Tr.beq_false' e0, Bool.false_or] at hc
                have hzs := Nat.eq_of_beq_eq_true hc
                obtain ⟨zv, hzr, hzc, hzz⟩ := zero_ok (ρ := ρ) ok hz w
                obtain ⟨a, ha, hra⟩ := fillB_ok hpp hl (rep_rel hzc hzz hzs)
                refine alloc_cells hw (s := Instr.buildSlice t len (parts.map fun (i, x) => (i, r x))) rfl (cs' := a) hra (mk' := fun q => .slice (some q) len len) ?_ (fun n hn => slice_new)
                unfold Instr.buildSlice newRow
                simp only [Sem.run_bind, run_under ok hu, run_size ok hs, Result.andThen_ok, if_neg hn1, Sem.run_ite, if_neg e0, hzr, Sem.run_pure]
                have ha' : Instr.fill (fun i => some (i * s, s)) ((Array.range (len * s)).map fun i => zv.cells[i % zv.cells.size]!) (parts.map fun (i, x) => (i, r x)).toList = some a := by
                  simpa using ha
                simp only [ha', run_newObj, Result.andThen_ok, Sem.run_pure, Sem.run_bind]
          · cases h
      · cases h
    · cases h
  | makeSlice t l c =>
    simp only [evAlloc] at h
    split at h
    · rename_i el k1 ln k2 cp hu hl hc
      split at h
      · rename_i s b hs hb
        cases hcond : (Nat.ble ln cp && Nat.ble cp 1125899906842624 && Nat.ble (b * cp) 281474976710656) with
        | false => rw [hcond, cond_false] at h; cases h
        | true =>
          rw [hcond, cond_true] at h
          simp only [Bool.and_eq_true] at hcond
          have q1 := Nat.le_of_ble_eq_true hcond.1.1
          have q2 := Nat.le_of_ble_eq_true hcond.1.2
          have q3 := Nat.le_of_ble_eq_true hcond.2
          split at h
          · rename_i z hz
            cases hcz : (Nat.beq (cp * s) 0 || Nat.beq z.length s) with
            | false => rw [hcz, cond_false] at h; cases h
            | true =>
              rw [hcz, cond_true] at h
              cases h
              have hl' := (hr l _ hl).unint
              have hc' := (hr c _ hc).unint
              have hbi : ∃ i, X.ty.get el = some i ∧ i.bytes = b := by
                unfold Cx.bytes at hb
                simp only [Option.map_eq_some_iff] at hb
                exact hb
              obtain ⟨i, hi, hib⟩ := hbi
              have wr : ∀ n : Nat, n ≤ 1125899906842624 → IntKind.i64.wrap (Int.ofNat n) = (n : Int) := by
                intro n hn
                rw [← wrapF_eq]
                unfold wrapF toM
                have hm : n % modK .i64 = n := Nat.mod_eq_of_lt (by simp only [modK]; omega)
                have hlt : Nat.blt n (halfK .i64) = true := by rw [Nat.blt_eq]; simp only [halfK]; omega
                simp only [hm, hlt, cond_true]; rfl
              have w1 := wr ln (by omega)
              have w2 := wr cp q2
              have tl : (decide ((cp : Int) < 0) || decide ((i.bytes : Int) * (cp : Int) > 2 ^ 48)) = false := by
                rw [hib]
                have : ((b : Int) * (cp : Int)) = ((b * cp : Nat) : Int) := by simp
                rw [this]
                simp
                omega
              have fin : ∀ (zz : Array Value), ((if cp * s = 0 then pure #[] else do pure (← zeroValue el).cells : Sem (Array Value))).run X.P w = .ok zz w →
                  LRel ρ (bif Nat.beq (cp * s) 0 then [] else rep cp z) ((Array.range (cp * s)).map fun i => zz[i % zz.size]!).toList →
                  AllocSaid X ρ H w ⟨dst, .makeSlice t l c, ty, pos, after, guard⟩ r (.cells (bif Nat.beq (cp * s) 0 then [] else rep cp z) el none false) (fun n => .slice (some ⟨n, 0, none⟩) ln cp) := by
                intro zz hzr hzl
                refine alloc_cells hw (s := Instr.makeSlice t (r l) (r c)) rfl (cs' := (Array.range (cp * s)).map fun i => zz[i % zz.size]!) hzl (mk' := fun q => .slice (some q) ln cp) ?_ (fun n hn => slice_new)
                rw [hl', hc']
                unfold Instr.makeSlice newRow
                simp only [Sem.run_bind, run_under ok hu, Result.andThen_ok, asInt, asIntOf, Sem.run_pure, run_info ok hi, w1, w2, tl]
                have c1 : (false || decide ((ln : Int) < 0) || decide ((ln : Int) > (cp : Int))) = false := by
                  simp; omega
                rw [c1]
                simp only [Bool.false_eq_true, if_false, Sem.run_bind, run_askRoom, Result.andThen_ok, run_size ok hs, Int.toNat_natCast]
                by_cases e0 : cp * s = 0
                · rw [if_pos e0] at hzr ⊢
                  simp only [Sem.run_pure] at hzr
                  cases hzr
                  simp only [pure_bind, Sem.run_bind, run_newObj, Result.andThen_ok, Sem.run_pure]
                · rw [if_neg e0] at hzr ⊢
                  simp only [Sem.run_bind, Sem.run_pure] at hzr ⊢
                  cases hz0 : (zeroValue el).run X.P w with
                  | halt hh w' => rw [hz0] at hzr; cases hzr
                  | ok q w' =>
                    rw [hz0] at hzr
                    simp only [Result.andThen_ok] at hzr
                    cases hzr
                    simp only [Result.andThen_ok, run_newObj]
              by_cases e0 : cp * s = 0
              · refine fin #[] (by simp [e0]) ?_
                rw [Tr.beq_true' e0, cond_true, e0, range_zero]; exact .nil ρ
              · rw [Tr.beq_false' e0, cond_false] at hz
                rw [Tr.beq_false' e0, Bool.false_or] at hcz
                have hzs := Nat.eq_of_beq_eq_true hcz
                obtain ⟨zv, hzr, hzc, hzz⟩ := zero_ok (ρ := ρ) ok hz w
                refine fin zv.cells (by rw [if_neg e0]; simp [hzr]) ?_
                rw [Tr.beq_false' e0, cond_false]
                exact rep_rel hzc hzz hzs
          · cases h
      · cases h
    · cases h
  | makeMap t rs =>
    have fin : ∀ (s : Sem Value), execOp r ⟨dst, .makeMap t rs, ty, pos, after, guard⟩ = (do pure (.value (← s))) → s.run X.P w = .ok (.map (some w.heap.size)) { w with heap := w.heap.push (.map #[] 0) } →
        AllocSaid X ρ H w ⟨dst, .makeMap t rs, ty, pos, after, guard⟩ r (.map [] 0) (fun n => .map (some n)) := by
      intro s hs hrun n hn
      refine ⟨newLoc w, _, _, ?_, Goes.alloc hw hn (o' := .map #[] 0) rfl ?_, .map (L := newLoc w) (Rn.add_same ..)⟩
      · rw [hs]; simp only [Sem.run_bind, hrun, Result.andThen_ok, Sem.run_pure, newLoc]
      · simp only [ORel]
        exact ⟨trivial, rfl, fun i e e' h => by simp at h⟩
    simp only [evAlloc] at h
    split at h
    · cases h
      exact fin (Instr.makeMap t none) rfl (by unfold Instr.makeMap; simp)
    · rename_i x
      split at h
      · rename_i k el kk n hu hx
        cases h
        have hx' := (hr x _ hx).unint
        exact fin (Instr.makeMap t (some (r x))) rfl (by unfold Instr.makeMap; rw [hx']; simp [run_under ok hu, asInt, asIntOf])
      · cases h
  | convert s d x =>
    simp only [evAlloc] at h
    split at h
    · rename_i el st hs hd hx
      split at h
      · rename_i hel
        cases h
        have hx' := (hr x _ hx).unstr
        intro n hn
        have hq : ∃ cap w1, (choose (.appendCap st.size 0 el)).run X.P w = .ok cap w1 ∧ st.size ≤ cap ∧ w1 = { w with drawn := w1.drawn } := by
          rw [run_choose]
          by_cases hf : (Question.appendCap st.size 0 el).forced = true
          · simp [Question.forced] at hf
          · rw [if_neg hf]
            exact ⟨_, _, rfl, by simp [Question.cut], rfl⟩
        obtain ⟨cap, w1, hc, hcap, hw1⟩ := hq
        have hh : w1.heap = w.heap := by rw [hw1]
        have rel1 : WRel ρ H w1 := by rw [hw1]; exact hw.draw _
        have g1 : Goes ρ H w ρ H w1 := by rw [hw1]; exact Goes.draw hw _
        let cells' : Array Value := (st.data.map fun b => .int .u8 b.toNat) ++ Array.replicate (cap - st.size) (.int .u8 0)
        have hsz : cells'.size = cap := by
          simp only [cells', Array.size_append, Array.size_map, Array.size_replicate]
          have : st.data.size = st.size := rfl
          omega
        let L : Loc := ⟨w1.heap.size, 0, some (1, cap), none, none⟩
        have hg := Goes.alloc rel1 (n := n) (L := L) (o := .cells (u8s st) el (some 1) true) (o' := .cells cells' el (cap, cap + 1)) hn rfl (by
          simp only [ORel]
          refine ⟨trivial, by simp [L, hsz], fun i v hv => ?_, fun i hi => ?_, fun _ i hi => by rw [hsz] at hi; simp; omega, (fun h => by cases h), (fun h => by cases h)⟩
          · have hlt : i < st.data.size := by
              have := (List.getElem?_eq_some_iff.1 hv).1
              simpa [u8s] using this
            refine ⟨v, ?_, ?_⟩
            · simp only [L, Nat.add_zero, cells']
              rw [Array.getElem?_append_left (by simpa using hlt)]
              simp only [u8s, List.getElem?_map, Array.getElem?_toList] at hv
              simpa using hv
            · simp only [u8s, List.getElem?_map, Option.map_eq_some_iff] at hv
              obtain ⟨b, _, rfl⟩ := hv
              exact .int _ _
          · have h1 : (u8s st).length = st.size := by simp [u8s]
            simp only [L, hsz] at hi ⊢
            omega)
        refine ⟨L, .slice (some ⟨w1.heap.size, 0, none⟩) st.size cap, { w1 with heap := w1.heap.push (.cells cells' el (cap, cap + 1)) }, ?_, g1.trans hg, ?_⟩
        · show (do pure (Next.value (← Go.convert s d (r x)))).run X.P w = _
          rw [hx']
          unfold Go.convert
          simp only [Sem.run_bind, run_under ok hs, run_under ok hd, Result.andThen_ok, run_under ok hel]
          unfold Conv.stringToBytes newRow markStringish
          simp only [Sem.run_bind, hc, Result.andThen_ok, run_newObj, Sem.run_pure, run_shape]
          have hshape : World.shape? { w1 with heap := w1.heap.push (.cells cells' el (0, 0)) } w1.heap.size = some (el, cap) := by
            unfold World.shape?
            simp [hsz]
          have e1 : (Array.map (fun b => Value.int IntKind.u8 ↑(UInt8.toNat b)) st.data ++ Array.replicate (cap - st.size) (Value.int IntKind.u8 0)) = cells' := rfl
          rw [e1, hshape]
          simp only [run_freeze, Result.andThen_ok, Sem.run_pure]
          congr 1
          unfold World.freeze
          simp only [Nat.one_ne_zero, if_false]
          congr 1
          apply Array.ext
          · simp
          · intro i h1 h2
            simp only [Array.size_modify, Array.size_push] at h1
            rw [Array.getElem_modify]
            by_cases e : w1.heap.size = i
            · subst e; simp
            · have hlt : i < w1.heap.size := by omega
              simp [e, Array.getElem_push, hlt]
        · have hlen : st.data.toList.length = st.size := (size_data st).symm
          rw [hlen]
          refine .slice (L := L) (Rn.add_same ..) rfl rfl rfl ?_
          simp only [SlRel, L]
          exact ⟨hcap, by omega, fun _ => by simp⟩
      · cases h
    · cases h
  | _ => simp [evAlloc] at h

end
end Go.Ev

namespace Go.Ev
variable [Gho]

theorem one_rel {ρ : Rn} {v v' : Value} (h : VRel ρ v v') (ho : one v = true) : v'.oneCell' = true := by
  cases h with
  | sym h hs hn => cases v' <;> first | rfl | exact absurd rfl (hn _).1 | exact absurd rfl (hn _).2
  | agg _ _ => simp [one] at ho
  | tuple _ _ => simp [one] at ho
  | _ => rfl

theorem setCell_heap {w : World} {a : Addr} {v : Value} {cs : Array Value} {el : TypeId} {fz : Nat × Nat} (hs : a.spot = none) (hb : w.heap[a.block]? = some (.cells cs el fz)) :
    w.setCell a v = { w with heap := w.heap.setIfInBounds a.block (.cells (cs.setIfInBounds a.off v) el fz) } := by
  unfold World.setCell
  congr 1
  apply Array.ext_getElem?
  intro i
  rw [Array.getElem?_modify]
  by_cases e : a.block = i
  · subst e
    have hlt := (Array.getElem?_eq_some_iff.1 hb).1
    rw [if_pos rfl, hb, Array.getElem?_setIfInBounds_self_of_lt hlt]
    simp [hs]
  · rw [if_neg e, Array.getElem?_setIfInBounds_ne e]

theorem set_same {α : Type} {a : Array α} {i : Nat} {x : α} (h : a[i]? = some x) : a.setIfInBounds i x = a := by
  apply Array.ext_getElem?
  intro j
  by_cases e : i = j
  · subst e
    rw [Array.getElem?_setIfInBounds_self_of_lt (Array.getElem?_eq_some_iff.1 h).1, h]
  · rw [Array.getElem?_setIfInBounds_ne e]

theorem storeCells_ok (P : Program) (el : TypeId) (fz : Nat × Nat) (a : Addr) (hs : a.spot = none) : ∀ (vs : List Value) (k : Nat) (cs : Array Value) (w : World),
    w.heap[a.block]? = some (.cells cs el fz) → a.off + k + vs.length ≤ cs.size → (∀ i, a.off + k ≤ i → i < a.off + k + vs.length → ¬ (fz.1 ≤ i ∧ i < fz.2)) → (∀ v ∈ vs, v.oneCell' = true) →
    ∃ cs' : Array Value, cs'.toList = spl cs.toList (a.off + k) vs ∧ (storeCells a vs k).run P w = .ok () { w with heap := w.heap.setIfInBounds a.block (.cells cs' el fz) }
  | [], k, cs, w, hb, hl, hf, hv => by
    simp only [List.length_nil, Nat.add_zero] at hl
    refine ⟨cs, by simp [spl], ?_⟩
    unfold storeCells
    simp only [Sem.run_pure]
    rw [set_same hb]
  | v :: vs, k, cs, w, hb, hl, hf, hv => by
    simp only [List.length_cons] at hl hf
    unfold storeCells
    have hab : (a.add k).block = a.block := add_block a k
    have hao : (a.add k).off = a.off + k := add_off a k
    have has : (a.add k).spot = none := add_spot hs k
    have hlt : a.off + k < cs.size := by omega
    have hc : w.cell? (a.add k) = some cs[a.off + k] := by
      unfold World.cell?
      rw [hab, hb]
      simp [has, hao, hlt]
    have hfr : w.frozen? (a.add k) = false := by
      unfold World.frozen?
      rw [hab, hb]
      have := hf (a.off + k) (by omega) (by omega)
      obtain ⟨lo, hi⟩ := fz
      simp [hao] at this ⊢
      omega
    have hst : (store (a.add k) v).run P w = .ok () { w with heap := w.heap.setIfInBounds a.block (.cells (cs.setIfInBounds (a.off + k) v) el fz) } := by
      rw [run_store P w _ v _ (hv v (by simp)), hc]
      simp only [hfr, Bool.false_eq_true, if_false]
      rw [setCell_heap has (by rw [hab]; exact hb), hab, hao]
    obtain ⟨hlb, _⟩ := Array.getElem?_eq_some_iff.1 hb
    obtain ⟨cs', h1, h2⟩ := storeCells_ok P el fz a hs vs (k + 1) (cs.setIfInBounds (a.off + k) v) { w with heap := w.heap.setIfInBounds a.block (.cells (cs.setIfInBounds (a.off + k) v) el fz) }
      (by simp [hlb]) (by simp; omega) (fun i h3 h4 => hf i (by omega) (by omega)) (fun u hu => hv u (by simp [hu]))
    refine ⟨cs', ?_, ?_⟩
    · rw [h1]
      have hlt' : a.off + k < cs.toList.length := by simpa using hlt
      simp only [spl, Array.toList_setIfInBounds, List.length_cons]
      have e1 : (cs.toList.set (a.off + k) v).take (a.off + (k + 1)) = cs.toList.take (a.off + k) ++ [v] := by
        rw [show a.off + (k + 1) = a.off + k + 1 by omega, List.take_set, List.take_succ_eq_append_getElem hlt', List.set_append_right _ _ (by simp; omega)]
        have e0 : a.off + k - min (a.off + k) cs.size = 0 := by omega
        simp [e0]
      have e2 : (cs.toList.set (a.off + k) v).drop (a.off + (k + 1) + vs.length) = cs.toList.drop (a.off + k + (vs.length + 1)) := by
        rw [List.drop_set_of_lt (by omega)]
        congr 1; omega
      rw [e1, e2]; simp
    · simp only [Sem.run_bind, hst, Result.andThen_ok, h2]
      congr 2
      apply Array.ext_getElem?
      intro j
      by_cases e : a.block = j
      · subst e
        rw [Array.getElem?_setIfInBounds_self_of_lt (by simpa using hlb), Array.getElem?_setIfInBounds_self_of_lt hlb]
      · rw [Array.getElem?_setIfInBounds_ne e, Array.getElem?_setIfInBounds_ne e, Array.getElem?_setIfInBounds_ne e]

theorem spl_get {cs vs : List Value} {off : Nat} (h : off + vs.length ≤ cs.length) (i : Nat) : (spl cs off vs)[i]? = if off ≤ i ∧ i < off + vs.length then vs[i - off]? else cs[i]? := by
  unfold spl
  by_cases h1 : i < off
  · rw [if_neg (by omega), List.append_assoc, List.getElem?_append_left (by simp; omega), List.getElem?_take_of_lt h1]
  · by_cases h2 : i < off + vs.length
    · rw [if_pos ⟨by omega, h2⟩, List.append_assoc, List.getElem?_append_right (by simp; omega), List.getElem?_append_left (by simp; omega)]
      congr 1
      simp; omega
    · rw [if_neg (by omega), List.getElem?_append_right (by simp; omega), List.getElem?_drop]
      congr 1
      simp; omega

/-- Storing cells of a name. -/
theorem storeA_ok {X : Cx} {ρ : Rn} {H H' : Heap} {w : World} (hw : WRel ρ H w) {a a' : Addr} {vs vs' : List Value} (h : storeA H a vs = some H') (hv : LRel ρ vs vs')
    {L : Loc} (hL : ρ a.block = some L) (hb : a'.block = L.block) (ho : a'.off = a.off + L.shift) (hs : a'.spot = a.spot) :
    ∃ w', (storeCells a' vs').run X.P w = .ok () w' ∧ Goes ρ H w ρ H' w' := by
  unfold storeA at h
  split at h
  · rename_i cs el opn str hsp hH
    cases hc : (Nat.ble (a.off + vs.length) cs.length && vs.all one) with
    | false => rw [hc, cond_false] at h; cases h
    | true =>
      rw [hc, cond_true] at h; cases h
      rw [Bool.and_eq_true] at hc
      have hle := Nat.le_of_ble_eq_true hc.1
      obtain ⟨K, o', hK, hk, hrel⟩ := hw.obj a.block _ hH
      rw [hL] at hK; cases hK
      obtain ⟨cs', fz, rfl, hopn, hcell, hfr, hfo, hst⟩ := hrel.cellsInv
      have hsp' : a'.spot = none := hs.trans hsp
      have hlen : vs'.length = vs.length := hv.1.symm
      have hsz : ∀ i, i < cs.length → i + L.shift < cs'.size := by
        intro i hi
        obtain ⟨v', hv', _⟩ := hcell i _ (List.getElem?_eq_getElem hi)
        exact (Array.getElem?_eq_some_iff.1 hv').1
      by_cases hz : vs.length = 0
      · have hvs : vs = [] := List.eq_nil_of_length_eq_zero hz
        have hvs' : vs' = [] := List.eq_nil_of_length_eq_zero (by omega)
        subst hvs hvs'
        refine ⟨w, by simp [storeCells], ?_⟩
        have : spl cs a.off [] = cs := by simp [spl]
        rw [this]
        exact Goes.update hw hH hL (by rw [set_same hk]) rfl rfl hrel
      · have hlast := hsz (a.off + vs.length - 1) (by omega)
        obtain ⟨ds, hds, hrun⟩ := storeCells_ok X.P el fz a' hsp' vs' 0 cs' w (by rw [hb]; exact hk) (by omega)
          (fun i h1 h2 => by
            have := hfr (i - L.shift) (by omega)
            have e : i - L.shift + L.shift = i := by omega
            rw [e] at this; exact this)
          (fun v hv' => by
            obtain ⟨i, hi, rfl⟩ := List.mem_iff_getElem.1 hv'
            have hi' : i < vs.length := by omega
            exact one_rel (hv.2 i vs[i] vs'[i] (List.getElem?_eq_getElem hi') (List.getElem?_eq_getElem hi)) (List.all_eq_true.1 hc.2 _ (by simp)))
        refine ⟨_, hrun, Goes.update hw hH hL (by rw [hb]) rfl rfl ?_⟩
        simp only [ORel]
        have hdsz : ds.size = cs'.size := by
          have h1 := congrArg List.length hds
          rw [spl_length (by simp; omega)] at h1
          simpa using h1
        refine ⟨trivial, by rw [hopn, hdsz], fun i v hi => ?_, ?_, by rw [hdsz]; exact hfo, hst⟩
        · rw [spl_get (by omega)] at hi
          have hd : ds[i + L.shift]? = (spl cs'.toList (a'.off + 0) vs')[i + L.shift]? := by rw [← hds]; simp
          rw [hd, spl_get (by simp; omega)]
          by_cases hin : a.off ≤ i ∧ i < a.off + vs.length
          · rw [if_pos hin] at hi
            rw [if_pos (by omega)]
            obtain ⟨v', hv', hr⟩ := hv.get hi
            refine ⟨v', ?_, hr⟩
            rw [← hv']; congr 1; omega
          · rw [if_neg hin] at hi
            rw [if_neg (by omega)]
            obtain ⟨v', hv', hr⟩ := hcell i v hi
            exact ⟨v', by simpa using hv', hr⟩
        · intro i hi
          rw [spl_length hle] at hi
          exact hfr i hi
  · cases h

end Go.Ev

namespace Go.Ev
variable [Gho]

theorem growBy_le (need : Nat) : ∀ (k c : Nat), c ≤ need * 2 + 192 → Builtin.growBy need k c ≤ need * 2 + 192
  | 0, c, h => by simpa [Builtin.growBy] using h
  | k + 1, c, h => by
    unfold Builtin.growBy
    by_cases e : c ≥ need
    · rw [if_pos e]; exact h
    · rw [if_neg e]; exact growBy_le need k _ (by omega)
theorem nextcap_le {need cap : Nat} (h : cap < need) : Builtin.nextslicecap need cap ≤ need * 2 + 192 := by
  unfold Builtin.nextslicecap
  split
  · omega
  · split
    · omega
    · exact growBy_le need 4 cap (by omega)

/-- What is said of an operation that writes: its value (or none), the worlds, the names. -/
def WriteSaid (X : Cx) (ρ : Rn) (H : Heap) (w : World) (o : Oper) (r : Operand → Value) (n : Nat) (v : Value) (H' : Heap) : Prop :=
  ∃ ρ' nx v' w', (execOp r o).run X.P w = .ok nx w' ∧ (nx = .value v' ∨ (nx = .skip ∧ v' = undef)) ∧ VRel ρ' v v' ∧ Goes ρ H w ρ' H' w' ∧ (∀ m, m ≠ n → ρ' m = ρ m)

section
variable {X : Cx} {ρ : Rn}

theorem firstA_all {H : Heap} {w : World} (hw : WRel ρ H w) {size n k : Nat} {x x' : Value} {l : List Value} (h : firstA H size n x = some l) (hk : lenA x = some k) (hn : n ≤ k) (hx : VRel ρ x x') :
    ∃ l' : List Value, (∀ w2 : World, w2.heap = w.heap → (Builtin.firstCells size n x').run X.P w2 = .ok l'.toArray w2) ∧ LRel ρ l l' := by
  unfold firstA at h
  split at h
  · rename_i a ln cp
    simp only [lenA] at hk; cases hk
    cases hx with
    | @slice _ a' _ _ cap' L h1 h2 h3 h3' h4 =>
    by_cases hz : n * size = 0
    · have hl : l = [] := by
        unfold cellsAt at h
        split at h
        · obtain ⟨_, rfl⟩ := cut_ok h; simp [hz]
        · cases h
      subst hl
      refine ⟨[], fun w2 _ => ?_, .nil ρ⟩
      unfold Builtin.firstCells
      rw [hz]; simp [loadCells, loadCellsFrom]
    · have ho : a'.off = a.off + L.shift := by
        have hn0 : 0 < n := by
          rcases Nat.eq_zero_or_pos n with e | e
          · rw [e, Nat.zero_mul] at hz; exact absurd rfl hz
          · exact e
        unfold SlRel at h4
        split at h4
        · exact h4.1
        · exact h4.2.2 (by omega)
      obtain ⟨l', p, q, hlen⟩ := cellsAt_all (X := X) hw h h1 h2 ho (h3'.trans h3.symm)
      exact ⟨l', fun w2 hw2 => by unfold Builtin.firstCells; exact p w2 hw2, q⟩
  · rename_i ln cp
    cases h
    cases hx
    exact ⟨[], fun w2 _ => by simp [Builtin.firstCells], .nil ρ⟩
  · rename_i s
    cases h
    have := hx.unstr; subst this
    refine ⟨(s.data.toList.take n).map fun b => .int .u8 b.toNat, fun w2 _ => ?_, rfl, fun i x y hx hy => ?_⟩
    · unfold Builtin.firstCells
      simp only [Sem.run_pure]
      congr 1
      apply Array.ext'
      simp
    · rw [hx] at hy; cases hy
      simp only [List.getElem?_map, Option.map_eq_some_iff] at hx
      obtain ⟨b, _, rfl⟩ := hx
      exact .int _ _
  · cases h

theorem firstA_run {H : Heap} {w : World} (hw : WRel ρ H w) {size n k : Nat} {x x' : Value} {l : List Value} (h : firstA H size n x = some l) (hk : lenA x = some k) (hn : n ≤ k) (hx : VRel ρ x x') :
    ∃ l' : List Value, (Builtin.firstCells size n x').run X.P w = .ok l'.toArray w ∧ LRel ρ l l' := by
  obtain ⟨l', h1, h2⟩ := firstA_all (X := X) hw h hk hn hx
  exact ⟨l', h1 w rfl, h2⟩

theorem storeA_nil {H H' : Heap} {w : World} (hw : WRel ρ H w) {a : Addr} (h : storeA H a [] = some H') : Goes ρ H w ρ H' w := by
  unfold storeA at h
  split at h
  · rename_i cs el opn str hsp hH
    cases hc : (Nat.ble (a.off + ([] : List Value).length) cs.length && ([] : List Value).all one) with
    | false => rw [hc, cond_false] at h; cases h
    | true =>
      rw [hc, cond_true] at h; cases h
      obtain ⟨K, o', hK, hk, hrel⟩ := hw.obj a.block _ hH
      have : spl cs a.off [] = cs := by simp [spl]
      rw [this]
      exact Goes.update hw hH hK (by rw [set_same hk]) rfl rfl hrel
  · cases h

theorem lenOf_ok {x x' : Value} {k : Nat} (h : lenA x = some k) (hx : VRel ρ x x') (w : World) : (Builtin.lenOf x').run X.P w = .ok k w := by
  unfold lenA at h
  split at h
  · cases h; cases hx <;> simp [Builtin.lenOf]
  · cases h; have := hx.unstr; subst this; simp [Builtin.lenOf]
  · cases h

/-- append where it fits. -/
theorem append_fits (ok : X.Ok) {w : World} {argTypes : Array TypeId} {ty t u el : TypeId} {du : TypeDesc} {size k len cap : Nat} {base : Option Addr} {x' : Value} {new : Array Value} {w' : World}
    (h0 : argTypes[0]? = some t) (h1 : argTypes[1]? = some u) (hu : X.under t = some (.slice el)) (hdu : X.under u = some du) (hni : isIntD du = false)
    (hs : X.size el = some size) (hlen : (Builtin.lenOf x').run X.P w = .ok k w) (hfit : len + k ≤ cap) (hnew : (Builtin.firstCells size k x').run X.P w = .ok new w)
    (hst : match base with | some a => (storeCells (a.add (len * size)) new.toList).run X.P w = .ok () w' | none => w' = w) :
    (Builtin.append_ argTypes ty #[.slice base len cap, x']).run X.P w = .ok (.slice base (len + k) cap) w' := by
  unfold Builtin.append_
  simp only [h0, h1]
  simp only [List.getElem?_toArray, List.getElem?_cons_zero, List.getElem?_cons_succ, Sem.run_bind, run_under ok hu, run_under ok hdu, run_size ok hs, Result.andThen_ok, Sem.run_pure]
  cases du <;> first | (simp [isIntD] at hni; done) | skip
  all_goals simp only [Bool.false_eq_true, if_false, Sem.run_bind, hlen, Result.andThen_ok, if_pos hfit, Bool.not_false, if_true, hnew]
  all_goals
    cases base with
    | none => subst hst; simp
    | some a => simp only at hst; simp [hst]

/-- append where it grows. -/
theorem append_grows (ok : X.Ok) {w w1 : World} {argTypes : Array TypeId} {ty t u el : TypeId} {du : TypeDesc} {i : TypeInfo} {zv : Value} {size k len cap newCap : Nat} {base : Option Addr} {x' : Value} {old new : Array Value}
    (h0 : argTypes[0]? = some t) (h1 : argTypes[1]? = some u) (hu : X.under t = some (.slice el)) (hdu : X.under u = some du) (hni : isIntD du = false)
    (hs : X.size el = some size) (hi : X.ty.get el = some i) (hz : ∀ w, (zeroValue el).run X.P w = .ok zv w) (hlen : (Builtin.lenOf x').run X.P w = .ok k w) (hgr : cap < len + k)
    (hb1 : (len + k) * 2 + 192 ≤ 1048576) (hb2 : i.bytes ≤ 1048576)
    (hq : (choose (.appendCap (len + k) cap el)).run X.P w = .ok newCap w1)
    (hold : (Builtin.firstCells size len (.slice base len cap)).run X.P w1 = .ok old w1) (hnew : (Builtin.firstCells size k x').run X.P w1 = .ok new w1) :
    (Builtin.append_ argTypes ty #[.slice base len cap, x']).run X.P w =
      .ok (.slice (some ⟨w1.heap.size, 0, none⟩) (len + k) newCap) { w1 with heap := w1.heap.push (.cells (old ++ new ++ Builtin.zeroCells zv.cells (newCap - (len + k))) el (0, 0)) } := by
  have hn1 : ¬ (((len + k : Nat) : Int) > IntKind.i64.max ∧ (false = true ∨ i.bytes = 0)) := by
    have : IntKind.i64.max = (maxStr : Int) := by decide
    rw [this]
    intro h
    have h1 := h.1
    have h2 : maxStr = 9223372036854775807 := rfl
    omega
  have hn2 : ¬ (Builtin.nextslicecap (len + k) cap * i.bytes > 2 ^ 48) := by
    have h1 := nextcap_le hgr
    have h2 : Builtin.nextslicecap (len + k) cap * i.bytes ≤ 1048576 * 1048576 := Nat.mul_le_mul (by omega) hb2
    omega
  unfold Builtin.append_ newRow
  simp only [h0, h1]
  simp only [List.getElem?_toArray, List.getElem?_cons_zero, List.getElem?_cons_succ, Sem.run_bind, run_under ok hu, run_under ok hdu, run_size ok hs, Result.andThen_ok, Sem.run_pure]
  cases du <;> first | (simp [isIntD] at hni; done) | skip
  all_goals simp only [Bool.false_eq_true, if_false, Sem.run_bind, hlen, Result.andThen_ok, if_neg (Nat.not_le.2 hgr), run_info ok hi]
  all_goals
    rw [if_neg (by simpa using hn1)]
    simp only [Sem.run_bind, run_info ok hi, Result.andThen_ok, if_neg hn2, hq, run_askRoom, hold, Bool.not_false, if_true, hnew, hz, run_newObj, Sem.run_pure]

end
end Go.Ev

namespace Go.Ev
variable [Gho]

section
variable {X : Cx} {ρ : Rn}

theorem appendCap_run {P : Program} {w : World} (need cap : Nat) (el : TypeId) : ∃ newCap w1, (choose (.appendCap need cap el)).run P w = .ok newCap w1 ∧ need ≤ newCap ∧ w1 = { w with drawn := w1.drawn } := by
  rw [run_choose]
  by_cases hf : (Question.appendCap need cap el).forced = true
  · simp [Question.forced] at hf
  · rw [if_neg hf]
    exact ⟨_, _, rfl, by simp [Question.cut], rfl⟩

theorem zeroCells_size (z : Array Value) (n : Nat) : (Builtin.zeroCells z n).size = n * z.size := by simp [Builtin.zeroCells]

theorem lrel_lists {a b : List Value} {c d : List Value} (h : LRel ρ a b) (k : LRel ρ c d) : LRel ρ (a ++ c) (b ++ d) := h.append k

theorem appendA_ok (ok : X.Ok) {H H' : Heap} {w : World} (hw : WRel ρ H w) {argTypes : Array TypeId} {ty t u el : TypeId} {du : TypeDesc} {size bytes : Nat} {z : List Value} {s x s' x' v : Value} {n : Nat}
    (h0 : argTypes[0]? = some t) (h1 : argTypes[1]? = some u) (hu : X.under t = some (.slice el)) (hdu : X.under u = some du) (hni : isIntD du = false)
    (hs : X.size el = some size) (hby : X.bytes el = some bytes) (hz : X.zero el = some z) (hn : ρ n = none) (hsr : VRel ρ s s') (hxr : VRel ρ x x')
    (h : appendA el size bytes z s x n H = some (v, H')) :
    ∃ ρ' v' w', (Builtin.append_ argTypes ty #[s', x']).run X.P w = .ok v' w' ∧ VRel ρ' v v' ∧ Goes ρ H w ρ' H' w' ∧ (∀ m, m ≠ n → ρ' m = ρ m) := by
  unfold appendA at h
  split at h
  · rename_i base len cap k hk
    cases hnew : firstA H size k x with
    | none => rw [hnew] at h; simp at h
    | some new =>
      rw [hnew] at h
      simp only at h
      obtain ⟨new', hrn0, hnr⟩ := firstA_all (X := X) hw hnew hk (Nat.le_refl _) hxr
      have hrn := hrn0 w rfl
      have hlen := lenOf_ok (X := X) hk hxr w
      cases hfit : Nat.ble (len + k) cap with
      | true =>
        rw [hfit, cond_true] at h
        have hle := Nat.le_of_ble_eq_true hfit
        cases base with
        | none =>
          simp only at h; cases h
          cases hsr with
          | sliceNil _ _ =>
          exact ⟨ρ, _, w, append_fits ok h0 h1 hu hdu hni hs hlen hle hrn rfl, .sliceNil _ _, .refl hw, fun _ _ => rfl⟩
        | some a =>
          simp only [Option.map_eq_some_iff] at h
          obtain ⟨K, hK, he⟩ := h
          cases he
          cases hsr with
          | @slice _ a' _ _ cap' L p1 p2 p3 p3' p4 =>
          have hcap : cap ≤ cap' ∧ (0 < cap → a'.off = a.off + L.shift) := by
            unfold SlRel at p4
            split at p4
            · exact ⟨by omega, fun _ => p4.1⟩
            · exact ⟨p4.1, fun hp => p4.2.2 (by omega)⟩
          have hstore : ∃ w', (storeCells (a'.add (len * size)) new'.toArray.toList).run X.P w = .ok () w' ∧ Goes ρ H w ρ H' w' := by
            by_cases hc0 : 0 < cap
            · refine storeA_ok hw hK (vs' := new') hnr (L := L) ?_ (by rw [add_block]; exact p2) ?_ ?_
              · rw [addrAdd_eq, add_block]; exact p1
              · rw [add_off, addrAdd_eq, add_off, hcap.2 hc0]; omega
              · rw [add_spot p3', addrAdd_eq, add_spot p3]
            · have hk0 : k = 0 := by omega
              have hne : new = [] := by
                subst hk0
                unfold firstA at hnew
                split at hnew
                · unfold cellsAt at hnew
                  split at hnew
                  · obtain ⟨_, rfl⟩ := cut_ok hnew; simp
                  · cases hnew
                · cases hnew; rfl
                · cases hnew; simp
                · cases hnew
              subst hne
              have hne' := hnr.unnil
              subst hne'
              exact ⟨w, by simp [storeCells], storeA_nil hw hK⟩
          obtain ⟨w', hst, hg⟩ := hstore
          refine ⟨ρ, _, w', append_fits ok h0 h1 hu hdu hni hs hlen (Nat.le_trans hle hcap.1) hrn hst, ?_, hg, fun _ _ => rfl⟩
          refine .slice p1 p2 p3 p3' ?_
          unfold SlRel at p4 ⊢
          split
          · rename_i e; rw [e] at p4; exact p4
          · rename_i e; rw [e] at p4; exact ⟨p4.1, p4.2.1, fun _ => p4.2.2 (by omega)⟩
      | false =>
        rw [hfit, cond_false] at h
        have hgr : cap < len + k := by
          rcases Nat.lt_or_ge cap (len + k) with q | q
          · exact q
          · rw [Nat.ble_eq_true_of_le q] at hfit; cases hfit
        cases hc : (Nat.ble ((len + k) * 2 + 192) 1048576 && Nat.ble bytes 1048576 && Nat.beq z.length size && Nat.beq new.length (k * size)) with
        | false => rw [hc, cond_false] at h; cases h
        | true =>
          rw [hc, cond_true] at h
          simp only [Bool.and_eq_true] at hc
          have b1 := Nat.le_of_ble_eq_true hc.1.1.1
          have b2 := Nat.le_of_ble_eq_true hc.1.1.2
          have b3 := Nat.eq_of_beq_eq_true hc.1.2
          have b4 := Nat.eq_of_beq_eq_true hc.2
          have hti : ∃ i, X.ty.get el = some i ∧ i.bytes = bytes := by
            unfold Cx.bytes at hby
            simp only [Option.map_eq_some_iff] at hby
            exact hby
          obtain ⟨i, hi, hib⟩ := hti
          have hzv : ∃ zv : Value, (∀ w, (zeroValue el).run X.P w = .ok zv w) ∧ zv.cells.size = size := by
            unfold Cx.zero at hz
            rw [hi] at hz
            simp only at hz
            cases hzz : i.zero with
            | none => rw [hzz] at hz; cases hz
            | some q =>
              rw [hzz] at hz; simp only at hz
              cases hcq : clos q with
              | false => rw [hcq, cond_false] at hz; cases hz
              | true =>
                rw [hcq, cond_true] at hz; cases hz
                exact ⟨q, fun w => run_zero_of ok hi hzz w, by rw [← b3]; simp⟩
          obtain ⟨zv, hzr, hzs⟩ := hzv
          have hnl : new'.length = k * size := by rw [← hnr.1]; exact b4
          -- a new block
          have fresh : ∀ (base' : Option Addr) (cap' : Nat) (old old' : List Value) (G : Heap) (str : Bool), cap' < len + k →
              (∀ w2, w2.heap = w.heap → (Builtin.firstCells size len (.slice base' len cap')).run X.P w2 = .ok old'.toArray w2) → LRel ρ old old' → old.length = len * size → WRel ρ G w → Goes ρ H w ρ G w →
              ∃ ρ' v' w', (Builtin.append_ argTypes ty #[.slice base' len cap', x']).run X.P w = .ok v' w' ∧
                VRel ρ' (.slice (some ⟨n, 0, none⟩) (len + k) (len + k)) v' ∧ Goes ρ H w ρ' (G.set n (.cells (old ++ new) el (some size) str)) w' ∧ (∀ m, m ≠ n → ρ' m = ρ m) := by
            intro base' cap' old old' G str hcg hold hor hol hG hgG
            obtain ⟨newCap, w1, hq, hnc, hw1⟩ := appendCap_run (P := X.P) (w := w) (len + k) cap' el
            have hh : w1.heap = w.heap := by rw [hw1]
            have hrn1 := hrn0 w1 hh
            have hrun := append_grows ok (x' := x') (base := base') (ty := ty) h0 h1 hu hdu hni hs hi hzr hlen hcg b1 (by rw [hib]; exact b2) hq (hold w1 hh) hrn1
            let cells' : Array Value := old'.toArray ++ new'.toArray ++ Builtin.zeroCells zv.cells (newCap - (len + k))
            have hol' : old'.length = len * size := by rw [← hor.1]; exact hol
            have htot : cells'.size = newCap * size := by
              simp only [cells', Array.size_append, List.size_toArray, zeroCells_size, hzs, hol', hnl]
              rw [← Nat.add_mul, ← Nat.add_mul]
              congr 1; omega
            let L : Loc := ⟨w1.heap.size, 0, some (size, cells'.size), none, none⟩
            have hG1 : WRel ρ G w1 := by rw [hw1]; exact hG.draw _
            have hg1 : Goes ρ G w ρ G w1 := by rw [hw1]; exact Goes.draw hG _
            have hg := Goes.alloc hG1 (n := n) (L := L) (o := .cells (old ++ new) el (some size) str) (o' := .cells cells' el (0, 0)) hn rfl (by
              simp only [ORel]
              refine ⟨trivial, rfl, fun j q hj => ?_, fun _ _ => by omega, fun _ _ _ => by omega, (fun _ => trivial), (fun h => by cases h)⟩
              have hl : LRel ρ (old ++ new) (old' ++ new') := hor.append hnr
              obtain ⟨q', hq', hqr⟩ := hl.get hj
              refine ⟨q', ?_, hqr.mono (Rn.ext_add hn)⟩
              simp only [L, Nat.add_zero, cells']
              have hjl : j < (old' ++ new').length := (List.getElem?_eq_some_iff.1 hq').1
              rw [Array.getElem?_append_left (by simpa using hjl)]
              rw [List.append_toArray]
              simpa using hq')
            refine ⟨ρ.add n L, _, _, hrun, ?_, hgG.trans (hg1.trans hg), fun m hm => Rn.add_ne hm⟩
            refine .slice (L := L) (Rn.add_same ..) rfl rfl rfl ?_
            simp only [SlRel, L]
            exact ⟨hnc, by rw [htot]; omega, fun _ => trivial⟩
          cases base with
          | none =>
            simp only at h
            cases hl0 : Nat.beq len 0 with
            | false => rw [hl0, cond_false] at h; cases h
            | true =>
              rw [hl0, cond_true] at h; cases h
              have hlz := Nat.eq_of_beq_eq_true hl0
              cases hsr with
              | sliceNil _ _ =>
              have := fresh none cap [] [] H false hgr (fun w2 _ => by simp [Builtin.firstCells]) (.nil ρ) (by simp [hlz]) hw (.refl hw)
              simpa using this
          | some a =>
            simp only at h
            cases hsr with
            | @slice _ a' _ _ cap' L p1 p2 p3 p3' p4 =>
            split at h
            · rename_i cs el2 str old hH hold
              cases h
              obtain ⟨M, o', hM, hmk, hrel⟩ := hw.obj a.block _ hH
              rw [p1] at hM; cases hM
              obtain ⟨cs', fz, rfl, hopn, _⟩ := hrel.cellsInv
              unfold SlRel at p4
              rw [hopn] at p4
              simp only [Option.map_none] at p4
              obtain ⟨hoff, rfl⟩ := p4
              obtain ⟨old', hro, hor, hol, _⟩ := cellsAt_all (X := X) hw hold p1 p2 hoff (p3'.trans p3.symm)
              exact fresh (some a') cap' old old' H false hgr (fun w2 hh2 => by unfold Builtin.firstCells; exact hro w2 hh2) hor hol hw (.refl hw)
            · rename_i cs el2 zz str old hH hold
              cases hzc : (Nat.beq zz size && new.all one && Nat.beq el2 el) with
              | false => rw [hzc, cond_false] at h; cases h
              | true =>
                rw [hzc, cond_true] at h; cases h
                simp only [Bool.and_eq_true] at hzc
                have hzz := Nat.eq_of_beq_eq_true hzc.1.1
                have hel := Nat.eq_of_beq_eq_true hzc.2
                subst hzz
                subst hel
                obtain ⟨M, o', hM, hmk, hrel⟩ := hw.obj a.block _ hH
                rw [p1] at hM; cases hM
                obtain ⟨cs', fz, rfl, hopn, hcell, hfr, hfo, hst⟩ := hrel.cellsInv
                have p4' := p4
                unfold SlRel at p4'
                rw [hopn] at p4'
                simp only [Option.map_some] at p4'
                obtain ⟨c1, c2, c3⟩ := p4'
                have hold' : ∃ old' : List Value, (∀ w2 : World, w2.heap = w.heap → (loadCells a' (len * zz)).run X.P w2 = .ok old'.toArray w2) ∧ LRel ρ old old' ∧ old.length = len * zz ∧
                    (∀ j q, old'[j]? = some q → cs'[a'.off + j]? = some q) := by
                  by_cases hl0 : len = 0
                  · subst hl0
                    have : old = [] := by
                      unfold cellsAt at hold
                      split at hold
                      · obtain ⟨_, rfl⟩ := cut_ok hold; simp
                      · cases hold
                    subst this
                    exact ⟨[], fun w2 _ => by simp [loadCells, loadCellsFrom], .nil ρ, by simp, fun j q hj => by simp at hj⟩
                  · obtain ⟨old', q1, q2, q3, q5⟩ := cellsAt_all (X := X) hw hold p1 p2 (c3 (by omega)) (p3'.trans p3.symm)
                    refine ⟨old', q1, q2, q3, fun j q hj => ?_⟩
                    have hq := q5 j q hj
                    unfold World.cell? at hq
                    rw [add_block, p2, hmk] at hq
                    simp only [add_spot p3', Option.isSome_none, Bool.false_eq_true, if_false, add_off] at hq
                    exact hq
                obtain ⟨old', q1, q2, q3, q4⟩ := hold'
                by_cases hin : len + k ≤ cap'
                · -- in place
                  have hbd : a'.off + len * zz + new'.length ≤ cs'.size := by
                    rw [hnl]
                    have : (len + k) * zz ≤ cap' * zz := Nat.mul_le_mul_right _ hin
                    rw [Nat.add_mul] at this
                    omega
                  obtain ⟨ds, hds, hsrun⟩ := storeCells_ok X.P el2 fz (a'.add (len * zz)) (add_spot p3' _) new' 0 cs' w (by rw [add_block, p2]; exact hmk) (by rw [add_off]; omega)
                    (fun j j1 j2 => hfo rfl j (by rw [add_off] at j2; omega))
                    (fun q hq => by
                      obtain ⟨j, hj, rfl⟩ := List.mem_iff_getElem.1 hq
                      have hj' : j < new.length := by rw [hnr.1]; exact hj
                      exact one_rel (hnr.2 j new[j] new'[j] (List.getElem?_eq_getElem hj') (List.getElem?_eq_getElem hj)) (List.all_eq_true.1 hzc.1.2 _ (by simp)))
                  have hdsz : ds.size = cs'.size := by
                    have e1 := congrArg List.length hds
                    rw [spl_length (by simp [add_off]; omega)] at e1
                    simpa using e1
                  let L' : Loc := ⟨L.block, a'.off, some (zz, cs'.size), none, none⟩
                  have hg := Goes.rename hw (m := a.block) (n := n) (L' := L') (p := .cells (old ++ new) el2 (some zz) str) (p' := .cells ds el2 fz)
                    (w' := { w with heap := w.heap.setIfInBounds (a'.add (len * zz)).block (.cells ds el2 fz) }) hH p1 hn rfl (by rw [add_block, p2]) rfl rfl (by
                      have hpos : ∀ j, j < cs'.size → ds[j]? = if a'.off + len * zz ≤ j ∧ j < a'.off + len * zz + new'.length then new'[j - (a'.off + len * zz)]? else cs'[j]? := by
                        intro j hj
                        have e1 : ds[j]? = (spl cs'.toList ((a'.add (len * zz)).off + 0) new')[j]? := by rw [← hds]; simp
                        rw [e1, add_off, Nat.add_zero, spl_get (by simp; omega)]
                        simp
                      simp only [ORel]
                      refine ⟨trivial, by rw [hdsz]; rfl, fun j q hj => ?_, fun j hj => hfo rfl _ ?_, fun _ j hj => hfo rfl j (by rw [← hdsz]; exact hj), hst.1, (fun h => by cases h)⟩
                      · have hl : LRel ρ (old ++ new) (old' ++ new') := q2.append hnr
                        obtain ⟨q', hq', hqr⟩ := hl.get hj
                        refine ⟨q', ?_, hqr.mono (Rn.ext_add hn)⟩
                        have hol' : old'.length = len * zz := by rw [← q2.1]; exact q3
                        have hjl : j < (old' ++ new').length := (List.getElem?_eq_some_iff.1 hq').1
                        simp only [List.length_append] at hjl
                        rw [hpos _ (by simp only [L']; omega)]
                        by_cases hjo : j < len * zz
                        · rw [if_neg (by simp only [L']; omega)]
                          rw [List.getElem?_append_left (by omega)] at hq'
                          rw [← q4 j q' hq', Nat.add_comm]
                        · rw [if_pos (by simp only [L']; omega)]
                          rw [List.getElem?_append_right (by omega)] at hq'
                          rw [← hq']
                          congr 1
                          simp only [L']; omega
                      · simp only [L', List.length_append] at hj ⊢
                        have := hnr.1
                        omega)
                  refine ⟨ρ.add n L', _, _, append_fits ok h0 h1 hu hdu hni hs hlen hin hrn (by simpa using hsrun), ?_, hg, fun m hm => Rn.add_ne hm⟩
                  refine .slice (L := L') (Rn.add_same ..) p2 rfl p3' ?_
                  simp only [SlRel, L']
                  exact ⟨hin, c2, fun _ => by simp⟩
                · exact fresh (some a') cap' old old' (H.put a.block none) str (by omega)
                    (fun w2 hh2 => by unfold Builtin.firstCells; exact q1 w2 hh2) q2 q3 (hw.sub (.erase H a.block)) (.drop hw a.block)
            · cases h
  · cases h

end
end Go.Ev

namespace Go.Ev
variable [Gho]

section
variable {X : Cx} {ρ : Rn}

theorem scalEq_eq {a b : Value} (h : scalEq a b = true) : a = b := by
  unfold scalEq at h
  split at h
  · rw [beq_iff_eq] at h; rw [h]
  · simp only [Bool.and_eq_true, decide_eq_true_eq, intEq_eq, beq_iff_eq] at h; rw [h.1, h.2]
  · rw [← bytes_beq] at h
    rename_i x y
    have e0 : (x == y) = (x.data == y.data) := by cases x; cases y; rfl
    rw [e0, beq_iff_eq] at h
    congr 1
    exact ByteArray.ext h
  · cases h

theorem scalsEq_eq : ∀ {a b : List Value}, scalsEq a b = true → a = b
  | [], [], _ => rfl
  | [], _ :: _, h => by simp [scalsEq] at h
  | _ :: _, [], h => by simp [scalsEq] at h
  | x :: a, y :: b, h => by
    simp only [scalsEq, Bool.and_eq_true] at h
    rw [scalEq_eq h.1, scalsEq_eq h.2]

theorem bytes_refl (s : ByteArray) : (s == s) = true := by
  rw [bytes_beq, eqB_eq]; simp

theorem scalEq_bits {n : Nat} {a b : Value} (h : scalEq a b = true) : Instr.sameBits n a b = true := by
  have := scalEq_eq h
  subst this
  unfold scalEq at h
  split at h <;> first | (cases h; done) | skip
  · simp [Instr.sameBits]
  · simp [Instr.sameBits]
  · simp only [Instr.sameBits]; exact bytes_refl _

theorem scals_zip {n : Nat} : ∀ {a b : List Value}, scalsEq a b = true → ((a.zip b).all fun (x, y) => Instr.sameBits n x y) = true
  | [], [], _ => rfl
  | [], _ :: _, h => by simp [scalsEq] at h
  | _ :: _, [], h => by simp [scalsEq] at h
  | x :: a, y :: b, h => by
    simp only [scalsEq, Bool.and_eq_true] at h
    simp only [List.zip_cons_cons, List.all_cons, Bool.and_eq_true]
    exact ⟨scalEq_bits h.1, scals_zip h.2⟩

theorem keyEq_bits {a b : Value} (h : keyEq a b = true) : Instr.sameBits 10000 a b = true ∧ a = b := by
  unfold keyEq at h
  split at h
  · rename_i x y
    have he := scalsEq_eq h
    have hxy : x = y := Array.ext' he
    refine ⟨?_, by rw [hxy]⟩
    show (x.size == y.size && (x.toList.zip y.toList).all fun (x, y) => Instr.sameBits 9999 x y) = true
    rw [scals_zip h, hxy]; simp
  · exact ⟨scalEq_bits h, scalEq_eq h⟩

theorem setKV_get (k v : Value) : ∀ (es : List MapEntry) (i j : Nat), (setKV k v es i)[j]? = if j = i then (es[j]?).map (fun e => { key := k, val := v, born := e.born }) else es[j]?
  | [], i, j => by simp [setKV]
  | e :: es, 0, j => by
    cases j with
    | zero => simp [setKV]
    | succ j => simp [setKV]
  | e :: es, i + 1, j => by
    cases j with
    | zero => simp [setKV]
    | succ j => simp [setKV, setKV_get k v es i j]
theorem setKV_length (k v : Value) : ∀ (es : List MapEntry) (i : Nat), (setKV k v es i).length = es.length
  | [], _ => rfl
  | _ :: _, 0 => rfl
  | _ :: es, i + 1 => by simp [setKV, setKV_length k v es i]

theorem dropAt_eq : ∀ (es : List MapEntry) (i : Nat), dropAt es i = es.eraseIdx i
  | [], i => by simp [dropAt]
  | _ :: _, 0 => rfl
  | e :: es, i + 1 => by simp [dropAt, dropAt_eq es i]

theorem orel_map {L : Loc} {es : List MapEntry} {es' : Array MapEntry} {clock : Nat} (h : ERel ρ es es'.toList) : ORel ρ L (.map es clock) (.map es' clock) := by
  simp only [ORel]
  exact ⟨trivial, by simpa using h.1, fun i e e' h1 h2 => h.2 i e e' h1 (by simpa using h2)⟩

theorem setObj_run {P : Program} {w : World} {r : Nat} {o o' : Obj} (h : w.heap[r]? = some o) (hc : (match o with | .cells .. => false | _ => true) = true) :
    (setObj r o').run P w = .ok () { w with heap := w.heap.setIfInBounds r o' } := by
  unfold setObj
  cases o <;> first | (simp at hc; done) | simp [Sem.run, h]

theorem getObj_run {P : Program} {w : World} {r : Nat} {o : Obj} (h : w.heap[r]? = some o) (hc : (match o with | .cells .. => false | _ => true) = true) :
    (getObj r).run P w = .ok o w := by
  unfold getObj
  cases o <;> first | (simp at hc; done) | simp [Sem.run, h]

theorem write_of {H H' : Heap} {w : World} {o : Oper} {r : Operand → Value} {n : Nat} {v v' : Value} {w' : World} {s : Sem Value} (hs : execOp r o = (do pure (.value (← s))))
    (hrun : s.run X.P w = .ok v' w') {ρ' : Rn} (hv : VRel ρ' v v') (hg : Goes ρ H w ρ' H' w') (hne : ∀ m, m ≠ n → ρ' m = ρ m) : WriteSaid X ρ H w o r n v H' :=
  ⟨ρ', .value v', v', w', by rw [hs]; simp [hrun], .inl rfl, hv, hg, hne⟩
theorem write_skip {H H' : Heap} {w : World} {o : Oper} {r : Operand → Value} {n : Nat} {w' : World} {s : Sem Unit} (hs : execOp r o = (do s; pure .skip))
    (hrun : s.run X.P w = .ok () w') (hg : Goes ρ H w ρ H' w') : WriteSaid X ρ H w o r n (.tuple #[]) H' :=
  ⟨ρ, .skip, undef, w', by rw [hs]; simp [hrun], .inr ⟨rfl, rfl⟩, .tupA ⟨rfl, fun i x y h => by simp at h⟩, hg, fun _ _ => rfl⟩

/-- An entry's store, and a new one's. -/
theorem mapUpdate_ok (ok : X.Ok) {H : Heap} {w : World} (hw : WRel ρ H w) {t kt el : TypeId} {m : Nat} {k v k' v' : Value} {es : List MapEntry} {clock : Nat} {L : Loc}
    (hu : X.under t = some (.map kt el)) (hL : ρ m = some L) (hH : H.get m = some (.map es clock)) (hk : VRel ρ k k') (hv : VRel ρ v v') {H' : Heap}
    (h : (match X.look kt k es with
        | some (some (i, _)) => match es[i]? with
          | some x => bif keyEq x.key k then some (H.set m (.map (setKV k v es i) clock)) else none
          | none => none
        | some none => some (H.set m (.map (es ++ [{ key := k, val := v, born := clock }]) (clock + 1)))
        | none => none) = some H') :
    ∃ w', (Instr.mapUpdate t (.map (some L.block)) k' v').run X.P w = .ok () w' ∧ Goes ρ H w ρ H' w' := by
  obtain ⟨K, o', hK, hko, hrel⟩ := hw.obj m _ hH
  rw [hL] at hK; cases hK
  obtain ⟨es', rfl, he⟩ := hrel.mapInv
  have hgo := getObj_run (P := X.P) hko rfl
  split at h
  · rename_i i u hl
    split at h
    · rename_i e hei
      cases hkq : keyEq e.key k with
      | false => rw [hkq, cond_false] at h; cases h
      | true =>
        rw [hkq, cond_true] at h; cases h
        obtain ⟨hkk, q1, q2, r', hr', hrel'⟩ := look_ok ok hk he hl w
        cases r' with
        | none => cases hrel'
        | some q =>
          obtain ⟨j, u'⟩ := q
          obtain ⟨rfl, _⟩ := hrel'
          obtain ⟨e', he', hborn, hkr, hvr⟩ := he.get hei
          obtain ⟨hbits, hkeq⟩ := keyEq_bits hkq
          have hek : e'.key = e.key := keyFits_same (by rw [hkeq]; exact q2) hkr
          have hei' : es'[j]? = some e' := by simpa using he'
          have hsame : Instr.sameBits 10000 e'.key k' = true := by rw [hek, hkk]; exact hbits
          refine ⟨{ w with heap := w.heap.setIfInBounds L.block (.map (es'.modify j fun e => { e with key := k', val := v' }) clock) }, ?_, ?_⟩
          · unfold Instr.mapUpdate
            rw [hkk] at hr' hsame ⊢
            simp only [Sem.run_bind, run_under ok hu, Result.andThen_ok, hgo, checkKey_ok ok q1 q2, hr']
            simp only [Instr.keyThatStays, hei', Option.map_some, Option.getD_some, hsame, if_true, Sem.run_pure, Result.andThen_ok, setObj_run hko rfl]
          · refine Goes.update hw hH hL rfl rfl rfl (orel_map ⟨by rw [setKV_length]; simpa using he.1, fun a x y hx hy => ?_⟩)
            rw [setKV_get] at hx
            simp only [Array.getElem?_toList, Array.getElem?_modify] at hy
            by_cases e1 : a = j
            · subst e1
              rw [if_pos rfl, hei] at hx
              rw [if_pos rfl, hei'] at hy
              simp at hx hy
              subst hx hy
              exact ⟨hborn, by rw [hkk]; rw [hkk] at hk; exact hk, hv⟩
            · rw [if_neg e1] at hx
              rw [if_neg (fun e => e1 e.symm)] at hy
              exact he.2 a x y hx (by simpa using hy)
    · cases h
  · rename_i hl
    cases h
    obtain ⟨hkk, q1, q2, r', hr', hrel'⟩ := look_ok ok hk he hl w
    cases r' with
    | some q => cases hrel'
    | none =>
      refine ⟨{ w with heap := w.heap.setIfInBounds L.block (.map (es'.push { key := k', val := v', born := clock }) (clock + 1)) }, ?_, ?_⟩
      · unfold Instr.mapUpdate
        rw [hkk] at hr' ⊢
        simp only [Sem.run_bind, run_under ok hu, Result.andThen_ok, hgo, checkKey_ok ok q1 q2, hr', setObj_run hko rfl]
      · refine Goes.update hw hH hL rfl rfl rfl (orel_map ?_)
        have hlen := he.1
        refine ⟨by simpa using he.1, fun a x y hx hy => ?_⟩
        rw [Array.toList_push] at hy
        by_cases hlt : a < es.length
        · rw [List.getElem?_append_left hlt] at hx
          rw [List.getElem?_append_left (by omega)] at hy
          exact he.2 a x y hx hy
        · rw [List.getElem?_append_right (by omega)] at hx
          rw [List.getElem?_append_right (by omega), ← hlen] at hy
          cases ha : a - es.length with
          | zero =>
            rw [ha] at hx hy
            simp at hx hy
            subst hx hy
            exact ⟨rfl, hk, hv⟩
          | succ b => rw [ha] at hx; simp at hx
  · cases h

end
end Go.Ev

namespace Go.Ev
variable [Gho]

section
variable {X : Cx} {ρ : Rn}

theorem ptr_add_new {n : Nat} {L : Loc} (h : L.shift = 0) : VRel (ρ.add n L) (.pointer (some ⟨n, 0, none⟩)) (.pointer (some ⟨L.block, 0, none⟩)) :=
  .ptr (L := L) (Rn.add_same ..) rfl (by simp [h]) rfl

theorem addr_eta {a : Addr} {b : Nat} (h1 : a.block = b) (h2 : a.off = 0) : a = ⟨b, 0, a.spot⟩ := by
  obtain ⟨x, y, z⟩ := a
  simp only at h1 h2
  subst h1 h2; rfl

theorem filter0 (f : MapEntry → Bool) : (#[] : Array MapEntry).filter f = #[] := rfl
theorem filter1 (f : MapEntry → Bool) (e : MapEntry) : (#[e] : Array MapEntry).filter f = if f e = true then #[e] else #[] := by
  apply Array.ext'
  simp only [Array.toList_filter]
  cases h : f e <;> simp [h]

theorem next_ok (ok : X.Ok) {H H' : Heap} {w : World} (hw : WRel ρ H w) {x : Operand} {isS : Bool} {v vx : Value} {ty : TypeId} {rr : Nat} {sp : Option Nat} (hx : VRel ρ (.pointer (some ⟨rr, 0, sp⟩)) vx)
    (h : (match H.get rr, isS with
      | some (.siter s pos), true => bif Nat.blt pos s.data.toList.length then
          let cw := Utf8.decode s pos
          some (Value.tuple #[.bool true, .int .i64 (.ofNat pos), .int .i32 cw.1], H.set rr (.siter s (pos + cw.2)))
        else some (.tuple #[.bool false], H)
      | some (.miter none _ _ _), false => some (.tuple #[.bool false], H)
      | some (.miter (some m) since seen stepped), false => match H.get m with
        | some (.map es clock) =>
          match es with
          | [] => some (.tuple #[.bool false], H)
          | [x] =>
            bif Nat.blt x.born since then
              (bif seen.contains x.born then (bif Nat.blt x.born stepped then some (.tuple #[.bool false], H) else none)
               else bif seen.isEmpty then some (.tuple #[.bool true, x.key, x.val], H.set rr (.miter (some m) since (seen ++ [x.born]) clock)) else none)
            else none
          | _ => none
        | _ => none
      | _, _ => none) = some (v, H')) :
    ∃ v' w', (Instr.next vx isS ty).run X.P w = .ok v' w' ∧ VRel ρ v v' ∧ Goes ρ H w ρ H' w' := by
  obtain ⟨a', L, rfl, p1, p2, p3, p4⟩ := hx.unptr
  have tup1 : ∀ b, VRel ρ (.tuple #[.bool b]) (.tuple #[.bool b]) := fun b => .tupA (LRel.arr (.cons (.bool b) (.nil ρ)))
  have base : ∀ o o', H.get rr = some o → (∃ L', ρ rr = some L' ∧ w.heap[L'.block]? = some o' ∧ ORel ρ L' o o') → w.heap[L.block]? = some o' ∧ ORel ρ L o o' := by
    rintro o o' _ ⟨L', q1, q2, q3⟩
    rw [p1] at q1; cases q1; exact ⟨q2, q3⟩
  split at h
  · rename_i s pos hH
    obtain ⟨K, o', hK, hko, hrel⟩ := hw.obj rr _ hH
    rw [p1] at hK; cases hK
    cases o' with
    | stringIter s' pos' =>
      simp only [ORel] at hrel
      obtain ⟨hsh, rfl, rfl⟩ := hrel
      have ha := addr_eta p2 (by simp at p3; omega)
      rw [ha]
      cases hb : Nat.blt pos' s'.data.toList.length with
      | true =>
        rw [hb, cond_true] at h
        simp only at h; cases h
        have hlt : pos' < s'.size := by rw [size_data]; simpa [Nat.blt_eq] using hb
        refine ⟨_, _, ?_, .tupA (LRel.arr (.cons (.bool true) (.cons (.int _ _) (.cons (.int _ _) (.nil ρ))))), Goes.update hw hH p1 (p' := .stringIter s' (pos' + (Utf8.decode s' pos').2)) (w' := { w with heap := w.heap.setIfInBounds L.block (.stringIter s' (pos' + (Utf8.decode s' pos').2)) }) rfl rfl rfl ⟨hsh, rfl, rfl⟩⟩
        unfold Instr.next
        simp only [Sem.run_bind, getObj_run hko rfl, Result.andThen_ok, if_pos hlt, setObj_run hko rfl, Sem.run_pure]
        rfl
      | false =>
        rw [hb, cond_false] at h; cases h
        have hlt : ¬ pos' < s'.size := by
          intro hc
          rw [size_data] at hc
          have : Nat.blt pos' s'.data.toList.length = true := by simpa [Nat.blt_eq] using hc
          rw [hb] at this; cases this
        refine ⟨_, w, ?_, tup1 false, .refl hw⟩
        unfold Instr.next
        simp only [Sem.run_bind, getObj_run hko rfl, Result.andThen_ok, if_neg hlt, Sem.run_pure]
    | _ => simp [ORel] at hrel
  · rename_i s1 s2 s3 hH
    cases h
    obtain ⟨K, o', hK, hko, hrel⟩ := hw.obj rr _ hH
    rw [p1] at hK; cases hK
    cases o' with
    | mapIter mm si se st =>
      simp only [ORel] at hrel
      obtain ⟨hsh, rfl, rfl, rfl, hmm⟩ := hrel
      cases mm with
      | some b => exact hmm.elim
      | none =>
        have ha := addr_eta p2 (by simp at p3; omega)
        rw [ha]
        refine ⟨_, w, ?_, tup1 false, .refl hw⟩
        unfold Instr.next
        simp only [Sem.run_bind, getObj_run hko rfl, Result.andThen_ok, Sem.run_pure]
    | _ => simp [ORel] at hrel
  · rename_i m since seen s3 hH
    obtain ⟨K, o', hK, hko, hrel⟩ := hw.obj rr _ hH
    rw [p1] at hK; cases hK
    cases o' with
    | mapIter mm si se st =>
      simp only [ORel] at hrel
      obtain ⟨hsh, rfl, rfl, rfl, hmm⟩ := hrel
      cases mm with
      | none => exact hmm.elim
      | some bb =>
        obtain ⟨M, hM, rfl⟩ := hmm
        have ha := addr_eta p2 (by simp at p3; omega)
        rw [ha]
        split at h
        · rename_i es clock hHm
          obtain ⟨M', om, hM', hkm, hrelm⟩ := hw.obj m _ hHm
          rw [hM] at hM'; cases hM'
          obtain ⟨es', rfl, he⟩ := hrelm.mapInv
          split at h
          · cases h
            have hes : es' = #[] := by apply Array.ext'; simpa using he.unnil
            subst hes
            refine ⟨_, w, ?_, tup1 false, .refl hw⟩
            unfold Instr.next
            simp only [Sem.run_bind, getObj_run hko rfl, getObj_run hkm rfl, Result.andThen_ok, filter0]
            simp [Question.forced]
          · rename_i e
            obtain ⟨e', t, het, hborn, hkr, hvr, ht⟩ := he.uncons
            have := ht.unnil
            subst this
            have hes : es' = #[e'] := by apply Array.ext'; simpa using het
            subst hes
            cases hb : Nat.blt e.born si with
            | false => rw [hb, cond_false] at h; cases h
            | true =>
              rw [hb, cond_true] at h
              have hlt : e'.born < si := by rw [hborn]; simpa [Nat.blt_eq] using hb
              have hge : ¬ si ≤ e'.born := by omega
              cases hc : seen.contains e.born with
              | true =>
                rw [hc, cond_true] at h
                cases hst : Nat.blt e.born st with
                | false => rw [hst, cond_false] at h; cases h
                | true =>
                rw [hst, cond_true] at h; cases h
                have hlst : e'.born < st := by rw [hborn]; simpa [Nat.blt_eq] using hst
                have hcc : seen.toArray.contains e'.born = true := by rw [hborn]; simpa using hc
                refine ⟨_, w, ?_, tup1 false, .refl hw⟩
                unfold Instr.next
                have hnl : ¬ st ≤ e'.born := by omega
                simp only [Sem.run_bind, getObj_run hko rfl, getObj_run hkm rfl, Result.andThen_ok, filter1, hcc, Bool.not_true, Bool.false_eq_true, if_false, filter0]
                simp [Question.forced, hnl]
              | false =>
                rw [hc, cond_false] at h
                cases hse : seen.isEmpty with
                | false => rw [hse, cond_false] at h; cases h
                | true =>
                  rw [hse, cond_true] at h; cases h
                  have hs0 : seen = [] := by simpa using hse
                  subst hs0
                  refine ⟨.tuple #[.bool true, e'.key, e'.val], { w with heap := w.heap.setIfInBounds L.block (.mapIter (some M.block) si #[e'.born] clock) }, ?_,
                    .tupA (LRel.arr (.cons (.bool true) (.cons hkr (.cons hvr (.nil ρ))))), Goes.update hw hH p1 rfl rfl rfl ?_⟩
                  · unfold Instr.next
                    simp only [Sem.run_bind, getObj_run hko rfl, getObj_run hkm rfl, Result.andThen_ok]
                    simp [hlt, hge, Question.forced, setObj_run hko rfl]
                  · simp only [ORel]
                    exact ⟨hsh, trivial, by rw [hborn]; rfl, trivial, M, hM, rfl⟩
          · cases h
        · cases h
    | _ => simp [ORel] at hrel
  · cases h

theorem evWrite_ok (ok : X.Ok) {o : Oper} {e : Operand → Option Value} {r : Operand → Value} (hr : OpRel ρ e r) {H H' : Heap} {w : World} (hw : WRel ρ H w) {v : Value} {n : Nat} (hn : ρ n = none)
    (h : evWrite X e o.op n H = some (v, H')) : WriteSaid X ρ H w o r n v H' := by
  obtain ⟨dst, op, ty, pos, after, guard⟩ := o
  simp only at h
  have mu : ∀ (t : TypeId) (m k x : Operand) (op : Op), (op = .mapUpdate t m k x ∨ op = .insert t m k x) →
      evWrite X e (.mapUpdate t m k x) n H = some (v, H') → WriteSaid X ρ H w ⟨dst, op, ty, pos, after, guard⟩ r n v H' := by
    intro t m k x op hop h
    simp only [evWrite] at h
    split at h
    · rename_i kt el rr kv xv hu hm hk hx
      split at h
      · rename_i es clock hH
        have hmr := hr m _ hm
        generalize hrm : r m = y at hmr
        cases hmr with
        | @map _ L hL =>
        have key : ∀ H2, (match X.look kt kv es with
            | some (some (i, _)) => match es[i]? with
              | some x => bif keyEq x.key kv then some (H.set rr (.map (setKV kv xv es i) clock)) else none
              | none => none
            | some none => some (H.set rr (.map (es ++ [{ key := kv, val := xv, born := clock }]) (clock + 1)))
            | none => none) = some H2 → WriteSaid X ρ H w ⟨dst, op, ty, pos, after, guard⟩ r n (.tuple #[]) H2 := by
          intro H2 h2
          obtain ⟨w', hrun, hg⟩ := mapUpdate_ok ok hw hu hL hH (hr k _ hk) (hr x _ hx) h2
          refine write_skip (s := Instr.mapUpdate t (r m) (r k) (r x)) ?_ (by rw [hrm]; exact hrun) hg
          rcases hop with rfl | rfl <;> rfl
        cases hl : X.look kt kv es with
        | none => rw [hl] at h; cases h
        | some q =>
          rw [hl] at h key
          cases q with
          | none =>
            simp only at h; cases h
            exact key _ rfl
          | some iv =>
            obtain ⟨i, u⟩ := iv
            simp only at h key
            cases hei : es[i]? with
            | none => rw [hei] at h; cases h
            | some ee =>
              rw [hei] at h key
              simp only at h key
              cases hkq : keyEq ee.key kv with
              | false => rw [hkq, cond_false] at h; cases h
              | true =>
                rw [hkq, cond_true] at h key; cases h
                exact key _ rfl
      · cases h
    · cases h
  cases op with
  | store t x y =>
    simp only [evWrite] at h
    split at h
    · rename_i a u s hx hy hs
      cases hc : Nat.beq u.cells.toList.length s with
      | false => rw [hc, cond_false] at h; cases h
      | true =>
        rw [hc, cond_true] at h
        simp only [Option.map_eq_some_iff] at h
        obtain ⟨K, hK, he⟩ := h
        cases he
        have hlen := Nat.eq_of_beq_eq_true hc
        obtain ⟨a', L, hea, p1, p2, p3, p4⟩ := (hr x _ hx).unptr
        have hcr := (hr y _ hy).cells
        obtain ⟨w', hrun, hg⟩ := storeA_ok (X := X) hw hK hcr p1 p2 p3 p4
        refine write_skip (s := Instr.storeAt t (r x) (r y)) rfl ?_ hg
        rw [hea]
        unfold Instr.storeAt storeVar
        have hsz : (r y).cells.size = s := by have := hcr.1; simp at this hlen; omega
        simp [sure_ok, run_size ok hs, hsz, hrun]
    · cases h
  | mapUpdate t m k x => exact mu t m k x _ (.inl rfl) h
  | insert t m k x => exact mu t m k x _ (.inr rfl) h
  | range t x =>
    simp only [evWrite] at h
    have fin : ∀ (ob : AObj) (o' : Obj), (Instr.range t (r x)).run X.P w = .ok (.pointer (some ⟨w.heap.size, 0, none⟩)) { w with heap := w.heap.push o' } →
        ORel (ρ.add n (newLoc w)) (newLoc w) ob o' → WriteSaid X ρ H w ⟨dst, .range t x, ty, pos, after, guard⟩ r n (.pointer (some ⟨n, 0, none⟩)) (H.set n ob) := by
      intro ob o' hrun hrel
      exact write_of (s := Instr.range t (r x)) rfl hrun ptr_new (Goes.alloc hw hn rfl hrel) (fun m hm => Rn.add_ne hm)
    split at h
    · rename_i s hu hx
      cases h
      have hx' := (hr x _ hx).unstr
      exact fin _ (.stringIter s 0) (by rw [hx']; unfold Instr.range; simp [run_under ok hu]) ⟨rfl, rfl, rfl⟩
    · rename_i kt el hu hx
      cases h
      have hxr := hr x _ hx
      generalize hrx : r x = y at hxr
      cases hxr with
      | mapNil =>
      exact fin _ (.mapIter none 0 #[] 0) (by rw [hrx]; unfold Instr.range; simp [run_under ok hu]) ⟨rfl, rfl, rfl, rfl, trivial⟩
    · rename_i kt el m hu hx
      have hxr := hr x _ hx
      generalize hrx : r x = y at hxr
      cases hxr with
      | @map _ L hL =>
      split at h
      · rename_i es clock hH
        cases h
        obtain ⟨K, o', hK, hko, hrel⟩ := hw.obj m _ hH
        rw [hL] at hK; cases hK
        obtain ⟨es', rfl, he⟩ := hrel.mapInv
        exact fin _ (.mapIter (some L.block) clock #[] clock) (by rw [hrx]; unfold Instr.range; simp [run_under ok hu, getObj_run hko rfl])
          ⟨rfl, rfl, rfl, rfl, L, Rn.ext_add hn _ _ hL, rfl⟩
      · cases h
    · cases h
  | next x isS =>
    simp only [evWrite] at h
    split at h
    · rename_i rr sp hx
      obtain ⟨v', w', hrun, hv, hg⟩ := next_ok ok (x := x) (ty := ty) hw (hr x _ hx) h
      exact write_of (s := Instr.next (r x) isS ty) rfl hrun hv hg (fun _ _ => rfl)
    · cases h
  | call c =>
    simp only [evWrite] at h
    obtain ⟨callee, args, argTypes⟩ := c
    have bi : ∀ (b : Builtin) (s : Sem Value), callee = .builtin b → (∀ cs, builtin b argTypes ty cs (args.map r) = (do pure (.value (← s)))) →
        execOp r ⟨dst, .call ⟨callee, args, argTypes⟩, ty, pos, after, guard⟩ = (do pure (.value (← s))) := by
      intro b s hcal hbi
      subst hcal
      unfold execOp resolve
      simp [invoke, hbi]
    split at h
    · rename_i t u s x hcal hty hargs
      have hl := evL_ok hr args.toList _ hargs
      obtain ⟨s', m1, hxm, hs, hm⟩ := hl.uncons
      obtain ⟨x', m2, hxm2, hx, hm2⟩ := hm.uncons
      have := hm2.unnil
      subst this
      subst hxm2
      have ha : args.map r = #[s', x'] := by apply Array.ext'; simpa using hxm
      have ht0 : argTypes[0]? = some t := by rw [← Array.getElem?_toList, hty]; rfl
      have ht1 : argTypes[1]? = some u := by rw [← Array.getElem?_toList, hty]; rfl
      split at h
      · rename_i el du hu hdu
        split at h
        · rename_i size bytes z hsz hby hz
          cases hni : isIntD du with
          | true => rw [hni, cond_true] at h; cases h
          | false =>
            rw [hni, cond_false] at h
            obtain ⟨ρ', v', w', hrun, hv, hg, hne⟩ := appendA_ok ok (ty := ty) hw ht0 ht1 hu hdu hni hsz hby hz hn hs hx h
            exact write_of (bi .append (Builtin.append_ argTypes ty (args.map r)) hcal (fun _ => rfl)) (by rw [ha]; exact hrun) hv hg hne
        · cases h
      · cases h
    · rename_i t rest base dl dc src hcal hty hargs
      have hl := evL_ok hr args.toList _ hargs
      obtain ⟨d', m1, hxm, hd, hm⟩ := hl.uncons
      obtain ⟨s', m2, hxm2, hs, hm2⟩ := hm.uncons
      have := hm2.unnil
      subst this
      subst hxm2
      have ha : args.map r = #[d', s'] := by apply Array.ext'; simpa using hxm
      have ht0 : argTypes[0]? = some t := by rw [← Array.getElem?_toList, hty]; rfl
      split at h
      · rename_i el k hu hk
        split at h
        · rename_i size hsz
          split at h
          · rename_i cells hcells
            obtain ⟨l', hrl, hll⟩ := firstA_run (X := X) hw hcells hk (Nat.min_le_left _ _) hs
            have hlen := lenOf_ok (X := X) hk hs w
            cases base with
            | none =>
              simp only at h; cases h
              cases hd with
              | sliceNil _ _ =>
              refine write_of (bi .copy (Builtin.copy_ argTypes ty (args.map r)) hcal (fun _ => rfl)) (v' := goInt (Nat.min k dl : Nat)) (w' := w) ?_ (.int _ _) (.refl hw) (fun _ _ => rfl)
              rw [ha]
              unfold Builtin.copy_
              simp only [ht0]
              simp only [List.getElem?_toArray, List.getElem?_cons_zero, List.getElem?_cons_succ, Sem.run_bind, run_under ok hu, run_size ok hsz, Result.andThen_ok, hlen, hrl, Sem.run_pure]
            | some a =>
              simp only [Option.map_eq_some_iff] at h
              obtain ⟨K, hK, he⟩ := h
              cases he
              cases hd with
              | @slice _ a' _ _ cap' L p1 p2 p3 p3' p4 =>
              have hstore : ∃ w', (storeCells a' l'.toArray.toList).run X.P w = .ok () w' ∧ Goes ρ H w ρ H' w' := by
                by_cases hc0 : 0 < dc + dl
                · have ho : a'.off = a.off + L.shift := by
                    unfold SlRel at p4
                    split at p4
                    · exact p4.1
                    · exact p4.2.2 hc0
                  exact storeA_ok hw hK (vs' := l') hll p1 p2 ho (p3'.trans p3.symm)
                · have hdl : dl = 0 := by omega
                  subst hdl
                  have hne : cells = [] := by
                    have hmin : Nat.min k 0 = 0 := Nat.min_zero _
                    rw [hmin] at hcells
                    unfold firstA at hcells
                    split at hcells
                    · unfold cellsAt at hcells
                      split at hcells
                      · obtain ⟨_, rfl⟩ := cut_ok hcells; simp
                      · cases hcells
                    · cases hcells; rfl
                    · cases hcells; simp
                    · cases hcells
                  subst hne
                  have hne' := hll.unnil
                  subst hne'
                  exact ⟨w, by simp [storeCells], storeA_nil hw hK⟩
              obtain ⟨w', hst, hg⟩ := hstore
              refine write_of (bi .copy (Builtin.copy_ argTypes ty (args.map r)) hcal (fun _ => rfl)) (v' := goInt (Nat.min k dl : Nat)) (w' := w') ?_ (.int _ _) hg (fun _ _ => rfl)
              rw [ha]
              unfold Builtin.copy_
              simp only [ht0]
              simp only [List.getElem?_toArray, List.getElem?_cons_zero, List.getElem?_cons_succ, Sem.run_bind, run_under ok hu, run_size ok hsz, Result.andThen_ok, hlen, hrl, hst, Sem.run_pure]
          · cases h
        · cases h
      · cases h
    · rename_i t rest m k hcal hty hargs
      have hl := evL_ok hr args.toList _ hargs
      obtain ⟨m', m1, hxm, hmm, hm⟩ := hl.uncons
      obtain ⟨k', m2, hxm2, hk, hm2⟩ := hm.uncons
      have := hm2.unnil
      subst this
      subst hxm2
      have ha : args.map r = #[m', k'] := by apply Array.ext'; simpa using hxm
      have ht0 : argTypes[0]? = some t := by rw [← Array.getElem?_toList, hty]; rfl
      cases hmm with
      | @map _ L hL =>
      split at h
      · rename_i kt el es clock hu hH
        obtain ⟨K, o', hK, hko, hrel⟩ := hw.obj m _ hH
        rw [hL] at hK; cases hK
        obtain ⟨es', rfl, he⟩ := hrel.mapInv
        have hgo := getObj_run (P := X.P) hko rfl
        split at h
        · rename_i i u hlk
          cases h
          obtain ⟨hkk, q1, q2, r', hr', hrel'⟩ := look_ok ok hk he hlk w
          cases r' with
          | none => cases hrel'
          | some q =>
            obtain ⟨j, u'⟩ := q
            obtain ⟨rfl, _⟩ := hrel'
            refine write_of (bi .delete (Builtin.delete_ argTypes ty (args.map r)) hcal (fun _ => rfl)) (v' := .tuple #[]) (w' := { w with heap := w.heap.setIfInBounds L.block (.map (es'.eraseIdxIfInBounds j) clock) }) ?_
              (.tupA ⟨rfl, fun i x y h => by simp at h⟩) (Goes.update hw hH hL rfl rfl rfl (orel_map ?_)) (fun _ _ => rfl)
            · rw [ha, hkk]
              rw [hkk] at hr'
              unfold Builtin.delete_
              simp only [ht0]
              simp only [List.getElem?_toArray, List.getElem?_cons_zero, List.getElem?_cons_succ, Sem.run_bind, run_under ok hu, Result.andThen_ok, hgo, checkKey_ok ok q1 q2, hr', setObj_run hko rfl, Sem.run_pure]
            · rw [dropAt_eq]
              have hlen := he.1
              rw [Array.toList_eraseIdxIfInBounds]
              refine ⟨by rw [List.length_eraseIdx, List.length_eraseIdx, hlen], fun a x y hx hy => ?_⟩
              rw [List.getElem?_eraseIdx] at hx hy
              split at hx
              · rename_i hlt; rw [if_pos hlt] at hy; exact he.2 a x y hx hy
              · rename_i hlt; rw [if_neg hlt] at hy; exact he.2 _ x y hx hy
        · rename_i hlk
          cases h
          obtain ⟨hkk, q1, q2, r', hr', hrel'⟩ := look_ok ok hk he hlk w
          cases r' with
          | some q => cases hrel'
          | none =>
            refine write_of (bi .delete (Builtin.delete_ argTypes ty (args.map r)) hcal (fun _ => rfl)) (v' := .tuple #[]) (w' := w) ?_
              (.tupA ⟨rfl, fun i x y h => by simp at h⟩) (.refl hw) (fun _ _ => rfl)
            rw [ha, hkk]
            rw [hkk] at hr'
            unfold Builtin.delete_
            simp only [ht0]
            have hset : (setObj L.block (.map es' clock)).run X.P w = .ok () w := by
              rw [setObj_run hko rfl, set_same hko]
            simp only [List.getElem?_toArray, List.getElem?_cons_zero, List.getElem?_cons_succ, Sem.run_bind, run_under ok hu, Result.andThen_ok, hgo, checkKey_ok ok q1 q2, hr', hset, Sem.run_pure]
        · cases h
      · cases h
    · rename_i t rest m hcal hty hargs
      have hl := evL_ok hr args.toList _ hargs
      obtain ⟨m', m1, hxm, hmm, hm⟩ := hl.uncons
      have := hm.unnil
      subst this
      have ha : args.map r = #[m'] := by apply Array.ext'; simpa using hxm
      have ht0 : argTypes[0]? = some t := by rw [← Array.getElem?_toList, hty]; rfl
      cases hmm with
      | @map _ L hL =>
      split at h
      · rename_i kt el es clock hu hH
        cases h
        obtain ⟨K, o', hK, hko, hrel⟩ := hw.obj m _ hH
        rw [hL] at hK; cases hK
        obtain ⟨es', rfl, he⟩ := hrel.mapInv
        refine write_of (bi .clear (Builtin.clear_ argTypes ty (args.map r)) hcal (fun _ => rfl)) (v' := .tuple #[]) (w' := { w with heap := w.heap.setIfInBounds L.block (.map #[] clock) }) ?_
          (.tupA ⟨rfl, fun i x y h => by simp at h⟩) (Goes.update hw hH hL rfl rfl rfl (orel_map ⟨rfl, fun i x y h => by simp at h⟩)) (fun _ _ => rfl)
        rw [ha]
        unfold Builtin.clear_
        simp only [ht0]
        simp only [List.getElem?_toArray, List.getElem?_cons_zero, List.getElem?_cons_succ, Sem.run_bind, run_under ok hu, Result.andThen_ok, getObj_run hko rfl, setObj_run hko rfl, Sem.run_pure]
      · cases h
    · cases h
  | _ => simp [evWrite] at h

end
end Go.Ev

namespace Go.Ev
variable [Gho]

theorem vEqs_eq {eq : Value → Value → Bool} (h : ∀ a b, eq a b = true → a = b) : ∀ (x y : List Value), vEqs eq x y = true → x = y
  | [], [], _ => rfl
  | [], _ :: _, e => by simp [vEqs] at e
  | _ :: _, [], e => by simp [vEqs] at e
  | a :: x, b :: y, e => by
    simp only [vEqs, Bool.and_eq_true] at e
    rw [h a b e.1, vEqs_eq h x y e.2]

theorem bytes_eq {x y : ByteArray} (h : eqB x.data.toList y.data.toList = true) : x = y := by
  rw [eqB_eq, beq_iff_eq] at h
  exact ByteArray.ext (Array.ext' h)

theorem addr_eq {a b : Addr} (h1 : Nat.beq a.block b.block = true) (h2 : Nat.beq a.off b.off = true) (h3 : a.spot = b.spot) : a = b := by
  obtain ⟨x, y, z⟩ := a
  obtain ⟨p, q, r⟩ := b
  simp only at *
  rw [Nat.eq_of_beq_eq_true h1, Nat.eq_of_beq_eq_true h2, h3]

theorem vEq_eq : ∀ (d : Nat) (a b : Value), vEq d a b = true → a = b
  | 0, a, b, h => by simp [vEq] at h
  | d + 1, a, b, h => by
    have ih := vEq_eq d
    unfold vEq at h
    split at h
    · rename_i h0; cases h0
    · rw [beq_iff_eq] at h; rw [h]
    · simp only [Bool.and_eq_true, decide_eq_true_eq, intEq_eq, beq_iff_eq] at h; rw [h.1, h.2]
    · simp only [Bool.and_eq_true, decide_eq_true_eq] at h; rw [h.1, Nat.eq_of_beq_eq_true h.2]
    · rw [bytes_eq h]
    · rfl
    · simp only [Bool.and_eq_true, decide_eq_true_eq] at h; rw [addr_eq h.1.1 h.1.2 h.2]
    · simp only [Bool.and_eq_true] at h; rw [Nat.eq_of_beq_eq_true h.1, Nat.eq_of_beq_eq_true h.2]
    · simp only [Bool.and_eq_true, decide_eq_true_eq] at h
      rw [addr_eq h.1.1.1.1 h.1.1.1.2 h.1.1.2, Nat.eq_of_beq_eq_true h.1.2, Nat.eq_of_beq_eq_true h.2]
    · rfl
    · rw [Nat.eq_of_beq_eq_true h]
    · rfl
    · rfl
    · rw [Nat.eq_of_beq_eq_true h]
    · rename_i e _ _ _ _ he
      cases he
      simp only [Bool.and_eq_true] at h; rw [Nat.eq_of_beq_eq_true h.1, ih _ _ h.2]
    · rename_i e _ _ _ _ _ _ he
      cases he
      simp only [Bool.and_eq_true, decide_eq_true_eq] at h; rw [h.1.1, vEqs_eq ih _ _ h.1.2, vEqs_eq ih _ _ h.2]
    · rename_i e _ _ he
      cases he
      rw [vEqs_eq ih _ _ h]
    · rename_i e _ _ he
      cases he
      rw [vEqs_eq ih _ _ h]
    · cases h

theorem bytes_rel {ρ : Rn} : ∀ (l l' : List Value) (s : List UInt8), bytesOf l = some s → LRel ρ l l' → l' = l
  | [], l', s, h, hl => hl.unnil
  | x :: l, l', s, h, hl => by
    obtain ⟨y, c, rfl, h1, h2⟩ := hl.uncons
    unfold bytesOf at h
    split at h
    · rename_i he; cases he
    · rename_i n r he
      cases he
      simp only [Option.map_eq_some_iff] at h
      obtain ⟨s', hs', _⟩ := h
      rw [bytes_rel l c s' hs' h2, closed_eq h1 rfl]
    · cases h

theorem bytes_load {P : Program} {w : World} : ∀ (l : List Value) (s : List UInt8) (a : Addr) (acc : ByteArray), bytesOf l = some s → (∀ (j : Nat) v, l[j]? = some v → w.cell? (a.add j) = some v) →
    (loadBytes a acc l.length).run P w = .ok ⟨⟨acc.data.toList ++ s⟩⟩ w
  | [], s, a, acc, h, _ => by
    simp only [bytesOf] at h; cases h
    simp [loadBytes]
  | x :: l, s, a, acc, h, hc => by
    unfold bytesOf at h
    split at h
    · rename_i he; cases he
    · rename_i n r he
      cases he
      simp only [Option.map_eq_some_iff] at h
      obtain ⟨s', hs', rfl⟩ := h
      have h0 : w.cell? a = some (.int .u8 (.ofNat n)) := by
        have := hc 0 _ rfl
        simpa [Addr.add] using this
      have ih := bytes_load (P := P) l s' (a.add 1) (acc.push (UInt8.ofNat n)) hs' (fun j y hy => by
        have := hc (j + 1) y (by simpa using hy)
        have e : (a.add 1).add j = a.add (j + 1) := by
          unfold Addr.add
          by_cases hj : j = 0
          · subst hj; simp
          · simp [hj]; omega
        rw [e]; exact this)
      simp only [List.length_cons, loadBytes, Sem.run_bind, run_load, h0, Result.andThen]
      rw [show (Int.ofNat n).toNat.toUInt8 = UInt8.ofNat n from rfl, ih]
      congr 1
      apply ByteArray.ext
      simp [ByteArray.push]
    · cases h

section
variable {X : Cx} (ok : X.Ok) {ρ : Rn}
include ok

theorem size_info {t : TypeId} {n : Nat} (h : X.size t = some n) : ∃ i, X.P.info? t = some i ∧ i.size = n := by
  unfold Cx.size at h
  simp only [Option.map_eq_some_iff] at h
  obtain ⟨i, hi, rfl⟩ := h
  exact ⟨i, ok.ty t i hi, rfl⟩

/-- Variables of a block's own element type lie where its elements do. -/
theorem lies_own {e : TypeId} {s : Nat} (hs : X.size e = some s) (hpos : 0 < s) {cells off n : Nat} (hmod : off % s = 0) (hn : off / s + n ≤ cells / s) : liesAt X.P X.P.depth e (cells / X.P.cellsOf e) off e n = true := by
  obtain ⟨i, hi, rfl⟩ := size_info ok hs
  have hc : X.P.cellsOf e = i.size := by simp [Program.cellsOf, hi]
  have hd : X.P.depth = (2 * (X.P.types.size + Made.depth) + 1) + 1 := rfl
  rw [hd]
  simp only [liesAt, Bool.or_eq_true]
  left
  rw [hd]
  have hne : i.size ≠ 0 := by omega
  simp [rowAt, hc, hne, hmod, hn, sameLayout]

theorem evUns_ok {o : Oper} {e : Operand → Option Value} {r : Operand → Value} (hr : OpRel ρ e r) {H : Heap} {w : World} (hw : WRel ρ H w) {v : Value} (h : evUns X e o.op H = some v) : ∃ v', Gives X.P r o w v' ∧ VRel ρ v v' := by
  obtain ⟨dst, op, ty, pos, after, guard⟩ := o
  simp only at h
  cases op with
  | load t x =>
    simp only [evUns] at h
    split at h
    · rename_i a n hx hg hn
      split at h
      · rename_i ob cs hsp hH
        have hv := hr x _ hx
        obtain ⟨a', L, hxe, h1, h2, h3, h4⟩ := hv.unptr
        obtain ⟨K, o', hK, hko, hrel⟩ := hw.obj a.block _ hH
        rw [h1] at hK; cases hK
        have hrel' : o' = ob ∧ L.shift = 0 ∧ ∃ (cs' : Array Value) (el : TypeId) (fz : Nat × Nat), (ob = .cells cs' el fz ∧ cs'.size = cs.length) ∧ ∀ (i : Nat) v, cs[i]? = some v → ∃ v', cs'[i]? = some v' ∧ VRel ρ v v' := by
          cases o' <;> simpa only [ORel] using hrel
        obtain ⟨rfl, hsh, cs', el, fz, ⟨rfl, _⟩, hcs⟩ := hrel'
        obtain ⟨v', hv', hrv⟩ := hcs a.off v h
        have hc : w.cell? a' = some v' := by
          unfold World.cell?
          rw [h2, hko]
          simp [h4, hsp, h3, hsh, hv']
        refine ⟨v', gives_v (s := Instr.loadAt t (r x)) rfl ?_, hrv⟩
        rw [hxe]
        unfold Instr.loadAt loadVar
        simp only [Sem.run_bind, sure_ok, Result.andThen_ok]
        simp [run_agg ok hg, hc]
      · cases h
    · cases h
  | convert s d x =>
    simp only [evUns] at h
    split at h
    · rename_i t a hs hd hx
      split at h
      · rename_i k cs el opn str hsz hH
        cases hb : Nat.blt a.off cs.length with
        | false => rw [hb, cond_false] at h; cases h
        | true =>
          rw [hb, cond_true] at h; cases h
          have hlt : a.off < cs.length := by simpa [Nat.blt_eq] using hb
          have hv := hr x _ hx
          obtain ⟨a', L, hxe, h1, h2, h3, h4⟩ := hv.unptr
          obtain ⟨K, o', hK, hko, hrel⟩ := hw.obj a.block _ hH
          rw [h1] at hK; cases hK
          obtain ⟨cs', fz, rfl, _, hcell, _⟩ := hrel.cellsInv
          obtain ⟨i, hi, hsi⟩ := size_info ok hsz
          have hsh : w.shape? a'.block = some (el, cs'.size) := by
            unfold World.shape?
            rw [h2, hko]
          have hoff : a'.off < cs'.size := by
            obtain ⟨q, hq, _⟩ := hcell a.off cs[a.off] (List.getElem?_eq_getElem hlt)
            rw [h3]; exact (Array.getElem?_eq_some_iff.1 hq).1
          refine ⟨.pointer (some a'), gives_v (s := Go.convert s d (r x)) rfl ?_, .ptr h1 h2 h3 h4⟩
          rw [hxe]
          exact Lib.run_to_unsafe w a' (under_ok ok hs) (under_ok ok hd) hi (by omega) hsh hoff
      · cases h
    · rename_i u a hs hd hx
      split at h
      · rename_i k cs el str hsz hH
        cases hb : (Nat.beq el u && Nat.beq (a.off % (k + 1)) 0 && Nat.ble (a.off + (k + 1)) cs.length) with
        | false => rw [hb, cond_false] at h; cases h
        | true =>
          rw [hb, cond_true] at h; cases h
          simp only [Bool.and_eq_true] at hb
          have he := Nat.eq_of_beq_eq_true hb.1.1
          have hm := Nat.eq_of_beq_eq_true hb.1.2
          have hle := Nat.le_of_ble_eq_true hb.2
          subst he
          have hv := hr x _ hx
          obtain ⟨a', L, hxe, h1, h2, h3, h4⟩ := hv.unptr
          obtain ⟨K, o', hK, hko, hrel⟩ := hw.obj a.block _ hH
          rw [h1] at hK; cases hK
          obtain ⟨cs', fz, rfl, _, hcell, _, _, _, hsh0⟩ := hrel.cellsInv
          have hL0 := hsh0 rfl
          obtain ⟨i, hi, hsi⟩ := size_info ok hsz
          have hsh : w.shape? a'.block = some (el, cs'.size) := by
            unfold World.shape?
            rw [h2, hko]
          have hoff : a'.off = a.off := by rw [h3, hL0]; rfl
          have hcs : a.off + (k + 1) ≤ cs'.size := by
            have hlt : a.off + k < cs.length := by omega
            obtain ⟨q, hq, _⟩ := hcell (a.off + k) cs[a.off + k] (List.getElem?_eq_getElem hlt)
            have := (Array.getElem?_eq_some_iff.1 hq).1
            rw [hL0] at this
            omega
          have hdiv : a'.off / (k + 1) + 1 ≤ cs'.size / (k + 1) := by
            rw [hoff, ← Nat.add_div_right _ (by omega)]
            exact Nat.div_le_div_right hcs
          refine ⟨.pointer (some a'), gives_v (s := Go.convert s d (r x)) rfl ?_, .ptr h1 h2 h3 h4⟩
          rw [hxe]
          exact Lib.run_from_unsafe w a' (under_ok ok hs) (under_ok ok hd) hi hsh (lies_own ok hsz (by omega) (by rw [hoff]; exact hm) hdiv)
      · cases h
    · cases h
  | call c =>
    obtain ⟨callee, args, argTypes⟩ := c
    simp only [evUns] at h
    have bi : ∀ (s : Sem Value) (v' : Value), callee = .builtin .unsafeSliceData → (∀ cs, builtin .unsafeSliceData argTypes ty cs (args.map r) = (do pure (.value (← s)))) → s.run X.P w = .ok v' w →
        Gives X.P r ⟨dst, .call ⟨callee, args, argTypes⟩, ty, pos, after, guard⟩ w v' := by
      intro s v' hcal hbi hs
      subst hcal
      unfold Gives execOp resolve
      simp [invoke, hbi, hs]
    split at h
    · rename_i ln cp hargs
      cases h
      have hl := evL_ok hr args.toList _ hargs
      obtain ⟨x', m, hxm, hx, hm⟩ := hl.uncons
      have hm' := hm.unnil
      subst hm'
      have ha : args.map r = #[x'] := by apply Array.ext'; simpa using hxm
      cases hx with
      | sliceNil =>
      exact ⟨.pointer none, bi (Builtin.unsafeSliceData_ argTypes ty (args.map r)) _ rfl (fun _ => rfl) (by rw [ha]; rfl), .ptrNil⟩
    · rename_i a ln cp hargs
      cases h
      have hl := evL_ok hr args.toList _ hargs
      obtain ⟨x', m, hxm, hx, hm⟩ := hl.uncons
      have hm' := hm.unnil
      subst hm'
      have ha : args.map r = #[x'] := by apply Array.ext'; simpa using hxm
      cases hx with
      | @slice _ a' _ _ cap' L h1 h2 h3 h3' h4 =>
      have hcap : cap' ≠ 0 ∧ a'.off = a.off + L.shift := by
        unfold SlRel at h4
        split at h4
        · omega
        · exact ⟨by omega, h4.2.2 (by omega)⟩
      exact ⟨.pointer (some a'), bi (Builtin.unsafeSliceData_ argTypes ty (args.map r)) _ rfl (fun _ => rfl) (by rw [ha]; exact Lib.run_unsafeSliceData_row w _ _ _ _ _ hcap.1), .ptr h1 h2 hcap.2 (h3'.trans h3.symm)⟩
    · cases h
  | _ => simp [evUns] at h

omit ok in
theorem findO_ok {op : BinOp} {t : TypeId} {a b : Value} {c : Bool} : ∀ (l : List Orc), findO op t a b l = some c → ∃ en ∈ l, en.op = op ∧ en.t = t ∧ en.a = a ∧ en.b = b ∧ en.r = c
  | [], h => by cases h
  | x :: l, h => by
    unfold findO at h
    cases hb : (decide (x.op = op) && Nat.beq x.t t && vEq 2 x.a a && vEq 2 x.b b) with
    | true =>
      rw [hb, cond_true] at h; cases h
      simp only [Bool.and_eq_true, decide_eq_true_eq] at hb
      exact ⟨x, by simp, hb.1.1.1, Nat.eq_of_beq_eq_true hb.1.1.2, vEq_eq _ _ _ hb.1.2, vEq_eq _ _ _ hb.2, rfl⟩
    | false =>
      rw [hb, cond_false] at h
      obtain ⟨en, h1, h2⟩ := findO_ok l h
      exact ⟨en, List.mem_cons_of_mem _ h1, h2⟩

omit ok in
theorem findV_ok {k : OpK} {as : List Value} {v : Value} : ∀ (l : List OrV), findV k as l = some v → ∃ en ∈ l, en.k = k ∧ en.as = as ∧ en.r = v
  | [], h => by cases h
  | x :: l, h => by
    unfold findV at h
    cases hb : (decide (x.k = k) && vEqs (vEq 2) x.as as) with
    | true =>
      rw [hb, cond_true] at h; cases h
      simp only [Bool.and_eq_true, decide_eq_true_eq] at hb
      exact ⟨x, by simp, hb.1, vEqs_eq (vEq_eq 2) _ _ hb.2, rfl⟩
    | false =>
      rw [hb, cond_false] at h
      obtain ⟨en, h1, h2⟩ := findV_ok l h
      exact ⟨en, List.mem_cons_of_mem _ h1, h2⟩

theorem evOrc_ok {o : Oper} {e : Operand → Option Value} {r : Operand → Value} (hr : OpRel ρ e r) (hg : GRel X ρ) (w : World) {v : Value} (h : evOrc X e o.op = some v) : ∃ v', Gives X.P r o w v' ∧ VRel ρ v v' := by
  obtain ⟨dst, op, ty, pos, after, guard⟩ := o
  simp only at h
  cases op with
  | binOp op t x y yt =>
    simp only [evOrc] at h
    split at h
    · rename_i a b hx hy
      split at h
      · rename_i c hc
        cases h
        obtain ⟨en, h1, h2, h3, h4, h5, h6⟩ := findO_ok _ hc
        have hh := ok.orc en h1 ρ hg x y (r x) (r y) (by rw [h4]; exact hr x a hx) (by rw [h5]; exact hr y b hy) w
        rw [h2, h3, h6] at hh
        exact ⟨.bool c, gives_v (s := (do eqGuard op t x y (r x) (r y); Go.binOp op t (r x) (r y))) rfl hh, .bool c⟩
      · obtain ⟨en, h1, h2, h3, rfl⟩ := findV_ok _ h
        obtain ⟨v', hv, hrel⟩ := ok.orv en h1 ρ hg [r x, r y] (by rw [h3]; exact .cons (hr x a hx) (.cons (hr y b hy) (.nil ρ))) w
        rw [h2] at hv
        exact ⟨v', gives_v (s := (do eqGuard op t x y (r x) (r y); Go.binOp op t (r x) (r y))) rfl (hv x y), hrel⟩
    · cases h
  | unOp op t x =>
    simp only [evOrc] at h
    split at h
    · rename_i a hx
      obtain ⟨en, h1, h2, h3, rfl⟩ := findV_ok _ h
      obtain ⟨v', hv, hrel⟩ := ok.orv en h1 ρ hg [r x] (by rw [h3]; exact .cons (hr x a hx) (.nil ρ)) w
      rw [h2] at hv
      exact ⟨v', gives_v (s := Op.unary op (r x)) rfl hv, hrel⟩
    · cases h
  | convert s d x =>
    simp only [evOrc] at h
    split at h
    · rename_i a hx
      obtain ⟨en, h1, h2, h3, rfl⟩ := findV_ok _ h
      obtain ⟨v', hv, hrel⟩ := ok.orv en h1 ρ hg [r x] (by rw [h3]; exact .cons (hr x a hx) (.nil ρ)) w
      rw [h2] at hv
      exact ⟨v', gives_v (s := Go.convert s d (r x)) rfl hv, hrel⟩
    · cases h
  | call c =>
    obtain ⟨callee, args, argTypes⟩ := c
    simp only [evOrc] at h
    split at h
    · rename_i hcal
      split at h
      · rename_i t x ht hargs
        obtain ⟨en, h1, h2, h3, rfl⟩ := findV_ok _ h
        have hl := evL_ok hr args.toList _ hargs
        obtain ⟨x', m, hxm, hx, hm⟩ := hl.uncons
        have hm' := hm.unnil
        subst hm'
        have ha : args.map r = #[x'] := by apply Array.ext'; simpa using hxm
        obtain ⟨v', hv, hrel⟩ := ok.orv en h1 ρ hg [x'] (by rw [h3]; exact .cons hx (.nil ρ)) w
        rw [h2] at hv
        refine ⟨v', ?_, hrel⟩
        have hv' := hv argTypes ty ht
        rw [← ha] at hv'
        unfold Gives execOp resolve
        have hbi : ∀ cs, builtin .len argTypes ty cs (args.map r) = (do pure (.value (← Builtin.len_ argTypes ty (args.map r)))) := fun _ => rfl
        simp [invoke, hbi, hv']
      · cases h
    · cases h
  | _ => simp [evOrc] at h

theorem evPureO_ok {o : Oper} {e : Operand → Option Value} {r : Operand → Value} (hr : OpRel ρ e r) (hg : GRel X ρ) (w : World) {v : Value} (h : evPureO X e o.op = some v) : ∃ v', Gives X.P r o w v' ∧ VRel ρ v v' := by
  have go : ∀ p, orR (evPure X e p) (evOrc X e p) = some v → p = o.op → ∃ v', Gives X.P r o w v' ∧ VRel ρ v v' := by
    intro p hp hpo
    subst hpo
    cases hq : evPure X e o.op with
    | some u => rw [hq] at hp; cases hp; exact evPure_ok ok hr hq w
    | none => rw [hq] at hp; exact evOrc_ok ok hr hg w hp
  have go2 : ∀ p, evPure X e p = some v → p = o.op → ∃ v', Gives X.P r o w v' ∧ VRel ρ v v' := by
    intro p hp hpo
    subst hpo
    exact evPure_ok ok hr hp w
  unfold evPureO at h
  split at h
  · rename_i hop; exact go _ h hop.symm
  · rename_i hop; exact go _ h hop.symm
  · rename_i hop; exact go _ h hop.symm
  · exact go2 _ h rfl

theorem evVal_ok {o : Oper} {e : Operand → Option Value} {r : Operand → Value} (hr : OpRel ρ e r) (hg : GRel X ρ) {H : Heap} {w : World} (hw : WRel ρ H w) {v : Value} (h : evVal X e o.op H = some v) : ∃ v', Gives X.P r o w v' ∧ VRel ρ v v' := by
  unfold evVal at h
  split at h
  · rename_i q hq
    cases h
    exact evPure_ok ok hr hq w
  · split at h
    · rename_i q hq
      cases h
      exact evRead_ok ok hr hw hq
    · split at h
      · rename_i q hq
        cases h
        exact evUns_ok ok hr hw hq
      · exact evOrc_ok ok hr hg w h

end
end Go.Ev

namespace Go.Ev
variable [Gho]

/-- A name goes, and its block is what it will be. -/
theorem Goes.free {ρ : Rn} {H : Heap} {w : World} (h : WRel ρ H w) {n : Nat} {L : Loc} {o : AObj} (hn : H.get n = some o) (hL : ρ n = some L) (p' : Obj) : Goes ρ H w ρ (H.put n none) (w.putObj L.block p') := by
  have live : ∀ k q, (H.put n none).get k = some q → k ≠ n ∧ H.get k = some q := by
    intro k q hk
    rcases Tr.get_put hk with ⟨_, hq⟩ | ⟨e, hq⟩
    · cases hq
    · exact ⟨e, hq⟩
  refine ⟨.refl ρ, ⟨?_, ?_, ?_⟩, by simp, rfl, rfl, ?_, ?_, .refl ρ w⟩
  · intro k q hk
    obtain ⟨e, hq⟩ := live k q hk
    obtain ⟨K, q', hK, hb, hr⟩ := h.obj k q hq
    refine ⟨K, q', hK, ?_, hr⟩
    have : K.block ≠ L.block := fun e2 => e (h.inj k q n o K L hq hn hK hL e2)
    rw [World.putObj_heap_other this]; exact hb
  · intro a x b y La Lb ha hb
    exact h.inj a x b y La Lb (live a x ha).2 (live b y hb).2
  · intro m K l b ob hK hl hb
    obtain ⟨h1, h2⟩ := h.ice m K l b ob hK hl hb
    refine ⟨?_, fun m' q K' hm' hK' => h2 m' q K' (live m' q hm').2 hK'⟩
    rw [World.putObj_heap_other (fun e => h2 n o L hn hL e.symm)]
    exact h1
  · intro b hb hno
    rw [World.putObj_heap_other (fun e => hno n o L hn hL e.symm)]
  · intro k q K hk hK
    exact .inr ⟨k, q, K, (live k q hk).2, hK, rfl⟩

theorem freeze_put {w : World} {a : Addr} {n : Nat} {o : Obj} (h : w.heap[a.block]? = some o) : ∃ o', w.freeze a n = w.putObj a.block o' := by
  unfold World.freeze
  by_cases hn : n = 0
  · rw [if_pos hn]
    refine ⟨o, ?_⟩
    unfold World.putObj
    have : w.heap.setIfInBounds a.block o = w.heap := by
      apply Array.ext_getElem?
      intro i
      by_cases e : a.block = i
      · subst e
        rw [Array.getElem?_setIfInBounds_self_of_lt (Array.getElem?_eq_some_iff.1 h).1, h]
      · rw [Array.getElem?_setIfInBounds_ne e]
    rw [this]
  · rw [if_neg hn]
    have gen : ∀ f : Obj → Obj, ({ w with heap := w.heap.modify a.block f } : World) = w.putObj a.block (f o) := by
      intro f
      unfold World.putObj
      congr 1
      apply Array.ext_getElem?
      intro i
      rw [Array.getElem?_modify]
      by_cases e : a.block = i
      · subst e
        rw [if_pos rfl, Array.getElem?_setIfInBounds_self_of_lt (Array.getElem?_eq_some_iff.1 h).1, h]
        rfl
      · rw [if_neg e, Array.getElem?_setIfInBounds_ne e]
    exact ⟨_, gen _⟩

section
variable {X : Cx} (ok : X.Ok) {ρ : Rn}
include ok

omit ok in
theorem bits_all {w : World} {cs l : List Value} {cs' : Array Value} {el : TypeId} {fz : Nat × Nat} {a a' : Addr} {L : Loc} {n : Nat} (hko : w.heap[L.block]? = some (.cells cs' el fz))
    (hcell : ∀ (i : Nat) v, cs[i]? = some v → ∃ v', cs'[i + L.shift]? = some v' ∧ VRel ρ v v') (h : cut cs a.off n = some l) (hn : 0 < n) (hb : a'.block = L.block) (ho : a'.off = a.off + L.shift) (hs : a'.spot = none) :
    ∃ l' : List Value, LRel ρ l l' ∧ l'.length = n ∧ (∀ (j : Nat) q, l'[j]? = some q → w.cell? (a'.add j) = some q) ∧ a'.off + n ≤ cs'.size := by
  obtain ⟨hle, rfl⟩ := cut_ok h
  obtain ⟨q, hq, _⟩ := hcell (a.off + (n - 1)) cs[a.off + (n - 1)] (List.getElem?_eq_getElem (by omega))
  have hsz := (Array.getElem?_eq_some_iff.1 hq).1
  have hlen : ((cs'.toList.drop a'.off).take n).length = n := by simp; omega
  refine ⟨(cs'.toList.drop a'.off).take n, ⟨by rw [hlen]; simp; omega, fun i x y hx hy => ?_⟩, hlen, fun j q hj => ?_, by omega⟩
  · have hin : i < n := by rw [← hlen]; exact (List.getElem?_eq_some_iff.1 hy).1
    rw [List.getElem?_take_of_lt hin, List.getElem?_drop] at hx hy
    obtain ⟨v', h1, h2⟩ := hcell _ _ hx
    rw [Array.getElem?_toList, show a'.off + i = a.off + i + L.shift by omega, h1] at hy
    cases hy
    exact h2
  · have hjn : j < n := by rw [← hlen]; exact (List.getElem?_eq_some_iff.1 hj).1
    rw [List.getElem?_take_of_lt hjn, List.getElem?_drop, Array.getElem?_toList] at hj
    unfold World.cell?
    rw [add_block, hb, hko, add_off]
    have hsp : (a'.add j).spot = none := add_spot hs j
    simp [hsp, hj]

omit ok in
theorem freeze_cells {w : World} {a : Addr} {n : Nat} {c : Array Value} {el : TypeId} {fz : Nat × Nat} (h : w.heap[a.block]? = some (.cells c el fz)) (hn : n ≠ 0) :
    ∃ fz', w.freeze a n = w.putObj a.block (.cells c el fz') ∧ (fz.1 = fz.2 → fz' = (a.off, a.off + n)) := by
  obtain ⟨lo, hi⟩ := fz
  refine ⟨if lo == hi then (a.off, a.off + n) else (min lo a.off, max hi (a.off + n)), ?_, fun e => ?_⟩
  · unfold World.freeze
    rw [if_neg hn]
    unfold World.putObj
    congr 1
    apply Array.ext_getElem?
    intro i
    rw [Array.getElem?_modify]
    by_cases e : a.block = i
    · subst e
      rw [if_pos rfl, Array.getElem?_setIfInBounds_self_of_lt (Array.getElem?_eq_some_iff.1 h).1, h]
      rfl
    · rw [if_neg e, Array.getElem?_setIfInBounds_ne e]
  · simp only at e
    subst e
    simp

omit ok in
theorem bitsAt_ok {H : Heap} {w : World} (hw : WRel ρ H w) {a : Addr} {cs : List Value} {el : TypeId} (h : bitsAt H a = some (cs, el)) {L : Loc} (hL : ρ a.block = some L) :
    a.spot = none ∧ ∃ (o : AObj) (cs' : Array Value) (fz : Nat × Nat), H.get a.block = some o ∧ w.heap[L.block]? = some (.cells cs' el fz) ∧ ∀ (i : Nat) v, cs[i]? = some v → ∃ v', cs'[i + L.shift]? = some v' ∧ VRel ρ v v' := by
  unfold bitsAt at h
  split at h
  · rename_i hs hH
    cases h
    obtain ⟨K, o', hK, hko, hrel⟩ := hw.obj a.block _ hH
    rw [hL] at hK; cases hK
    obtain ⟨cs', fz, rfl, _, hcell, _⟩ := hrel.cellsInv
    exact ⟨hs, _, cs', fz, hH, hko, hcell⟩
  · rename_i hs hH
    cases h
    obtain ⟨K, o', hK, hko, hrel⟩ := hw.obj a.block _ hH
    rw [hL] at hK; cases hK
    cases o' with
    | cells cs' el' fz =>
      simp only [ORel] at hrel
      obtain ⟨rfl, hcell⟩ := hrel
      exact ⟨hs, _, cs', fz, hH, hko, hcell⟩
    | _ => simp only [ORel] at hrel
  · cases h

theorem evStr_ok {o : Oper} {e : Operand → Option Value} {r : Operand → Value} (hr : OpRel ρ e r) {H H' : Heap} {w : World} (hw : WRel ρ H w) {n : Nat} {v : Value} (h : evStr X e o.op H = some (v, H')) :
    WriteSaid X ρ H w o r n v H' := by
  obtain ⟨dst, op, ty, pos, after, guard⟩ := o
  simp only at h
  cases op with
  | convert s d x =>
    simp only [evStr] at h
    cases hsd : Nat.beq s d with
    | false => rw [hsd, cond_false] at h; cases h
    | true =>
      rw [hsd, cond_true] at h
      have := Nat.eq_of_beq_eq_true hsd
      subst this
      split at h
      · rename_i el a l k hu hx
        split at h
        · rename_i cs t hel hsp hH
          cases h
          have hxr := hr x _ hx
          generalize hrx : r x = y at hxr
          cases hxr with
          | @slice _ a' _ _ cap' L h1 h2 h3 h3' h4 =>
            obtain ⟨K, o', hK, hko, hrel⟩ := hw.obj a.block _ hH
            rw [h1] at hK; cases hK
            obtain ⟨cs', fz, rfl, hopn, hcell, hfr, hfo, hst, hsh⟩ := hrel.cellsInv
            have hsh0 := hsh rfl
            have hshp : w.shape? a'.block = some (t, cs'.size) := by
              unfold World.shape?
              rw [h2, hko]
            obtain ⟨fz', hfz, hfe⟩ := freeze_cells (w := w) (a := ⟨a'.block, cs'.size, none⟩) (n := 1) (by show w.heap[a'.block]? = _; rw [h2]; exact hko) (by omega)
            have hfe := hfe (hst rfl)
            refine ⟨ρ, .value (.slice (some a') l cap'), .slice (some a') l cap', w.putObj L.block (.cells cs' t fz'), ?_, .inl rfl, .slice h1 h2 h3 h3' h4, Goes.update hw hH h1 rfl rfl rfl ?_, fun _ _ => rfl⟩
            · show (do pure (Next.value (← Go.convert s s (r x)))).run X.P w = _
              rw [hrx]
              unfold Go.convert
              simp only [Sem.run_bind, run_under ok hu, Result.andThen_ok, run_under ok hel]
              unfold markStringish
              simp only [Sem.run_bind, run_shape, Result.andThen_ok, hshp, beq_self_eq_true, run_freeze, Sem.run_pure, hfz]
              simp [h2]
            · simp only [ORel]
              refine ⟨trivial, by simpa using hopn, hcell, fun i hi => ?_, (fun hh => by cases hh), (fun hh => by cases hh), fun _ => hsh0⟩
              obtain ⟨q, hq, _⟩ := hcell i _ (List.getElem?_eq_getElem hi)
              have := (Array.getElem?_eq_some_iff.1 hq).1
              rw [hfe]
              simp only
              omega
        · cases h
      · cases h
  | call c =>
    obtain ⟨callee, args, argTypes⟩ := c
    simp only [evStr] at h
    have bi : ∀ (s : Sem Value), callee = .builtin .unsafeString → (∀ cs, builtin .unsafeString argTypes ty cs (args.map r) = (do pure (.value (← s)))) →
        execOp r ⟨dst, .call ⟨callee, args, argTypes⟩, ty, pos, after, guard⟩ = (do pure (.value (← s))) := by
      intro s hcal hbi
      subst hcal
      unfold execOp resolve
      simp [invoke, hbi]
    split at h
    · rename_i pt it a k hat hargs
      split at h
      · rename_i el cs el' hpt hH
        split at h
        · rename_i l hl
          split at h
          · rename_i s hsz hby
            cases hb : (Nat.beq el' el && Nat.ble k 4611686018427387904) with
            | false => rw [hb, cond_false] at h; cases h
            | true =>
              rw [hb, cond_true] at h; cases h
              rw [Bool.and_eq_true] at hb
              have he := Nat.eq_of_beq_eq_true hb.1
              have hk := Nat.le_of_ble_eq_true hb.2
              subst he
              have hrl := evL_ok hr args.toList _ hargs
              obtain ⟨x1, m1, hm1, hx1, hmm1⟩ := hrl.uncons
              obtain ⟨x2, m2, rfl, hx2, hmm2⟩ := hmm1.uncons
              have hm2 := hmm2.unnil
              subst hm2
              obtain ⟨a', L, rfl, h1, h2, h3, h4⟩ := hx1.unptr
              have e2 := closed_eq hx2 rfl
              subst e2
              have ha : args.map r = #[.pointer (some a'), .int .i64 (.ofNat (k + 1))] := by apply Array.ext'; simpa using hm1
              have hty : argTypes = #[pt, it] := by apply Array.ext'; simpa using hat
              obtain ⟨hsp, o0, cs', fz, hH0, hko, hcell⟩ := bitsAt_ok hw hH h1
              obtain ⟨l', hl2, hl3, hl4, hle⟩ := bits_all hko hcell hl (by omega) h2 h3 (h4.trans hsp)
              have hll := bytes_rel _ _ _ hby hl2
              subst hll
              have hsh : w.shape? a'.block = some (el', cs'.size) := by
                unfold World.shape?
                rw [h2, hko]
              have hlb := bytes_load (P := X.P) (w := w) l' s a' .empty hby hl4
              rw [hl3] at hlb
              have hlies := lies_own ok hsz (by omega) (cells := cs'.size) (off := a'.off) (n := k + 1) (Nat.mod_one _) (by simpa using hle)
              obtain ⟨fz', hob, _⟩ := freeze_cells (w := w) (a := a') (n := k + 1) (c := cs') (el := el') (fz := fz) (by rw [h2]; exact hko) (by omega)
              have hrun : (Builtin.unsafeString_ #[pt, it] ty #[.pointer (some a'), .int .i64 (.ofNat (k + 1))]).run X.P w = .ok (.string ⟨⟨s⟩⟩) (w.putObj L.block (.cells cs' el' fz')) := by
                have hdef : Builtin.unsafeString_ #[pt, it] ty #[.pointer (some a'), .int .i64 (.ofNat (k + 1))] =
                    (do
                      let n ← asInt (.int .i64 (.ofNat (k + 1)))
                      if n < 0 then runtimePanic (.error "unsafe.String: len out of range")
                      if n > IntKind.i64.max then unsupported (.unsafePointer "String: a length above the largest int")
                      if n = 0 then pure (.string .empty)
                      else if ← variablesAt a' (← elemOf pt) n.toNat then do
                        let s ← loadBytes a' .empty n.toNat
                        freeze a' n.toNat
                        pure (.string s)
                      else unsupported (.unsafePointer "String: not so many bytes at ptr")) := rfl
                rw [hdef]
                have hmax : IntKind.i64.max = 9223372036854775807 := rfl
                have c1 : ¬ (Int.ofNat (k + 1) < 0) := by simp only [Int.ofNat_eq_natCast]; omega
                have c2 : ¬ (Int.ofNat (k + 1) > IntKind.i64.max) := by rw [hmax]; simp only [Int.ofNat_eq_natCast]; omega
                have c3 : ¬ (Int.ofNat (k + 1) = 0) := by simp only [Int.ofNat_eq_natCast]; omega
                have c4 : (Int.ofNat (k + 1)).toNat = k + 1 := rfl
                rw [h2] at hob
                simp only [asInt, asIntOf, pure_bind, Sem.run_bind, Sem.run_pure, Result.andThen_ok, if_neg c1, if_neg c2, if_neg c3, c4]
                simp [variablesAt, hsh, elemOf, run_underlying (under_ok ok hpt), hlies, hlb, hob]
              refine ⟨ρ, .value (.string ⟨⟨s⟩⟩), .string ⟨⟨s⟩⟩, w.putObj L.block (.cells cs' el' fz'), ?_, .inl rfl, .string _, Goes.update hw hH0 h1 rfl rfl rfl (by simp only [ORel]; exact ⟨trivial, hcell⟩), fun _ _ => rfl⟩
              rw [bi (Builtin.unsafeString_ argTypes ty (args.map r)) rfl (fun _ => rfl), ha, hty]
              simp only [Sem.run_bind, hrun, Result.andThen_ok, Sem.run_pure]
          · cases h
        · cases h
      · cases h
    · rename_i pt it p hat hargs
      cases h
      have hrl := evL_ok hr args.toList _ hargs
      obtain ⟨x1, m1, hm1, hx1, hmm1⟩ := hrl.uncons
      obtain ⟨x2, m2, rfl, hx2, hmm2⟩ := hmm1.uncons
      have hm2 := hmm2.unnil
      subst hm2
      have e2 := closed_eq hx2 rfl
      subst e2
      have hty : argTypes = #[pt, it] := by apply Array.ext'; simpa using hat
      obtain ⟨p', rfl⟩ : ∃ p', x1 = .pointer p' := by
        cases hx1 with
        | ptrNil => exact ⟨_, rfl⟩
        | ptr _ _ _ _ => exact ⟨_, rfl⟩
      have ha : args.map r = #[.pointer p', .int .i64 (.ofNat 0)] := by apply Array.ext'; simpa using hm1
      refine ⟨ρ, .value (.string .empty), .string .empty, w, ?_, .inl rfl, .string _, .refl hw, fun _ _ => rfl⟩
      rw [bi (Builtin.unsafeString_ argTypes ty (args.map r)) rfl (fun _ => rfl), ha, hty]
      have := Lib.run_unsafeString_none (P := X.P) w pt it ty p'
      simp only [Sem.run_bind]
      rw [show Value.int IntKind.i64 (Int.ofNat 0) = Value.int .i64 0 from rfl, this]
      rfl
    · cases h
  | _ => simp [evStr] at h

theorem evWr_ok {o : Oper} {e : Operand → Option Value} {r : Operand → Value} (hr : OpRel ρ e r) {H H' : Heap} {w : World} (hw : WRel ρ H w) {n : Nat} (hno : ρ n = none) {v : Value} (h : evWr X e o.op n H = some (v, H')) :
    WriteSaid X ρ H w o r n v H' := by
  unfold evWr at h
  split at h
  · rename_i q hq
    cases h
    exact evWrite_ok ok hr hw hno hq
  · exact evStr_ok ok hr hw h

end

/-- internal/abi.NoEscape hands over what it is given. -/
theorem noEscape_find {g : Func} (h : g.name = "internal/abi.NoEscape") : Extern.find g = some Extern.AbiNoEscape.same := by
  unfold Extern.find
  simp only [h]
  have h1 : Extern.allGenericRows.lookup "internal/abi.NoEscape" = none := by kernel_rfl
  have h2 : Extern.allTypedRows.lookup "internal/abi.NoEscape" = none := by kernel_rfl
  have h3 : Extern.allRows.lookup "internal/abi.NoEscape" = some Extern.AbiNoEscape.same := by kernel_rfl
  rw [h1, h2, h3]
  rfl

theorem ext_find {n : String} {e : Array Value → Sem Value} (h1 : Extern.allGenericRows.lookup n = none) (h2 : Extern.allTypedRows.lookup n = none) (h3 : Extern.allRows.lookup n = some e) {g : Func} (h : g.name = n) : Extern.find g = some e := by
  unfold Extern.find
  simp only [h]
  rw [h1, h2, h3]
  rfl
theorem find_storeI {g : Func} (h : g.name = "sync/atomic.StoreInt64") : Extern.find g = some Extern.Atomic.storeT := ext_find (by kernel_rfl) (by kernel_rfl) (by kernel_rfl) h
theorem find_storeU {g : Func} (h : g.name = "sync/atomic.StoreUint32") : Extern.find g = some Extern.Atomic.storeT := ext_find (by kernel_rfl) (by kernel_rfl) (by kernel_rfl) h
theorem find_loadI {g : Func} (h : g.name = "sync/atomic.LoadInt64") : Extern.find g = some (Extern.Atomic.loadT (.int .i64)) := ext_find (by kernel_rfl) (by kernel_rfl) (by kernel_rfl) h
theorem find_loadU {g : Func} (h : g.name = "sync/atomic.LoadUint32") : Extern.find g = some (Extern.Atomic.loadT (.int .u32)) := ext_find (by kernel_rfl) (by kernel_rfl) (by kernel_rfl) h

theorem store_mode {P : Program} {w : World} {a : Addr} {v u : Value} (hc : w.cell? a = some u) : (store a v .atomic).run P w = (store a v .plain).run P w := by
  unfold store
  cases v <;> simp only [Sem.run, hc]

theorem storeX_ok {X : Cx} {ρ : Rn} {H H' : Heap} {w : World} (hw : WRel ρ H w) {args args' : List Value} {v : Value} (h : evStoreX args H = some (v, H')) (hl : LRel ρ args args') :
    ∃ w', (Extern.Atomic.storeT args'.toArray).run X.P w = .ok undef w' ∧ v = undefA ∧ Goes ρ H w ρ H' w' := by
  unfold evStoreX at h
  split at h
  · rename_i a x
    simp only [Option.map_eq_some_iff] at h
    obtain ⟨H2, hs, he⟩ := h
    cases he
    obtain ⟨pa, m, rfl, hp, hm⟩ := hl.uncons
    obtain ⟨x', m2, rfl, hx, hm2⟩ := hm.uncons
    have := hm2.unnil; subst this
    obtain ⟨a', L, rfl, h1, h2, h3, h4⟩ := hp.unptr
    obtain ⟨w', hrun, hgo⟩ := storeA_ok (X := X) hw hs (.cons hx (.nil ρ)) h1 h2 h3 h4
    refine ⟨w', ?_, rfl, hgo⟩
    have hcell : ∃ u, w.cell? a' = some u := by
      unfold storeA at hs
      split at hs
      · rename_i cs el opn str hsp hH
        cases hc : (Nat.ble (a.off + [x].length) cs.length && [x].all one) with
        | false => rw [hc, cond_false] at hs; cases hs
        | true =>
          rw [Bool.and_eq_true] at hc
          have hle := Nat.le_of_ble_eq_true hc.1
          simp only [List.length_cons, List.length_nil] at hle
          obtain ⟨u, hu, _⟩ := cell_of hw hH h1 (List.getElem?_eq_getElem (show a.off < cs.length by omega)) h2 h3 (h4.trans hsp)
          exact ⟨u, hu⟩
      · cases hs
    obtain ⟨u, hu⟩ := hcell
    have h0 : (store a' x' .plain).run X.P w = .ok () w' := by
      have h00 : a'.add 0 = a' := by simp [Addr.add]
      unfold storeCells at hrun
      simp only [h00, Sem.run_bind] at hrun
      unfold storeCells at hrun
      cases hr : (store a' x' .plain).run X.P w with
      | ok y w2 => rw [hr] at hrun; simpa using hrun
      | _ => rw [hr] at hrun; simp at hrun
    show (do store (← asAddr (.pointer (some a'))) x' .atomic; pure Extern.Atomic.none_ : Sem Value).run X.P w = _
    simp only [Sem.run_bind, asAddr, Sem.run_pure, Result.andThen_ok, store_mode hu, h0]
    rfl
  · cases h

theorem loadX_ok {X : Cx} {ρ : Rn} {H : Heap} {w : World} (hw : WRel ρ H w) {k : IntKind} {args args' : List Value} {v : Value} (h : evLoadX k args H = some v) (hl : LRel ρ args args') :
    (Extern.Atomic.loadT (.int k) args'.toArray).run X.P w = .ok v w ∧ VRel ρ v v := by
  unfold evLoadX at h
  split at h
  · rename_i a
    obtain ⟨pa, m, rfl, hp, hm⟩ := hl.uncons
    have := hm.unnil; subst this
    obtain ⟨a', L, rfl, h1, h2, h3, h4⟩ := hp.unptr
    split at h
    · rename_i cs el opn str hsp hH
      split at h
      · rename_i j n hc
        cases hd : decide (j = k) with
        | false => rw [hd, cond_false] at h; cases h
        | true =>
          rw [hd, cond_true] at h; cases h
          have := of_decide_eq_true hd; subst this
          obtain ⟨u, hu, hr⟩ := cell_of hw hH h1 hc h2 h3 (h4.trans hsp)
          have := hr.unint; subst this
          refine ⟨?_, .int _ _⟩
          show (do Extern.Atomic.read (.int j) (← asAddr (.pointer (some a'))) : Sem Value).run X.P w = _
          unfold Extern.Atomic.read load
          simp only [Sem.run_bind, asAddr, Sem.run_pure, Result.andThen_ok]
          simp [Sem.run, hu]
      · cases h
    · cases h
  · cases h
end Go.Ev
