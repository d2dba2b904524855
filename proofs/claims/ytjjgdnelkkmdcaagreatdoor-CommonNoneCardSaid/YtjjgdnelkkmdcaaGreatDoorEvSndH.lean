/-
  Operations that look at memory: what the evaluator says of them is true of the model.
-/
import Derived.Test.YtjjgdnelkkmdcaaGreatDoorEvSndG
set_option linter.all false
namespace Go.Ev

theorem ORel.cellsInv {ρ : Rn} {L : Loc} {cs : List Value} {el : TypeId} {opn : Option Nat} {str : Bool} {o' : Obj} (h : ORel ρ L (.cells cs el opn str) o') :
    ∃ cs' fz, o' = .cells cs' el fz ∧ L.opn = opn.map (fun e => (e, cs'.size)) ∧ (∀ (i : Nat) v, cs[i]? = some v → ∃ v', cs'[i + L.shift]? = some v' ∧ VRel ρ v v') ∧
      (∀ i, i < cs.length → ¬ (fz.1 ≤ i + L.shift ∧ i + L.shift < fz.2)) ∧ (opn.isSome = true → ∀ i, i < cs'.size → ¬ (fz.1 ≤ i ∧ i < fz.2)) ∧ (str = false → ∀ i, ¬ (fz.1 ≤ i ∧ i < fz.2)) ∧ (opn = none → L.shift = 0) := by
  cases o' with
  | cells cs' el' fz =>
    simp only [ORel] at h
    obtain ⟨rfl, h⟩ := h
    exact ⟨cs', fz, rfl, h⟩
  | _ => simp [ORel] at h
theorem ORel.mapInv {ρ : Rn} {L : Loc} {es : List MapEntry} {clock : Nat} {o' : Obj} (h : ORel ρ L (.map es clock) o') :
    ∃ es', o' = .map es' clock ∧ ERel ρ es es'.toList := by
  cases o' with
  | map es' clock' =>
    simp only [ORel] at h
    obtain ⟨rfl, h1, h2⟩ := h
    exact ⟨es', rfl, by simpa using h1, fun i e e' he he' => h2 i e e' he (by simpa using he')⟩
  | _ => simp [ORel] at h

theorem bytesOf_run {P : Program} {ρ : Rn} (w : World) (f : Value → ByteArray → Sem (ForInStep ByteArray)) (hf : ∀ n s, f (.int .u8 n) s = pure (ForInStep.yield (s.push (UInt8.ofNat n.toNat)))) :
    ∀ (l : List Value) (l' : List Value) (s : List UInt8) (acc : ByteArray), bytesOf l = some s → LRel ρ l l' → (forIn l' acc f).run P w = .ok ⟨⟨acc.data.toList ++ s⟩⟩ w
  | [], l', s, acc, h, hl => by
    simp only [bytesOf] at h; cases h
    rw [hl.unnil]
    simp
  | v :: l, l', s, acc, h, hl => by
    obtain ⟨v', m, rfl, hv, hm⟩ := hl.uncons
    unfold bytesOf at h
    split at h
    · rename_i he; cases he
    · rename_i n r he
      cases he
      simp only [Option.map_eq_some_iff] at h
      obtain ⟨t, ht, rfl⟩ := h
      have := hv.unint; subst this
      rw [List.forIn_cons, hf]
      simp only [pure_bind]
      rw [bytesOf_run w f hf l m t _ ht hm]
      congr 1
      simp [ByteArray.push]
    · cases h

theorem ite_block (c : Prop) [Decidable c] (a : Addr) (n : Nat) : (if c then a else a.add n).block = a.block := by
  by_cases h : c
  · rw [if_pos h]
  · rw [if_neg h, add_block]
theorem ite_spot (c : Prop) [Decidable c] {a : Addr} (ha : a.spot = none) (n : Nat) : (if c then a else a.add n).spot = none := by
  by_cases h : c
  · rw [if_pos h]; exact ha
  · rw [if_neg h]; exact add_spot ha n

section
variable {X : Cx} (ok : X.Ok) {ρ : Rn}
include ok

theorem loadAt_ok {H : Heap} {w : World} (hw : WRel ρ H w) {t : TypeId} {a : Addr} {v va : Value} (hva : VRel ρ (.pointer (some a)) va)
    (h : (match X.isAgg t, X.size t with
      | some true, some n => (cellsAt H a n).map fun l => Value.agg ⟨l⟩
      | some false, some _ => match a.spot, H.get a.block with
        | none, some (.cells cs _ _ _) => cs[a.off]?
        | _, _ => none
      | _, _ => none) = some v) : ∃ v', (Instr.loadAt t va).run X.P w = .ok v' w ∧ VRel ρ v v' := by
  obtain ⟨a', L, rfl, h1, h2, h3, h4⟩ := hva.unptr
  unfold Instr.loadAt loadVar
  simp only [Sem.run_bind, sure_ok, Result.andThen_ok]
  split at h
  · rename_i n hg hn
    simp only [Option.map_eq_some_iff] at h
    obtain ⟨l, hl, rfl⟩ := h
    obtain ⟨l', hr, hrel, _⟩ := cellsAt_ok (X := X) hw hl h1 h2 h3 h4
    exact ⟨.agg l'.toArray, by simp [run_agg ok hg, run_size ok hn, hr], .aggA hrel.arr⟩
  · rename_i n hg hn
    split at h
    · rename_i cs el opn str hsp hH
      obtain ⟨v', hc, hrel⟩ := cell_of hw hH h1 h h2 h3 (h4.trans hsp)
      exact ⟨v', by simp [run_agg ok hg, hc], hrel⟩
    · cases h
  · cases h

theorem evRead_ok {o : Oper} {e : Operand → Option Value} {r : Operand → Value} (hr : OpRel ρ e r) {H : Heap} {w : World} (hw : WRel ρ H w) {v : Value} (h : evRead X e o.op H = some v) :
    ∃ v', Gives X.P r o w v' ∧ VRel ρ v v' := by
  obtain ⟨dst, op, ty, pos, after, guard⟩ := o
  simp only at h
  cases op with
  | load t x =>
    simp only [evRead] at h
    split at h
    · rename_i a n hx hg hn
      obtain ⟨v', hv, hrel⟩ := loadAt_ok ok hw (hr x _ hx) (t := t) (v := v) (by rw [hg, hn]; exact h)
      exact ⟨v', gives_v (s := Instr.loadAt t (r x)) rfl hv, hrel⟩
    · rename_i a n hx hg hn
      obtain ⟨v', hv, hrel⟩ := loadAt_ok ok hw (hr x _ hx) (t := t) (v := v) (by rw [hg, hn]; exact h)
      exact ⟨v', gives_v (s := Instr.loadAt t (r x)) rfl hv, hrel⟩
    · cases h
  | slice t x lo hi mx =>
    simp only [evRead] at h
    split at h
    · rename_i el len cap hu hx
      split at h
      · rename_i s l hh m hs hb
        cases h
        have hxr := hr x _ hx
        generalize hrx : r x = y at hxr
        cases hxr with
        | sliceNil _ _ =>
        obtain ⟨hrun, hle, _, _, hmx, _⟩ := boundsA_ok (X := X) hr hb (Nat.le_refl _) (fun _ => rfl) true w
        have hm : (if mx.isSome = true then m else cap) = m := by
          cases mx with
          | none => simp [hmx rfl]
          | some _ => simp
        rw [hm] at hrun
        refine ⟨.slice none (hh - l) (m - l), gives_v (s := Instr.sliceAt t (r x) (lo.map r) (hi.map r) (mx.map r)) rfl ?_, .sliceNil _ _⟩
        rw [hrx]
        unfold Instr.sliceAt Instr.slice
        simp [run_under ok hu, hrun, run_size ok hs]
      · cases h
    · rename_i el a len cap hu hx
      split at h
      · rename_i s cs el' opn str l hh m hs hH hb
        cases hc : (opnOk opn s mx && Nat.ble hh m) with
        | false => rw [hc, cond_false] at h; cases h
        | true =>
          rw [hc, cond_true] at h
          cases h
          rw [Bool.and_eq_true] at hc
          have hhm := Nat.le_of_ble_eq_true hc.2
          have hxr := hr x _ hx
          generalize hrx : r x = y at hxr
          cases hxr with
          | @slice _ a' _ _ cap' L h1 h2 h3 h3' h4 =>
          obtain ⟨K, o', hK, hk, hrel⟩ := hw.obj a.block _ hH
          rw [h1] at hK; cases hK
          obtain ⟨cs', fz, rfl, hopn, _⟩ := hrel.cellsInv
          have hcap : cap ≤ cap' ∧ (mx.isSome = true → cap' = cap) := by
            unfold SlRel at h4
            cases opn with
            | none => rw [hopn] at h4; simp at h4; exact ⟨by omega, fun _ => h4.2⟩
            | some z =>
              rw [hopn] at h4; simp at h4
              refine ⟨h4.1, fun hm => ?_⟩
              have := hc.1
              cases mx <;> simp [opnOk] at hm this
          obtain ⟨hrun, hle, _, _, hmx, hmc⟩ := boundsA_ok (X := X) hr hb hcap.1 hcap.2 true w
          refine ⟨.slice (some (if (if mx.isSome = true then m else cap') = l then a' else a'.add (l * s))) (hh - l) ((if mx.isSome = true then m else cap') - l),
            gives_v (s := Instr.sliceAt t (r x) (lo.map r) (hi.map r) (mx.map r)) rfl ?_, ?_⟩
          · rw [hrx]
            unfold Instr.sliceAt Instr.slice
            simp only [Sem.run_bind, run_under ok hu, Result.andThen_ok, hrun, run_size ok hs, Sem.run_pure]
            by_cases e : (if mx.isSome = true then m else cap') = l
            · simp [e]
            · simp [e]
          · have blk : (bif Nat.beq m l then a else addrAdd a (l * s)).block = a.block := by
              cases Nat.beq m l <;> simp [addrAdd_eq, add_block]
            have spt : (bif Nat.beq m l then a else addrAdd a (l * s)).spot = none := by
              cases Nat.beq m l
              · rw [cond_false, addrAdd_eq]; exact add_spot h3 _
              · exact h3
            refine .slice (L := L) (by rw [blk]; exact h1) ?_ spt ?_ ?_
            · rw [ite_block]; exact h2
            · exact ite_spot _ h3' _
            · unfold SlRel at h4 ⊢
              cases opn with
              | none =>
                rw [hopn] at h4 ⊢
                simp only [Option.map_none] at h4 ⊢
                obtain ⟨ho, rfl⟩ := h4
                have hmm : (if mx.isSome = true then m else cap') = m := by
                  cases mx with
                  | none => simp [hmx rfl]
                  | some _ => simp
                rw [hmm]
                refine ⟨?_, rfl⟩
                by_cases e : m = l
                · rw [if_pos e, Tr.beq_true' e, cond_true]; exact ho
                · rw [if_neg e, Tr.beq_false' e, cond_false, addrAdd_eq, add_off, add_off, ho]; omega
              | some z =>
                rw [hopn] at h4 ⊢
                simp only [Option.map_some] at h4 ⊢
                have hz := hc.1
                simp only [opnOk, Bool.and_eq_true] at hz
                have hzs := Nat.eq_of_beq_eq_true hz.1
                have hmn : mx = none := by cases mx <;> simp at hz ⊢
                subst hmn
                subst hzs
                have hmcap := hmx rfl
                subst hmcap
                simp only [Option.isSome_none, Bool.false_eq_true, if_false]
                obtain ⟨q1, q2, q3⟩ := h4
                refine ⟨by omega, ?_, ?_⟩
                · by_cases e : cap' = l
                  · rw [if_pos e]
                    have : a'.off ≤ cs'.size := Nat.le_trans (Nat.le_add_right _ _) q2
                    rw [e, Nat.sub_self, Nat.zero_mul]; omega
                  · rw [if_neg e, add_off]
                    have hl : l ≤ cap' := by omega
                    have e1 : l * z + (cap' - l) * z = cap' * z := by rw [← Nat.add_mul]; congr 1; omega
                    omega
                · intro hpos
                  have hml : ¬ m = l := by omega
                  have hcl : ¬ cap' = l := by omega
                  rw [if_neg hcl, Tr.beq_false' hml, cond_false, addrAdd_eq, add_off, add_off, q3 (by omega)]; omega
      · cases h
    · rename_i n el a hu hx
      split at h
      · rename_i s cs el' str l hh m hsp hs hH hb
        cases h
        obtain ⟨a', L, he, h1, h2, h3, h4⟩ := (hr x _ hx).unptr
        obtain ⟨K, o', hK, hk, hrel⟩ := hw.obj a.block _ hH
        rw [h1] at hK; cases hK
        obtain ⟨cs', fz, rfl, hopn, _⟩ := hrel.cellsInv
        obtain ⟨hrun, hle, _, _, hmx, hmc⟩ := boundsA_ok (X := X) hr hb (Nat.le_refl _) (fun _ => rfl) false w
        have hmm : (if mx.isSome = true then m else n) = m := by
          cases mx with
          | none => simp [hmx rfl]
          | some _ => simp
        rw [hmm] at hrun
        refine ⟨.slice (some (if m = l then a' else a'.add (l * s))) (hh - l) (m - l), gives_v (s := Instr.sliceAt t (r x) (lo.map r) (hi.map r) (mx.map r)) rfl ?_, ?_⟩
        · rw [he]
          unfold Instr.sliceAt
          simp only [Sem.run_bind, run_under ok hu, Result.andThen_ok, sure_ok, hrun, run_size ok hs, Sem.run_pure]
        · have blk : (bif Nat.beq m l then a else addrAdd a (l * s)).block = a.block := by
            cases Nat.beq m l <;> simp [addrAdd_eq, add_block]
          have spt : (bif Nat.beq m l then a else addrAdd a (l * s)).spot = none := by
            cases Nat.beq m l
            · rw [cond_false, addrAdd_eq]; exact add_spot hsp _
            · exact hsp
          refine .slice (L := L) (by rw [blk]; exact h1) ?_ spt ?_ ?_
          · rw [ite_block]; exact h2
          · exact ite_spot _ (h4.trans hsp) _
          · unfold SlRel
            rw [hopn]
            simp only [Option.map_none]
            refine ⟨?_, trivial⟩
            by_cases e : m = l
            · rw [if_pos e, Tr.beq_true' e, cond_true]; exact h3
            · rw [if_neg e, Tr.beq_false' e, cond_false, addrAdd_eq, add_off, add_off, h3]; omega
      · cases h
    · cases h
  | lookup t x k cok =>
    simp only [evRead] at h
    have pair : ∀ (u u' : Value), VRel ρ u u' → ∀ b, VRel ρ (bif cok then .tuple #[u, .bool b] else u) (if cok then .tuple #[u', .bool b] else u') := by
      intro u u' hu b
      cases cok with
      | true => exact .tupA (LRel.arr (.cons hu (.cons (.bool b) (.nil ρ))))
      | false => exact hu
    split at h
    · rename_i kt el k' hu hx hk
      have hxr := hr x _ hx
      generalize hrx : r x = y at hxr
      cases hxr with
      | mapNil =>
      cases hc : (X.keyTy kt && X.keyFits kt k') with
      | false => rw [hc, cond_false] at h; cases h
      | true =>
        rw [hc, cond_true] at h
        rw [Bool.and_eq_true] at hc
        simp only [Option.map_eq_some_iff] at h
        obtain ⟨z, hz, rfl⟩ := h
        obtain ⟨hzr, hzz⟩ := zeroV_ok (ρ := ρ) ok hz w
        have hl : X.look kt k' [] = some none := by
          unfold Cx.look
          rw [hc.1, hc.2]; rfl
        obtain ⟨hkk, _, _, r', hr', hrel⟩ := look_ok ok (hr k _ hk) (es := []) (es' := []) ⟨rfl, fun i e e' h => by simp at h⟩ hl w
        cases r' with
        | some q => cases hrel
        | none =>
          refine ⟨_, gives_v (s := Instr.lookup t (r x) (r k) cok) rfl ?_, pair z z hzz false⟩
          rw [hrx, hkk]
          unfold Instr.lookup
          rw [hkk] at hr'
          simp [run_under ok hu, checkKey_ok ok hc.1 hc.2, hr', hzr]
    · rename_i kt el m k' hu hx hk
      have hxr := hr x _ hx
      generalize hrx : r x = y at hxr
      cases hxr with
      | @map _ L hL =>
      split at h
      · rename_i es clock hH
        obtain ⟨K, o', hK, hko, hrel⟩ := hw.obj m _ hH
        rw [hL] at hK; cases hK
        obtain ⟨es', rfl, he⟩ := hrel.mapInv
        split at h
        · rename_i i v' hl
          cases h
          obtain ⟨hkk, q1, q2, r', hr', hrel'⟩ := look_ok ok (hr k _ hk) he hl w
          cases r' with
          | none => cases hrel'
          | some q =>
            obtain ⟨j, u⟩ := q
            obtain ⟨rfl, hv⟩ := hrel'
            refine ⟨_, gives_v (s := Instr.lookup t (r x) (r k) cok) rfl ?_, pair v' u hv true⟩
            rw [hrx, hkk]
            rw [hkk] at hr'
            unfold Instr.lookup
            simp [run_under ok hu, getObj, Sem.run, hko, checkKey_ok ok q1 q2, hr']
        · rename_i hl
          simp only [Option.map_eq_some_iff] at h
          obtain ⟨z, hz, rfl⟩ := h
          obtain ⟨hzr, hzz⟩ := zeroV_ok (ρ := ρ) ok hz w
          obtain ⟨hkk, q1, q2, r', hr', hrel'⟩ := look_ok ok (hr k _ hk) he hl w
          cases r' with
          | some q => cases hrel'
          | none =>
            refine ⟨_, gives_v (s := Instr.lookup t (r x) (r k) cok) rfl ?_, pair z z hzz false⟩
            rw [hrx, hkk]
            rw [hkk] at hr'
            unfold Instr.lookup
            simp [run_under ok hu, getObj, Sem.run, hko, checkKey_ok ok q1 q2, hr', hzr]
        · cases h
      · cases h
    · cases h
  | convert s d x =>
    simp only [evRead] at h
    split at h
    · rename_i el b n cp hs hd hx
      split at h
      · rename_i hel
        have hxr := hr x _ hx
        generalize hrx : r x = y at hxr
        cases b with
        | none =>
          simp only at h; cases h
          cases hxr with
          | sliceNil _ _ =>
          refine ⟨_, gives_v (s := Go.convert s d (r x)) rfl ?_, .string _⟩
          rw [hrx]
          unfold Go.convert
          simp [run_under ok hs, run_under ok hd, run_under ok hel, Conv.bytesToString]
        | some a =>
          simp only at h
          split at h
          · rename_i l hl
            simp only [Option.map_eq_some_iff] at h
            obtain ⟨s', hs', rfl⟩ := h
            cases hxr with
            | @slice _ a' _ _ cap' L h1 h2 h3 h3' h4 =>
            have ho : n = 0 ∨ a'.off = a.off + L.shift := by
              unfold SlRel at h4
              split at h4
              · exact .inr h4.1
              · by_cases e : n = 0
                · exact .inl e
                · exact .inr (h4.2.2 (by omega))
            have hrun : ∃ l' : List Value, (loadCells a' n).run X.P w = .ok l'.toArray w ∧ LRel ρ l l' := by
              rcases ho with e | ho
              · subst e
                have hl0 : l = [] := by
                  unfold cellsAt at hl
                  split at hl
                  · obtain ⟨_, rfl⟩ := cut_ok hl; simp
                  · cases hl
                subst hl0
                exact ⟨[], by simp [loadCells, loadCellsFrom], .nil ρ⟩
              · obtain ⟨l', p, q, _⟩ := cellsAt_ok (X := X) hw hl h1 h2 ho (h3'.trans h3.symm)
                exact ⟨l', p, q⟩
            obtain ⟨l', hrl, hll⟩ := hrun
            refine ⟨_, gives_v (s := Go.convert s d (r x)) rfl ?_, .string _⟩
            rw [hrx]
            unfold Go.convert
            simp only [Sem.run_bind, run_under ok hs, run_under ok hd, Result.andThen_ok, run_under ok hel]
            unfold Conv.bytesToString
            simp only [Sem.run_bind, hrl, Result.andThen_ok]
            rw [← Array.forIn_toList]
            rw [bytesOf_run (P := X.P) w _ (fun n s => rfl) l l' s' ByteArray.empty hs' hll]
            simp only [Result.andThen_ok, Sem.run_pure]
            rfl
          · cases h
      · cases h
    · cases h
  | call c =>
    simp only [evRead] at h
    obtain ⟨callee, args, argTypes⟩ := c
    have bi : ∀ (b : Builtin) (s : Sem Value) (v' : Value), callee = .builtin b →
        (∀ cs, builtin b argTypes ty cs (args.map r) = (do pure (.value (← s)))) → s.run X.P w = .ok v' w →
        Gives X.P r ⟨dst, .call ⟨callee, args, argTypes⟩, ty, pos, after, guard⟩ w v' := by
      intro b s v' hcal hbi hs
      subst hcal
      unfold Gives execOp resolve
      simp [invoke, hbi, hs]
    split at h
    · rename_i t hcal ht hargs
      split at h
      · rename_i kt el hu
        cases h
        have hl := evL_ok hr args.toList _ hargs
        obtain ⟨x', m, hxm, hx, hm⟩ := hl.uncons
        have hm' := hm.unnil
        subst hm'
        have ha : args.map r = #[x'] := by apply Array.ext'; simpa using hxm
        cases hx
        refine ⟨_, bi .len (Builtin.len_ argTypes ty (args.map r)) (goInt ((0 : Nat) : Int)) hcal (fun _ => rfl) ?_, .int _ _⟩
        unfold Builtin.len_
        simp [ht, ha, run_under ok hu]
      · cases h
    · rename_i t m hcal ht hargs
      split at h
      · rename_i kt el es clock hu hH
        cases h
        have hl := evL_ok hr args.toList _ hargs
        obtain ⟨x', m', hxm, hx, hm⟩ := hl.uncons
        have hm' := hm.unnil
        subst hm'
        have ha : args.map r = #[x'] := by apply Array.ext'; simpa using hxm
        cases hx with
        | @map _ L hL =>
        obtain ⟨K, o', hK, hko, hrel⟩ := hw.obj m _ hH
        rw [hL] at hK; cases hK
        obtain ⟨es', rfl, he⟩ := hrel.mapInv
        refine ⟨_, bi .len (Builtin.len_ argTypes ty (args.map r)) (goInt (es.length : Nat)) hcal (fun _ => rfl) ?_, .int _ _⟩
        unfold Builtin.len_
        have hlen : es'.size = es.length := by have := he.1; simp at this; omega
        simp [ht, ha, run_under ok hu, getObj, Sem.run, hko, hlen]
      · cases h
    · rename_i t a ln n hcal ht hargs
      split at h
      · rename_i el cs el' str hu hH
        cases h
        have hl := evL_ok hr args.toList _ hargs
        obtain ⟨x', m', hxm, hx, hm⟩ := hl.uncons
        have hm' := hm.unnil
        subst hm'
        have ha : args.map r = #[x'] := by apply Array.ext'; simpa using hxm
        cases hx with
        | @slice _ a' _ _ cap' L h1 h2 h3 h3' h4 =>
        obtain ⟨K, o', hK, hko, hrel⟩ := hw.obj a.block _ hH
        rw [h1] at hK; cases hK
        obtain ⟨cs', fz, rfl, hopn, _⟩ := hrel.cellsInv
        unfold SlRel at h4
        rw [hopn] at h4
        simp only [Option.map_none] at h4
        obtain ⟨_, rfl⟩ := h4
        refine ⟨_, bi .cap (Builtin.cap_ argTypes ty (args.map r)) (goInt (cap' : Nat)) hcal (fun _ => rfl) ?_, .int _ _⟩
        unfold Builtin.cap_
        simp [ht, ha, run_under ok hu]
      · cases h
    · cases h
  | binOp op t x y yt =>
    simp only [evRead] at h
    split at h
    · rename_i a b el hx hy hu
      split at h
      · rename_i n cs1 ea o1 cs2 eb o2 hs hsa hsb hHa hHb
        cases hop : eqOp op with
        | false => rw [hop, cond_false] at h; cases h
        | true =>
          rw [hop, cond_true] at h
          cases h
          obtain ⟨a', L, hea, p1, p2, p3, p4⟩ := (hr x _ hx).unptr
          obtain ⟨b', M, heb, q1, q2, q3, q4⟩ := (hr y _ hy).unptr
          have hq : (Op.equal t (r x) (r y)).run X.P w = .ok (Nat.beq a.block b.block && Nat.beq a.off b.off) w := by
            rw [hea, heb]
            show (Op.equalIn (9999 + 1) t (.pointer (some a')) (.pointer (some b'))).run X.P w = _
            unfold Op.equalIn
            simp only [Sem.run_bind, run_under ok hu, Result.andThen_ok, run_size ok hs]
            rw [if_pos (by simp)]
            unfold sameAddr
            by_cases hbl : a.block = b.block
            · have hLM : L = M := by rw [hbl, q1] at p1; cases p1; rfl
              subst hLM
              have e1 : (a'.block == b'.block) = true := by simp [p2, q2]
              rw [e1]
              simp only [if_true, Sem.run_pure]
              congr 1
              rw [Tr.beq_true' hbl, Bool.true_and, nbeq, Bool.eq_iff_iff, beq_iff_eq, decide_eq_true_eq]
              obtain ⟨ab, ao, as⟩ := a'
              obtain ⟨bb, bo, bs⟩ := b'
              simp only [Addr.mk.injEq] at *
              constructor
              · rintro ⟨_, h, _⟩; omega
              · intro h; exact ⟨by omega, by omega, by rw [p4, q4, hsa, hsb]⟩
            · have hne : a'.block ≠ b'.block := fun e => hbl (hw.inj a.block _ b.block _ L M hHa hHb p1 q1 (by rw [← p2, ← q2]; exact e))
              have e1 : (a'.block == b'.block) = false := by simp [hne]
              obtain ⟨K, o', hK, hko, hrel⟩ := hw.obj a.block _ hHa
              rw [p1] at hK; cases hK
              obtain ⟨ca, fa, rfl, _, _, _, _, hfa, _⟩ := hrel.cellsInv
              obtain ⟨K2, o2', hK2, hko2, hrel2⟩ := hw.obj b.block _ hHb
              rw [q1] at hK2; cases hK2
              obtain ⟨cb, fb, rfl, _, _, _, _, hfb, _⟩ := hrel2.cellsInv
              have fz : ∀ (c : Array Value) (f : Nat × Nat) (B : Nat) (el : TypeId) (q : Addr), w.heap[B]? = some (.cells c el f) → (∀ i, ¬ (f.1 ≤ i ∧ i < f.2)) → q.block = B → w.frozen? q = false := by
                intro c f B el q hB hf hq
                unfold World.frozen?
                rw [hq, hB]
                obtain ⟨lo, hi⟩ := f
                have := hf q.off
                simp at this ⊢
                omega
              have sh : ∀ (c : Array Value) (f : Nat × Nat) (B : Nat) (el : TypeId), w.heap[B]? = some (.cells c el f) → w.shape? B = some (el, c.size) := by
                intro c f B el hB
                unfold World.shape?
                rw [hB]
              have s1 := sh ca fa _ _ hko
              have s2 := sh cb fb _ _ hko2
              have f1 := fz ca fa _ _ a' hko (hfa rfl) p2
              have f2 := fz cb fb _ _ b' hko2 (hfb rfl) q2
              have f3 := fz ca fa _ _ { block := a'.block, off := ca.size } hko (hfa rfl) p2
              have f4 := fz cb fb _ _ { block := b'.block, off := cb.size } hko2 (hfb rfl) q2
              rw [← p2] at s1
              rw [← q2] at s2
              have hv : (Nat.beq a.block b.block && Nat.beq a.off b.off) = false := by rw [Tr.beq_false' hbl]; rfl
              rw [hv, e1]
              simp [f1, f2, f3, f4, s1, s2, noView, viewAt, mayBeOne, stringish]
          cases op <;> simp [eqOp] at hop
          · refine ⟨.bool _, gives_v (s := (do eqGuard .eql t x y (r x) (r y); Go.binOp .eql t (r x) (r y))) rfl ?_, .bool _⟩
            rw [hea, heb] at hq ⊢
            rw [binOp_eql rfl]
            simp [hq, eqGuard]
          · refine ⟨.bool _, gives_v (s := (do eqGuard .neq t x y (r x) (r y); Go.binOp .neq t (r x) (r y))) rfl ?_, .bool _⟩
            rw [hea, heb] at hq ⊢
            rw [binOp_neq rfl]
            simp [hq, eqGuard]
      · cases h
    · cases h
  | entry x =>
    simp only [evRead] at h
    split at h
    · rename_i rr sp hx
      obtain ⟨a', L, hea, p1, p2, p3, p4⟩ := (hr x _ hx).unptr
      split at h
      · rename_i m since seen stepped hH
        obtain ⟨K, o', hK, hko, hrel⟩ := hw.obj rr _ hH
        rw [p1] at hK; cases hK
        split at h
        · rename_i es clock stamp hHm hst
          cases hcl : Nat.beq clock stepped with
          | false => rw [hcl, cond_false] at h; cases h
          | true =>
            rw [hcl, cond_true] at h
            have hcs := Nat.eq_of_beq_eq_true hcl
            subst hcs
            split at h
            · rename_i y hf
              cases h
              obtain ⟨M, q', hM, hkm, hrelm⟩ := hw.obj m _ hHm
              obtain ⟨es', rfl, he⟩ := hrelm.mapInv
              cases o' with
              | mapIter mm si se st =>
                simp only [ORel] at hrel
                obtain ⟨hsh, rfl, rfl, rfl, hmm⟩ := hrel
                cases mm with
                | none => exact hmm.elim
                | some bb =>
                  obtain ⟨K, hK, rfl⟩ := hmm
                  rw [hM] at hK; cases hK
                  have hfind : ∀ (l l' : List MapEntry), ERel ρ l l' → ∀ y, l.find? (fun x => Nat.beq x.born stamp) = some y →
                      ∃ y', l'.find? (fun e => e.born == stamp) = some y' ∧ VRel ρ y.key y'.key ∧ VRel ρ y.val y'.val := by
                    intro l
                    induction l with
                    | nil => intro l' _ y hy; simp at hy
                    | cons e l ih =>
                      intro l' hl y hy
                      obtain ⟨e', t, rfl, hb, hk, hv, ht⟩ := hl.uncons
                      rw [List.find?_cons] at hy ⊢
                      have hbb : (e'.born == stamp) = Nat.beq e.born stamp := by rw [hb, nbeq]; rfl
                      rw [hbb]
                      cases hc : Nat.beq e.born stamp with
                      | true => rw [hc] at hy; cases hy; exact ⟨e', rfl, hk, hv⟩
                      | false => rw [hc] at hy; exact ih t ht y hy
                  obtain ⟨y', hf', hk, hv⟩ := hfind es es'.toList he y hf
                  refine ⟨.tuple #[y'.key, y'.val], gives_v (s := Instr.entry (r x)) rfl ?_, .tupA (LRel.arr (.cons hk (.cons hv (.nil ρ))))⟩
                  rw [hea]
                  obtain ⟨ab, ao, as⟩ := a'
                  simp only at p2 p3 p4
                  have h0 : ao = 0 := by omega
                  subst h0 p2
                  have hbk : seen.toArray.back? = some stamp := by rw [← hst]; simp
                  unfold Instr.entry
                  simp only [Sem.run_bind, getObj, Sem.run, hko, hkm, Result.andThen_ok, hbk]
                  have hfa : Array.find? (fun x => x.born == stamp) es' = some y' := by rw [← Array.find?_toList]; exact hf'
                  simp [hfa]
              | _ => simp [ORel] at hrel
            · cases h
        · cases h
      · cases h
    · cases h
  | _ => simp [evRead] at h

end
end Go.Ev
