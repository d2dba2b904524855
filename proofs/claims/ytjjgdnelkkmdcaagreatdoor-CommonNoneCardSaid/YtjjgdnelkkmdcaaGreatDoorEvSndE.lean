/-
  An operation that does not look at memory: the whole.
-/
import Derived.Test.YtjjgdnelkkmdcaaGreatDoorEvSndD
set_option linter.all false
namespace Go.Ev

section
variable {X : Cx} (ok : X.Ok) {ρ : Rn}

theorem unA_ok {op : UnOp} {a v a' : Value} (h : unA op a = some v) (ha : VRel ρ a a') (w : World) : (Op.unary op a').run X.P w = .ok v w ∧ VRel ρ v v := by
  unfold unA at h
  split at h
  · cases ha; cases h
    rename_i k n
    refine ⟨?_, .int _ _⟩
    simp [Op.unary, Op.intArith, wrapF_eq]
  · cases ha
    rename_i k n
    refine ⟨?_, clos1_rel ρ (intOp_clos h)⟩
    have := intOp_int (P := X.P) (w := w) (op := .xor) rfl h _ _ 0 rfl rfl
    simpa [Op.unary, Go.binOp] using this
  · cases ha; cases h
    exact ⟨by simp [Op.unary], .float _ _⟩
  · cases ha; cases h
    exact ⟨by simp [Op.unary], .bool _⟩
  · cases h

include ok in
theorem convA_ok {s d : TypeId} {a v a' : Value} (h : convA X s d a = some v) (ha : VRel ρ a a') (w : World) : ∃ v', (Go.convert s d a').run X.P w = .ok v' w ∧ VRel ρ v v' := by
  unfold convA at h
  split at h
  · rename_i hs hd
    cases ha; cases h
    rename_i u k j n
    refine ⟨_, ?_, .int _ _⟩
    unfold Go.convert
    simp only [Sem.run_bind, run_under ok hs, run_under ok hd, Result.andThen_ok, Conv.intToInt, Sem.run_pure, wrapF_eq]
  · rename_i hs hd
    cases ha; cases h
    rename_i u s
    refine ⟨_, ?_, .string _⟩
    unfold Go.convert
    simp only [Sem.run_bind, run_under ok hs, run_under ok hd, Result.andThen_ok, Sem.run_pure]
  · cases ha
    rename_i k b _ _
    split at h
    · rename_i u hp
      cases hc : (clos u && numD _) with
      | false => rw [hc, cond_false] at h; cases h
      | true =>
        rw [hc, cond_true] at h; cases h
        rw [Bool.and_eq_true] at hc
        exact ⟨_, pureRun_ok X.P _ _ hp w, clos_rel ρ hc.1⟩
    · cases h
  · cases ha
    split at h
    · rename_i u hp
      cases hc : clos u with
      | false => rw [hc, cond_false] at h; cases h
      | true => rw [hc, cond_true] at h; cases h; exact ⟨_, pureRun_ok X.P _ _ hp w, clos_rel ρ hc⟩
    · cases h
  · cases h

/-- An operation whose value is v'. -/
def Gives (P : Program) (r : Operand → Value) (o : Oper) (w : World) (v' : Value) : Prop := (execOp r o).run P w = .ok (.value v') w

theorem gives_v {P : Program} {r : Operand → Value} {o : Oper} {w : World} {v' : Value} {s : Sem Value} (h : execOp r o = (do pure (.value (← s)))) (hs : s.run P w = .ok v' w) : Gives P r o w v' := by
  unfold Gives
  rw [h]
  simp [hs]

theorem sure_ok (a : Addr) (P : Program) (w : World) : (Instr.sureAddr (.pointer (some a))).run P w = .ok a w := rfl

include ok in
theorem fieldAt_ok {s : TypeId} {fs : Array Field} {f n : Nat} {fd : Field} {a : Addr} (hu : X.under s = some (.struct fs)) (hf : fs[f]? = some fd) (hn : X.size fd.type = some (n + 1)) (w : World) :
    (Instr.fieldAt s (.pointer (some a)) f).run X.P w = .ok (.pointer (some (a.add fd.offset))) w := by
  unfold Instr.fieldAt
  simp only [Sem.run_bind, run_under ok hu, Result.andThen_ok, hf, sure_ok]
  unfold fieldPlace
  simp [run_size ok hn]

include ok in
theorem evPure_ok {o : Oper} {e : Operand → Option Value} {r : Operand → Value} (hr : OpRel ρ e r) {v : Value} (h : evPure X e o.op = some v) (w : World) :
    ∃ v', Gives X.P r o w v' ∧ VRel ρ v v' := by
  obtain ⟨dst, op, ty, pos, after, guard⟩ := o
  simp only at h
  cases op with
  | move x => exact ⟨r x, rfl, hr x v h⟩
  | assign x => exact ⟨r x, rfl, hr x v h⟩
  | pick c a b =>
    simp only [evPure] at h
    split at h
    · rename_i hc
      have := (hr c _ hc).unbool
      refine ⟨r a, ?_, hr a v h⟩
      simp [Gives, execOp, asBool, this]
    · rename_i hc
      have := (hr c _ hc).unbool
      refine ⟨r b, ?_, hr b v h⟩
      simp [Gives, execOp, asBool, this]
    · cases h
  | nilCheck x =>
    simp only [evPure] at h
    split at h
    · cases h
    · cases h
    · cases h
    · cases h
    · cases h
    · rename_i h1 h2 h3 h4 h5
      have hx := hr x v h
      refine ⟨r x, ?_, hx⟩
      rw [h] at h1 h2 h3 h4 h5
      unfold Gives execOp
      simp only
      generalize r x = y at hx
      cases hx with
      | ptrNil => exact (h1 rfl).elim
      | nilIface => exact (h2 rfl).elim
      | nilFunc => exact (h3 rfl).elim
      | func hf _ _ _ _ =>
        cases hf with
        | method s => exact (h4 _ _ _ rfl).elim
        | _ => simp
      | sym _ _ _ => exact (h5 _ rfl).elim
      | _ => simp
  | build t parts =>
    simp only [evPure] at h
    have fin : ∀ (l : List Value) z ps, X.zero t = some z → evParts e parts.toList = some ps →
        ((∃ fs pl, X.under t = some (.struct fs) ∧ X.places fs.toList = some pl ∧ fillB (fun i => pl[i]?) ps z = some l) ∨
          (∃ n el s, X.under t = some (.array n el) ∧ X.size el = some s ∧ fillB (fun i => some (i * s, s)) ps z = some l)) →
        ∃ v', Gives X.P r ⟨dst, .build t parts, ty, pos, after, guard⟩ w v' ∧ VRel ρ (.agg ⟨l⟩) v' := by
      intro l z ps hz hps hcase
      obtain ⟨v', hv, hrel⟩ := build_ok ok (evParts_ok hr parts.toList ps hps) hz hcase w
      refine ⟨v', gives_v (s := Instr.build t (parts.map fun (i, x) => (i, r x))) rfl ?_, hrel⟩
      rw [← hv]
      congr 2
      apply Array.ext'
      simp
    split at h
    · rename_i z fs ps hz hu hps
      split at h
      · rename_i pl hpl
        simp only [Option.map_eq_some_iff] at h
        obtain ⟨l, hl, rfl⟩ := h
        exact fin l z ps hz hps (.inl ⟨fs, pl, hu, hpl, hl⟩)
      · cases h
    · rename_i z n el ps hz hu hps
      split at h
      · rename_i s hs
        simp only [Option.map_eq_some_iff] at h
        obtain ⟨l, hl, rfl⟩ := h
        exact fin l z ps hz hps (.inr ⟨n, el, s, hu, hs, hl⟩)
      · cases h
    · cases h
  | fieldAddr s x f =>
    simp only [evPure] at h
    split at h
    · rename_i fs a hu hx
      split at h
      · rename_i fd hf
        split at h
        · rename_i n hn
          cases h
          obtain ⟨a', L, he, h1, h2, h3, h4⟩ := (hr x _ hx).unptr
          refine ⟨_, gives_v (s := Instr.fieldAt s (r x) f) rfl ?_, ptr_add h1 h2 h3 h4 fd.offset⟩
          rw [he]; exact fieldAt_ok ok hu hf hn w
        · cases h
      · cases h
    · cases h
  | indexAddr t x i =>
    simp only [evPure] at h
    split at h
    · rename_i n el a k i' hu hx hi
      cases hb : Nat.blt i' n with
      | false => rw [hb, cond_false] at h; cases h
      | true =>
        rw [hb, cond_true] at h
        simp only [Option.map_eq_some_iff] at h
        obtain ⟨s, hs, rfl⟩ := h
        have hlt : i' < n := by simpa [Nat.blt_eq] using hb
        obtain ⟨a', L, he, h1, h2, h3, h4⟩ := (hr x _ hx).unptr
        have hi' := (hr i _ hi).unint
        refine ⟨_, gives_v (s := Instr.indexAt t (r x) (r i)) rfl ?_, ptr_add h1 h2 h3 h4 (i' * s)⟩
        rw [he, hi']
        unfold Instr.indexAt asIntOf
        simp only [pure_bind, Sem.run_bind, run_under ok hu, Result.andThen_ok, sure_ok]
        rw [if_pos (by simp; omega)]
        simp [run_size ok hs]
    · rename_i el a n cp k i' hu hx hi
      cases hb : Nat.blt i' n with
      | false => rw [hb, cond_false] at h; cases h
      | true =>
        rw [hb, cond_true] at h
        simp only [Option.map_eq_some_iff] at h
        obtain ⟨s, hs, rfl⟩ := h
        have hlt : i' < n := by simpa [Nat.blt_eq] using hb
        have hi' := (hr i _ hi).unint
        have hxr := hr x _ hx
        generalize hrx : r x = y at hxr
        cases hxr with
        | @slice _ a' _ _ cap' L h1 h2 h3 h3' h4 =>
        have ho : a'.off = a.off + L.shift := by
          unfold SlRel at h4
          split at h4
          · exact h4.1
          · exact h4.2.2 (by omega)
        refine ⟨_, gives_v (s := Instr.indexAt t (r x) (r i)) rfl ?_, ptr_add h1 h2 ho (h3'.trans h3.symm) (i' * s)⟩
        rw [hrx, hi']
        unfold Instr.indexAt asIntOf
        simp only [pure_bind, Sem.run_bind, run_under ok hu, Result.andThen_ok, Sem.run_pure]
        rw [if_pos (by simp; omega)]
        simp [run_size ok hs]
    · cases h
  | field t x f =>
    simp only [evPure] at h
    split at h
    · rename_i fs cs hu hx
      split at h
      · rename_i fd hf
        obtain ⟨cs', he, hcs⟩ := (hr x _ hx).unagg
        obtain ⟨v', hv, hrel⟩ := part_ok ok h hcs.list w
        refine ⟨v', gives_v (s := Instr.field t (r x) f) rfl ?_, hrel⟩
        rw [he]
        unfold Instr.field
        simp only [Sem.run_bind, run_under ok hu, Result.andThen_ok, hf, asAgg, Sem.run_pure, hv]
      · cases h
    · cases h
  | index t x i =>
    simp only [evPure] at h
    split at h
    · rename_i n el cs k i' hu hx hi
      cases hb : Nat.blt i' n with
      | false => rw [hb, cond_false] at h; cases h
      | true =>
        rw [hb, cond_true] at h
        have hlt : i' < n := by simpa [Nat.blt_eq] using hb
        split at h
        · rename_i s hs
          obtain ⟨cs', he, hcs⟩ := (hr x _ hx).unagg
          have hi' := (hr i _ hi).unint
          obtain ⟨v', hv, hrel⟩ := part_ok ok h hcs.list w
          refine ⟨v', gives_v (s := Instr.index t (r x) (r i)) rfl ?_, hrel⟩
          rw [he, hi']
          unfold Instr.index asIntOf
          simp only [pure_bind, Sem.run_bind, run_under ok hu, Result.andThen_ok]
          rw [if_pos (by simp; omega)]
          simp only [Sem.run_bind, run_size ok hs, Result.andThen_ok]
          simpa using hv
        · cases h
    · rename_i s k i' hu hx hi
      split at h
      · rename_i b hb
        cases h
        have hx' := (hr x _ hx).unstr
        have hi' := (hr i _ hi).unint
        refine ⟨_, gives_v (s := Instr.index t (r x) (r i)) rfl ?_, .int _ _⟩
        rw [hx', hi']
        unfold Instr.index asIntOf
        simp only [pure_bind, Sem.run_bind, run_under ok hu, Result.andThen_ok, Int.ofNat_eq_natCast, Int.toNat_natCast]
        have hg : s[i']? = some b := by
          rw [Array.getElem?_toList] at hb
          obtain ⟨hlt, hb⟩ := Array.getElem?_eq_some_iff.1 hb
          have h0 : s[i']? = if h : i' < s.size then some s[i'] else none := rfl
          rw [h0]
          exact (dif_pos (show i' < s.size from hlt)).trans (by rw [← hb]; rfl)
        simp [hg]
      · cases h
    · cases h
  | slice t x lo hi mx =>
    cases mx with
    | some m => simp [evPure] at h
    | none =>
    simp only [evPure] at h
    split at h
    · rename_i s hu hx
      simp only [Option.map_eq_some_iff] at h
      obtain ⟨⟨l, hh, m⟩, hb, rfl⟩ := h
      have hx' := (hr x _ hx).unstr
      obtain ⟨hrun, hle, _⟩ := boundsA_ok (X := X) hr hb (Nat.le_refl _) (fun _ => rfl) false w
      refine ⟨.string (s.extract l hh), gives_v (s := Instr.sliceAt t (r x) (lo.map r) (hi.map r) none) rfl ?_, by rw [bsub_eq]; exact .string _⟩
      rw [hx']
      unfold Instr.sliceAt
      simp only [Sem.run_bind, run_under ok hu, Result.andThen_ok]
      unfold Instr.slice
      simp only [Sem.run_bind, run_under ok hu, Result.andThen_ok, Option.isSome_none, Bool.false_eq_true, if_false, Sem.run_pure]
      rw [size_data]
      simp only [Option.map_none] at hrun
      rw [hrun]
      simp
    · cases h
  | extract x i =>
    simp only [evPure] at h
    split at h
    · rename_i vs hx
      obtain ⟨vs', he, hvs⟩ := (hr x _ hx).untup
      obtain ⟨v', hv, hrel⟩ := hvs.get h
      refine ⟨v', gives_v (s := Instr.extract (r x) i) rfl ?_, hrel⟩
      rw [he]; unfold Instr.extract; simp [hv]
    · cases h
  | makeInterface t x =>
    simp only [evPure] at h
    split at h
    · cases h
    · cases h
    · rename_i d hu hd
      simp only [Option.map_eq_some_iff] at h
      obtain ⟨u, hx, rfl⟩ := h
      refine ⟨.iface t (r x), gives_v (s := Instr.makeInterface t (r x)) rfl ?_, .iface t (hr x u hx)⟩
      unfold Instr.makeInterface
      simp only [Sem.run_bind, run_under ok hd, Result.andThen_ok]
      cases d <;> first | rfl | exact (hu _ rfl).elim
  | makeFunc fn first captured =>
    simp only [evPure] at h
    cases hf : fnOk fn with
    | false => rw [hf, cond_false] at h; cases h
    | true =>
      rw [hf, cond_true] at h
      split at h
      · rename_i f c hff hcc
        cases h
        have h1 := (evL_ok hr first.toList f hff).arr
        have h2 := (evL_ok hr captured.toList c hcc).arr
        refine ⟨.func fn (first.map r) (captured.map r), rfl, .func ?_ ?_ ?_ ?_ ?_⟩
        · cases fn <;> first | exact .func _ | exact .method _ | exact .methodOf _ _ | exact .via _ _ _ _ | simp [fnOk] at hf
        · have := h1.1; simpa using this
        · have := h2.1; simpa using this
        · intro i x y hx hy; exact h1.2 i x y hx (by simpa using hy)
        · intro i x y hx hy; exact h2.2 i x y hx (by simpa using hy)
      · cases h
  | typeAssert x xt asserted cok =>
    simp only [evPure] at h
    have pair : ∀ (u u' : Value), VRel ρ u u' → ∀ b, VRel ρ (.tuple #[u, .bool b]) (.tuple #[u', .bool b]) := by
      intro u u' hu b
      exact .tupA (LRel.arr (.cons hu (.cons (.bool b) (.nil ρ))))
    have fails : ∀ {v : Value}, (bif cok then (X.zeroV asserted).map fun z => Value.tuple #[z, .bool false] else none) = some v →
        cok = true ∧ ∃ z, (zeroValue asserted).run X.P w = .ok z w ∧ VRel ρ v (.tuple #[z, .bool false]) := by
      intro v hv
      cases hc : cok with
      | false => rw [hc, cond_false] at hv; cases hv
      | true =>
        rw [hc, cond_true] at hv
        simp only [Option.map_eq_some_iff] at hv
        obtain ⟨z, hz, rfl⟩ := hv
        obtain ⟨hzr, hzz⟩ := zeroV_ok (ρ := ρ) ok hz w
        exact ⟨rfl, z, hzr, pair z z hzz false⟩
    split at h
    · rename_i want t u hu hx
      have hxr := hr x _ hx
      generalize hrx : r x = y at hxr
      cases hxr with
      | @iface _ _ u' hv =>
      split at h
      · rename_i i hi
        split at h
        · rename_i hm
          cases h
          refine ⟨if cok then .tuple #[.iface t u', .bool true] else .iface t u', gives_v (s := Instr.typeAssert (r x) xt asserted cok) rfl ?_, ?_⟩
          · rw [hrx]; unfold Instr.typeAssert
            simp only [Sem.run_bind, run_under ok hu, Result.andThen_ok, run_info ok hi, hm, Sem.run_pure]
          · cases cok with
            | true => exact pair _ _ (.iface t hv) true
            | false => exact .iface t hv
        · rename_i s hm
          obtain ⟨hc, z, hz, hrel⟩ := fails h
          refine ⟨_, gives_v (s := Instr.typeAssert (r x) xt asserted cok) rfl ?_, hrel⟩
          rw [hrx]; unfold Instr.typeAssert
          simp [run_under ok hu, run_info ok hi, hm, hc, hz]
      · cases h
    · rename_i want hu hx
      have hxr := hr x _ hx
      generalize hrx : r x = y at hxr
      cases hxr with
      | nilIface =>
      obtain ⟨hc, z, hz, hrel⟩ := fails h
      refine ⟨_, gives_v (s := Instr.typeAssert (r x) xt asserted cok) rfl ?_, hrel⟩
      rw [hrx]; unfold Instr.typeAssert
      simp [run_under ok hu, hc, hz]
    · rename_i d hne hu hx
      have hxr := hr x _ hx
      generalize hrx : r x = y at hxr
      cases hxr with
      | nilIface =>
      obtain ⟨hc, z, hz, hrel⟩ := fails h
      refine ⟨_, gives_v (s := Instr.typeAssert (r x) xt asserted cok) rfl ?_, hrel⟩
      rw [hrx]; unfold Instr.typeAssert
      simp only [Sem.run_bind, run_under ok hu, Result.andThen_ok]
      cases d <;> simp [hc, hz]
    · rename_i d t u hne hu hx
      have hxr := hr x _ hx
      generalize hrx : r x = y at hxr
      cases hxr with
      | @iface _ _ u' hv =>
      have hd : ∀ ms, d ≠ .interface ms := fun ms e => by subst e; exact hne _ rfl
      cases hb : Nat.beq t asserted with
      | true =>
        rw [hb, cond_true] at h; cases h
        have ht := Nat.eq_of_beq_eq_true hb
        refine ⟨if cok then .tuple #[u', .bool true] else u', gives_v (s := Instr.typeAssert (r x) xt asserted cok) rfl ?_, ?_⟩
        · rw [hrx]; unfold Instr.typeAssert
          simp only [Sem.run_bind, run_under ok hu, Result.andThen_ok]
          cases d <;> first | exact (hd _ rfl).elim | simp [ht]
        · cases cok with
          | true => exact pair _ _ hv true
          | false => exact hv
      | false =>
        rw [hb, cond_false] at h
        have ht : ¬ t = asserted := fun e => by rw [Tr.beq_true' e] at hb; cases hb
        obtain ⟨hc, z, hz, hrel⟩ := fails h
        refine ⟨_, gives_v (s := Instr.typeAssert (r x) xt asserted cok) rfl ?_, hrel⟩
        rw [hrx]; unfold Instr.typeAssert
        simp only [Sem.run_bind, run_under ok hu, Result.andThen_ok]
        cases d <;> first | exact (hd _ rfl).elim | simp [ht, hc, hz]
    · cases h
  | binOp op t x y yt =>
    simp only [evPure] at h
    split at h
    · rename_i a b hx hy
      cases hg : guardOk X op t x y a b with
      | false => rw [hg, cond_false] at h; cases h
      | true =>
        rw [hg, cond_true] at h
        obtain ⟨v', hv, hrel⟩ := binA_ok ok h (hr x a hx) (hr y b hy) w
        refine ⟨v', gives_v (s := (do eqGuard op t x y (r x) (r y); Go.binOp op t (r x) (r y))) rfl ?_, hrel⟩
        simp [eqGuard_ok hg (hr x a hx) (hr y b hy) w, hv]
    · cases h
  | unOp op t x =>
    simp only [evPure] at h
    split at h
    · rename_i a hx
      obtain ⟨hv, hrel⟩ := unA_ok (X := X) h (hr x a hx) w
      exact ⟨v, gives_v (s := Op.unary op (r x)) rfl hv, hrel⟩
    · cases h
  | convert s d x =>
    simp only [evPure] at h
    split at h
    · rename_i a hx
      obtain ⟨v', hv, hrel⟩ := convA_ok ok h (hr x a hx) w
      exact ⟨v', gives_v (s := Go.convert s d (r x)) rfl hv, hrel⟩
    · cases h
  | call c =>
    simp only [evPure] at h
    obtain ⟨callee, args, argTypes⟩ := c
    have bi : ∀ (b : Builtin) (s : Sem Value) (v' : Value), callee = .builtin b →
        (∀ cs, builtin b argTypes ty cs (args.map r) = (do pure (.value (← s)))) → s.run X.P w = .ok v' w →
        Gives X.P r ⟨dst, .call ⟨callee, args, argTypes⟩, ty, pos, after, guard⟩ w v' := by
      intro b s v' hcal hbi hs
      subst hcal
      unfold Gives execOp resolve
      simp [invoke, hbi, hs]
    split at h
    · rename_i x hcal hargs
      have hl := evL_ok hr args.toList _ hargs
      obtain ⟨x', m, hxm, hx, hm⟩ := hl.uncons
      have hm' := hm.unnil
      subst hm'
      have ha : args.map r = #[x'] := by apply Array.ext'; simpa using hxm
      split at h
      · rename_i s hu
        cases h
        simp only [Option.bind_eq_some_iff] at hu
        obtain ⟨t, ht, hu⟩ := hu
        have := hx.unstr; subst this
        refine ⟨_, bi .len (Builtin.len_ argTypes ty (args.map r)) _ hcal (fun _ => rfl) ?_, .int _ _⟩
        unfold Builtin.len_
        simp [ht, ha, run_under ok hu, goInt]
      · rename_i el b n cp hu
        cases h
        simp only [Option.bind_eq_some_iff] at hu
        obtain ⟨t, ht, hu⟩ := hu
        refine ⟨_, bi .len (Builtin.len_ argTypes ty (args.map r)) (goInt n) hcal (fun _ => rfl) ?_, .int _ _⟩
        unfold Builtin.len_
        cases hx <;> simp [ht, ha, run_under ok hu]
      · rename_i n el hu
        cases h
        simp only [Option.bind_eq_some_iff] at hu
        obtain ⟨t, ht, hu⟩ := hu
        refine ⟨_, bi .len (Builtin.len_ argTypes ty (args.map r)) (goInt n) hcal (fun _ => rfl) ?_, .int _ _⟩
        unfold Builtin.len_
        simp [ht, ha, run_under ok hu]
      · cases h
    · rename_i x l hcal hargs
      have hl := evL_ok hr args.toList _ hargs
      obtain ⟨x', m, hxm, hx, hm⟩ := hl.uncons
      obtain ⟨v', hv, hrel⟩ := foldA_ok (X := X) w (fun a b c a' b' hh p q => max2A_ok (X := X) hh p q w) l m x x' v h hm hx
      refine ⟨v', bi .max (Builtin.max_ argTypes ty (args.map r)) v' hcal (fun _ => rfl) ?_, hrel⟩
      unfold Builtin.max_
      rw [Array.toList_map, hxm]; exact hv
    · rename_i x l hcal hargs
      have hl := evL_ok hr args.toList _ hargs
      obtain ⟨x', m, hxm, hx, hm⟩ := hl.uncons
      obtain ⟨v', hv, hrel⟩ := foldA_ok (X := X) w (fun a b c a' b' hh p q => min2A_ok (X := X) hh p q w) l m x x' v h hm hx
      refine ⟨v', bi .min (Builtin.min_ argTypes ty (args.map r)) v' hcal (fun _ => rfl) ?_, hrel⟩
      unfold Builtin.min_
      rw [Array.toList_map, hxm]; exact hv
    · cases h
  | _ => simp [evPure] at h

end
end Go.Ev
