/-
  unsafe.String; the extern internal/abi.NoEscape.
-/
import Derived.Test.YtjjgdnelkkmdcaaGreatDoorEvUns
import Derived.RangeFuncRecord
import Derived.KernelRfl
set_option linter.all false
namespace Go.Ev

/-- A name goes, and its block is what it will be. -/
theorem Goes.free {ρ : Rn} {H : Heap} {w : World} (h : WRel ρ H w) {n : Nat} {L : Loc} {o : AObj} (hn : H.get n = some o) (hL : ρ n = some L) (p' : Obj) : Goes ρ H w ρ (H.put n none) (w.putObj L.block p') := by
  have live : ∀ k q, (H.put n none).get k = some q → k ≠ n ∧ H.get k = some q := by
    intro k q hk
    rcases Tr.get_put hk with ⟨_, hq⟩ | ⟨e, hq⟩
    · cases hq
    · exact ⟨e, hq⟩
  refine ⟨.refl ρ, ⟨?_, ?_⟩, by simp, rfl, rfl, ?_, ?_⟩
  · intro k q hk
    obtain ⟨e, hq⟩ := live k q hk
    obtain ⟨K, q', hK, hb, hr⟩ := h.obj k q hq
    refine ⟨K, q', hK, ?_, hr⟩
    have : K.block ≠ L.block := fun e2 => e (h.inj k q n o K L hq hn hK hL e2)
    rw [World.putObj_heap_other this]; exact hb
  · intro a x b y La Lb ha hb
    exact h.inj a x b y La Lb (live a x ha).2 (live b y hb).2
  · intro b hb hno
    rw [World.putObj_heap_other (fun e => hno n o L hn hL e.symm)]
  · intro k q K hk hK
    exact .inr ⟨k, q, K, (live k q hk).2, hK, rfl⟩

theorem freeze_put {w : World} {a : Addr} {n : Nat} {o : Obj} (h : w.heap[a.block]? = some o) : ∃ o', w.freeze a n = w.putObj a.block o' := by
  unfold World.freeze
  by_cases hn : n = 0
  · rw [if_pos hn]
    refine ⟨o, ?_⟩
    unfold World.putObj
    have : w.heap.setIfInBounds a.block o = w.heap := by
      apply Array.ext_getElem?
      intro i
      by_cases e : a.block = i
      · subst e
        rw [Array.getElem?_setIfInBounds_self_of_lt (Array.getElem?_eq_some_iff.1 h).1, h]
      · rw [Array.getElem?_setIfInBounds_ne e]
    rw [this]
  · rw [if_neg hn]
    have gen : ∀ f : Obj → Obj, ({ w with heap := w.heap.modify a.block f } : World) = w.putObj a.block (f o) := by
      intro f
      unfold World.putObj
      congr 1
      apply Array.ext_getElem?
      intro i
      rw [Array.getElem?_modify]
      by_cases e : a.block = i
      · subst e
        rw [if_pos rfl, Array.getElem?_setIfInBounds_self_of_lt (Array.getElem?_eq_some_iff.1 h).1, h]
        rfl
      · rw [if_neg e, Array.getElem?_setIfInBounds_ne e]
    exact ⟨_, gen _⟩

section
variable {X : Cx} (ok : X.Ok) {ρ : Rn}
include ok

theorem evStr_ok {o : Oper} {e : Operand → Option Value} {r : Operand → Value} (hr : OpRel ρ e r) {H H' : Heap} {w : World} (hw : WRel ρ H w) {n : Nat} {v : Value} (h : evStr X e o.op H = some (v, H')) :
    WriteSaid X ρ H w o r n v H' := by
  obtain ⟨dst, op, ty, pos, after, guard⟩ := o
  simp only at h
  cases op with
  | call c =>
    obtain ⟨callee, args, argTypes⟩ := c
    simp only [evStr] at h
    have bi : ∀ (s : Sem Value), callee = .builtin .unsafeString → (∀ cs, builtin .unsafeString argTypes ty cs (args.map r) = (do pure (.value (← s)))) →
        execOp r ⟨dst, .call ⟨callee, args, argTypes⟩, ty, pos, after, guard⟩ = (do pure (.value (← s))) := by
      intro s hcal hbi
      subst hcal
      unfold execOp resolve
      simp [invoke, hbi]
    split at h
    · rename_i pt it a k hat hargs
      split at h
      · rename_i el cs el' opn str l hpt hH hl
        split at h
        · rename_i s hsz hby
          cases hb : (Nat.beq el' el && Nat.ble k 4611686018427387904) with
          | false => rw [hb, cond_false] at h; cases h
          | true =>
            rw [hb, cond_true] at h; cases h
            rw [Bool.and_eq_true] at hb
            have he := Nat.eq_of_beq_eq_true hb.1
            have hk := Nat.le_of_ble_eq_true hb.2
            subst he
            have hrl := evL_ok hr args.toList _ hargs
            obtain ⟨x1, m1, hm1, hx1, hmm1⟩ := hrl.uncons
            obtain ⟨x2, m2, rfl, hx2, hmm2⟩ := hmm1.uncons
            have hm2 := hmm2.unnil
            subst hm2
            obtain ⟨a', L, rfl, h1, h2, h3, h4⟩ := hx1.unptr
            have e2 := closed_eq hx2 rfl
            subst e2
            have ha : args.map r = #[.pointer (some a'), .int .i64 (.ofNat (k + 1))] := by apply Array.ext'; simpa using hm1
            have hty : argTypes = #[pt, it] := by apply Array.ext'; simpa using hat
            obtain ⟨K, o', hK, hko, hrel⟩ := hw.obj a.block _ hH
            rw [h1] at hK; cases hK
            obtain ⟨cs', fz, rfl, _, hcell, _⟩ := hrel.cellsInv
            obtain ⟨l', _, hl2, hl3, hl4⟩ := cellsAt_all (X := X) hw hl h1 h2 h3 h4
            have hll := bytes_rel _ _ _ hby hl2
            subst hll
            have hsh : w.shape? a'.block = some (el', cs'.size) := by
              unfold World.shape?
              rw [h2, hko]
            have hlb := bytes_load (P := X.P) (w := w) l' s a' .empty hby hl4
            rw [hl3] at hlb
            have hle : a'.off + (k + 1) ≤ cs'.size := by
              unfold cellsAt at hl
              rw [hH] at hl
              split at hl
              · rename_i hh
                cases hh
                obtain ⟨hle, _⟩ := cut_ok hl
                obtain ⟨q, hq, _⟩ := hcell (a.off + k) cs[a.off + k] (List.getElem?_eq_getElem (by omega))
                have := (Array.getElem?_eq_some_iff.1 hq).1
                omega
              · cases hl
            have hlies := lies_own ok hsz (by omega) (cells := cs'.size) (off := a'.off) (n := k + 1) (Nat.mod_one _) (by simpa using hle)
            obtain ⟨ob, hob⟩ := freeze_put (w := w) (a := a') (n := k + 1) (o := .cells cs' el' fz) (by rw [h2]; exact hko)
            have hrun : (Builtin.unsafeString_ #[pt, it] ty #[.pointer (some a'), .int .i64 (.ofNat (k + 1))]).run X.P w = .ok (.string ⟨⟨s⟩⟩) (w.putObj L.block ob) := by
              have hdef : Builtin.unsafeString_ #[pt, it] ty #[.pointer (some a'), .int .i64 (.ofNat (k + 1))] =
                  (do
                    let n ← asInt (.int .i64 (.ofNat (k + 1)))
                    if n < 0 then runtimePanic (.error "unsafe.String: len out of range")
                    if n > IntKind.i64.max then unsupported (.unsafePointer "String: a length above the largest int")
                    if n = 0 then pure (.string .empty)
                    else if ← variablesAt a' (← elemOf pt) n.toNat then do
                      let s ← loadBytes a' .empty n.toNat
                      freeze a' n.toNat
                      pure (.string s)
                    else unsupported (.unsafePointer "String: not so many bytes at ptr")) := rfl
              rw [hdef]
              have hmax : IntKind.i64.max = 9223372036854775807 := rfl
              have c1 : ¬ (Int.ofNat (k + 1) < 0) := by simp only [Int.ofNat_eq_natCast]; omega
              have c2 : ¬ (Int.ofNat (k + 1) > IntKind.i64.max) := by rw [hmax]; simp only [Int.ofNat_eq_natCast]; omega
              have c3 : ¬ (Int.ofNat (k + 1) = 0) := by simp only [Int.ofNat_eq_natCast]; omega
              have c4 : (Int.ofNat (k + 1)).toNat = k + 1 := rfl
              rw [h2] at hob
              simp only [asInt, asIntOf, pure_bind, Sem.run_bind, Sem.run_pure, Result.andThen_ok, if_neg c1, if_neg c2, if_neg c3, c4]
              simp [variablesAt, hsh, elemOf, run_underlying (under_ok ok hpt), hlies, hlb, hob]
            refine ⟨ρ, .value (.string ⟨⟨s⟩⟩), .string ⟨⟨s⟩⟩, w.putObj L.block ob, ?_, .inl rfl, .string _, Goes.free hw hH h1 ob, fun _ _ => rfl⟩
            rw [bi (Builtin.unsafeString_ argTypes ty (args.map r)) rfl (fun _ => rfl), ha, hty]
            simp only [Sem.run_bind, hrun, Result.andThen_ok, Sem.run_pure]
        · cases h
      · cases h
    · rename_i pt it p hat hargs
      cases h
      have hrl := evL_ok hr args.toList _ hargs
      obtain ⟨x1, m1, hm1, hx1, hmm1⟩ := hrl.uncons
      obtain ⟨x2, m2, rfl, hx2, hmm2⟩ := hmm1.uncons
      have hm2 := hmm2.unnil
      subst hm2
      have e2 := closed_eq hx2 rfl
      subst e2
      have hty : argTypes = #[pt, it] := by apply Array.ext'; simpa using hat
      obtain ⟨p', rfl⟩ : ∃ p', x1 = .pointer p' := by
        cases hx1 with
        | ptrNil => exact ⟨_, rfl⟩
        | ptr _ _ _ _ => exact ⟨_, rfl⟩
      have ha : args.map r = #[.pointer p', .int .i64 (.ofNat 0)] := by apply Array.ext'; simpa using hm1
      refine ⟨ρ, .value (.string .empty), .string .empty, w, ?_, .inl rfl, .string _, .refl hw, fun _ _ => rfl⟩
      rw [bi (Builtin.unsafeString_ argTypes ty (args.map r)) rfl (fun _ => rfl), ha, hty]
      have := Lib.run_unsafeString_none (P := X.P) w pt it ty p'
      simp only [Sem.run_bind]
      rw [show Value.int IntKind.i64 (Int.ofNat 0) = Value.int .i64 0 from rfl, this]
      rfl
    · cases h
  | _ => simp [evStr] at h

theorem evWr_ok {o : Oper} {e : Operand → Option Value} {r : Operand → Value} (hr : OpRel ρ e r) {H H' : Heap} {w : World} (hw : WRel ρ H w) {n : Nat} (hno : ρ n = none) {v : Value} (h : evWr X e o.op n H = some (v, H')) :
    WriteSaid X ρ H w o r n v H' := by
  unfold evWr at h
  split at h
  · rename_i q hq
    cases h
    exact evWrite_ok ok hr hw hno hq
  · exact evStr_ok ok hr hw h

end

/-- internal/abi.NoEscape hands over what it is given. -/
theorem noEscape_find {g : Func} (h : g.name = "internal/abi.NoEscape") : Extern.find g = some Extern.AbiNoEscape.same := by
  unfold Extern.find
  simp only [h]
  have h1 : Extern.allGenericRows.lookup "internal/abi.NoEscape" = none := by kernel_rfl
  have h2 : Extern.allTypedRows.lookup "internal/abi.NoEscape" = none := by kernel_rfl
  have h3 : Extern.allRows.lookup "internal/abi.NoEscape" = some Extern.AbiNoEscape.same := by kernel_rfl
  rw [h1, h2, h3]
  rfl

theorem ext_find {n : String} {e : Array Value → Sem Value} (h1 : Extern.allGenericRows.lookup n = none) (h2 : Extern.allTypedRows.lookup n = none) (h3 : Extern.allRows.lookup n = some e) {g : Func} (h : g.name = n) : Extern.find g = some e := by
  unfold Extern.find
  simp only [h]
  rw [h1, h2, h3]
  rfl
theorem find_storeI {g : Func} (h : g.name = "sync/atomic.StoreInt64") : Extern.find g = some Extern.Atomic.storeT := ext_find (by kernel_rfl) (by kernel_rfl) (by kernel_rfl) h
theorem find_storeU {g : Func} (h : g.name = "sync/atomic.StoreUint32") : Extern.find g = some Extern.Atomic.storeT := ext_find (by kernel_rfl) (by kernel_rfl) (by kernel_rfl) h
theorem find_loadI {g : Func} (h : g.name = "sync/atomic.LoadInt64") : Extern.find g = some (Extern.Atomic.loadT (.int .i64)) := ext_find (by kernel_rfl) (by kernel_rfl) (by kernel_rfl) h
theorem find_loadU {g : Func} (h : g.name = "sync/atomic.LoadUint32") : Extern.find g = some (Extern.Atomic.loadT (.int .u32)) := ext_find (by kernel_rfl) (by kernel_rfl) (by kernel_rfl) h

theorem store_mode {P : Program} {w : World} {a : Addr} {v u : Value} (hc : w.cell? a = some u) : (store a v .atomic).run P w = (store a v .plain).run P w := by
  unfold store
  cases v <;> simp only [Sem.run, hc]

theorem storeX_ok {X : Cx} {ρ : Rn} {H H' : Heap} {w : World} (hw : WRel ρ H w) {args args' : List Value} {v : Value} (h : evStoreX args H = some (v, H')) (hl : LRel ρ args args') :
    ∃ w', (Extern.Atomic.storeT args'.toArray).run X.P w = .ok undef w' ∧ v = undefA ∧ Goes ρ H w ρ H' w' := by
  unfold evStoreX at h
  split at h
  · rename_i a x
    simp only [Option.map_eq_some_iff] at h
    obtain ⟨H2, hs, he⟩ := h
    cases he
    obtain ⟨pa, m, rfl, hp, hm⟩ := hl.uncons
    obtain ⟨x', m2, rfl, hx, hm2⟩ := hm.uncons
    have := hm2.unnil; subst this
    obtain ⟨a', L, rfl, h1, h2, h3, h4⟩ := hp.unptr
    obtain ⟨w', hrun, hgo⟩ := storeA_ok (X := X) hw hs (.cons hx (.nil ρ)) h1 h2 h3 h4
    refine ⟨w', ?_, rfl, hgo⟩
    have hcell : ∃ u, w.cell? a' = some u := by
      unfold storeA at hs
      split at hs
      · rename_i cs el opn str hsp hH
        cases hc : (Nat.ble (a.off + [x].length) cs.length && [x].all one) with
        | false => rw [hc, cond_false] at hs; cases hs
        | true =>
          rw [Bool.and_eq_true] at hc
          have hle := Nat.le_of_ble_eq_true hc.1
          simp only [List.length_cons, List.length_nil] at hle
          obtain ⟨u, hu, _⟩ := cell_of hw hH h1 (List.getElem?_eq_getElem (show a.off < cs.length by omega)) h2 h3 (h4.trans hsp)
          exact ⟨u, hu⟩
      · cases hs
    obtain ⟨u, hu⟩ := hcell
    have h0 : (store a' x' .plain).run X.P w = .ok () w' := by
      have h00 : a'.add 0 = a' := by simp [Addr.add]
      unfold storeCells at hrun
      simp only [h00, Sem.run_bind] at hrun
      unfold storeCells at hrun
      cases hr : (store a' x' .plain).run X.P w with
      | ok y w2 => rw [hr] at hrun; simpa using hrun
      | _ => rw [hr] at hrun; simp at hrun
    show (do store (← asAddr (.pointer (some a'))) x' .atomic; pure Extern.Atomic.none_ : Sem Value).run X.P w = _
    simp only [Sem.run_bind, asAddr, Sem.run_pure, Result.andThen_ok, store_mode hu, h0]
    rfl
  · cases h

theorem loadX_ok {X : Cx} {ρ : Rn} {H : Heap} {w : World} (hw : WRel ρ H w) {k : IntKind} {args args' : List Value} {v : Value} (h : evLoadX k args H = some v) (hl : LRel ρ args args') :
    (Extern.Atomic.loadT (.int k) args'.toArray).run X.P w = .ok v w ∧ VRel ρ v v := by
  unfold evLoadX at h
  split at h
  · rename_i a
    obtain ⟨pa, m, rfl, hp, hm⟩ := hl.uncons
    have := hm.unnil; subst this
    obtain ⟨a', L, rfl, h1, h2, h3, h4⟩ := hp.unptr
    split at h
    · rename_i cs el opn str hsp hH
      split at h
      · rename_i j n hc
        cases hd : decide (j = k) with
        | false => rw [hd, cond_false] at h; cases h
        | true =>
          rw [hd, cond_true] at h; cases h
          have := of_decide_eq_true hd; subst this
          obtain ⟨u, hu, hr⟩ := cell_of hw hH h1 hc h2 h3 (h4.trans hsp)
          have := hr.unint; subst this
          refine ⟨?_, .int _ _⟩
          show (do Extern.Atomic.read (.int j) (← asAddr (.pointer (some a'))) : Sem Value).run X.P w = _
          unfold Extern.Atomic.read load
          simp only [Sem.run_bind, asAddr, Sem.run_pure, Result.andThen_ok]
          simp [Sem.run, hu]
      · cases h
    · cases h
  · cases h
end Go.Ev
