/-
  What strings.Builder asks: pointers turned to unsafe.Pointer and back, unsafe.SliceData, unsafe.String.
-/
import Derived.Test.YtjjgdnelkkmdcaaGreatDoorEvSndN
import Derived.Test.YtjjgdnelkkmdcaaGreatDoorEvCode
import Derived.Lib.Builder
import Derived.Lib.UnsafeStr
set_option linter.all false
namespace Go.Ev

theorem vEqs_eq {eq : Value → Value → Bool} (h : ∀ a b, eq a b = true → a = b) : ∀ (x y : List Value), vEqs eq x y = true → x = y
  | [], [], _ => rfl
  | [], _ :: _, e => by simp [vEqs] at e
  | _ :: _, [], e => by simp [vEqs] at e
  | a :: x, b :: y, e => by
    simp only [vEqs, Bool.and_eq_true] at e
    rw [h a b e.1, vEqs_eq h x y e.2]

theorem bytes_eq {x y : ByteArray} (h : eqB x.data.toList y.data.toList = true) : x = y := by
  rw [eqB_eq, beq_iff_eq] at h
  exact ByteArray.ext (Array.ext' h)

theorem addr_eq {a b : Addr} (h1 : Nat.beq a.block b.block = true) (h2 : Nat.beq a.off b.off = true) (h3 : a.spot = b.spot) : a = b := by
  obtain ⟨x, y, z⟩ := a
  obtain ⟨p, q, r⟩ := b
  simp only at *
  rw [Nat.eq_of_beq_eq_true h1, Nat.eq_of_beq_eq_true h2, h3]

theorem vEq_eq : ∀ (d : Nat) (a b : Value), vEq d a b = true → a = b
  | 0, a, b, h => by simp [vEq] at h
  | d + 1, a, b, h => by
    have ih := vEq_eq d
    unfold vEq at h
    split at h
    · rename_i h0; cases h0
    · rw [beq_iff_eq] at h; rw [h]
    · simp only [Bool.and_eq_true, decide_eq_true_eq, intEq_eq, beq_iff_eq] at h; rw [h.1, h.2]
    · simp only [Bool.and_eq_true, decide_eq_true_eq] at h; rw [h.1, Nat.eq_of_beq_eq_true h.2]
    · rw [bytes_eq h]
    · rfl
    · simp only [Bool.and_eq_true, decide_eq_true_eq] at h; rw [addr_eq h.1.1 h.1.2 h.2]
    · simp only [Bool.and_eq_true] at h; rw [Nat.eq_of_beq_eq_true h.1, Nat.eq_of_beq_eq_true h.2]
    · simp only [Bool.and_eq_true, decide_eq_true_eq] at h
      rw [addr_eq h.1.1.1.1 h.1.1.1.2 h.1.1.2, Nat.eq_of_beq_eq_true h.1.2, Nat.eq_of_beq_eq_true h.2]
    · rfl
    · rw [Nat.eq_of_beq_eq_true h]
    · rfl
    · rfl
    · rw [Nat.eq_of_beq_eq_true h]
    · rename_i e _ _ _ _ he
      cases he
      simp only [Bool.and_eq_true] at h; rw [Nat.eq_of_beq_eq_true h.1, ih _ _ h.2]
    · rename_i e _ _ _ _ _ _ he
      cases he
      simp only [Bool.and_eq_true, decide_eq_true_eq] at h; rw [h.1.1, vEqs_eq ih _ _ h.1.2, vEqs_eq ih _ _ h.2]
    · rename_i e _ _ he
      cases he
      rw [vEqs_eq ih _ _ h]
    · rename_i e _ _ he
      cases he
      rw [vEqs_eq ih _ _ h]
    · cases h

theorem bytes_rel {ρ : Rn} : ∀ (l l' : List Value) (s : List UInt8), bytesOf l = some s → LRel ρ l l' → l' = l
  | [], l', s, h, hl => hl.unnil
  | x :: l, l', s, h, hl => by
    obtain ⟨y, c, rfl, h1, h2⟩ := hl.uncons
    unfold bytesOf at h
    split at h
    · rename_i he; cases he
    · rename_i n r he
      cases he
      simp only [Option.map_eq_some_iff] at h
      obtain ⟨s', hs', _⟩ := h
      rw [bytes_rel l c s' hs' h2, closed_eq h1 rfl]
    · cases h

theorem bytes_load {P : Program} {w : World} : ∀ (l : List Value) (s : List UInt8) (a : Addr) (acc : ByteArray), bytesOf l = some s → (∀ (j : Nat) v, l[j]? = some v → w.cell? (a.add j) = some v) →
    (loadBytes a acc l.length).run P w = .ok ⟨⟨acc.data.toList ++ s⟩⟩ w
  | [], s, a, acc, h, _ => by
    simp only [bytesOf] at h; cases h
    simp [loadBytes]
  | x :: l, s, a, acc, h, hc => by
    unfold bytesOf at h
    split at h
    · rename_i he; cases he
    · rename_i n r he
      cases he
      simp only [Option.map_eq_some_iff] at h
      obtain ⟨s', hs', rfl⟩ := h
      have h0 : w.cell? a = some (.int .u8 (.ofNat n)) := by
        have := hc 0 _ rfl
        simpa [Addr.add] using this
      have ih := bytes_load (P := P) l s' (a.add 1) (acc.push (UInt8.ofNat n)) hs' (fun j y hy => by
        have := hc (j + 1) y (by simpa using hy)
        have e : (a.add 1).add j = a.add (j + 1) := by
          unfold Addr.add
          by_cases hj : j = 0
          · subst hj; simp
          · simp [hj]; omega
        rw [e]; exact this)
      simp only [List.length_cons, loadBytes, Sem.run_bind, run_load, h0, Result.andThen]
      rw [show (Int.ofNat n).toNat.toUInt8 = UInt8.ofNat n from rfl, ih]
      congr 1
      apply ByteArray.ext
      simp [ByteArray.push]
    · cases h

section
variable {X : Cx} (ok : X.Ok) {ρ : Rn}
include ok

theorem size_info {t : TypeId} {n : Nat} (h : X.size t = some n) : ∃ i, X.P.info? t = some i ∧ i.size = n := by
  unfold Cx.size at h
  simp only [Option.map_eq_some_iff] at h
  obtain ⟨i, hi, rfl⟩ := h
  exact ⟨i, ok.ty t i hi, rfl⟩

/-- Variables of a block's own element type lie where its elements do. -/
theorem lies_own {e : TypeId} {s : Nat} (hs : X.size e = some s) (hpos : 0 < s) {cells off n : Nat} (hmod : off % s = 0) (hn : off / s + n ≤ cells / s) : liesAt X.P X.P.depth e (cells / X.P.cellsOf e) off e n = true := by
  obtain ⟨i, hi, rfl⟩ := size_info ok hs
  have hc : X.P.cellsOf e = i.size := by simp [Program.cellsOf, hi]
  have hd : X.P.depth = (2 * (X.P.types.size + Made.depth) + 1) + 1 := rfl
  rw [hd]
  simp only [liesAt, Bool.or_eq_true]
  left
  rw [hd]
  have hne : i.size ≠ 0 := by omega
  simp [rowAt, hc, hne, hmod, hn, sameLayout]

theorem evUns_ok {o : Oper} {e : Operand → Option Value} {r : Operand → Value} (hr : OpRel ρ e r) {H : Heap} {w : World} (hw : WRel ρ H w) {v : Value} (h : evUns X e o.op H = some v) : ∃ v', Gives X.P r o w v' ∧ VRel ρ v v' := by
  obtain ⟨dst, op, ty, pos, after, guard⟩ := o
  simp only at h
  cases op with
  | load t x =>
    simp only [evUns] at h
    split at h
    · rename_i a n hx hg hn
      split at h
      · rename_i ob cs hsp hH
        have hv := hr x _ hx
        obtain ⟨a', L, hxe, h1, h2, h3, h4⟩ := hv.unptr
        obtain ⟨K, o', hK, hko, hrel⟩ := hw.obj a.block _ hH
        rw [h1] at hK; cases hK
        have hrel' : o' = ob ∧ L.shift = 0 ∧ ∃ (cs' : Array Value) (el : TypeId) (fz : Nat × Nat), ob = .cells cs' el fz ∧ ∀ (i : Nat) v, cs[i]? = some v → ∃ v', cs'[i]? = some v' ∧ VRel ρ v v' := by
          cases o' <;> simpa only [ORel] using hrel
        obtain ⟨rfl, hsh, cs', el, fz, rfl, hcs⟩ := hrel'
        obtain ⟨v', hv', hrv⟩ := hcs a.off v h
        have hc : w.cell? a' = some v' := by
          unfold World.cell?
          rw [h2, hko]
          simp [h4, hsp, h3, hsh, hv']
        refine ⟨v', gives_v (s := Instr.loadAt t (r x)) rfl ?_, hrv⟩
        rw [hxe]
        unfold Instr.loadAt loadVar
        simp only [Sem.run_bind, sure_ok, Result.andThen_ok]
        simp [run_agg ok hg, hc]
      · cases h
    · cases h
  | convert s d x =>
    simp only [evUns] at h
    split at h
    · rename_i t a hs hd hx
      split at h
      · rename_i k cs el opn str hsz hH
        cases hb : Nat.blt a.off cs.length with
        | false => rw [hb, cond_false] at h; cases h
        | true =>
          rw [hb, cond_true] at h; cases h
          have hlt : a.off < cs.length := by simpa [Nat.blt_eq] using hb
          have hv := hr x _ hx
          obtain ⟨a', L, hxe, h1, h2, h3, h4⟩ := hv.unptr
          obtain ⟨K, o', hK, hko, hrel⟩ := hw.obj a.block _ hH
          rw [h1] at hK; cases hK
          obtain ⟨cs', fz, rfl, _, hcell, _⟩ := hrel.cellsInv
          obtain ⟨i, hi, hsi⟩ := size_info ok hsz
          have hsh : w.shape? a'.block = some (el, cs'.size) := by
            unfold World.shape?
            rw [h2, hko]
          have hoff : a'.off < cs'.size := by
            obtain ⟨q, hq, _⟩ := hcell a.off cs[a.off] (List.getElem?_eq_getElem hlt)
            rw [h3]; exact (Array.getElem?_eq_some_iff.1 hq).1
          refine ⟨.pointer (some a'), gives_v (s := Go.convert s d (r x)) rfl ?_, .ptr h1 h2 h3 h4⟩
          rw [hxe]
          exact Lib.run_to_unsafe w a' (under_ok ok hs) (under_ok ok hd) hi (by omega) hsh hoff
      · cases h
    · rename_i u a hs hd hx
      split at h
      · rename_i k cs el str hsz hH
        cases hb : (Nat.beq el u && Nat.beq (a.off % (k + 1)) 0 && Nat.ble (a.off + (k + 1)) cs.length) with
        | false => rw [hb, cond_false] at h; cases h
        | true =>
          rw [hb, cond_true] at h; cases h
          simp only [Bool.and_eq_true] at hb
          have he := Nat.eq_of_beq_eq_true hb.1.1
          have hm := Nat.eq_of_beq_eq_true hb.1.2
          have hle := Nat.le_of_ble_eq_true hb.2
          subst he
          have hv := hr x _ hx
          obtain ⟨a', L, hxe, h1, h2, h3, h4⟩ := hv.unptr
          obtain ⟨K, o', hK, hko, hrel⟩ := hw.obj a.block _ hH
          rw [h1] at hK; cases hK
          obtain ⟨cs', fz, rfl, _, hcell, _, _, _, hsh0⟩ := hrel.cellsInv
          have hL0 := hsh0 rfl
          obtain ⟨i, hi, hsi⟩ := size_info ok hsz
          have hsh : w.shape? a'.block = some (el, cs'.size) := by
            unfold World.shape?
            rw [h2, hko]
          have hoff : a'.off = a.off := by rw [h3, hL0]; rfl
          have hcs : a.off + (k + 1) ≤ cs'.size := by
            have hlt : a.off + k < cs.length := by omega
            obtain ⟨q, hq, _⟩ := hcell (a.off + k) cs[a.off + k] (List.getElem?_eq_getElem hlt)
            have := (Array.getElem?_eq_some_iff.1 hq).1
            rw [hL0] at this
            omega
          have hdiv : a'.off / (k + 1) + 1 ≤ cs'.size / (k + 1) := by
            rw [hoff, ← Nat.add_div_right _ (by omega)]
            exact Nat.div_le_div_right hcs
          refine ⟨.pointer (some a'), gives_v (s := Go.convert s d (r x)) rfl ?_, .ptr h1 h2 h3 h4⟩
          rw [hxe]
          exact Lib.run_from_unsafe w a' (under_ok ok hs) (under_ok ok hd) hi hsh (lies_own ok hsz (by omega) (by rw [hoff]; exact hm) hdiv)
      · cases h
    · cases h
  | call c =>
    obtain ⟨callee, args, argTypes⟩ := c
    simp only [evUns] at h
    have bi : ∀ (s : Sem Value) (v' : Value), callee = .builtin .unsafeSliceData → (∀ cs, builtin .unsafeSliceData argTypes ty cs (args.map r) = (do pure (.value (← s)))) → s.run X.P w = .ok v' w →
        Gives X.P r ⟨dst, .call ⟨callee, args, argTypes⟩, ty, pos, after, guard⟩ w v' := by
      intro s v' hcal hbi hs
      subst hcal
      unfold Gives execOp resolve
      simp [invoke, hbi, hs]
    split at h
    · rename_i ln cp hargs
      cases h
      have hl := evL_ok hr args.toList _ hargs
      obtain ⟨x', m, hxm, hx, hm⟩ := hl.uncons
      have hm' := hm.unnil
      subst hm'
      have ha : args.map r = #[x'] := by apply Array.ext'; simpa using hxm
      cases hx with
      | sliceNil =>
      exact ⟨.pointer none, bi (Builtin.unsafeSliceData_ argTypes ty (args.map r)) _ rfl (fun _ => rfl) (by rw [ha]; rfl), .ptrNil⟩
    · rename_i a ln cp hargs
      cases h
      have hl := evL_ok hr args.toList _ hargs
      obtain ⟨x', m, hxm, hx, hm⟩ := hl.uncons
      have hm' := hm.unnil
      subst hm'
      have ha : args.map r = #[x'] := by apply Array.ext'; simpa using hxm
      cases hx with
      | @slice _ a' _ _ cap' L h1 h2 h3 h3' h4 =>
      have hcap : cap' ≠ 0 ∧ a'.off = a.off + L.shift := by
        unfold SlRel at h4
        split at h4
        · omega
        · exact ⟨by omega, h4.2.2 (by omega)⟩
      exact ⟨.pointer (some a'), bi (Builtin.unsafeSliceData_ argTypes ty (args.map r)) _ rfl (fun _ => rfl) (by rw [ha]; exact Lib.run_unsafeSliceData_row w _ _ _ _ _ hcap.1), .ptr h1 h2 hcap.2 (h3'.trans h3.symm)⟩
    · cases h
  | _ => simp [evUns] at h

omit ok in
theorem findO_ok {op : BinOp} {t : TypeId} {a b : Value} {c : Bool} : ∀ (l : List Orc), findO op t a b l = some c → ∃ en ∈ l, en.op = op ∧ en.t = t ∧ en.a = a ∧ en.b = b ∧ en.r = c
  | [], h => by cases h
  | x :: l, h => by
    unfold findO at h
    cases hb : (decide (x.op = op) && Nat.beq x.t t && vEq 2 x.a a && vEq 2 x.b b) with
    | true =>
      rw [hb, cond_true] at h; cases h
      simp only [Bool.and_eq_true, decide_eq_true_eq] at hb
      exact ⟨x, by simp, hb.1.1.1, Nat.eq_of_beq_eq_true hb.1.1.2, vEq_eq _ _ _ hb.1.2, vEq_eq _ _ _ hb.2, rfl⟩
    | false =>
      rw [hb, cond_false] at h
      obtain ⟨en, h1, h2⟩ := findO_ok l h
      exact ⟨en, List.mem_cons_of_mem _ h1, h2⟩

theorem evOrc_ok {o : Oper} {e : Operand → Option Value} {r : Operand → Value} (hr : OpRel ρ e r) (hg : GRel X ρ) (w : World) {v : Value} (h : evOrc X e o.op = some v) : ∃ v', Gives X.P r o w v' ∧ VRel ρ v v' := by
  obtain ⟨dst, op, ty, pos, after, guard⟩ := o
  simp only at h
  cases op with
  | binOp op t x y yt =>
    simp only [evOrc] at h
    split at h
    · cases h
    · rename_i a b hx hy hne
      simp only [Option.map_eq_some_iff] at h
      obtain ⟨c, hc, rfl⟩ := h
      obtain ⟨en, h1, h2, h3, h4, h5, h6⟩ := findO_ok _ hc
      have hh := ok.orc en h1 ρ hg x y (r x) (r y) (by rw [h4]; exact hr x a hx) (by rw [h5]; exact hr y b hy) w
      rw [h2, h3, h6] at hh
      exact ⟨.bool c, gives_v (s := (do eqGuard op t x y (r x) (r y); Go.binOp op t (r x) (r y))) rfl hh, .bool c⟩
    · cases h
  | _ => simp [evOrc] at h

theorem evVal_ok {o : Oper} {e : Operand → Option Value} {r : Operand → Value} (hr : OpRel ρ e r) (hg : GRel X ρ) {H : Heap} {w : World} (hw : WRel ρ H w) {v : Value} (h : evVal X e o.op H = some v) : ∃ v', Gives X.P r o w v' ∧ VRel ρ v v' := by
  unfold evVal at h
  split at h
  · rename_i q hq
    cases h
    exact evPure_ok ok hr hq w
  · split at h
    · rename_i q hq
      cases h
      exact evRead_ok ok hr hw hq
    · split at h
      · rename_i q hq
        cases h
        exact evUns_ok ok hr hw hq
      · exact evOrc_ok ok hr hg w h

end
end Go.Ev
