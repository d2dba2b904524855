/-
  What the evaluator says of operations that do not look at memory is true of the model.
-/
import Derived.Test.YtjjgdnelkkmdcaaGreatDoorEvCode
set_option linter.all false
namespace Go.Ev

def GRel (X : Cx) (ρ : Rn) : Prop := (∀ g, g < X.nG → ρ g = some ⟨g, 0, none, none⟩) ∧ ∀ r v, X.sym r = some v → ∃ L, ρ r = some L ∧ L.sym = some v

structure Cx.Ok (X : Cx) : Prop where
  ty : ∀ t i, X.ty.get t = some i → X.P.info? t = some i
  fn : ∀ f g, X.fn.get f = some g → X.P.funcs[f]? = some g
  mx : X.P.follows .mixedOrders = true
  orc : ∀ en ∈ X.orc, ∀ ρ, GRel X ρ → ∀ (x y : Operand) (a' b' : Value), VRel ρ en.a a' → VRel ρ en.b b' → ∀ w, (do eqGuard en.op en.t x y a' b'; Go.binOp en.op en.t a' b' : Sem Value).run X.P w = .ok (.bool en.r) w

theorem Cx.of_ok (P : Program) (hm : P.follows .mixedOrders = true) : (Cx.of P).Ok where
  mx := hm
  orc := fun en he => by cases he
  ty := fun t i h => by
    have h' : P.types.toList[t]? = some i := Tr.get_ofList h
    rw [Array.getElem?_toList] at h'
    have hlt : t < P.types.size := (Array.getElem?_eq_some_iff.1 h').1
    show Tables.info? _ t = some i
    unfold Tables.info?
    exact (if_pos hlt).trans h'
  fn := fun f g h => by
    have h' : P.funcs.toList[f]? = some g := Tr.get_ofList h
    rw [Array.getElem?_toList] at h'; exact h'

/-- Package-level variables keep their numbers. -/
theorem GRel.mono {X : Cx} {ρ ρ' : Rn} (h : GRel X ρ) (hx : ρ.Ext ρ') : GRel X ρ' := ⟨fun g hg => hx _ _ (h.1 g hg), fun r v hr => let ⟨L, a, b⟩ := h.2 r v hr; ⟨L, hx _ _ a, b⟩⟩

def OpRel (ρ : Rn) (e : Operand → Option Value) (r : Operand → Value) : Prop := ∀ x v, e x = some v → VRel ρ v (r x)

theorem clos1_rel (ρ : Rn) {v : Value} (h : clos1 v = true) : VRel ρ v v := by
  cases v with
  | bool b => exact .bool b
  | int k n => exact .int k n
  | float k n => exact .float k n
  | string s => exact .string s
  | pointer a => cases a with
    | none => exact .ptrNil
    | some a => simp [clos1] at h
  | slice a l c => cases a with
    | none => exact .sliceNil l c
    | some a => simp [clos1] at h
  | map r => cases r with
    | none => exact .mapNil
    | some r => simp [clos1] at h
  | nilFunc => exact .nilFunc
  | nilIface => exact .nilIface
  | _ => simp [clos1] at h

theorem clos_all (ρ : Rn) {a : Array Value} (h : a.toList.all clos1 = true) : ARel ρ a a := by
  refine ⟨rfl, fun i x y hx hy => ?_⟩
  rw [hx] at hy; cases hy
  have hm : x ∈ a.toList := by
    rw [← Array.getElem?_toList] at hx
    exact List.mem_of_getElem? hx
  exact clos1_rel ρ (List.all_eq_true.1 h x hm)

theorem clos_rel (ρ : Rn) {v : Value} (h : clos v = true) : VRel ρ v v := by
  cases v with
  | agg cs => exact .aggA (clos_all ρ h)
  | tuple cs => exact .tupA (clos_all ρ h)
  | bool b => exact clos1_rel ρ h
  | int k n => exact clos1_rel ρ h
  | float k n => exact clos1_rel ρ h
  | string s => exact clos1_rel ρ h
  | pointer a => exact clos1_rel ρ h
  | slice a l c => exact clos1_rel ρ h
  | map r => exact clos1_rel ρ h
  | nilFunc => exact clos1_rel ρ h
  | nilIface => exact clos1_rel ρ h
  | complex k a b => simp [clos, clos1] at h
  | chan r => simp [clos, clos1] at h
  | func f a b => simp [clos, clos1] at h
  | iface t v => simp [clos, clos1] at h

theorem closed_eq {ρ : Rn} {v v' : Value} (h : VRel ρ v v') (hc : clos1 v = true) : v' = v := by
  cases h <;> simp [clos1] at hc <;> rfl

theorem evO_ok {X : Cx} {ρ : Rn} {n : Nat} {env : Env} {fr : Frame} (h : EnvRel ρ n env fr.tmps) (hg : GRel X ρ) : OpRel ρ (evO X env) fr.eval := by
  intro x v hx
  cases x with
  | tmp t =>
    obtain ⟨v', hv, hr⟩ := h.2 t v hx
    show VRel ρ v (fr.tmps.getD t undef)
    rw [Array.getD_eq_getD_getElem?, hv]; exact hr
  | const u =>
    simp only [evO] at hx
    cases hc : clos u with
    | false => rw [hc, cond_false] at hx; cases hx
    | true => rw [hc, cond_true] at hx; cases hx; exact clos_rel ρ hc
  | global g =>
    simp only [evO] at hx
    cases hc : Nat.blt g X.nG with
    | false => rw [hc, cond_false] at hx; cases hx
    | true =>
      rw [hc, cond_true] at hx; cases hx
      exact .ptr (hg.1 g (by simpa [Nat.blt_eq] using hc)) rfl rfl rfl
  | func f =>
    simp only [evO] at hx; cases hx
    exact .func (.func f) rfl rfl (fun i x y h => by simp at h) (fun i x y h => by simp at h)

theorem evL_ok {ρ : Rn} {e : Operand → Option Value} {r : Operand → Value} (hr : OpRel ρ e r) : ∀ (l : List Operand) (vs : List Value), evL e l = some vs → LRel ρ vs (l.map r)
  | [], vs, h => by simp only [evL] at h; cases h; exact .nil ρ
  | x :: l, vs, h => by
    simp only [evL] at h
    cases hx : e x with
    | none => rw [hx] at h; cases h
    | some v =>
      rw [hx] at h
      simp only [Option.map_eq_some_iff] at h
      obtain ⟨us, hu, rfl⟩ := h
      exact .cons (hr x v hx) (evL_ok hr l us hu)

section
variable {X : Cx} (ok : X.Ok) {ρ : Rn}
include ok

theorem run_info {t : TypeId} {i : TypeInfo} (h : X.ty.get t = some i) (w : World) : (typeInfo t).run X.P w = .ok i w := by
  unfold typeInfo
  simp [ok.ty t i h]

theorem under_ok {t : TypeId} {d : TypeDesc} (h : X.under t = some d) : X.P.underlying t = some d := by
  unfold Cx.under at h
  cases hi : X.ty.get t with
  | none => rw [hi] at h; cases h
  | some i =>
    rw [hi] at h
    have hi' := ok.ty t i hi
    unfold Program.underlying
    rw [hi']
    obtain ⟨desc, str, size, bytes, hp, al, fa, z, cm, ms⟩ := i
    simp only at h ⊢
    split at h
    · rename_i nm u
      simp only [Option.map_eq_some_iff] at h
      obtain ⟨j, hj, rfl⟩ := h
      simp [ok.ty u j hj]
    · rename_i hne
      cases h
      cases d <;> first | rfl | exact absurd rfl (hne _ _)

theorem run_under {t : TypeId} {d : TypeDesc} (h : X.under t = some d) (w : World) : (underlying t).run X.P w = .ok d w := by
  unfold underlying
  simp [under_ok ok h]

theorem run_size {t : TypeId} {n : Nat} (h : X.size t = some n) (w : World) : (sizeOf t).run X.P w = .ok n w := by
  unfold Cx.size at h
  simp only [Option.map_eq_some_iff] at h
  obtain ⟨i, hi, rfl⟩ := h
  unfold sizeOf
  simp [run_info ok hi]

theorem run_agg {t : TypeId} {b : Bool} (h : X.isAgg t = some b) (w : World) : (isAgg t).run X.P w = .ok b w := by
  unfold Cx.isAgg at h
  simp only [Option.map_eq_some_iff] at h
  obtain ⟨d, hd, rfl⟩ := h
  unfold isAgg
  simp only [Sem.run_bind, run_under ok hd, Result.andThen_ok]
  cases d <;> rfl

theorem run_zero_of {t : TypeId} {i : TypeInfo} {z : Value} (h : X.ty.get t = some i) (hz : i.zero = some z) (w : World) : (zeroValue t).run X.P w = .ok z w := by
  unfold zeroValue
  simp [run_info ok h, hz]

theorem zeroV_ok {t : TypeId} {z : Value} (h : X.zeroV t = some z) (w : World) : (zeroValue t).run X.P w = .ok z w ∧ VRel ρ z z := by
  unfold Cx.zeroV at h
  cases hi : X.ty.get t with
  | none => rw [hi] at h; cases h
  | some i =>
    rw [hi] at h; simp only at h
    cases hz : i.zero with
    | none => rw [hz] at h; cases h
    | some u =>
      rw [hz] at h; simp only at h
      cases hc : clos u with
      | false => rw [hc, cond_false] at h; cases h
      | true => rw [hc, cond_true] at h; cases h; exact ⟨run_zero_of ok hi hz w, clos_rel ρ hc⟩

theorem zero_ok {t : TypeId} {l : List Value} (h : X.zero t = some l) (w : World) : ∃ z, (zeroValue t).run X.P w = .ok z w ∧ z.cells.toList = l ∧ LRel ρ l l := by
  unfold Cx.zero at h
  cases hi : X.ty.get t with
  | none => rw [hi] at h; cases h
  | some i =>
    rw [hi] at h; simp only at h
    cases hz : i.zero with
    | none => rw [hz] at h; cases h
    | some u =>
      rw [hz] at h; simp only at h
      cases hc : clos u with
      | false => rw [hc, cond_false] at h; cases h
      | true => rw [hc, cond_true] at h; cases h; exact ⟨u, run_zero_of ok hi hz w, rfl, (clos_rel ρ hc).cells⟩

omit ok in
theorem cut_ok {cs l : List Value} {off n : Nat} (h : cut cs off n = some l) : off + n ≤ cs.length ∧ l = (cs.drop off).take n := by
  unfold cut at h
  cases hb : Nat.ble (off + n) cs.length with
  | false => rw [hb, cond_false] at h; cases h
  | true => rw [hb, cond_true] at h; cases h; exact ⟨Nat.le_of_ble_eq_true hb, rfl⟩

theorem part_ok {t : TypeId} {off : Nat} {cs : List Value} {v : Value} {cs' : Array Value} (h : X.part t off cs = some v) (hc : LRel ρ cs cs'.toList) (w : World) :
    ∃ v', (part t cs' off).run X.P w = .ok v' w ∧ VRel ρ v v' := by
  unfold Cx.part at h
  cases hg : X.isAgg t with
  | none => rw [hg] at h; cases h
  | some g =>
    cases hn : X.size t with
    | none => rw [hg, hn] at h; cases h
    | some n =>
      rw [hg, hn] at h
      simp only [partA] at h
      unfold part
      simp only [Sem.run_bind, run_agg ok hg, Result.andThen_ok]
      cases g with
      | true =>
        simp only [cond_true, Option.map_eq_some_iff] at h
        obtain ⟨l, hl, rfl⟩ := h
        obtain ⟨hle, rfl⟩ := cut_ok hl
        refine ⟨.agg (cs'.extract off (off + n)), by simp [run_size ok hn], .aggA ?_⟩
        have := ((hc.drop off).take n).arr
        have e : (cs'.extract off (off + n)) = ((cs'.toList.drop off).take n).toArray := by
          apply Array.ext'
          simp [List.take_drop]
        rw [e]; exact this
      | false =>
        simp only [cond_false] at h
        obtain ⟨v', hv', hr⟩ := hc.get h
        refine ⟨v', ?_, hr⟩
        rw [Array.getElem?_toList] at hv'
        simp [hv']

end

/-! ### Values made of parts -/

theorem zip_foldl (off : Nat) : ∀ (l : List Value) (k : Nat) (cs : Array Value), off + k + l.length ≤ cs.size →
    ((l.zipIdx k).foldl (fun (cs : Array Value) (x : Value × Nat) => cs.setIfInBounds (off + x.2) x.1) cs).toList = spl cs.toList (off + k) l
  | [], k, cs, h => by
    simp only [List.length_nil, Nat.add_zero] at h
    simp [spl]
  | x :: l, k, cs, h => by
    simp only [List.length_cons] at h
    simp only [List.zipIdx_cons, List.foldl_cons]
    rw [zip_foldl off l (k + 1) _ (by simp; omega)]
    have hlt : off + k < cs.toList.length := by simp; omega
    simp only [spl, Array.toList_setIfInBounds, List.length_cons]
    have e1 : (cs.toList.set (off + k) x).take (off + (k + 1)) = cs.toList.take (off + k) ++ [x] := by
      rw [show off + (k + 1) = off + k + 1 by omega, List.take_set, List.take_succ_eq_append_getElem hlt, List.set_append_right _ _ (by simp; omega)]
      have e0 : off + k - min (off + k) cs.size = 0 := by omega
      simp [e0]
    have e2 : (cs.toList.set (off + k) x).drop (off + (k + 1) + l.length) = cs.toList.drop (off + k + (l.length + 1)) := by
      rw [List.drop_set_of_lt (by omega)]
      congr 1; omega
    rw [e1, e2]; simp

theorem set_range (off : Nat) (v cs : Array Value) (h : off + v.size ≤ cs.size) :
    (v.zipIdx.foldl (fun (cs : Array Value) (x : Value × Nat) => cs.setIfInBounds (off + x.2) x.1) cs).toList = spl cs.toList off v.toList := by
  rw [← Array.foldl_toList, Array.toList_zipIdx]
  exact zip_foldl off v.toList 0 cs (by simpa using h)

theorem spl_rel {ρ : Rn} {a b c d : List Value} (h : LRel ρ a b) (k : LRel ρ c d) (off : Nat) : LRel ρ (spl a off c) (spl b off d) := by
  unfold spl
  rw [k.1]
  exact ((h.take off).append k).append (h.drop _)
theorem spl_length {cs vs : List Value} {off : Nat} (h : off + vs.length ≤ cs.length) : (spl cs off vs).length = cs.length := by
  unfold spl; simp; omega

/-- Parts, place by place. -/
inductive PRel (ρ : Rn) : List (Nat × Value) → List (Nat × Value) → Prop where
  | nil : PRel ρ [] []
  | cons (i : Nat) {v v' : Value} {r r' : List (Nat × Value)} (h : VRel ρ v v') (t : PRel ρ r r') : PRel ρ ((i, v) :: r) ((i, v') :: r')

theorem evParts_ok {ρ : Rn} {e : Operand → Option Value} {r : Operand → Value} (hr : OpRel ρ e r) : ∀ (l : List (Nat × Operand)) (ps : List (Nat × Value)), evParts e l = some ps →
    PRel ρ ps (l.map fun (i, x) => (i, r x))
  | [], ps, h => by simp only [evParts] at h; cases h; exact .nil
  | (i, x) :: l, ps, h => by
    simp only [evParts] at h
    cases hx : e x with
    | none => rw [hx] at h; cases h
    | some v =>
      rw [hx] at h
      simp only [Option.map_eq_some_iff] at h
      obtain ⟨us, hu, rfl⟩ := h
      exact .cons i (hr x v hx) (evParts_ok hr l us hu)

theorem fillA_ok {ρ : Rn} {place : Nat → Option (Nat × Nat)} {ps ps' : List (Nat × Value)} (hp : PRel ρ ps ps') :
    ∀ {cs l : List Value} {cs' : Array Value}, fillA place ps cs = some l → LRel ρ cs cs'.toList → ∃ a, Instr.fill place cs' ps' = some a ∧ LRel ρ l a.toList := by
  induction hp with
  | nil =>
    intro cs l cs' h hc
    simp only [fillA] at h; cases h
    exact ⟨cs', rfl, hc⟩
  | @cons i v v' r r' hv _ ih =>
    intro cs l cs' h hc
    simp only [fillA] at h
    simp only [Instr.fill]
    cases hpl : place i with
    | none => rw [hpl] at h; cases h
    | some os =>
      obtain ⟨off, size⟩ := os
      rw [hpl] at h
      simp only at h ⊢
      cases hb : (Nat.beq v.cells.toList.length size && Nat.ble (off + size) cs.length) with
      | false => rw [hb, cond_false] at h; cases h
      | true =>
        rw [hb, cond_true] at h
        rw [Bool.and_eq_true] at hb
        have h1 : v.cells.toList.length = size := Nat.eq_of_beq_eq_true hb.1
        have h2 : off + size ≤ cs.length := Nat.le_of_ble_eq_true hb.2
        have h3 : v'.cells.size = size := by have := hv.cells.1; simp at this h1; omega
        have h4 : cs'.size = cs.length := by have := hc.1; simp at this; omega
        rw [if_neg (by simp [h3]; omega)]
        refine ih h ?_
        rw [set_range off v'.cells cs' (by omega)]
        exact spl_rel hc hv.cells off

theorem fillC_fillA {place : Nat → Option (Nat × Nat)} : ∀ (ps : List (Nat × Value)) (cur : Nat) (l cs : List Value), fillC place ps cur = some l → cur + l.length ≤ cs.length →
    fillA place ps cs = some (spl cs cur l)
  | [], cur, l, cs, h, hl => by
    simp only [fillC] at h; cases h
    simp [fillA, spl]
  | (i, v) :: r, cur, l, cs, h, hl => by
    simp only [fillC] at h
    simp only [fillA]
    cases hpl : place i with
    | none => rw [hpl] at h; cases h
    | some os =>
      obtain ⟨off, size⟩ := os
      rw [hpl] at h
      simp only at h ⊢
      cases hb : (Nat.beq off cur && Nat.beq v.cells.toList.length size) with
      | false => rw [hb, cond_false] at h; cases h
      | true =>
        rw [hb, cond_true] at h
        rw [Bool.and_eq_true] at hb
        have h0 : off = cur := Nat.eq_of_beq_eq_true hb.1
        have h1 : v.cells.toList.length = size := Nat.eq_of_beq_eq_true hb.2
        simp only [Option.map_eq_some_iff] at h
        obtain ⟨l', hl', rfl⟩ := h
        subst h0
        simp only [List.length_append] at hl
        have h2 : Nat.ble (off + size) cs.length = true := Nat.ble_eq_true_of_le (by omega)
        rw [hb.2, h2, Bool.true_and, cond_true]
        have hlen := spl_length (cs := cs) (vs := v.cells.toList) (off := off) (by omega)
        rw [fillC_fillA r (off + size) l' _ hl' (by rw [hlen]; omega)]
        have h1' : v.cells.size = size := by simpa using h1
        congr 1
        unfold spl
        have t1 : (cs.take off ++ v.cells.toList ++ cs.drop (off + v.cells.toList.length)).take (off + size) = cs.take off ++ v.cells.toList := by
          rw [List.take_left' (by simp; omega)]
        have t2 : (cs.take off ++ v.cells.toList ++ cs.drop (off + v.cells.toList.length)).drop (off + size + l'.length) = cs.drop (off + (v.cells.toList ++ l').length) := by
          rw [List.drop_append, List.drop_eq_nil_of_le (by simp; omega), List.nil_append, List.drop_drop]
          congr 1
          simp only [List.length_append, List.length_take]; omega
        rw [t1, t2]; simp

theorem fillB_ok {ρ : Rn} {place : Nat → Option (Nat × Nat)} {ps ps' : List (Nat × Value)} (hp : PRel ρ ps ps') {cs l : List Value} {cs' : Array Value}
    (h : fillB place ps cs = some l) (hc : LRel ρ cs cs'.toList) : ∃ a, Instr.fill place cs' ps' = some a ∧ LRel ρ l a.toList := by
  refine fillA_ok hp ?_ hc
  unfold fillB at h
  cases hf : fillC place ps 0 with
  | none => rw [hf] at h; exact h
  | some m =>
    rw [hf] at h; simp only at h
    cases hb : Nat.beq m.length cs.length with
    | false => rw [hb, cond_false] at h; exact h
    | true =>
      rw [hb, cond_true] at h; cases h
      have hl := Nat.eq_of_beq_eq_true hb
      rw [fillC_fillA ps 0 l cs hf (by omega)]
      simp [spl, hl]

end Go.Ev
