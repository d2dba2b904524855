/-
  The evaluator and what it says of the model: a part of it.
-/
import Derived.Test.YtgmljeeeomjooaaGreatDoorEvA
import Derived.Below
set_option linter.all false

namespace Go.Ev
variable [Gho]

def GRel (X : Cx) (ρ : Rn) : Prop := (∀ g, g < X.nG → ρ g = some ⟨g, 0, none, none, none⟩) ∧ (∀ r v, X.sym r = some v → ∃ L, ρ r = some L ∧ L.sym = some v) ∧ ∀ n L l, ρ n = some L → L.ice = some l → ∃ v, L.sym = some v ∧ Gho.Gh (n % 64) v l

/-- A call's own run: a value at once, or a function that is entered and comes to its leaving. -/
def Entered (P : Program) (f : FuncId) (args' : Array Value) (cs : List Frame) (w w' : World) (v' : Value) : Prop :=
  ((callFunc f args').run P w = .ok (.value v') w') ∨
  ((callFunc f args').run P w = .ok (.enter f args') w ∧
    ∃ fr', Steps P (lone (Frame.enter P f args' .normal) cs w) (lone fr' cs w') ∧ fr'.fn = f ∧ fr'.leaving P w' (.returned v'))

/-- A round of a loop over a function, in the machine. -/
def Yielded (P : Program) (l : Nat) (args' : Array Value) (fr : Frame) (cs : List Frame) (w w' : World) (v' : Value) : Prop :=
  ∃ f tmps assign body, (Instr.yield l args').run P w = .ok (.round l f tmps assign body) w ∧
    Steps P (lone (Frame.round l f tmps assign body .normal) (fr :: cs) w) (lone (fr.finish v') cs w')

def CallSound (X : Cx) (call : Callf) : Prop :=
  (∀ l args H c v H' c', call (.yield l args) H c = some (v, H', c') → ∀ (ρ : Rn) (w : World) (args' : List Value) (fr : Frame) (cs : List Frame) (L : Loc), ρ l = some L → LRel ρ args args' → WRel ρ H w → ρ.Below c → GRel X ρ →
    ∃ ρ' v' w', Yielded X.P L.block args'.toArray fr cs w w' v' ∧ VRel ρ' v v' ∧ Goes ρ H w ρ' H' w' ∧ ρ'.Below c' ∧ c ≤ c' ∧ ∀ m, m < c → ρ' m = ρ m) ∧
  ∀ f args H c v H' c', call (.fn f args) H c = some (v, H', c') → ∀ (ρ : Rn) (w : World) (args' : List Value) (cs : List Frame), LRel ρ args args' → WRel ρ H w → ρ.Below c → GRel X ρ →
    ∃ ρ' v' w', Entered X.P f args'.toArray cs w w' v' ∧ VRel ρ' v v' ∧ Goes ρ H w ρ' H' w' ∧ ρ'.Below c' ∧ c ≤ c' ∧ ∀ m, m < c → ρ' m = ρ m

/-- An operation's run in the machine. -/
def OpK.Run (k : OpK) (P : Program) (as : List Value) (w : World) (v' : Value) : Prop :=
  match k, as with
  | .bin op t, [a, b] => ∀ x y : Operand, (do eqGuard op t x y a b; Go.binOp op t a b : Sem Value).run P w = .ok v' w
  | .un op _, [a] => (Op.unary op a).run P w = .ok v' w
  | .conv s d, [a] => (Go.convert s d a).run P w = .ok v' w
  | .len t, [a] => ∀ (ats : Array TypeId) (ty : TypeId), ats[0]? = some t → (Builtin.len_ ats ty #[a]).run P w = .ok v' w
  | _, _ => False

structure Cx.Ok (X : Cx) : Prop where
  ty : ∀ t i, X.ty.get t = some i → X.P.info? t = some i
  fn : ∀ f g, X.fn.get f = some g → X.P.funcs[f]? = some g
  mx : X.P.follows .mixedOrders = true
  orv : ∀ en ∈ X.orv, ∀ ρ, GRel X ρ → ∀ as', LRel ρ en.as as' → ∀ w, ∃ v', en.k.Run X.P as' w v' ∧ VRel ρ en.r v'
  orf : ∀ en ∈ X.orf, (∃ g b, X.P.funcs[en.f]? = some g ∧ g.body = some b ∧ (g.name == "runtime.NumGoroutine") = false) ∧ ∀ ρ, GRel X ρ → ∀ w as', LRel ρ en.as as' →
    (∀ g l, en.rom = some (g, l) → ∃ (cs' : Array Value) (el : TypeId) (fz : Nat × Nat), w.heap[g]? = some (.cells cs' el fz) ∧ cs'.size = l.length ∧ ∀ (i : Nat) v, l[i]? = some v → ∃ v', cs'[i]? = some v' ∧ VRel ρ v v') →
    Calls X.P en.f as'.toArray w fun e w' => ∃ v', e = .returned v' ∧ VRel ρ en.r v' ∧ Go.RowKit.Below w.heap.size w w'
  org : ∀ en ∈ X.org, ∀ call, CallSound X call → ∀ args H c v H' c', en.run call args H c = some (v, H', c') → ∀ (ρ : Rn) (w : World) (args' : List Value) (cs : List Frame), LRel ρ args args' → WRel ρ H w → ρ.Below c → GRel X ρ →
    ∃ ρ' v' w', Entered X.P en.f args'.toArray cs w w' v' ∧ VRel ρ' v v' ∧ Goes ρ H w ρ' H' w' ∧ ρ'.Below c' ∧ c ≤ c' ∧ ∀ m, m < c → ρ' m = ρ m
  orc : ∀ en ∈ X.orc, ∀ ρ, GRel X ρ → ∀ (x y : Operand) (a' b' : Value), VRel ρ en.a a' → VRel ρ en.b b' → ∀ w, (do eqGuard en.op en.t x y a' b'; Go.binOp en.op en.t a' b' : Sem Value).run X.P w = .ok (.bool en.r) w

theorem Cx.of_ok (P : Program) (hm : P.follows .mixedOrders = true) : (Cx.of P).Ok where
  mx := hm
  orc := fun en he => by cases he
  orv := fun en he => by cases he
  orf := fun en he => by cases he
  org := fun en he => by cases he
  ty := fun t i h => by
    have h' : P.types.toList[t]? = some i := Tr.get_ofList h
    rw [Array.getElem?_toList] at h'
    have hlt : t < P.types.size := (Array.getElem?_eq_some_iff.1 h').1
    show Tables.info? _ t = some i
    unfold Tables.info?
    exact (if_pos hlt).trans h'
  fn := fun f g h => by
    have h' : P.funcs.toList[f]? = some g := Tr.get_ofList h
    rw [Array.getElem?_toList] at h'; exact h'

/-- Package-level variables keep their numbers. -/
theorem GRel.goes {X : Cx} {ρ ρ' : Rn} {H H' : Heap} {w w' : World} (h : GRel X ρ) (hx : Goes ρ H w ρ' H' w') : GRel X ρ' := ⟨fun g hg => hx.ext _ _ (h.1 g hg), fun r v hr => let ⟨L, a, b⟩ := h.2.1 r v hr; ⟨L, hx.ext _ _ a, b⟩, fun n L l hL hl => by
  rcases hx.gh n L l hL hl with a | ⟨a, _⟩
  · exact h.2.2 n L l a hl
  · exact a⟩

def OpRel (ρ : Rn) (e : Operand → Option Value) (r : Operand → Value) : Prop := ∀ x v, e x = some v → VRel ρ v (r x)

theorem clos1_rel (ρ : Rn) {v : Value} (h : clos1 v = true) : VRel ρ v v := by
  cases v with
  | bool b => exact .bool b
  | int k n => exact .int k n
  | float k n => exact .float k n
  | string s => exact .string s
  | pointer a => cases a with
    | none => exact .ptrNil
    | some a => simp [clos1] at h
  | slice a l c => cases a with
    | none => exact .sliceNil l c
    | some a => simp [clos1] at h
  | map r => cases r with
    | none => exact .mapNil
    | some r => simp [clos1] at h
  | nilFunc => exact .nilFunc
  | nilIface => exact .nilIface
  | _ => simp [clos1] at h

theorem clos_all (ρ : Rn) {a : Array Value} (h : a.toList.all clos1 = true) : ARel ρ a a := by
  refine ⟨rfl, fun i x y hx hy => ?_⟩
  rw [hx] at hy; cases hy
  have hm : x ∈ a.toList := by
    rw [← Array.getElem?_toList] at hx
    exact List.mem_of_getElem? hx
  exact clos1_rel ρ (List.all_eq_true.1 h x hm)

theorem clos_rel (ρ : Rn) {v : Value} (h : clos v = true) : VRel ρ v v := by
  cases v with
  | agg cs => exact .aggA (clos_all ρ h)
  | tuple cs => exact .tupA (clos_all ρ h)
  | bool b => exact clos1_rel ρ h
  | int k n => exact clos1_rel ρ h
  | float k n => exact clos1_rel ρ h
  | string s => exact clos1_rel ρ h
  | pointer a => exact clos1_rel ρ h
  | slice a l c => exact clos1_rel ρ h
  | map r => exact clos1_rel ρ h
  | nilFunc => exact clos1_rel ρ h
  | nilIface => exact clos1_rel ρ h
  | complex k a b => simp [clos, clos1] at h
  | chan r => simp [clos, clos1] at h
  | func f a b => simp [clos, clos1] at h
  | iface t v => simp [clos, clos1] at h

theorem closed_eq {ρ : Rn} {v v' : Value} (h : VRel ρ v v') (hc : clos1 v = true) : v' = v := by
  cases h <;> simp [clos1] at hc <;> rfl

theorem evO_ok {X : Cx} {ρ : Rn} {n : Nat} {env : Env} {fr : Frame} (h : EnvRel ρ n env fr.tmps) (hg : GRel X ρ) : OpRel ρ (evO X env) fr.eval := by
  intro x v hx
  cases x with
  | tmp t =>
    obtain ⟨v', hv, hr⟩ := h.2 t v hx
    show VRel ρ v (fr.tmps.getD t undef)
    rw [Array.getD_eq_getD_getElem?, hv]; exact hr
  | const u =>
    simp only [evO] at hx
    cases hc : clos u with
    | false => rw [hc, cond_false] at hx; cases hx
    | true => rw [hc, cond_true] at hx; cases hx; exact clos_rel ρ hc
  | global g =>
    simp only [evO] at hx
    cases hc : Nat.blt g X.nG with
    | false => rw [hc, cond_false] at hx; cases hx
    | true =>
      rw [hc, cond_true] at hx; cases hx
      exact .ptr (hg.1 g (by simpa [Nat.blt_eq] using hc)) rfl rfl rfl
  | func f =>
    simp only [evO] at hx; cases hx
    exact .func (.func f) rfl rfl (fun i x y h => by simp at h) (fun i x y h => by simp at h)

theorem evL_ok {ρ : Rn} {e : Operand → Option Value} {r : Operand → Value} (hr : OpRel ρ e r) : ∀ (l : List Operand) (vs : List Value), evL e l = some vs → LRel ρ vs (l.map r)
  | [], vs, h => by simp only [evL] at h; cases h; exact .nil ρ
  | x :: l, vs, h => by
    simp only [evL] at h
    cases hx : e x with
    | none => rw [hx] at h; cases h
    | some v =>
      rw [hx] at h
      simp only [Option.map_eq_some_iff] at h
      obtain ⟨us, hu, rfl⟩ := h
      exact .cons (hr x v hx) (evL_ok hr l us hu)

section
variable {X : Cx} (ok : X.Ok) {ρ : Rn}
include ok

theorem run_info {t : TypeId} {i : TypeInfo} (h : X.ty.get t = some i) (w : World) : (typeInfo t).run X.P w = .ok i w := by
  unfold typeInfo
  simp [ok.ty t i h]

theorem under_ok {t : TypeId} {d : TypeDesc} (h : X.under t = some d) : X.P.underlying t = some d := by
  unfold Cx.under at h
  cases hi : X.ty.get t with
  | none => rw [hi] at h; cases h
  | some i =>
    rw [hi] at h
    have hi' := ok.ty t i hi
    unfold Program.underlying
    rw [hi']
    obtain ⟨desc, str, size, bytes, hp, al, fa, z, cm, ms⟩ := i
    simp only at h ⊢
    split at h
    · rename_i nm u
      simp only [Option.map_eq_some_iff] at h
      obtain ⟨j, hj, rfl⟩ := h
      simp [ok.ty u j hj]
    · rename_i hne
      cases h
      cases d <;> first | rfl | exact absurd rfl (hne _ _)

theorem run_under {t : TypeId} {d : TypeDesc} (h : X.under t = some d) (w : World) : (underlying t).run X.P w = .ok d w := by
  unfold underlying
  simp [under_ok ok h]

theorem run_size {t : TypeId} {n : Nat} (h : X.size t = some n) (w : World) : (sizeOf t).run X.P w = .ok n w := by
  unfold Cx.size at h
  simp only [Option.map_eq_some_iff] at h
  obtain ⟨i, hi, rfl⟩ := h
  unfold sizeOf
  simp [run_info ok hi]

theorem run_agg {t : TypeId} {b : Bool} (h : X.isAgg t = some b) (w : World) : (isAgg t).run X.P w = .ok b w := by
  unfold Cx.isAgg at h
  simp only [Option.map_eq_some_iff] at h
  obtain ⟨d, hd, rfl⟩ := h
  unfold isAgg
  simp only [Sem.run_bind, run_under ok hd, Result.andThen_ok]
  cases d <;> rfl

theorem run_zero_of {t : TypeId} {i : TypeInfo} {z : Value} (h : X.ty.get t = some i) (hz : i.zero = some z) (w : World) : (zeroValue t).run X.P w = .ok z w := by
  unfold zeroValue
  simp [run_info ok h, hz]

theorem zeroV_ok {t : TypeId} {z : Value} (h : X.zeroV t = some z) (w : World) : (zeroValue t).run X.P w = .ok z w ∧ VRel ρ z z := by
  unfold Cx.zeroV at h
  cases hi : X.ty.get t with
  | none => rw [hi] at h; cases h
  | some i =>
    rw [hi] at h; simp only at h
    cases hz : i.zero with
    | none => rw [hz] at h; cases h
    | some u =>
      rw [hz] at h; simp only at h
      cases hc : clos u with
      | false => rw [hc, cond_false] at h; cases h
      | true => rw [hc, cond_true] at h; cases h; exact ⟨run_zero_of ok hi hz w, clos_rel ρ hc⟩

theorem zero_ok {t : TypeId} {l : List Value} (h : X.zero t = some l) (w : World) : ∃ z, (zeroValue t).run X.P w = .ok z w ∧ z.cells.toList = l ∧ LRel ρ l l := by
  unfold Cx.zero at h
  cases hi : X.ty.get t with
  | none => rw [hi] at h; cases h
  | some i =>
    rw [hi] at h; simp only at h
    cases hz : i.zero with
    | none => rw [hz] at h; cases h
    | some u =>
      rw [hz] at h; simp only at h
      cases hc : clos u with
      | false => rw [hc, cond_false] at h; cases h
      | true => rw [hc, cond_true] at h; cases h; exact ⟨u, run_zero_of ok hi hz w, rfl, (clos_rel ρ hc).cells⟩

omit ok in
theorem cut_ok {cs l : List Value} {off n : Nat} (h : cut cs off n = some l) : off + n ≤ cs.length ∧ l = (cs.drop off).take n := by
  unfold cut at h
  cases hb : Nat.ble (off + n) cs.length with
  | false => rw [hb, cond_false] at h; cases h
  | true => rw [hb, cond_true] at h; cases h; exact ⟨Nat.le_of_ble_eq_true hb, rfl⟩

theorem part_ok {t : TypeId} {off : Nat} {cs : List Value} {v : Value} {cs' : Array Value} (h : X.part t off cs = some v) (hc : LRel ρ cs cs'.toList) (w : World) :
    ∃ v', (part t cs' off).run X.P w = .ok v' w ∧ VRel ρ v v' := by
  unfold Cx.part at h
  cases hg : X.isAgg t with
  | none => rw [hg] at h; cases h
  | some g =>
    cases hn : X.size t with
    | none => rw [hg, hn] at h; cases h
    | some n =>
      rw [hg, hn] at h
      simp only [partA] at h
      unfold part
      simp only [Sem.run_bind, run_agg ok hg, Result.andThen_ok]
      cases g with
      | true =>
        simp only [cond_true, Option.map_eq_some_iff] at h
        obtain ⟨l, hl, rfl⟩ := h
        obtain ⟨hle, rfl⟩ := cut_ok hl
        refine ⟨.agg (cs'.extract off (off + n)), by simp [run_size ok hn], .aggA ?_⟩
        have := ((hc.drop off).take n).arr
        have e : (cs'.extract off (off + n)) = ((cs'.toList.drop off).take n).toArray := by
          apply Array.ext'
          simp [List.take_drop]
        rw [e]; exact this
      | false =>
        simp only [cond_false] at h
        obtain ⟨v', hv', hr⟩ := hc.get h
        refine ⟨v', ?_, hr⟩
        rw [Array.getElem?_toList] at hv'
        simp [hv']

end

/-! ### Values made of parts -/

theorem zip_foldl (off : Nat) : ∀ (l : List Value) (k : Nat) (cs : Array Value), off + k + l.length ≤ cs.size →
    ((l.zipIdx k).foldl (fun (cs : Array Value) (x : Value × Nat) => cs.setIfInBounds (off + x.2) x.1) cs).toList = spl cs.toList (off + k) l
  | [], k, cs, h => by
    simp only [List.length_nil, Nat.add_zero] at h
    simp [spl]
  | x :: l, k, cs, h => by
    simp only [List.length_cons] at h
    simp only [List.zipIdx_cons, List.foldl_cons]
    rw [zip_foldl off l (k + 1) _ (by simp; omega)]
    have hlt : off + k < cs.toList.length := by simp; omega
    simp only [spl, Array.toList_setIfInBounds, List.length_cons]
    have e1 : (cs.toList.set (off + k) x).take (off + (k + 1)) = cs.toList.take (off + k) ++ [x] := by
      rw [show off + (k + 1) = off + k + 1 by omega, List.take_set, List.take_succ_eq_append_getElem hlt, List.set_append_right _ _ (by simp; omega)]
      have e0 : off + k - min (off + k) cs.size = 0 := by omega
      simp [e0]
    have e2 : (cs.toList.set (off + k) x).drop (off + (k + 1) + l.length) = cs.toList.drop (off + k + (l.length + 1)) := by
      rw [List.drop_set_of_lt (by omega)]
      congr 1; omega
    rw [e1, e2]; simp

theorem set_range (off : Nat) (v cs : Array Value) (h : off + v.size ≤ cs.size) :
    (v.zipIdx.foldl (fun (cs : Array Value) (x : Value × Nat) => cs.setIfInBounds (off + x.2) x.1) cs).toList = spl cs.toList off v.toList := by
  rw [← Array.foldl_toList, Array.toList_zipIdx]
  exact zip_foldl off v.toList 0 cs (by simpa using h)

theorem spl_rel {ρ : Rn} {a b c d : List Value} (h : LRel ρ a b) (k : LRel ρ c d) (off : Nat) : LRel ρ (spl a off c) (spl b off d) := by
  unfold spl
  rw [k.1]
  exact ((h.take off).append k).append (h.drop _)
theorem spl_length {cs vs : List Value} {off : Nat} (h : off + vs.length ≤ cs.length) : (spl cs off vs).length = cs.length := by
  unfold spl; simp; omega

/-- Parts, place by place. -/
inductive PRel (ρ : Rn) : List (Nat × Value) → List (Nat × Value) → Prop where
  | nil : PRel ρ [] []
  | cons (i : Nat) {v v' : Value} {r r' : List (Nat × Value)} (h : VRel ρ v v') (t : PRel ρ r r') : PRel ρ ((i, v) :: r) ((i, v') :: r')

theorem evParts_ok {ρ : Rn} {e : Operand → Option Value} {r : Operand → Value} (hr : OpRel ρ e r) : ∀ (l : List (Nat × Operand)) (ps : List (Nat × Value)), evParts e l = some ps →
    PRel ρ ps (l.map fun (i, x) => (i, r x))
  | [], ps, h => by simp only [evParts] at h; cases h; exact .nil
  | (i, x) :: l, ps, h => by
    simp only [evParts] at h
    cases hx : e x with
    | none => rw [hx] at h; cases h
    | some v =>
      rw [hx] at h
      simp only [Option.map_eq_some_iff] at h
      obtain ⟨us, hu, rfl⟩ := h
      exact .cons i (hr x v hx) (evParts_ok hr l us hu)

theorem fillA_ok {ρ : Rn} {place : Nat → Option (Nat × Nat)} {ps ps' : List (Nat × Value)} (hp : PRel ρ ps ps') :
    ∀ {cs l : List Value} {cs' : Array Value}, fillA place ps cs = some l → LRel ρ cs cs'.toList → ∃ a, Instr.fill place cs' ps' = some a ∧ LRel ρ l a.toList := by
  induction hp with
  | nil =>
    intro cs l cs' h hc
    simp only [fillA] at h; cases h
    exact ⟨cs', rfl, hc⟩
  | @cons i v v' r r' hv _ ih =>
    intro cs l cs' h hc
    simp only [fillA] at h
    simp only [Instr.fill]
    cases hpl : place i with
    | none => rw [hpl] at h; cases h
    | some os =>
      obtain ⟨off, size⟩ := os
      rw [hpl] at h
      simp only at h ⊢
      cases hb : (Nat.beq v.cells.toList.length size && Nat.ble (off + size) cs.length) with
      | false => rw [hb, cond_false] at h; cases h
      | true =>
        rw [hb, cond_true] at h
        rw [Bool.and_eq_true] at hb
        have h1 : v.cells.toList.length = size := Nat.eq_of_beq_eq_true hb.1
        have h2 : off + size ≤ cs.length := Nat.le_of_ble_eq_true hb.2
        have h3 : v'.cells.size = size := by have := hv.cells.1; simp at this h1; omega
        have h4 : cs'.size = cs.length := by have := hc.1; simp at this; omega
        rw [if_neg (by simp [h3]; omega)]
        refine ih h ?_
        rw [set_range off v'.cells cs' (by omega)]
        exact spl_rel hc hv.cells off

theorem fillC_fillA {place : Nat → Option (Nat × Nat)} : ∀ (ps : List (Nat × Value)) (cur : Nat) (l cs : List Value), fillC place ps cur = some l → cur + l.length ≤ cs.length →
    fillA place ps cs = some (spl cs cur l)
  | [], cur, l, cs, h, hl => by
    simp only [fillC] at h; cases h
    simp [fillA, spl]
  | (i, v) :: r, cur, l, cs, h, hl => by
    simp only [fillC] at h
    simp only [fillA]
    cases hpl : place i with
    | none => rw [hpl] at h; cases h
    | some os =>
      obtain ⟨off, size⟩ := os
      rw [hpl] at h
      simp only at h ⊢
      cases hb : (Nat.beq off cur && Nat.beq v.cells.toList.length size) with
      | false => rw [hb, cond_false] at h; cases h
      | true =>
        rw [hb, cond_true] at h
        rw [Bool.and_eq_true] at hb
        have h0 : off = cur := Nat.eq_of_beq_eq_true hb.1
        have h1 : v.cells.toList.length = size := Nat.eq_of_beq_eq_true hb.2
        simp only [Option.map_eq_some_iff] at h
        obtain ⟨l', hl', rfl⟩ := h
        subst h0
        simp only [List.length_append] at hl
        have h2 : Nat.ble (off + size) cs.length = true := Nat.ble_eq_true_of_le (by omega)
        rw [hb.2, h2, Bool.true_and, cond_true]
        have hlen := spl_length (cs := cs) (vs := v.cells.toList) (off := off) (by omega)
        rw [fillC_fillA r (off + size) l' _ hl' (by rw [hlen]; omega)]
        have h1' : v.cells.size = size := by simpa using h1
        congr 1
        unfold spl
        have t1 : (cs.take off ++ v.cells.toList ++ cs.drop (off + v.cells.toList.length)).take (off + size) = cs.take off ++ v.cells.toList := by
          rw [List.take_left' (by simp; omega)]
        have t2 : (cs.take off ++ v.cells.toList ++ cs.drop (off + v.cells.toList.length)).drop (off + size + l'.length) = cs.drop (off + (v.cells.toList ++ l').length) := by
          rw [List.drop_append, List.drop_eq_nil_of_le (by simp; omega), List.nil_append, List.drop_drop]
          congr 1
          simp only [List.length_append, List.length_take]; omega
        rw [t1, t2]; simp

theorem fillB_ok {ρ : Rn} {place : Nat → Option (Nat × Nat)} {ps ps' : List (Nat × Value)} (hp : PRel ρ ps ps') {cs l : List Value} {cs' : Array Value}
    (h : fillB place ps cs = some l) (hc : LRel ρ cs cs'.toList) : ∃ a, Instr.fill place cs' ps' = some a ∧ LRel ρ l a.toList := by
  refine fillA_ok hp ?_ hc
  unfold fillB at h
  cases hf : fillC place ps 0 with
  | none => rw [hf] at h; exact h
  | some m =>
    rw [hf] at h; simp only at h
    cases hb : Nat.beq m.length cs.length with
    | false => rw [hb, cond_false] at h; exact h
    | true =>
      rw [hb, cond_true] at h; cases h
      have hl := Nat.eq_of_beq_eq_true hb
      rw [fillC_fillA ps 0 l cs hf (by omega)]
      simp [spl, hl]

end Go.Ev

namespace Go.Ev
variable [Gho]

section
variable {X : Cx} (ok : X.Ok) {ρ : Rn}
include ok

theorem eqFs_ok {xs ys : List Value} {xs' ys' : Array Value} (hx : LRel ρ xs xs'.toList) (hy : LRel ρ ys ys'.toList) (w : World) (eq : TypeId → Value → Value → Option Bool) (d : Nat)
    (heq : ∀ t a b r a' b', eq t a b = some r → VRel ρ a a' → VRel ρ b b' → (Op.equalIn d t a' b').run X.P w = .ok r w) :
    ∀ (fs : List Field) (r : Bool), X.eqFs eq xs ys fs = some r →
    ((forIn fs ((none, ()) : Option Bool × Unit) fun (f : Field) _ =>
      if f.name = "_" then pure (ForInStep.yield (none, ()))
      else do
        let a ← part f.type xs' f.offset
        let b ← part f.type ys' f.offset
        let c ← Op.equalIn d f.type a b
        if c = false then pure (ForInStep.done (some false, ())) else pure (ForInStep.yield (none, ())) : Sem (Option Bool × Unit))).run X.P w = .ok (if r then none else some false, ()) w
  | [], r, h => by
    simp only [Cx.eqFs] at h; cases h
    simp
  | f :: fs, r, h => by
    simp only [Cx.eqFs] at h
    rw [List.forIn_cons]
    by_cases hn : f.name = "_"
    · rw [if_pos hn] at h
      simp only [hn, if_true, pure_bind]
      exact eqFs_ok hx hy w eq d heq fs r h
    · rw [if_neg hn] at h
      simp only [hn, if_false]
      cases ha : X.part f.type f.offset xs with
      | none => rw [ha] at h; simp at h
      | some a =>
        cases hb : X.part f.type f.offset ys with
        | none => rw [ha, hb] at h; simp at h
        | some b =>
          rw [ha, hb] at h
          simp only at h
          obtain ⟨a', ra, va⟩ := part_ok ok ha hx w
          obtain ⟨b', rb, vb⟩ := part_ok ok hb hy w
          cases hc : eq f.type a b with
          | none => rw [hc] at h; simp at h
          | some c =>
            rw [hc] at h
            simp only [bind_assoc, Sem.run_bind, ra, rb, Result.andThen_ok, heq _ _ _ _ _ _ hc va vb]
            cases c with
            | true =>
              simp only at h
              simp only [Bool.true_eq_false, if_false]
              exact eqFs_ok hx hy w eq d heq fs r h
            | false =>
              simp only at h; cases h
              simp

theorem eqEs_ok {xs ys : List Value} {xs' ys' : Array Value} (hx : LRel ρ xs xs'.toList) (hy : LRel ρ ys ys'.toList) (w : World) (eq : TypeId → Value → Value → Option Bool) (d el s : Nat)
    (heq : ∀ t a b r a' b', eq t a b = some r → VRel ρ a a' → VRel ρ b b' → (Op.equalIn d t a' b').run X.P w = .ok r w) :
    ∀ (n i : Nat) (r : Bool), X.eqEs eq el s xs ys n i = some r →
    ((forIn (List.range' i n) ((none, ()) : Option Bool × Unit) fun (i : Nat) _ => do
        let a ← part el xs' (i * s)
        let b ← part el ys' (i * s)
        let c ← Op.equalIn d el a b
        if c = false then pure (ForInStep.done (some false, ())) else pure (ForInStep.yield (none, ())) : Sem (Option Bool × Unit))).run X.P w = .ok (if r then none else some false, ()) w
  | 0, i, r, h => by
    simp only [Cx.eqEs] at h; cases h
    simp
  | n + 1, i, r, h => by
    simp only [Cx.eqEs] at h
    rw [List.range'_succ, List.forIn_cons]
    cases ha : X.part el (i * s) xs with
    | none => rw [ha] at h; simp at h
    | some a =>
      cases hb : X.part el (i * s) ys with
      | none => rw [ha, hb] at h; simp at h
      | some b =>
        rw [ha, hb] at h
        simp only at h
        obtain ⟨a', ra, va⟩ := part_ok ok ha hx w
        obtain ⟨b', rb, vb⟩ := part_ok ok hb hy w
        cases hc : eq el a b with
        | none => rw [hc] at h; simp at h
        | some c =>
          rw [hc] at h
          simp only [bind_assoc, Sem.run_bind, ra, rb, Result.andThen_ok, heq _ _ _ _ _ _ hc va vb]
          cases c with
          | true =>
            simp only at h
            simp only [Bool.true_eq_false, if_false]
            exact eqEs_ok hx hy w eq d el s heq n (i + 1) r h
          | false =>
            simp only at h; cases h
            simp

omit ok in
theorem VRel.unint {k : IntKind} {n : Int} {v : Value} (h : VRel ρ (.int k n) v) : v = .int k n := by cases h; rfl
omit ok in
theorem VRel.unbool {b : Bool} {v : Value} (h : VRel ρ (.bool b) v) : v = .bool b := by cases h; rfl
omit ok in
theorem VRel.unstr {s : ByteArray} {v : Value} (h : VRel ρ (.string s) v) : v = .string s := by cases h; rfl
omit ok in
theorem VRel.unptr {a : Addr} {v : Value} (h : VRel ρ (.pointer (some a)) v) : ∃ a' L, v = .pointer (some a') ∧ ρ a.block = some L ∧ a'.block = L.block ∧ a'.off = a.off + L.shift ∧ a'.spot = a.spot := by
  cases h with | ptr h hb ho hs => exact ⟨_, _, rfl, h, hb, ho, hs⟩

theorem eqV_ok (w : World) : ∀ (d D : Nat) (t : TypeId) (x y x' y' : Value) (r : Bool), d ≤ D → X.eqV d t x y = some r → VRel ρ x x' → VRel ρ y y' → (Op.equalIn D t x' y').run X.P w = .ok r w
  | 0, _, _, _, _, _, _, _, _, h, _, _ => by simp [Cx.eqV] at h
  | d + 1, 0, _, _, _, _, _, _, hd, _, _, _ => by omega
  | d + 1, D + 1, t, x, y, x', y', r, hd, h, hx, hy => by
    have ih := eqV_ok w d D
    simp only [Cx.eqV] at h
    cases hu : X.under t with
    | none => rw [hu] at h; cases h
    | some u =>
      rw [hu] at h
      simp only at h
      unfold Op.equalIn
      simp only [Sem.run_bind, run_under ok hu, Result.andThen_ok]
      split at h
      · cases hx; cases hy; cases h; simp
      · rename_i k a j b
        cases hx; cases hy
        by_cases e : k = j
        · subst e; simp at h; subst h; simp [intEq_eq]
        · simp [e] at h
      · rename_i k a j b
        cases hx; cases hy
        by_cases e : k = j
        · subst e; simp at h; subst h; simp
        · simp [e] at h
      · cases hx; cases hy; cases h
        rename_i a b
        have e : (a == b) = eqB a.data.toList b.data.toList := by
          have e0 : (a == b) = (a.data == b.data) := by cases a; cases b; rfl
          rw [e0, eqB_eq, Bool.eq_iff_iff, beq_iff_eq, beq_iff_eq]
          exact ⟨fun h => by rw [h], fun h => Array.ext' h⟩
        simp [e]
      · cases hx
        cases hy with
        | ptrNil => cases h; simp
        | ptr _ _ _ _ => cases h; simp
      · cases hy
        cases hx with
        | ptr _ _ _ _ => cases h; simp
      · rename_i el a b
        obtain ⟨a', L, rfl, ha, hab, hao, has⟩ := hx.unptr
        obtain ⟨b', K, rfl, hb, hbb, hbo, hbs⟩ := hy.unptr
        cases hs : X.size el with
        | none => rw [hs] at h; simp at h
        | some n =>
          rw [hs] at h
          cases n with
          | zero => simp at h
          | succ n =>
            simp only at h
            cases hc : (Nat.beq a.block b.block && decide (a.spot = none) && decide (b.spot = none)) with
            | false => rw [hc, cond_false] at h; cases h
            | true =>
              rw [hc, cond_true] at h; cases h
              simp only [Bool.and_eq_true, decide_eq_true_eq] at hc
              have hbl : a.block = b.block := Nat.eq_of_beq_eq_true hc.1.1
              have hLK : L = K := by rw [hbl, hb] at ha; cases ha; rfl
              subst hLK
              simp only [Sem.run_bind, run_size ok hs, Result.andThen_ok]
              rw [if_pos (by simp)]
              unfold sameAddr
              have e1 : (a'.block == b'.block) = true := by simp [hab, hbb]
              rw [e1]
              simp only [if_true, Sem.run_pure]
              congr 1
              rw [nbeq, Bool.eq_iff_iff, beq_iff_eq, decide_eq_true_eq]
              obtain ⟨ab, ao, as⟩ := a'
              obtain ⟨bb, bo, bs⟩ := b'
              simp only [Addr.mk.injEq] at *
              constructor
              · rintro ⟨_, h, _⟩; omega
              · intro h; exact ⟨by omega, by omega, by rw [has, hbs, hc.1.2, hc.2]⟩
      · cases hx; cases hy; cases h; simp
      · cases hx; cases hy; cases h; simp
      · cases hx; cases hy; cases h; simp
      · rename_i tx vx ty vy
        cases hx with
        | iface _ hvx =>
        cases hy with
        | iface _ hvy =>
        cases hc : Nat.beq tx ty with
        | false =>
          rw [hc, cond_false] at h; cases h
          have : tx ≠ ty := fun e => by rw [Tr.beq_true' e] at hc; cases hc
          simp [this]
        | true =>
          rw [hc, cond_true] at h
          have e := Nat.eq_of_beq_eq_true hc
          subst e
          cases hi : X.ty.get tx with
          | none => rw [hi] at h; cases h
          | some i =>
            rw [hi] at h; simp only at h
            cases hcm : i.comparable with
            | false => rw [hcm, cond_false] at h; cases h
            | true =>
              rw [hcm, cond_true] at h
              simp only [ne_eq, not_true_eq_false, if_false, Sem.run_bind, run_info ok hi, Result.andThen_ok, hcm, Bool.not_true, Bool.false_eq_true, Sem.run_pure]
              exact ih tx vx vy _ _ r (by omega) h hvx hvy
      · rename_i fs xs ys
        obtain ⟨xs', rfl, hxs⟩ := hx.unagg
        obtain ⟨ys', rfl, hys⟩ := hy.unagg
        cases hst : X.P.stoodInHeld t with
        | true => rw [hst, cond_true] at h; cases h
        | false =>
          rw [hst, cond_false] at h
          have key := eqFs_ok ok hxs.list hys.list w (X.eqV d) D (fun t a b r a' b' he va vb => ih t a b a' b' r (by omega) he va vb) fs.toList r h
          rw [Array.forIn_toList] at key
          simp only [Sem.run_bind, run_program, Result.andThen_ok, hst, Bool.false_eq_true, if_false, ne_eq, ite_not, Bool.not_eq_true', pure_bind, bind_assoc, Sem.run_pure]
          rw [key]
          cases r <;> simp
      · rename_i n el xs ys
        obtain ⟨xs', rfl, hxs⟩ := hx.unagg
        obtain ⟨ys', rfl, hys⟩ := hy.unagg
        cases hs : X.size el with
        | none => rw [hs] at h; cases h
        | some s =>
          rw [hs] at h; simp only at h
          have key := eqEs_ok ok hxs.list hys.list w (X.eqV d) D el s (fun t a b r a' b' he va vb => ih t a b a' b' r (by omega) he va vb) n 0 r h
          simp only [Sem.run_bind, run_size ok hs, Result.andThen_ok, Std.Legacy.Range.forIn_eq_forIn_range', Std.Legacy.Range.size, Bool.not_eq_true', pure_bind, bind_assoc, Sem.run_pure]
          simp at key ⊢
          rw [key]
          cases r <;> simp
      · cases hx
        cases hy with
        | sliceNil _ _ => cases h; simp
        | slice _ _ _ _ _ => cases h; simp
      · cases hy
        cases hx with
        | slice _ _ _ _ _ => cases h; simp
      · cases hx
        cases hy with
        | mapNil => cases h; simp
        | map _ => cases h; simp
      · cases hy
        cases hx with
        | map _ => cases h; simp
      · cases hx; cases hy; cases h; simp
      · cases hx; cases hy; cases h; simp
      · cases hx; cases hy; cases h; simp
      · cases h
end
end Go.Ev

namespace Go.Ev
variable [Gho]

theorem pureRun_ok {α : Type} (P : Program) : ∀ (s : Sem α) (a : α), pureRun P s = some a → ∀ w, s.run P w = .ok a w
  | .pure b, a, h, w => by simp only [pureRun] at h; cases h; rfl
  | .program k, a, h, w => by simp only [pureRun] at h; exact pureRun_ok P (k P) a h w
  | .load .., _, h, _ => by simp [pureRun] at h
  | .store .., _, h, _ => by simp [pureRun] at h
  | .new .., _, h, _ => by simp [pureRun] at h
  | .shape .., _, h, _ => by simp [pureRun] at h
  | .freeze .., _, h, _ => by simp [pureRun] at h
  | .frozen .., _, h, _ => by simp [pureRun] at h
  | .getObj .., _, h, _ => by simp [pureRun] at h
  | .setObj .., _, h, _ => by simp [pureRun] at h
  | .choose .., _, h, _ => by simp [pureRun] at h
  | .sys .., _, h, _ => by simp [pureRun] at h
  | .mark .., _, h, _ => by simp [pureRun] at h
  | .halt .., _, h, _ => by simp [pureRun] at h

theorem addrAdd_eq (a : Addr) (n : Nat) : addrAdd a n = a.add n := by
  unfold addrAdd Addr.add
  by_cases h : n = 0
  · rw [Tr.beq_true' h, cond_true, if_pos h]
  · rw [Tr.beq_false' h, cond_false, if_neg h]

theorem ptr_add {ρ : Rn} {a a' : Addr} {L : Loc} (h : ρ a.block = some L) (hb : a'.block = L.block) (ho : a'.off = a.off + L.shift) (hs : a'.spot = a.spot) (n : Nat) :
    VRel ρ (.pointer (some (addrAdd a n))) (.pointer (some (a'.add n))) := by
  rw [addrAdd_eq]
  by_cases e : n = 0
  · subst e; simp only [Addr.add, if_true]; exact .ptr h hb ho hs
  · simp only [Addr.add, if_neg e]
    exact .ptr (L := L) h hb (by simp; omega) rfl

section
variable {X : Cx} (ok : X.Ok) {ρ : Rn}

theorem boundA_ok {i : Value} {y n : Nat} {v : Value} (h : boundA i y = some n) (hv : VRel ρ i v) (code : BoundsCode) (w : World) :
    (Instr.sliceBound v y code).run X.P w = .ok n w ∧ n ≤ y := by
  unfold boundA at h
  split at h
  · rename_i k m
    have := hv.unint; subst this
    cases hb : Nat.ble m y with
    | false => rw [hb, cond_false] at h; cases h
    | true =>
      rw [hb, cond_true] at h; cases h
      have hle := Nat.le_of_ble_eq_true hb
      unfold Instr.sliceBound asIntOf
      simp only [pure_bind, Int.ofNat_eq_natCast]
      rw [if_pos (by omega)]
      exact ⟨by simp, hle⟩
  · cases h

theorem boundsA_ok {e : Operand → Option Value} {r : Operand → Value} (hr : OpRel ρ e r) {len cap cap' : Nat} {lo hi mx : Option Operand} {l h m : Nat}
    (hb : boundsA e len cap lo hi mx = some (l, h, m)) (hcap : cap ≤ cap') (hmx : mx.isSome = true → cap' = cap) (sl : Bool) (w : World) :
    (Instr.sliceBounds sl len cap' (lo.map r) (hi.map r) (mx.map r)).run X.P w = .ok (l, h, if mx.isSome then m else cap') w ∧ l ≤ h ∧ (hi.isSome = true → h ≤ m) ∧ (hi = none → h = len ∧ mx = none) ∧
      (mx = none → m = cap) ∧ m ≤ cap := by
  unfold boundsA at hb
  unfold Instr.sliceBounds
  simp only at hb
  cases mx with
  | none =>
    simp only at hb
    cases hi with
    | none =>
      simp only at hb
      cases lo with
      | none => simp only at hb; cases hb; simp
      | some x =>
        simp only at hb
        cases hx : e x with
        | none => rw [hx] at hb; cases hb
        | some v =>
          rw [hx] at hb
          simp only [Option.map_eq_some_iff] at hb
          obtain ⟨l', hl', he⟩ := hb
          cases he
          obtain ⟨h1, h2⟩ := boundA_ok (X := X) hl' (hr x v hx) .sliceB w
          simp [h1, h2]
    | some y =>
      simp only at hb
      cases hy : e y with
      | none => rw [hy] at hb; simp at hb
      | some u =>
        rw [hy] at hb
        simp only at hb
        cases hbu : boundA u cap with
        | none => rw [hbu] at hb; simp at hb
        | some h' =>
          rw [hbu] at hb
          simp only at hb
          have key : ∀ code, (Instr.sliceBound (r y) cap' code).run X.P w = .ok h' w ∧ h' ≤ cap := by
            intro code
            unfold boundA at hbu
            split at hbu
            · rename_i k n
              have hv := hr y _ hy
              have hry := hv.unint
              rw [hry]
              cases hbb : Nat.ble n cap with
              | false => rw [hbb, cond_false] at hbu; cases hbu
              | true =>
                rw [hbb, cond_true] at hbu; cases hbu
                have hle := Nat.le_of_ble_eq_true hbb
                unfold Instr.sliceBound asIntOf
                simp only [pure_bind, Int.ofNat_eq_natCast]
                rw [if_pos (by omega)]
                exact ⟨by simp, hle⟩
            · cases hbu
          cases lo with
          | none =>
            simp only at hb; cases hb
            cases sl <;> simp [(key .sliceAcap).1, (key .sliceAlen).1, (key .sliceAcap).2]
          | some x =>
            simp only at hb
            cases hx : e x with
            | none => rw [hx] at hb; cases hb
            | some v =>
              rw [hx] at hb
              simp only [Option.map_eq_some_iff] at hb
              obtain ⟨l', hl', he⟩ := hb
              cases he
              obtain ⟨h1, h2⟩ := boundA_ok (X := X) hl' (hr x v hx) .sliceB w
              cases sl <;> simp [(key .sliceAcap).1, (key .sliceAlen).1, (key .sliceAcap).2, h1, h2]
  | some z =>
    have hcc := hmx rfl
    subst hcc
    simp only at hb
    cases hz : e z with
    | none => rw [hz] at hb; simp at hb
    | some q =>
      rw [hz] at hb
      simp only at hb
      cases hbq : boundA q cap' with
      | none => rw [hbq] at hb; simp at hb
      | some m' =>
        rw [hbq] at hb
        simp only at hb
        have km := fun code => boundA_ok (X := X) hbq (hr z q hz) code w
        cases hi with
        | none => simp at hb
        | some y =>
          simp only at hb
          cases hy : e y with
          | none => rw [hy] at hb; simp at hb
          | some u =>
            rw [hy] at hb
            simp only at hb
            cases hbu : boundA u m' with
            | none => rw [hbu] at hb; simp at hb
            | some h' =>
              rw [hbu] at hb
              simp only at hb
              obtain ⟨kh, kh2⟩ := boundA_ok (X := X) hbu (hr y u hy) .slice3B w
              cases lo with
              | none =>
                simp only at hb; cases hb
                cases sl <;> simp [(km .slice3Acap).1, (km .slice3Alen).1, kh, kh2, (km .slice3Alen).2]
              | some x =>
                simp only at hb
                cases hx : e x with
                | none => rw [hx] at hb; cases hb
                | some v =>
                  rw [hx] at hb
                  simp only [Option.map_eq_some_iff] at hb
                  obtain ⟨l', hl', he⟩ := hb
                  cases he
                  obtain ⟨h1, h2⟩ := boundA_ok (X := X) hl' (hr x v hx) .slice3C w
                  cases sl <;> simp [(km .slice3Acap).1, (km .slice3Alen).1, kh, kh2, (km .slice3Alen).2, h1, h2]

theorem min2A_ok {x y z x' y' : Value} (h : min2A x y = some z) (hx : VRel ρ x x') (hy : VRel ρ y y') (w : World) : (Builtin.min2 x' y').run X.P w = .ok z w ∧ VRel ρ z z := by
  unfold min2A at h
  split at h
  · cases hx; cases hy; cases h
    rename_i k x j y
    refine ⟨?_, .int _ _⟩
    simp only [Builtin.min2, Sem.run_pure, intLt_eq]
    by_cases c : y < x <;> simp [c]
  · cases hx; cases hy; cases h
    rename_i x y
    refine ⟨?_, .string _⟩
    simp only [Builtin.min2, Sem.run_bind]
    rw [strOp_ok (v := .bool (ltB x.data.toList y.data.toList || eqB x.data.toList y.data.toList)) rfl]
    simp only [Result.andThen_ok, asBool, Sem.run_pure]
    cases (ltB x.data.toList y.data.toList || eqB x.data.toList y.data.toList) <;> rfl
  · cases h

theorem max2A_ok {x y z x' y' : Value} (h : max2A x y = some z) (hx : VRel ρ x x') (hy : VRel ρ y y') (w : World) : (Builtin.max2 x' y').run X.P w = .ok z w ∧ VRel ρ z z := by
  unfold max2A at h
  split at h
  · cases hx; cases hy; cases h
    rename_i k x j y
    refine ⟨?_, .int _ _⟩
    simp only [Builtin.max2, Sem.run_pure, intLt_eq]
    by_cases c : x < y <;> simp [c]
  · cases hx; cases hy; cases h
    rename_i x y
    refine ⟨?_, .string _⟩
    simp only [Builtin.max2, Sem.run_bind]
    rw [strOp_ok (v := .bool (!ltB x.data.toList y.data.toList)) rfl]
    simp only [Result.andThen_ok, asBool, Sem.run_pure]
    cases (!ltB x.data.toList y.data.toList) <;> rfl
  · cases h

theorem foldA_ok {f : Value → Value → Option Value} {g : Value → Value → Sem Value} (w : World)
    (hf : ∀ x y z x' y', f x y = some z → VRel ρ x x' → VRel ρ y y' → (g x' y').run X.P w = .ok z w ∧ VRel ρ z z) :
    ∀ (l l' : List Value) (x x' v : Value), foldA f l x = some v → LRel ρ l l' → VRel ρ x x' → ∃ v', (l'.foldlM g x').run X.P w = .ok v' w ∧ VRel ρ v v'
  | [], l', x, x', v, h, hl, hx => by
    simp only [foldA] at h; cases h
    rw [hl.unnil]; exact ⟨x', by simp, hx⟩
  | y :: l, l', x, x', v, h, hl, hx => by
    obtain ⟨y', m, rfl, hy, hm⟩ := hl.uncons
    simp only [foldA] at h
    cases hz : f x y with
    | none => rw [hz] at h; cases h
    | some z =>
      rw [hz] at h
      obtain ⟨r, vz⟩ := hf x y z x' y' hz hx hy
      obtain ⟨v', hv, hr⟩ := foldA_ok w hf l m z z v h hm vz
      exact ⟨v', by simp [r, hv], hr⟩

end
end Go.Ev

namespace Go.Ev
variable [Gho]

def prim : Value → Bool
  | .chan _ => true
  | .int _ _ | .float _ _ | .complex _ _ _ | .string _ => true
  | _ => false

section
variable {X : Cx} (ok : X.Ok) {ρ : Rn}
include ok

theorem places_ok : ∀ (fs : List Field) (pl : List (Nat × Nat)), X.places fs = some pl → ∀ w, (fs.mapM fun f => do pure (f.offset, ← sizeOf f.type) : Sem (List (Nat × Nat))).run X.P w = .ok pl w
  | [], pl, h, w => by simp only [Cx.places] at h; cases h; simp
  | f :: fs, pl, h, w => by
    simp only [Cx.places] at h
    cases hs : X.size f.type with
    | none => rw [hs] at h; cases h
    | some n =>
      rw [hs] at h
      simp only [Option.map_eq_some_iff] at h
      obtain ⟨l, hl, rfl⟩ := h
      have ih := places_ok fs l hl w
      rw [List.mapM_cons]
      simp only [bind_assoc, Sem.run_bind, run_size ok hs, Result.andThen_ok, pure_bind, ih, Sem.run_pure]

theorem build_ok {t : TypeId} {parts parts' : List (Nat × Value)} (hp : PRel ρ parts parts') {z l : List Value} (hz : X.zero t = some z)
    (h : (∃ fs pl, X.under t = some (.struct fs) ∧ X.places fs.toList = some pl ∧ fillB (fun i => pl[i]?) parts z = some l) ∨
      (∃ n el s, X.under t = some (.array n el) ∧ X.size el = some s ∧ fillB (fun i => some (i * s, s)) parts z = some l)) (w : World) :
    ∃ v', (Instr.build t parts'.toArray).run X.P w = .ok v' w ∧ VRel ρ (.agg ⟨l⟩) v' := by
  obtain ⟨zv, hzr, hzc, hzz⟩ := zero_ok (ρ := ρ) ok hz w
  unfold Instr.build
  have hz' : LRel ρ z zv.cells.toList := by rw [hzc]; exact hzz
  rcases h with ⟨fs, pl, hu, hpl, hf⟩ | ⟨n, el, s, hu, hs, hf⟩
  · obtain ⟨a, ha, hr⟩ := fillB_ok hp hf hz'
    have hm := places_ok ok fs.toList pl hpl w
    refine ⟨.agg a, ?_, .aggA ?_⟩
    · simp only [Sem.run_bind, hzr, Result.andThen_ok, run_under ok hu]
      have hm' : (fs.mapM fun f => do pure (f.offset, ← sizeOf f.type) : Sem (Array (Nat × Nat))).run X.P w = .ok pl.toArray w := by
        rw [Array.mapM_eq_mapM_toList]
        simp only [Sem.run_map, hm, Result.andThen_ok]
      rw [hm']
      simp [ha]
    · have := hr.arr
      simpa using this
  · obtain ⟨a, ha, hr⟩ := fillB_ok hp hf hz'
    refine ⟨.agg a, ?_, .aggA ?_⟩
    · simp only [Sem.run_bind, hzr, Result.andThen_ok, run_under ok hu, run_size ok hs]
      simp [ha]
    · have := hr.arr
      simpa using this

omit ok in
theorem eqGuard_ok {op : BinOp} {t : TypeId} {x y : Operand} {a b a' b' : Value} (h : guardOk X op t x y a b = true) (ha : VRel ρ a a') (hb : VRel ρ b b') (w : World) :
    (eqGuard op t x y a' b').run X.P w = .ok () w := by
  have other : eqOp op = false → (eqGuard op t x y a' b').run X.P w = .ok () w := by
    intro hop
    cases op <;> first | rfl | simp [eqOp] at hop
  have same : op = .eql ∨ op = .neq → (eqGuard op t x y a' b').run X.P w = .ok () w := by
    intro hop
    have h' : guardV X t x y a b = true := by
      rcases hop with rfl | rfl <;> simpa [guardOk, eqOp] using h
    clear h
    unfold guardV at h'
    have run : ∀ o, (o = .eql ∨ o = .neq) → (eqGuard o t x y a' b').run X.P w = (eqGuard .eql t x y a' b').run X.P w := by
      rintro o (rfl | rfl) <;> rfl
    rw [run op hop]
    clear run hop other
    unfold eqGuard
    cases ha with
    | nilIface =>
      cases hb with
      | nilIface =>
        simp only at h' ⊢
        cases x <;> cases y <;> first | rfl | simp [isConst] at h'
      | sym _ _ _ => simp at h'
      | _ => rfl
    | agg hc hv =>
      cases hb with
      | agg hc' hv' =>
        simp only [Bool.not_eq_true'] at h'
        simp [h']
      | sym _ _ _ => simp at h'
      | _ => rfl
    | sym _ _ _ => simp at h'
    | _ => cases hb <;> first | rfl | (simp at h')
  cases hop : eqOp op with
  | false => exact other hop
  | true => exact same (by cases op <;> first | exact .inl rfl | exact .inr rfl | simp [eqOp] at hop)

omit ok in
theorem binOp_eql {t : TypeId} {x y : Value} (hx : prim x = false) :
    Go.binOp .eql t x y = (do pure (.bool (← Op.equal t x y))) := by
  cases x <;> first | rfl | (simp [prim] at hx)
omit ok in
theorem binOp_neq {t : TypeId} {x y : Value} (hx : prim x = false) :
    Go.binOp .neq t x y = (do pure (.bool (!(← Op.equal t x y)))) := by
  cases x <;> first | rfl | (simp [prim] at hx)

omit ok in
theorem intOp_clos {op : BinOp} {k : IntKind} {a b : Int} {v : Value} (h : intOp op k a b = some v) : clos1 v = true := by
  have key : ∀ (c : Bool) (u : Value), clos1 u = true → (bif c then none else some u) = some v → clos1 v = true := by
    intro c u hu hc
    cases c with
    | true => cases hc
    | false => cases hc; exact hu
  cases op <;> simp only [intOp, bitsF] at h
  case quo => exact key _ _ rfl h
  case rem => exact key _ _ rfl h
  case shl => exact key _ _ rfl h
  case shr => exact key _ _ rfl h
  all_goals (cases h; rfl)

omit ok in
theorem strOp_clos {op : BinOp} {x y : ByteArray} {v : Value} (h : strOp op x y = some v) : clos1 v = true := by
  cases op <;> simp only [strOp] at h
  case add =>
    cases hb : Nat.ble (x.data.toList.length + y.data.toList.length) maxStr with
    | false => rw [hb, cond_false] at h; cases h
    | true => rw [hb, cond_true] at h; cases h; rfl
  all_goals first | (cases h; rfl) | cases h

omit ok in
theorem eqV_shape {d : Nat} {t : TypeId} {a b : Value} {r : Bool} (h : X.eqV (d + 1) t a b = some r) :
    (∃ k n j m, a = .int k n ∧ b = .int j m) ∨ (∃ k n j m, a = .float k n ∧ b = .float j m) ∨ (∃ x y, a = .string x ∧ b = .string y) ∨ prim a = false := by
  simp only [Cx.eqV] at h
  cases hu : X.under t with
  | none => rw [hu] at h; cases h
  | some u =>
    rw [hu] at h
    simp only at h
    split at h
    all_goals first
      | exact .inl ⟨_, _, _, _, rfl, rfl⟩
      | exact .inr (.inl ⟨_, _, _, _, rfl, rfl⟩)
      | exact .inr (.inr (.inl ⟨_, _, rfl, rfl⟩))
      | exact .inr (.inr (.inr rfl))
      | cases h

theorem binA_ok {op : BinOp} {t : TypeId} {a b v a' b' : Value} (h : binA X op t a b = some v) (ha : VRel ρ a a') (hb : VRel ρ b b') (w : World) :
    ∃ v', (Go.binOp op t a' b').run X.P w = .ok v' w ∧ VRel ρ v v' := by
  unfold binA at h
  split at h
  · rename_i k x j y
    rw [ha.unint, hb.unint]
    cases hs : isShift op with
    | true =>
      rw [hs, Bool.true_or, cond_true] at h
      refine ⟨v, ?_, clos1_rel ρ (intOp_clos h)⟩
      have := intOp_shift (P := X.P) (j := j) (w := w) hs h
      cases op <;> simp [isShift] at hs <;> exact this
    | false =>
      rw [hs, Bool.false_or] at h
      by_cases e : k = j
      · subst e
        simp only [decide_true, cond_true] at h
        exact ⟨v, intOp_int hs h _ _ t rfl rfl, clos1_rel ρ (intOp_clos h)⟩
      · simp [e] at h
  · rename_i x y
    rw [ha.unstr, hb.unstr]
    refine ⟨v, ?_, clos1_rel ρ (strOp_clos h)⟩
    have := strOp_ok (P := X.P) (w := w) h
    cases op <;> first | exact this | (simp [strOp] at h)
  · cases ha; cases hb
    rename_i k x j y
    cases hp : pureRun X.P (Go.binOp op t (.float k x) (.float j y)) with
    | none => rw [hp] at h; cases h
    | some u =>
      rw [hp] at h; simp only at h
      cases hc : clos u with
      | false => rw [hc, cond_false] at h; cases h
      | true => rw [hc, cond_true] at h; cases h; exact ⟨_, pureRun_ok X.P _ _ hp w, clos_rel ρ hc⟩
  · rename_i hni hns hnf
    cases hop : eqOp op with
    | false => rw [hop, cond_false] at h; cases h
    | true =>
      rw [hop, cond_true] at h
      cases he : X.eqV 20 t a b with
      | none => rw [he] at h; cases h
      | some r =>
        rw [he] at h; simp only at h; cases h
        have hq := eqV_ok (ρ := ρ) ok w 20 Op.maxDepth t a b a' b' r (by decide) he ha hb
        have hp : prim a = false := by
          rcases eqV_shape he with ⟨k, n, j, m, rfl, rfl⟩ | ⟨k, n, j, m, rfl, rfl⟩ | ⟨x, y, rfl, rfl⟩ | h
          · exact (hni _ _ _ _ rfl rfl).elim
          · exact (hnf _ _ _ _ rfl rfl).elim
          · exact (hns _ _ rfl rfl).elim
          · exact h
        have hx : prim a' = false := by
          cases ha <;> first | rfl | (simp [prim] at hp)
        cases op <;> simp [eqOp] at hop
        · exact ⟨_, by rw [binOp_eql hx]; unfold Op.equal; simp [hq], .bool _⟩
        · exact ⟨_, by rw [binOp_neq hx]; unfold Op.equal; simp [hq], .bool _⟩

end
end Go.Ev

namespace Go.Ev
variable [Gho]

section
variable {X : Cx} (ok : X.Ok) {ρ : Rn}

theorem unA_ok {op : UnOp} {a v a' : Value} (h : unA op a = some v) (ha : VRel ρ a a') (w : World) : (Op.unary op a').run X.P w = .ok v w ∧ VRel ρ v v := by
  unfold unA at h
  split at h
  · cases ha; cases h
    rename_i k n
    refine ⟨?_, .int _ _⟩
    simp [Op.unary, Op.intArith, wrapF_eq]
  · cases ha
    rename_i k n
    refine ⟨?_, clos1_rel ρ (intOp_clos h)⟩
    have := intOp_int (P := X.P) (w := w) (op := .xor) rfl h _ _ 0 rfl rfl
    simpa [Op.unary, Go.binOp] using this
  · cases ha; cases h
    exact ⟨by simp [Op.unary], .float _ _⟩
  · cases ha; cases h
    exact ⟨by simp [Op.unary], .bool _⟩
  · cases h

include ok in
theorem convA_ok {s d : TypeId} {a v a' : Value} (h : convA X s d a = some v) (ha : VRel ρ a a') (w : World) : ∃ v', (Go.convert s d a').run X.P w = .ok v' w ∧ VRel ρ v v' := by
  unfold convA at h
  split at h
  · rename_i hs hd
    cases ha; cases h
    rename_i u k j n
    refine ⟨_, ?_, .int _ _⟩
    unfold Go.convert
    simp only [Sem.run_bind, run_under ok hs, run_under ok hd, Result.andThen_ok, Conv.intToInt, Sem.run_pure, wrapF_eq]
  · rename_i hs hd
    cases ha; cases h
    rename_i u s
    refine ⟨_, ?_, .string _⟩
    unfold Go.convert
    simp only [Sem.run_bind, run_under ok hs, run_under ok hd, Result.andThen_ok, Sem.run_pure]
  · cases ha
    rename_i k b _ _
    split at h
    · rename_i u hp
      cases hc : (clos u && numD _) with
      | false => rw [hc, cond_false] at h; cases h
      | true =>
        rw [hc, cond_true] at h; cases h
        rw [Bool.and_eq_true] at hc
        exact ⟨_, pureRun_ok X.P _ _ hp w, clos_rel ρ hc.1⟩
    · cases h
  · cases ha
    split at h
    · rename_i u hp
      cases hc : clos u with
      | false => rw [hc, cond_false] at h; cases h
      | true => rw [hc, cond_true] at h; cases h; exact ⟨_, pureRun_ok X.P _ _ hp w, clos_rel ρ hc⟩
    · cases h
  · cases h

/-- An operation whose value is v'. -/
def Gives (P : Program) (r : Operand → Value) (o : Oper) (w : World) (v' : Value) : Prop := (execOp r o).run P w = .ok (.value v') w

theorem gives_v {P : Program} {r : Operand → Value} {o : Oper} {w : World} {v' : Value} {s : Sem Value} (h : execOp r o = (do pure (.value (← s)))) (hs : s.run P w = .ok v' w) : Gives P r o w v' := by
  unfold Gives
  rw [h]
  simp [hs]

theorem sure_ok (a : Addr) (P : Program) (w : World) : (Instr.sureAddr (.pointer (some a))).run P w = .ok a w := rfl

include ok in
theorem fieldAt_ok {s : TypeId} {fs : Array Field} {f n : Nat} {fd : Field} {a : Addr} (hu : X.under s = some (.struct fs)) (hf : fs[f]? = some fd) (hn : X.size fd.type = some (n + 1)) (w : World) :
    (Instr.fieldAt s (.pointer (some a)) f).run X.P w = .ok (.pointer (some (a.add fd.offset))) w := by
  unfold Instr.fieldAt
  simp only [Sem.run_bind, run_under ok hu, Result.andThen_ok, hf, sure_ok]
  unfold fieldPlace
  simp [run_size ok hn]

include ok in
theorem evPure_ok {o : Oper} {e : Operand → Option Value} {r : Operand → Value} (hr : OpRel ρ e r) {v : Value} (h : evPure X e o.op = some v) (w : World) :
    ∃ v', Gives X.P r o w v' ∧ VRel ρ v v' := by
  obtain ⟨dst, op, ty, pos, after, guard⟩ := o
  simp only at h
  cases op with
  | move x => exact ⟨r x, rfl, hr x v h⟩
  | assign x => exact ⟨r x, rfl, hr x v h⟩
  | pick c a b =>
    simp only [evPure] at h
    split at h
    · rename_i hc
      have := (hr c _ hc).unbool
      refine ⟨r a, ?_, hr a v h⟩
      simp [Gives, execOp, asBool, this]
    · rename_i hc
      have := (hr c _ hc).unbool
      refine ⟨r b, ?_, hr b v h⟩
      simp [Gives, execOp, asBool, this]
    · cases h
  | nilCheck x =>
    simp only [evPure] at h
    split at h
    · cases h
    · cases h
    · cases h
    · cases h
    · cases h
    · rename_i h1 h2 h3 h4 h5
      have hx := hr x v h
      refine ⟨r x, ?_, hx⟩
      rw [h] at h1 h2 h3 h4 h5
      unfold Gives execOp
      simp only
      generalize r x = y at hx
      cases hx with
      | ptrNil => exact (h1 rfl).elim
      | nilIface => exact (h2 rfl).elim
      | nilFunc => exact (h3 rfl).elim
      | func hf _ _ _ _ =>
        cases hf with
        | method s => exact (h4 _ _ _ rfl).elim
        | _ => simp
      | sym _ _ _ => exact (h5 _ rfl).elim
      | _ => simp
  | build t parts =>
    simp only [evPure] at h
    have fin : ∀ (l : List Value) z ps, X.zero t = some z → evParts e parts.toList = some ps →
        ((∃ fs pl, X.under t = some (.struct fs) ∧ X.places fs.toList = some pl ∧ fillB (fun i => pl[i]?) ps z = some l) ∨
          (∃ n el s, X.under t = some (.array n el) ∧ X.size el = some s ∧ fillB (fun i => some (i * s, s)) ps z = some l)) →
        ∃ v', Gives X.P r ⟨dst, .build t parts, ty, pos, after, guard⟩ w v' ∧ VRel ρ (.agg ⟨l⟩) v' := by
      intro l z ps hz hps hcase
      obtain ⟨v', hv, hrel⟩ := build_ok ok (evParts_ok hr parts.toList ps hps) hz hcase w
      refine ⟨v', gives_v (s := Instr.build t (parts.map fun (i, x) => (i, r x))) rfl ?_, hrel⟩
      rw [← hv]
      congr 2
      apply Array.ext'
      simp
    split at h
    · rename_i z fs ps hz hu hps
      split at h
      · rename_i pl hpl
        simp only [Option.map_eq_some_iff] at h
        obtain ⟨l, hl, rfl⟩ := h
        exact fin l z ps hz hps (.inl ⟨fs, pl, hu, hpl, hl⟩)
      · cases h
    · rename_i z n el ps hz hu hps
      split at h
      · rename_i s hs
        simp only [Option.map_eq_some_iff] at h
        obtain ⟨l, hl, rfl⟩ := h
        exact fin l z ps hz hps (.inr ⟨n, el, s, hu, hs, hl⟩)
      · cases h
    · cases h
  | fieldAddr s x f =>
    simp only [evPure] at h
    split at h
    · rename_i fs a hu hx
      split at h
      · rename_i fd hf
        split at h
        · rename_i n hn
          cases h
          obtain ⟨a', L, he, h1, h2, h3, h4⟩ := (hr x _ hx).unptr
          refine ⟨_, gives_v (s := Instr.fieldAt s (r x) f) rfl ?_, ptr_add h1 h2 h3 h4 fd.offset⟩
          rw [he]; exact fieldAt_ok ok hu hf hn w
        · cases h
      · cases h
    · cases h
  | indexAddr t x i =>
    simp only [evPure] at h
    split at h
    · rename_i n el a k i' hu hx hi
      cases hb : Nat.blt i' n with
      | false => rw [hb, cond_false] at h; cases h
      | true =>
        rw [hb, cond_true] at h
        simp only [Option.map_eq_some_iff] at h
        obtain ⟨s, hs, rfl⟩ := h
        have hlt : i' < n := by simpa [Nat.blt_eq] using hb
        obtain ⟨a', L, he, h1, h2, h3, h4⟩ := (hr x _ hx).unptr
        have hi' := (hr i _ hi).unint
        refine ⟨_, gives_v (s := Instr.indexAt t (r x) (r i)) rfl ?_, ptr_add h1 h2 h3 h4 (i' * s)⟩
        rw [he, hi']
        unfold Instr.indexAt asIntOf
        simp only [pure_bind, Sem.run_bind, run_under ok hu, Result.andThen_ok, sure_ok]
        rw [if_pos (by simp; omega)]
        simp [run_size ok hs]
    · rename_i el a n cp k i' hu hx hi
      cases hb : Nat.blt i' n with
      | false => rw [hb, cond_false] at h; cases h
      | true =>
        rw [hb, cond_true] at h
        simp only [Option.map_eq_some_iff] at h
        obtain ⟨s, hs, rfl⟩ := h
        have hlt : i' < n := by simpa [Nat.blt_eq] using hb
        have hi' := (hr i _ hi).unint
        have hxr := hr x _ hx
        generalize hrx : r x = y at hxr
        cases hxr with
        | @slice _ a' _ _ cap' L h1 h2 h3 h3' h4 =>
        have ho : a'.off = a.off + L.shift := by
          unfold SlRel at h4
          split at h4
          · exact h4.1
          · exact h4.2.2 (by omega)
        refine ⟨_, gives_v (s := Instr.indexAt t (r x) (r i)) rfl ?_, ptr_add h1 h2 ho (h3'.trans h3.symm) (i' * s)⟩
        rw [hrx, hi']
        unfold Instr.indexAt asIntOf
        simp only [pure_bind, Sem.run_bind, run_under ok hu, Result.andThen_ok, Sem.run_pure]
        rw [if_pos (by simp; omega)]
        simp [run_size ok hs]
    · cases h
  | field t x f =>
    simp only [evPure] at h
    split at h
    · rename_i fs cs hu hx
      split at h
      · rename_i fd hf
        obtain ⟨cs', he, hcs⟩ := (hr x _ hx).unagg
        obtain ⟨v', hv, hrel⟩ := part_ok ok h hcs.list w
        refine ⟨v', gives_v (s := Instr.field t (r x) f) rfl ?_, hrel⟩
        rw [he]
        unfold Instr.field
        simp only [Sem.run_bind, run_under ok hu, Result.andThen_ok, hf, asAgg, Sem.run_pure, hv]
      · cases h
    · cases h
  | index t x i =>
    simp only [evPure] at h
    split at h
    · rename_i n el cs k i' hu hx hi
      cases hb : Nat.blt i' n with
      | false => rw [hb, cond_false] at h; cases h
      | true =>
        rw [hb, cond_true] at h
        have hlt : i' < n := by simpa [Nat.blt_eq] using hb
        split at h
        · rename_i s hs
          obtain ⟨cs', he, hcs⟩ := (hr x _ hx).unagg
          have hi' := (hr i _ hi).unint
          obtain ⟨v', hv, hrel⟩ := part_ok ok h hcs.list w
          refine ⟨v', gives_v (s := Instr.index t (r x) (r i)) rfl ?_, hrel⟩
          rw [he, hi']
          unfold Instr.index asIntOf
          simp only [pure_bind, Sem.run_bind, run_under ok hu, Result.andThen_ok]
          rw [if_pos (by simp; omega)]
          simp only [Sem.run_bind, run_size ok hs, Result.andThen_ok]
          simpa using hv
        · cases h
    · rename_i s k i' hu hx hi
      split at h
      · rename_i b hb
        cases h
        have hx' := (hr x _ hx).unstr
        have hi' := (hr i _ hi).unint
        refine ⟨_, gives_v (s := Instr.index t (r x) (r i)) rfl ?_, .int _ _⟩
        rw [hx', hi']
        unfold Instr.index asIntOf
        simp only [pure_bind, Sem.run_bind, run_under ok hu, Result.andThen_ok, Int.ofNat_eq_natCast, Int.toNat_natCast]
        have hg : s[i']? = some b := by
          rw [Array.getElem?_toList] at hb
          obtain ⟨hlt, hb⟩ := Array.getElem?_eq_some_iff.1 hb
          have h0 : s[i']? = if h : i' < s.size then some s[i'] else none := rfl
          rw [h0]
          exact (dif_pos (show i' < s.size from hlt)).trans (by rw [← hb]; rfl)
        simp [hg]
      · cases h
    · cases h
  | slice t x lo hi mx =>
    cases mx with
    | some m => simp [evPure] at h
    | none =>
    simp only [evPure] at h
    split at h
    · rename_i s hu hx
      simp only [Option.map_eq_some_iff] at h
      obtain ⟨⟨l, hh, m⟩, hb, rfl⟩ := h
      have hx' := (hr x _ hx).unstr
      obtain ⟨hrun, hle, _⟩ := boundsA_ok (X := X) hr hb (Nat.le_refl _) (fun _ => rfl) false w
      refine ⟨.string (s.extract l hh), gives_v (s := Instr.sliceAt t (r x) (lo.map r) (hi.map r) none) rfl ?_, by rw [bsub_eq]; exact .string _⟩
      rw [hx']
      unfold Instr.sliceAt
      simp only [Sem.run_bind, run_under ok hu, Result.andThen_ok]
      unfold Instr.slice
      simp only [Sem.run_bind, run_under ok hu, Result.andThen_ok, Option.isSome_none, Bool.false_eq_true, if_false, Sem.run_pure]
      rw [size_data]
      simp only [Option.map_none] at hrun
      rw [hrun]
      simp
    · cases h
  | extract x i =>
    simp only [evPure] at h
    split at h
    · rename_i vs hx
      obtain ⟨vs', he, hvs⟩ := (hr x _ hx).untup
      obtain ⟨v', hv, hrel⟩ := hvs.get h
      refine ⟨v', gives_v (s := Instr.extract (r x) i) rfl ?_, hrel⟩
      rw [he]; unfold Instr.extract; simp [hv]
    · cases h
  | makeInterface t x =>
    simp only [evPure] at h
    split at h
    · cases h
    · cases h
    · rename_i d hu hd
      simp only [Option.map_eq_some_iff] at h
      obtain ⟨u, hx, rfl⟩ := h
      refine ⟨.iface t (r x), gives_v (s := Instr.makeInterface t (r x)) rfl ?_, .iface t (hr x u hx)⟩
      unfold Instr.makeInterface
      simp only [Sem.run_bind, run_under ok hd, Result.andThen_ok]
      cases d <;> first | rfl | exact (hu _ rfl).elim
  | makeFunc fn first captured =>
    simp only [evPure] at h
    cases hf : fnOk fn with
    | false => rw [hf, cond_false] at h; cases h
    | true =>
      rw [hf, cond_true] at h
      split at h
      · rename_i f c hff hcc
        cases h
        have h1 := (evL_ok hr first.toList f hff).arr
        have h2 := (evL_ok hr captured.toList c hcc).arr
        refine ⟨.func fn (first.map r) (captured.map r), rfl, .func ?_ ?_ ?_ ?_ ?_⟩
        · cases fn <;> first | exact .func _ | exact .method _ | exact .methodOf _ _ | exact .via _ _ _ _ | simp [fnOk] at hf
        · have := h1.1; simpa using this
        · have := h2.1; simpa using this
        · intro i x y hx hy; exact h1.2 i x y hx (by simpa using hy)
        · intro i x y hx hy; exact h2.2 i x y hx (by simpa using hy)
      · cases h
  | typeAssert x xt asserted cok =>
    simp only [evPure] at h
    have pair : ∀ (u u' : Value), VRel ρ u u' → ∀ b, VRel ρ (.tuple #[u, .bool b]) (.tuple #[u', .bool b]) := by
      intro u u' hu b
      exact .tupA (LRel.arr (.cons hu (.cons (.bool b) (.nil ρ))))
    have fails : ∀ {v : Value}, (bif cok then (X.zeroV asserted).map fun z => Value.tuple #[z, .bool false] else none) = some v →
        cok = true ∧ ∃ z, (zeroValue asserted).run X.P w = .ok z w ∧ VRel ρ v (.tuple #[z, .bool false]) := by
      intro v hv
      cases hc : cok with
      | false => rw [hc, cond_false] at hv; cases hv
      | true =>
        rw [hc, cond_true] at hv
        simp only [Option.map_eq_some_iff] at hv
        obtain ⟨z, hz, rfl⟩ := hv
        obtain ⟨hzr, hzz⟩ := zeroV_ok (ρ := ρ) ok hz w
        exact ⟨rfl, z, hzr, pair z z hzz false⟩
    split at h
    · rename_i want t u hu hx
      have hxr := hr x _ hx
      generalize hrx : r x = y at hxr
      cases hxr with
      | @iface _ _ u' hv =>
      split at h
      · rename_i i hi
        split at h
        · rename_i hm
          cases h
          refine ⟨if cok then .tuple #[.iface t u', .bool true] else .iface t u', gives_v (s := Instr.typeAssert (r x) xt asserted cok) rfl ?_, ?_⟩
          · rw [hrx]; unfold Instr.typeAssert
            simp only [Sem.run_bind, run_under ok hu, Result.andThen_ok, run_info ok hi, hm, Sem.run_pure]
          · cases cok with
            | true => exact pair _ _ (.iface t hv) true
            | false => exact .iface t hv
        · rename_i s hm
          obtain ⟨hc, z, hz, hrel⟩ := fails h
          refine ⟨_, gives_v (s := Instr.typeAssert (r x) xt asserted cok) rfl ?_, hrel⟩
          rw [hrx]; unfold Instr.typeAssert
          simp [run_under ok hu, run_info ok hi, hm, hc, hz]
      · cases h
    · rename_i want hu hx
      have hxr := hr x _ hx
      generalize hrx : r x = y at hxr
      cases hxr with
      | nilIface =>
      obtain ⟨hc, z, hz, hrel⟩ := fails h
      refine ⟨_, gives_v (s := Instr.typeAssert (r x) xt asserted cok) rfl ?_, hrel⟩
      rw [hrx]; unfold Instr.typeAssert
      simp [run_under ok hu, hc, hz]
    · rename_i d hne hu hx
      have hxr := hr x _ hx
      generalize hrx : r x = y at hxr
      cases hxr with
      | nilIface =>
      obtain ⟨hc, z, hz, hrel⟩ := fails h
      refine ⟨_, gives_v (s := Instr.typeAssert (r x) xt asserted cok) rfl ?_, hrel⟩
      rw [hrx]; unfold Instr.typeAssert
      simp only [Sem.run_bind, run_under ok hu, Result.andThen_ok]
      cases d <;> simp [hc, hz]
    · rename_i d t u hne hu hx
      have hxr := hr x _ hx
      generalize hrx : r x = y at hxr
      cases hxr with
      | @iface _ _ u' hv =>
      have hd : ∀ ms, d ≠ .interface ms := fun ms e => by subst e; exact hne _ rfl
      cases hb : Nat.beq t asserted with
      | true =>
        rw [hb, cond_true] at h; cases h
        have ht := Nat.eq_of_beq_eq_true hb
        refine ⟨if cok then .tuple #[u', .bool true] else u', gives_v (s := Instr.typeAssert (r x) xt asserted cok) rfl ?_, ?_⟩
        · rw [hrx]; unfold Instr.typeAssert
          simp only [Sem.run_bind, run_under ok hu, Result.andThen_ok]
          cases d <;> first | exact (hd _ rfl).elim | simp [ht]
        · cases cok with
          | true => exact pair _ _ hv true
          | false => exact hv
      | false =>
        rw [hb, cond_false] at h
        have ht : ¬ t = asserted := fun e => by rw [Tr.beq_true' e] at hb; cases hb
        obtain ⟨hc, z, hz, hrel⟩ := fails h
        refine ⟨_, gives_v (s := Instr.typeAssert (r x) xt asserted cok) rfl ?_, hrel⟩
        rw [hrx]; unfold Instr.typeAssert
        simp only [Sem.run_bind, run_under ok hu, Result.andThen_ok]
        cases d <;> first | exact (hd _ rfl).elim | simp [ht, hc, hz]
    · cases h
  | binOp op t x y yt =>
    simp only [evPure] at h
    split at h
    · rename_i a b hx hy
      cases hg : guardOk X op t x y a b with
      | false => rw [hg, cond_false] at h; cases h
      | true =>
        rw [hg, cond_true] at h
        obtain ⟨v', hv, hrel⟩ := binA_ok ok h (hr x a hx) (hr y b hy) w
        refine ⟨v', gives_v (s := (do eqGuard op t x y (r x) (r y); Go.binOp op t (r x) (r y))) rfl ?_, hrel⟩
        simp [eqGuard_ok hg (hr x a hx) (hr y b hy) w, hv]
    · cases h
  | unOp op t x =>
    simp only [evPure] at h
    split at h
    · rename_i a hx
      obtain ⟨hv, hrel⟩ := unA_ok (X := X) h (hr x a hx) w
      exact ⟨v, gives_v (s := Op.unary op (r x)) rfl hv, hrel⟩
    · cases h
  | convert s d x =>
    simp only [evPure] at h
    split at h
    · rename_i a hx
      obtain ⟨v', hv, hrel⟩ := convA_ok ok h (hr x a hx) w
      exact ⟨v', gives_v (s := Go.convert s d (r x)) rfl hv, hrel⟩
    · cases h
  | call c =>
    simp only [evPure] at h
    obtain ⟨callee, args, argTypes⟩ := c
    have bi : ∀ (b : Builtin) (s : Sem Value) (v' : Value), callee = .builtin b →
        (∀ cs, builtin b argTypes ty cs (args.map r) = (do pure (.value (← s)))) → s.run X.P w = .ok v' w →
        Gives X.P r ⟨dst, .call ⟨callee, args, argTypes⟩, ty, pos, after, guard⟩ w v' := by
      intro b s v' hcal hbi hs
      subst hcal
      unfold Gives execOp resolve
      simp [invoke, hbi, hs]
    split at h
    · rename_i x hcal hargs
      have hl := evL_ok hr args.toList _ hargs
      obtain ⟨x', m, hxm, hx, hm⟩ := hl.uncons
      have hm' := hm.unnil
      subst hm'
      have ha : args.map r = #[x'] := by apply Array.ext'; simpa using hxm
      split at h
      · rename_i s hu
        cases h
        simp only [Option.bind_eq_some_iff] at hu
        obtain ⟨t, ht, hu⟩ := hu
        have := hx.unstr; subst this
        refine ⟨_, bi .len (Builtin.len_ argTypes ty (args.map r)) _ hcal (fun _ => rfl) ?_, .int _ _⟩
        unfold Builtin.len_
        simp [ht, ha, run_under ok hu, goInt]
      · rename_i el b n cp hu
        cases h
        simp only [Option.bind_eq_some_iff] at hu
        obtain ⟨t, ht, hu⟩ := hu
        refine ⟨_, bi .len (Builtin.len_ argTypes ty (args.map r)) (goInt n) hcal (fun _ => rfl) ?_, .int _ _⟩
        unfold Builtin.len_
        cases hx <;> simp [ht, ha, run_under ok hu]
      · rename_i n el hu
        cases h
        simp only [Option.bind_eq_some_iff] at hu
        obtain ⟨t, ht, hu⟩ := hu
        refine ⟨_, bi .len (Builtin.len_ argTypes ty (args.map r)) (goInt n) hcal (fun _ => rfl) ?_, .int _ _⟩
        unfold Builtin.len_
        simp [ht, ha, run_under ok hu]
      · cases h
    · rename_i x l hcal hargs
      have hl := evL_ok hr args.toList _ hargs
      obtain ⟨x', m, hxm, hx, hm⟩ := hl.uncons
      obtain ⟨v', hv, hrel⟩ := foldA_ok (X := X) w (fun a b c a' b' hh p q => max2A_ok (X := X) hh p q w) l m x x' v h hm hx
      refine ⟨v', bi .max (Builtin.max_ argTypes ty (args.map r)) v' hcal (fun _ => rfl) ?_, hrel⟩
      unfold Builtin.max_
      rw [Array.toList_map, hxm]; exact hv
    · rename_i x l hcal hargs
      have hl := evL_ok hr args.toList _ hargs
      obtain ⟨x', m, hxm, hx, hm⟩ := hl.uncons
      obtain ⟨v', hv, hrel⟩ := foldA_ok (X := X) w (fun a b c a' b' hh p q => min2A_ok (X := X) hh p q w) l m x x' v h hm hx
      refine ⟨v', bi .min (Builtin.min_ argTypes ty (args.map r)) v' hcal (fun _ => rfl) ?_, hrel⟩
      unfold Builtin.min_
      rw [Array.toList_map, hxm]; exact hv
    · cases h
  | _ => simp [evPure] at h

end
end Go.Ev

namespace Go.Ev
variable [Gho]

theorem add_block (a : Addr) (n : Nat) : (a.add n).block = a.block := by unfold Addr.add; split <;> rfl
theorem add_off (a : Addr) (n : Nat) : (a.add n).off = a.off + n := by
  unfold Addr.add
  split
  · omega
  · rfl
theorem add_spot {a : Addr} (h : a.spot = none) (n : Nat) : (a.add n).spot = none := by
  unfold Addr.add
  split
  · exact h
  · rfl

theorem cell_of {ρ : Rn} {H : Heap} {w : World} (hw : WRel ρ H w) {n : Nat} {cs : List Value} {el : TypeId} {opn : Option Nat} {str : Bool} (hH : H.get n = some (.cells cs el opn str))
    {L : Loc} (hL : ρ n = some L) {i : Nat} {v : Value} (hi : cs[i]? = some v) {a : Addr} (hb : a.block = L.block) (ho : a.off = i + L.shift) (hs : a.spot = none) :
    ∃ v', w.cell? a = some v' ∧ VRel ρ v v' := by
  obtain ⟨K, o', hK, hk, hr⟩ := hw.obj n _ hH
  rw [hL] at hK; cases hK
  cases o' with
  | cells cs' elem' fz =>
    simp only [ORel] at hr
    obtain ⟨v', hv, hrel⟩ := hr.2.2.1 i v hi
    refine ⟨v', ?_, hrel⟩
    unfold World.cell?
    rw [hb, hk]
    simp [hs, ho, hv]
  | _ => simp [ORel] at hr

theorem cellsAt_all {X : Cx} {ρ : Rn} {H : Heap} {w : World} (hw : WRel ρ H w) {a a' : Addr} {n : Nat} {l : List Value} (h : cellsAt H a n = some l)
    {L : Loc} (hL : ρ a.block = some L) (hb : a'.block = L.block) (ho : a'.off = a.off + L.shift) (hs : a'.spot = a.spot) :
    ∃ l' : List Value, (∀ w2 : World, w2.heap = w.heap → (loadCells a' n).run X.P w2 = .ok l'.toArray w2) ∧ LRel ρ l l' ∧ l.length = n ∧ (∀ j q, l'[j]? = some q → w.cell? (a'.add j) = some q) := by
  unfold cellsAt at h
  split at h
  · rename_i cs el opn str hsp hH
    obtain ⟨hle, rfl⟩ := cut_ok h
    have hlen : ((cs.drop a.off).take n).length = n := by simp; omega
    have key : ∀ j, j < n → ∃ v', w.cell? (a'.add j) = some v' ∧ ∃ v, ((cs.drop a.off).take n)[j]? = some v ∧ VRel ρ v v' := by
      intro j hj
      have hv : cs[a.off + j]? = some cs[a.off + j] := List.getElem?_eq_getElem (by omega)
      obtain ⟨v', hc, hrel⟩ := cell_of hw hH hL hv (a := a'.add j) (by rw [add_block]; exact hb) (by rw [add_off]; omega) (add_spot (hs.trans hsp) j)
      refine ⟨v', hc, _, ?_, hrel⟩
      rw [List.getElem?_take_of_lt hj, List.getElem?_drop]; exact hv
    have pick : ∃ l' : List Value, l'.length = n ∧ ∀ j, j < n → ∃ v', l'[j]? = some v' ∧ w.cell? (a'.add j) = some v' := by
      refine ⟨(List.range n).map fun j => (w.cell? (a'.add j)).getD undef, by simp, fun j hj => ?_⟩
      obtain ⟨v', hc, _⟩ := key j hj
      exact ⟨v', by simp [hj, hc], hc⟩
    obtain ⟨l', hl', hpick⟩ := pick
    have hcells : ∀ j q, l'[j]? = some q → w.cell? (a'.add j) = some q := by
      intro j v hj
      have hjn : j < n := by rw [← hl']; exact (List.getElem?_eq_some_iff.1 hj).1
      obtain ⟨v', h1, h2⟩ := hpick j hjn
      rw [hj] at h1; cases h1; exact h2
    refine ⟨l', fun w2 hw2 => ?_, ⟨by rw [hlen, hl'], fun i x y hx hy => ?_⟩, hlen, hcells⟩
    · rw [← hl']
      refine run_loadCells_list _ _ _ fun j v hj => ?_
      rw [← hcells j v hj]
      unfold World.cell?
      rw [hw2]
    · have hin : i < n := by rw [← hlen]; exact (List.getElem?_eq_some_iff.1 hx).1
      obtain ⟨v', h1, h2⟩ := hpick i hin
      obtain ⟨u, h3, v, h4, h5⟩ := key i hin
      rw [h2] at h3; cases h3
      rw [h1] at hy; cases hy
      rw [hx] at h4; cases h4
      exact h5
  · cases h

theorem cellsAt_ok {X : Cx} {ρ : Rn} {H : Heap} {w : World} (hw : WRel ρ H w) {a a' : Addr} {n : Nat} {l : List Value} (h : cellsAt H a n = some l)
    {L : Loc} (hL : ρ a.block = some L) (hb : a'.block = L.block) (ho : a'.off = a.off + L.shift) (hs : a'.spot = a.spot) :
    ∃ l' : List Value, (loadCells a' n).run X.P w = .ok l'.toArray w ∧ LRel ρ l l' ∧ l.length = n := by
  obtain ⟨l', h1, h2, h3, _⟩ := cellsAt_all (X := X) hw h hL hb ho hs
  exact ⟨l', h1 w rfl, h2, h3⟩

end Go.Ev

namespace Go.Ev
variable [Gho]

/-- Entries, place by place. -/
def ERel (ρ : Rn) (es es' : List MapEntry) : Prop :=
  es.length = es'.length ∧ ∀ (i : Nat) e e', es[i]? = some e → es'[i]? = some e' → e'.born = e.born ∧ VRel ρ e.key e'.key ∧ VRel ρ e.val e'.val

theorem ERel.uncons {ρ : Rn} {e : MapEntry} {es es' : List MapEntry} (h : ERel ρ (e :: es) es') :
    ∃ e' r, es' = e' :: r ∧ e'.born = e.born ∧ VRel ρ e.key e'.key ∧ VRel ρ e.val e'.val ∧ ERel ρ es r := by
  cases es' with
  | nil => simp [ERel] at h
  | cons e' r =>
    obtain ⟨a, b, c⟩ := h.2 0 e e' rfl rfl
    exact ⟨e', r, rfl, a, b, c, by have := h.1; simpa using this, fun i x y hx hy => h.2 (i + 1) x y (by simpa using hx) (by simpa using hy)⟩
theorem ERel.unnil {ρ : Rn} {es : List MapEntry} (h : ERel ρ [] es) : es = [] := by
  have := h.1; cases es <;> simp_all
theorem ERel.get {ρ : Rn} {a b : List MapEntry} (h : ERel ρ a b) {i : Nat} {x : MapEntry} (hi : a[i]? = some x) : ∃ y, b[i]? = some y ∧ y.born = x.born ∧ VRel ρ x.key y.key ∧ VRel ρ x.val y.val := by
  have hlt : i < a.length := (List.getElem?_eq_some_iff.1 hi).1
  have hlt' : i < b.length := h.1 ▸ hlt
  have hb : b[i]? = some b[i] := List.getElem?_eq_some_iff.2 ⟨hlt', rfl⟩
  exact ⟨b[i], hb, h.2 i x _ hi hb⟩

section
variable {X : Cx} (ok : X.Ok) {ρ : Rn}
include ok

omit ok in
theorem fits_scal : ∀ (fs : List Field) (cs : List Value), Cx.keyFits.fits X fs cs = true → cs.all clos1 = true
  | [], [], _ => rfl
  | [], _ :: _, h => by simp [Cx.keyFits.fits] at h
  | _ :: _, [], h => by simp [Cx.keyFits.fits] at h
  | f :: fs, v :: cs, h => by
    simp only [Cx.keyFits.fits, Bool.and_eq_true] at h
    simp only [List.all_cons, Bool.and_eq_true]
    refine ⟨?_, fits_scal fs cs h.2⟩
    have h1 := h.1
    split at h1 <;> first | rfl | cases h1

omit ok in
theorem keyFits_same {t : TypeId} {k k' : Value} (h : X.keyFits t k = true) (hk : VRel ρ k k') : k' = k := by
  unfold Cx.keyFits at h
  split at h
  · exact hk.unint
  · exact hk.unstr
  · exact hk.unbool
  · rename_i fs cs hu
    obtain ⟨cs', rfl, hcs⟩ := hk.unagg
    have hall := fits_scal fs.toList cs.toList h
    congr 1
    apply Array.ext
    · exact hcs.1.symm
    · intro i h1 h2
      have hv := hcs.2 i cs[i] cs'[i] (Array.getElem?_eq_getElem h2) (Array.getElem?_eq_getElem h1)
      exact closed_eq hv (List.all_eq_true.1 hall _ (by simp))
  · cases h

theorem keyScal_ok {t : TypeId} (h : X.keyScal t = true) (b : Bool) (n : Nat) (v : Value) (w : World) : (Instr.checkKey b (n + 1) t v).run X.P w = .ok () w := by
  unfold Cx.keyScal at h
  unfold Instr.checkKey
  split at h
  · rename_i hu; simp [run_under ok hu]
  · rename_i hu; simp [run_under ok hu]
  · rename_i hu; simp [run_under ok hu]
  · cases h

theorem keyFs_ok (xs : Array Value) (b : Bool) (n : Nat) (w : World) : ∀ (fs : List Field) (i : Nat), Cx.keyTy.keyFs X fs i = true → i + fs.length ≤ xs.size →
    ((forIn fs PUnit.unit fun (f : Field) _ =>
      if f.name = "_" then pure (ForInStep.yield PUnit.unit)
      else do
        let a ← part f.type xs f.offset
        (fun _ => ForInStep.yield PUnit.unit) <$> Instr.checkKey b (n + 1) f.type a : Sem PUnit)).run X.P w = .ok PUnit.unit w
  | [], i, h, hl => by simp
  | f :: fs, i, h, hl => by
    simp only [Cx.keyTy.keyFs, Bool.and_eq_true, decide_eq_true_eq] at h
    obtain ⟨⟨⟨h1, h2⟩, h3⟩, h4⟩ := h
    have ho := Nat.eq_of_beq_eq_true h2
    simp only [List.length_cons] at hl
    rw [List.forIn_cons]
    have hp : ∃ u, (part f.type xs f.offset).run X.P w = .ok u w := by
      have hag : X.isAgg f.type = some false := by
        unfold Cx.keyScal at h1
        unfold Cx.isAgg
        split at h1
        · rename_i hu; rw [hu]; rfl
        · rename_i hu; rw [hu]; rfl
        · rename_i hu; rw [hu]; rfl
        · cases h1
      have hx : xs[f.offset]? = some xs[f.offset] := Array.getElem?_eq_getElem (by omega)
      unfold part
      exact ⟨_, by simp only [Sem.run_bind, run_agg ok hag, Result.andThen_ok, Bool.false_eq_true, if_false, hx]; rfl⟩
    obtain ⟨u, hu⟩ := hp
    simp only [if_neg h3, Sem.run_bind, hu, Result.andThen_ok, Sem.run_map, keyScal_ok ok h1]
    exact keyFs_ok xs b n w fs (i + 1) h4 (by omega)

omit ok in
theorem fits_len : ∀ (fs : List Field) (cs : List Value), Cx.keyFits.fits X fs cs = true → fs.length = cs.length
  | [], [], _ => rfl
  | [], _ :: _, h => by simp [Cx.keyFits.fits] at h
  | _ :: _, [], h => by simp [Cx.keyFits.fits] at h
  | f :: fs, v :: cs, h => by
    simp only [Cx.keyFits.fits, Bool.and_eq_true] at h
    simp [fits_len fs cs h.2]

theorem checkKey_ok {t : TypeId} {k : Value} (h1 : X.keyTy t = true) (h2 : X.keyFits t k = true) (b : Bool) (w : World) : (Instr.checkKey b 10000 t k).run X.P w = .ok () w := by
  unfold Cx.keyTy at h1
  split at h1
  · rename_i hu; exact keyScal_ok ok (by simp [Cx.keyScal, hu]) b 9999 k w
  · rename_i hu; exact keyScal_ok ok (by simp [Cx.keyScal, hu]) b 9999 k w
  · rename_i hu; exact keyScal_ok ok (by simp [Cx.keyScal, hu]) b 9999 k w
  · rename_i fs hu
    rw [Bool.and_eq_true] at h1
    unfold Cx.keyFits at h2
    rw [hu] at h2
    cases k with
    | agg cs =>
      simp only at h2
      have hlen := fits_len fs.toList cs.toList h2
      unfold Instr.checkKey
      simp only [Sem.run_bind, run_under ok hu, Result.andThen_ok]
      have key := keyFs_ok ok cs b 9998 w fs.toList 0 h1.2 (by simp at hlen ⊢; omega)
      rw [Array.forIn_toList] at key
      simp at key ⊢
      rw [key]; rfl
    | _ => simp at h2
  · cases h1

/-- Kinds whose values are compared at once. -/
def basicD : TypeDesc → Bool
  | .int _ | .string | .bool => true
  | _ => false

/-- What a look-up comes to, over names and in the model. -/
def LookRel (ρ : Rn) : Option (Nat × Value) → Option (Nat × Value) → Prop
  | none, none => True
  | some (i, v), some (j, u) => j = i ∧ VRel ρ v u
  | _, _ => False

omit ok in
theorem sameNow_eqV {t : TypeId} {d : TypeDesc} (hu : X.under t = some d) (hd : basicD d = true) {a b : Value} {r : Bool} (h : X.eqV 3 t a b = some r) :
    Instr.sameNow d a b = some r := by
  simp only [Cx.eqV, hu] at h
  cases d with
  | bool => split at h <;> first | contradiction | (cases h; rfl) | cases h
  | int k =>
    split at h <;> first | contradiction | skip
    · rename_i k1 x j y _
      by_cases e : k1 = j
      · subst e; simp at h; subst h; simp [Instr.sameNow, intEq_eq]
      · simp [e] at h
  | string =>
    split at h <;> first | contradiction | skip
    · cases h; simp [Instr.sameNow, bytes_beq]
  | _ => cases hd

omit ok in
theorem eqV_clos {t : TypeId} {d : TypeDesc} (hu : X.under t = some d) (hd : basicD d = true) {a b : Value} {r : Bool} (h : X.eqV 3 t a b = some r) : clos1 b = true := by
  simp only [Cx.eqV, hu] at h
  cases d <;> first | (cases hd; done) | (split at h <;> first | contradiction | rfl)

theorem findNow_ok {t : TypeId} {d : TypeDesc} (hu : X.under t = some d) (hd : basicD d = true) {k : Value} (hk : X.keyFits t k = true) :
    ∀ (es es' : List MapEntry) (i : Nat) (r : Option (Nat × Value)), ERel ρ es es' → X.findA t k es i = some r → ∃ r', Instr.findNow d k es' i = some r' ∧ LookRel ρ r r'
  | [], es', i, r, he, h => by
    simp only [Cx.findA] at h; cases h
    rw [he.unnil]; exact ⟨none, rfl, trivial⟩
  | e :: es, es', i, r, he, h => by
    obtain ⟨e', m, rfl, _, hkey, hval, hm⟩ := he.uncons
    simp only [Cx.findA] at h
    cases hq : X.eqV 3 t k e.key with
    | none => rw [hq] at h; cases h
    | some b =>
      have hkey' : clos1 e.key = true := eqV_clos hu hd hq
      have hee : e'.key = e.key := closed_eq hkey hkey'
      have hs := sameNow_eqV hu hd hq
      simp only [Instr.findNow, hee, hs]
      rw [hq] at h
      cases b with
      | true => simp only at h ⊢; cases h; exact ⟨_, rfl, rfl, hval⟩
      | false => simp only at h ⊢; exact findNow_ok hu hd hk es m (i + 1) r hm h

theorem findAsking_ok {t : TypeId} {k : Value} (hk : VRel ρ k k) (w : World) :
    ∀ (es es' : List MapEntry) (i : Nat) (r : Option (Nat × Value)), ERel ρ es es' → X.findA t k es i = some r → ∃ r', (Instr.findAsking t k es' i).run X.P w = .ok r' w ∧ LookRel ρ r r'
  | [], es', i, r, he, h => by
    simp only [Cx.findA] at h; cases h
    rw [he.unnil]; exact ⟨none, rfl, trivial⟩
  | e :: es, es', i, r, he, h => by
    obtain ⟨e', m, rfl, _, hkey, hval, hm⟩ := he.uncons
    simp only [Cx.findA] at h
    cases hq : X.eqV 3 t k e.key with
    | none => rw [hq] at h; cases h
    | some b =>
      have hs := eqV_ok ok w 3 Op.maxDepth t k e.key k e'.key b (by decide) hq hk hkey
      simp only [Instr.findAsking, Op.equal, Sem.run_bind, hs, Result.andThen_ok]
      rw [hq] at h
      cases b with
      | true => simp only at h; cases h; exact ⟨_, rfl, rfl, hval⟩
      | false => simp only at h; exact findAsking_ok hk w es m (i + 1) r hm h

theorem look_ok {t : TypeId} {k k' : Value} (hk : VRel ρ k k') {es es' : List MapEntry} (he : ERel ρ es es') {r : Option (Nat × Value)} (h : X.look t k es = some r) (w : World) :
    k' = k ∧ X.keyTy t = true ∧ X.keyFits t k = true ∧ ∃ r', (Instr.findKey t k' es').run X.P w = .ok r' w ∧ LookRel ρ r r' := by
  unfold Cx.look at h
  cases hc : (X.keyTy t && X.keyFits t k) with
  | false => rw [hc, cond_false] at h; cases h
  | true =>
    rw [hc, cond_true] at h
    rw [Bool.and_eq_true] at hc
    have hkk := keyFits_same hc.2 hk
    subst hkk
    refine ⟨rfl, hc.1, hc.2, ?_⟩
    unfold Instr.findKey
    have h1 := hc.1
    unfold Cx.keyTy at h1
    have basic : ∀ d, X.under t = some d → basicD d = true →
        ∃ r', (do match Instr.findNow (← underlying t) k' es' 0 with | some r => pure r | none => Instr.findAsking t k' es' : Sem (Option (Nat × Value))).run X.P w = .ok r' w ∧ LookRel ρ r r' := by
      intro d hu hd
      obtain ⟨r', hr, hrel⟩ := findNow_ok ok hu hd hc.2 es es' 0 r he h
      exact ⟨r', by simp [run_under ok hu, hr], hrel⟩
    split at h1
    · rename_i hu; exact basic _ hu rfl
    · rename_i hu; exact basic _ hu rfl
    · rename_i hu; exact basic _ hu rfl
    · rename_i fs hu
      obtain ⟨r', hr, hrel⟩ := findAsking_ok ok hk w es es' 0 r he h
      cases es' with
      | nil =>
        have hes : es = [] := by have := he.1; cases es <;> simp_all
        subst hes
        simp only [Cx.findA] at h; cases h
        refine ⟨none, ?_, trivial⟩
        simp [run_under ok hu, Instr.findNow]
      | cons e' m =>
        refine ⟨r', ?_, hrel⟩
        have hn : Instr.findNow (.struct fs) k' (e' :: m) 0 = none := by
          have hks : ∃ cs, k' = .agg cs := by
            have h2 := hc.2
            unfold Cx.keyFits at h2
            rw [hu] at h2
            cases k' <;> first | exact ⟨_, rfl⟩ | simp at h2
          obtain ⟨cs, rfl⟩ := hks
          simp [Instr.findNow, Instr.sameNow]
        simp [run_under ok hu, hn, hr]
    · cases h1

end
end Go.Ev
