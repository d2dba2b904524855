/-
  A heap of names, and what it has to do with a world of the model: tries, the relation of values, of objects, of heaps. No program in sight.
-/
import Derived.Calls
set_option linter.all false
namespace Go.Ev

/-- A trie over the whole numbers, four ways at each node. -/
inductive Tr (α : Type) where
  | nil
  | node (o : Option α) (a b c d : Tr α)

/-- One of four, by a number's rest. -/
noncomputable def four {β : Type} (a b c d : β) (n : Nat) : β :=
  Nat.rec (motive := fun _ => β) a (fun m _ => Nat.rec (motive := fun _ => β) b (fun m _ => Nat.rec (motive := fun _ => β) c (fun _ _ => d) m) m) n

theorem four0 {β : Type} (a b c d : β) : four a b c d 0 = a := rfl
theorem four1 {β : Type} (a b c d : β) : four a b c d 1 = b := rfl
theorem four2 {β : Type} (a b c d : β) : four a b c d 2 = c := rfl
theorem four3 {β : Type} (a b c d : β) : four a b c d 3 = d := rfl
theorem four_map {β γ : Type} (f : β → γ) (a b c d : β) (n : Nat) : f (four a b c d n) = four (f a) (f b) (f c) (f d) n := by
  rcases n with _ | _ | _ | n <;> rfl

namespace Tr
variable {α : Type}

noncomputable def get (t : Tr α) : Nat → Option α :=
  Tr.rec (motive := fun _ => Nat → Option α) (fun _ => none)
    (fun o _ _ _ _ ia ib ic id n => Nat.rec (motive := fun _ => Option α) o (fun m _ => four ia ib ic id (Nat.mod m 4) (Nat.div m 4)) n) t

noncomputable def putF (f : Nat) : Tr α → Nat → Option α → Tr α :=
  Nat.rec (motive := fun _ => Tr α → Nat → Option α → Tr α) (fun _ _ _ => nil)
    (fun _ ih t n v => Tr.rec (motive := fun _ => Tr α)
      (Nat.rec (motive := fun _ => Tr α) (node v nil nil nil nil) (fun m _ => (fun u =>
        four (node none u nil nil nil) (node none nil u nil nil) (node none nil nil u nil) (node none nil nil nil u) (Nat.mod m 4)) (ih nil (Nat.div m 4) v)) n)
      (fun o a b c d _ _ _ _ => Nat.rec (motive := fun _ => Tr α) (node v a b c d) (fun m _ =>
        four (node o (ih a (Nat.div m 4) v) b c d) (node o a (ih b (Nat.div m 4) v) c d) (node o a b (ih c (Nat.div m 4) v) d) (node o a b c (ih d (Nat.div m 4) v)) (Nat.mod m 4)) n) t) f

noncomputable def put (t : Tr α) (n : Nat) (v : Option α) : Tr α := putF 24 t n v
noncomputable abbrev set (t : Tr α) (n : Nat) (v : α) : Tr α := t.put n (some v)

theorem get_nil (n : Nat) : (nil : Tr α).get n = none := rfl
theorem get_node_zero (o : Option α) (a b c d : Tr α) : (node o a b c d).get 0 = o := rfl
theorem get_node_succ (o : Option α) (a b c d : Tr α) (m : Nat) : (node o a b c d).get (m + 1) = four (a.get) (b.get) (c.get) (d.get) (m % 4) (m / 4) := rfl
theorem putF_zero (t : Tr α) (n : Nat) (v : Option α) : putF 0 t n v = nil := rfl
theorem putF_nil_zero (f : Nat) (v : Option α) : putF (f + 1) nil 0 v = node v nil nil nil nil := rfl
theorem putF_node_zero (f : Nat) (o : Option α) (a b c d : Tr α) (v : Option α) : putF (f + 1) (node o a b c d) 0 v = node v a b c d := rfl
theorem putF_node_succ (f : Nat) (o : Option α) (a b c d : Tr α) (m : Nat) (v : Option α) : putF (f + 1) (node o a b c d) (m + 1) v =
    four (node o (putF f a (m / 4) v) b c d) (node o a (putF f b (m / 4) v) c d) (node o a b (putF f c (m / 4) v) d) (node o a b c (putF f d (m / 4) v)) (m % 4) := rfl
theorem putF_nil_succ (f : Nat) (m : Nat) (v : Option α) : putF (f + 1) nil (m + 1) v =
    four (node none (putF f nil (m / 4) v) nil nil nil) (node none nil (putF f nil (m / 4) v) nil nil) (node none nil nil (putF f nil (m / 4) v) nil) (node none nil nil nil (putF f nil (m / 4) v)) (m % 4) := rfl

theorem beq_false' {a b : Nat} (h : a ≠ b) : Nat.beq a b = false := by
  cases e : Nat.beq a b with
  | false => rfl
  | true => exact absurd (Nat.eq_of_beq_eq_true e) h
theorem beq_true' {a b : Nat} (h : a = b) : Nat.beq a b = true := by subst h; exact Nat.beq_refl a

theorem mod4 (m : Nat) : m % 4 = 0 ∨ m % 4 = 1 ∨ m % 4 = 2 ∨ m % 4 = 3 := by omega

theorem putF_nil_eq (f n : Nat) (v : Option α) : putF (f + 1) nil n v = putF (f + 1) (node none nil nil nil nil) n v := by
  cases n with
  | zero => rfl
  | succ m => rw [putF_nil_succ, putF_node_succ]

theorem get_putF : ∀ (f : Nat) (t : Tr α) (n m : Nat) (v : Option α) (x : α), (putF f t n v).get m = some x →
    (m = n ∧ v = some x) ∨ (m ≠ n ∧ t.get m = some x)
  | 0, _, _, _, _, _, h => by simp [putF_zero, get_nil] at h
  | f + 1, t, n, m, v, x, h => by
    have ih := get_putF f
    have key : ∀ (o : Option α) (a b c d : Tr α), (putF (f + 1) (node o a b c d) n v).get m = some x →
        (m = n ∧ v = some x) ∨ (m ≠ n ∧ (node o a b c d).get m = some x) := by
      intro o a b c d h
      cases n with
      | zero =>
        rw [putF_node_zero] at h
        cases m with
        | zero => exact .inl ⟨rfl, h⟩
        | succ m => exact .inr ⟨by omega, h⟩
      | succ n =>
        rw [putF_node_succ] at h
        cases m with
        | zero =>
          refine .inr ⟨by omega, ?_⟩
          rcases mod4 n with e | e | e | e <;> (rw [e] at h; exact h)
        | succ m =>
          rw [get_node_succ]
          rcases mod4 n with e | e | e | e <;> rw [e] at h <;> rcases mod4 m with e' | e' | e' | e'
          all_goals
            simp only [four0, four1, four2, four3] at h
            rw [get_node_succ, e'] at h
            rw [e']
            simp only [four0, four1, four2, four3] at h ⊢
            first
              | (rcases ih _ _ _ _ _ h with ⟨p, q⟩ | ⟨p, q⟩
                 · exact .inl ⟨by omega, q⟩
                 · exact .inr ⟨by omega, q⟩)
              | exact .inr ⟨by omega, h⟩
    cases t with
    | nil =>
      rw [putF_nil_eq] at h
      rcases key none nil nil nil nil h with p | ⟨p, q⟩
      · exact .inl p
      · refine .inr ⟨p, ?_⟩
        cases m with
        | zero => cases q
        | succ m =>
          rw [get_node_succ] at q
          rcases mod4 m with e | e | e | e <;> (rw [e] at q; cases q)
    | node o a b c d => exact key o a b c d h

theorem get_put {t : Tr α} {n m : Nat} {v : Option α} {x : α} (h : (t.put n v).get m = some x) :
    (m = n ∧ v = some x) ∨ (m ≠ n ∧ t.get m = some x) := get_putF 24 t n m v x h

/-- Within the trie's depth what is put is got. -/
theorem get_putF_eq : ∀ (f : Nat) (t : Tr α) (n m : Nat) (v : Option α), 3 * n + 1 < 4 ^ f → (putF f t n v).get m = if m = n then v else t.get m
  | 0, _, n, _, _, h => by simp at h
  | f + 1, t, n, m, v, h => by
    have ih := get_putF_eq f
    have hf : 4 ^ (f + 1) = 4 ^ f * 4 := Nat.pow_succ ..
    have key : ∀ (o : Option α) (a b c d : Tr α), (putF (f + 1) (node o a b c d) n v).get m = if m = n then v else (node o a b c d).get m := by
      intro o a b c d
      cases n with
      | zero =>
        rw [putF_node_zero]
        cases m with
        | zero => rfl
        | succ m => rw [if_neg (by omega)]; rfl
      | succ n =>
        rw [putF_node_succ]
        cases m with
        | zero =>
          rw [if_neg (by omega)]
          rcases mod4 n with e | e | e | e <;> (rw [e]; rfl)
        | succ m =>
          rw [get_node_succ]
          rcases mod4 n with e | e | e | e <;> rcases mod4 m with e' | e' | e' | e'
          all_goals
            rw [e]
            simp only [four0, four1, four2, four3]
            rw [get_node_succ, e']
            simp only [four0, four1, four2, four3]
            first
              | (rw [ih _ _ _ _ (by omega)]
                 by_cases q : m = n
                 · rw [if_pos (by omega), if_pos (by omega)]
                 · rw [if_neg (by omega), if_neg (by omega)])
              | rw [if_neg (by omega)]
    cases t with
    | nil =>
      rw [putF_nil_eq, key none nil nil nil nil]
      by_cases q : m = n
      · rw [if_pos q, if_pos q]
      · rw [if_neg q, if_neg q]
        cases m with
        | zero => rfl
        | succ m =>
          rw [get_node_succ]
          rcases mod4 m with e | e | e | e <;> (rw [e]; rfl)
    | node o a b c d => exact key o a b c d

theorem get_put_eq (t : Tr α) (n m : Nat) (v : Option α) (h : n < 90000000000000) : (t.put n v).get m = if m = n then v else t.get m :=
  get_putF_eq 24 t n m v (by have : (4 : Nat) ^ 24 = 281474976710656 := by decide
                             omega)

/-- A list as a trie. -/
noncomputable def ofList (l : List α) : Tr α := go l 0 nil
where
  go : List α → Nat → Tr α → Tr α
    | [], _, t => t
    | x :: r, i, t => go r (i + 1) (t.set i x)

theorem get_ofList_go : ∀ (l : List α) (i : Nat) (t : Tr α) (k : Nat) (x : α), (ofList.go l i t).get k = some x →
    (∃ j, k = i + j ∧ l[j]? = some x) ∨ t.get k = some x
  | [], _, _, _, _, h => .inr h
  | y :: r, i, t, k, x, h => by
    rcases get_ofList_go r (i + 1) (t.set i y) k x h with ⟨j, hj, hx⟩ | h'
    · exact .inl ⟨j + 1, by omega, by simpa using hx⟩
    · rcases get_put h' with ⟨a, b⟩ | ⟨_, b⟩
      · exact .inl ⟨0, by omega, by simpa using b⟩
      · exact .inr b

theorem get_ofList {l : List α} {k : Nat} {x : α} (h : (ofList l).get k = some x) : l[k]? = some x := by
  rcases get_ofList_go l 0 nil k x h with ⟨j, hj, hx⟩ | h'
  · have : j = k := by omega
    exact this ▸ hx
  · simp [get] at h'
end Tr

/-! ### Names and blocks -/

/-- Where a name lies: the block, how far its cells are shifted there; of an open block (one that an append made, whose capacity was drawn): the cells of an element, and how many cells there are; the name of an unknown value: that value. -/
structure Loc where
  block : Nat
  shift : Nat
  opn : Option (Nat × Nat)
  sym : Option Value

abbrev Rn := Nat → Option Loc

def Rn.Ext (ρ ρ' : Rn) : Prop := ∀ n L, ρ n = some L → ρ' n = some L

theorem Rn.Ext.refl (ρ : Rn) : ρ.Ext ρ := fun _ _ h => h
theorem Rn.Ext.trans {a b c : Rn} (h : a.Ext b) (k : b.Ext c) : a.Ext c := fun n L x => k n L (h n L x)

/-- One name more. -/
def Rn.add (ρ : Rn) (n : Nat) (L : Loc) : Rn := fun m => if m = n then some L else ρ m

theorem Rn.add_same (ρ : Rn) (n : Nat) (L : Loc) : ρ.add n L n = some L := by simp [Rn.add]
theorem Rn.add_ne {ρ : Rn} {n m : Nat} {L : Loc} (h : m ≠ n) : ρ.add n L m = ρ m := by simp [Rn.add, h]
theorem Rn.ext_add {ρ : Rn} {n : Nat} {L : Loc} (h : ρ n = none) : ρ.Ext (ρ.add n L) := by
  intro m K hm
  have : m ≠ n := fun e => by rw [e, h] at hm; cases hm
  rw [Rn.add_ne this]; exact hm

/-- No name from c on is used. -/
def Rn.Below (ρ : Rn) (c : Nat) : Prop := ∀ m, c ≤ m → ρ m = none
theorem Rn.Below.mono {ρ : Rn} {c d : Nat} (h : ρ.Below c) (hd : c ≤ d) : ρ.Below d := fun m hm => h m (Nat.le_trans hd hm)
theorem Rn.Below.add {ρ : Rn} {c n : Nat} {L : Loc} (h : ρ.Below c) (hn : n < c) : (ρ.add n L).Below c := by
  intro m hm
  rw [Rn.add_ne (by omega)]; exact h m hm

/-- How a slice's place and capacity lie: in an open block there may be more room than is known. -/
def SlRel (L : Loc) (off off' len cap cap' : Nat) : Prop :=
  match L.opn with
  | none => off' = off + L.shift ∧ cap' = cap
  | some (esz, tot) => cap ≤ cap' ∧ off' + cap' * esz ≤ tot ∧ (0 < cap + len → off' = off + L.shift)

inductive FnRel (ρ : Rn) : Fn → Fn → Prop where
  | func (f : FuncId) : FnRel ρ (.func f) (.func f)
  | method (s : String) : FnRel ρ (.method s) (.method s)
  | methodOf (t : TypeId) (s : String) : FnRel ρ (.methodOf t s) (.methodOf t s)
  | via (t : TypeId) (p : Array FieldStep) (f : FuncId) (b : Bool) : FnRel ρ (.via t p f b) (.via t p f b)
  | yield {l : Nat} {L : Loc} (h : ρ l = some L) : FnRel ρ (.yield l) (.yield L.block)

/-- A value over names, and one of the model. -/
inductive VRel (ρ : Rn) : Value → Value → Prop where
  | bool (b : Bool) : VRel ρ (.bool b) (.bool b)
  | int (k : IntKind) (n : Int) : VRel ρ (.int k n) (.int k n)
  | float (k : FloatKind) (n : Nat) : VRel ρ (.float k n) (.float k n)
  | string (s : ByteArray) : VRel ρ (.string s) (.string s)
  | ptrNil : VRel ρ (.pointer none) (.pointer none)
  | ptr {a a' : Addr} {L : Loc} (h : ρ a.block = some L) (hb : a'.block = L.block) (ho : a'.off = a.off + L.shift) (hs : a'.spot = a.spot) :
      VRel ρ (.pointer (some a)) (.pointer (some a'))
  | sliceNil (len cap : Nat) : VRel ρ (.slice none len cap) (.slice none len cap)
  | slice {a a' : Addr} {len cap cap' : Nat} {L : Loc} (h : ρ a.block = some L) (hb : a'.block = L.block) (hs : a.spot = none) (hs' : a'.spot = none)
      (hr : SlRel L a.off a'.off len cap cap') : VRel ρ (.slice (some a) len cap) (.slice (some a') len cap')
  | mapNil : VRel ρ (.map none) (.map none)
  | map {r : Nat} {L : Loc} (h : ρ r = some L) : VRel ρ (.map (some r)) (.map (some L.block))
  | func {fn fn' : Fn} {f f' c c' : Array Value} (h : FnRel ρ fn fn') (hf : f.size = f'.size) (hc : c.size = c'.size)
      (hfv : ∀ (i : Nat) x y, f[i]? = some x → f'[i]? = some y → VRel ρ x y) (hcv : ∀ (i : Nat) x y, c[i]? = some x → c'[i]? = some y → VRel ρ x y) :
      VRel ρ (.func fn f c) (.func fn' f' c')
  | nilFunc : VRel ρ .nilFunc .nilFunc
  | iface (t : TypeId) {v v' : Value} (h : VRel ρ v v') : VRel ρ (.iface t v) (.iface t v')
  | nilIface : VRel ρ .nilIface .nilIface
  | agg {c c' : Array Value} (hc : c.size = c'.size) (hv : ∀ (i : Nat) x y, c[i]? = some x → c'[i]? = some y → VRel ρ x y) : VRel ρ (.agg c) (.agg c')
  | tuple {c c' : Array Value} (hc : c.size = c'.size) (hv : ∀ (i : Nat) x y, c[i]? = some x → c'[i]? = some y → VRel ρ x y) : VRel ρ (.tuple c) (.tuple c')
  | sym {r : Nat} {L : Loc} {v : Value} (h : ρ r = some L) (hs : L.sym = some v) (ho : ∀ c, v ≠ .agg c ∧ v ≠ .tuple c) : VRel ρ (.chan (some r)) v

theorem FnRel.mono {ρ ρ' : Rn} (hx : ρ.Ext ρ') {f f' : Fn} (h : FnRel ρ f f') : FnRel ρ' f f' := by
  cases h with
  | func => exact .func _
  | method => exact .method _
  | methodOf => exact .methodOf _ _
  | via => exact .via _ _ _ _
  | yield h => exact .yield (hx _ _ h)

theorem VRel.mono {ρ ρ' : Rn} (hx : ρ.Ext ρ') {v v' : Value} (h : VRel ρ v v') : VRel ρ' v v' := by
  induction h with
  | bool b => exact .bool b
  | int k n => exact .int k n
  | float k n => exact .float k n
  | string s => exact .string s
  | ptrNil => exact .ptrNil
  | ptr h hb ho hs => exact .ptr (hx _ _ h) hb ho hs
  | sliceNil l c => exact .sliceNil l c
  | slice h hb hs hs' hr => exact .slice (hx _ _ h) hb hs hs' hr
  | mapNil => exact .mapNil
  | map h => exact .map (hx _ _ h)
  | func h hf hc _ _ ihf ihc => exact .func (h.mono hx) hf hc ihf ihc
  | nilFunc => exact .nilFunc
  | iface t _ ih => exact .iface t ih
  | nilIface => exact .nilIface
  | agg hc _ ih => exact .agg hc ih
  | tuple hc _ ih => exact .tuple hc ih
  | sym h hs ho => exact .sym (hx _ _ h) hs ho

/-- Arrays, place by place. -/
def ARel (ρ : Rn) (a b : Array Value) : Prop := a.size = b.size ∧ ∀ (i : Nat) x y, a[i]? = some x → b[i]? = some y → VRel ρ x y

theorem ARel.mono {ρ ρ' : Rn} (hx : ρ.Ext ρ') {a b : Array Value} (h : ARel ρ a b) : ARel ρ' a b :=
  ⟨h.1, fun i x y ha hb => (h.2 i x y ha hb).mono hx⟩
theorem ARel.get {ρ : Rn} {a b : Array Value} (h : ARel ρ a b) {i : Nat} {x : Value} (hi : a[i]? = some x) : ∃ y, b[i]? = some y ∧ VRel ρ x y := by
  have hlt : i < a.size := (Array.getElem?_eq_some_iff.1 hi).1
  have hlt' : i < b.size := h.1 ▸ hlt
  exact ⟨b[i], Array.getElem?_eq_some_iff.2 ⟨hlt', rfl⟩, h.2 i x _ hi (Array.getElem?_eq_some_iff.2 ⟨hlt', rfl⟩)⟩

/-- Lists, place by place. -/
def LRel (ρ : Rn) (a b : List Value) : Prop := a.length = b.length ∧ ∀ (i : Nat) x y, a[i]? = some x → b[i]? = some y → VRel ρ x y

theorem LRel.mono {ρ ρ' : Rn} (hx : ρ.Ext ρ') {a b : List Value} (h : LRel ρ a b) : LRel ρ' a b :=
  ⟨h.1, fun i x y ha hb => (h.2 i x y ha hb).mono hx⟩
theorem LRel.nil (ρ : Rn) : LRel ρ [] [] := ⟨rfl, fun i x y h => by simp at h⟩
theorem LRel.cons {ρ : Rn} {x y : Value} {a b : List Value} (h : VRel ρ x y) (t : LRel ρ a b) : LRel ρ (x :: a) (y :: b) := by
  refine ⟨by simp [t.1], fun i u v hu hv => ?_⟩
  cases i with
  | zero => simp at hu hv; subst hu hv; exact h
  | succ i => exact t.2 i u v (by simpa using hu) (by simpa using hv)
theorem LRel.uncons {ρ : Rn} {x : Value} {a b : List Value} (h : LRel ρ (x :: a) b) : ∃ y c, b = y :: c ∧ VRel ρ x y ∧ LRel ρ a c := by
  cases b with
  | nil => simp [LRel] at h
  | cons y c =>
    exact ⟨y, c, rfl, h.2 0 x y rfl rfl, by have := h.1; simpa using this, fun i u v hu hv => h.2 (i + 1) u v (by simpa using hu) (by simpa using hv)⟩
theorem LRel.unnil {ρ : Rn} {b : List Value} (h : LRel ρ [] b) : b = [] := by
  have := h.1; cases b <;> simp_all
theorem LRel.get {ρ : Rn} {a b : List Value} (h : LRel ρ a b) {i : Nat} {x : Value} (hi : a[i]? = some x) : ∃ y, b[i]? = some y ∧ VRel ρ x y := by
  have hlt : i < a.length := (List.getElem?_eq_some_iff.1 hi).1
  have hlt' : i < b.length := h.1 ▸ hlt
  exact ⟨b[i], List.getElem?_eq_some_iff.2 ⟨hlt', rfl⟩, h.2 i x _ hi (List.getElem?_eq_some_iff.2 ⟨hlt', rfl⟩)⟩
theorem LRel.append {ρ : Rn} {a b c d : List Value} (h : LRel ρ a b) (k : LRel ρ c d) : LRel ρ (a ++ c) (b ++ d) := by
  induction a generalizing b with
  | nil => rw [h.unnil]; exact k
  | cons x a ih => obtain ⟨y, b', rfl, hv, ht⟩ := h.uncons; exact .cons hv (ih ht)
theorem LRel.take {ρ : Rn} {a b : List Value} (h : LRel ρ a b) (n : Nat) : LRel ρ (a.take n) (b.take n) := by
  induction n generalizing a b with
  | zero => exact .nil ρ
  | succ n ih =>
    cases a with
    | nil => rw [h.unnil]; exact .nil ρ
    | cons x a => obtain ⟨y, b', rfl, hv, ht⟩ := h.uncons; exact .cons hv (ih ht)
theorem LRel.drop {ρ : Rn} {a b : List Value} (h : LRel ρ a b) (n : Nat) : LRel ρ (a.drop n) (b.drop n) := by
  induction n generalizing a b with
  | zero => exact h
  | succ n ih =>
    cases a with
    | nil => rw [h.unnil]; exact .nil ρ
    | cons x a => obtain ⟨y, b', rfl, _, ht⟩ := h.uncons; exact ih ht
theorem LRel.arr {ρ : Rn} {a b : List Value} (h : LRel ρ a b) : ARel ρ a.toArray b.toArray := ⟨by simpa using h.1, fun i x y hx hy => h.2 i x y (by simpa using hx) (by simpa using hy)⟩
theorem ARel.list {ρ : Rn} {a b : Array Value} (h : ARel ρ a b) : LRel ρ a.toList b.toList := ⟨by simpa using h.1, fun i x y hx hy => h.2 i x y (by simpa using hx) (by simpa using hy)⟩
theorem VRel.aggA {ρ : Rn} {a b : Array Value} (h : ARel ρ a b) : VRel ρ (.agg a) (.agg b) := .agg h.1 h.2
theorem VRel.tupA {ρ : Rn} {a b : Array Value} (h : ARel ρ a b) : VRel ρ (.tuple a) (.tuple b) := .tuple h.1 h.2
theorem VRel.unagg {ρ : Rn} {a : Array Value} {v : Value} (h : VRel ρ (.agg a) v) : ∃ b, v = .agg b ∧ ARel ρ a b := by
  cases h with | agg hc hv => exact ⟨_, rfl, hc, hv⟩
theorem VRel.untup {ρ : Rn} {a : Array Value} {v : Value} (h : VRel ρ (.tuple a) v) : ∃ b, v = .tuple b ∧ ARel ρ a b := by
  cases h with | tuple hc hv => exact ⟨_, rfl, hc, hv⟩

/-- The cells of a value, over names and in the model. -/
theorem VRel.cells {ρ : Rn} {v v' : Value} (h : VRel ρ v v') : LRel ρ v.cells.toList v'.cells.toList := by
  cases h with
  | agg hc hv => exact ARel.list ⟨hc, hv⟩
  | bool b => exact .cons (.bool b) (.nil ρ)
  | int k n => exact .cons (.int k n) (.nil ρ)
  | float k n => exact .cons (.float k n) (.nil ρ)
  | string s => exact .cons (.string s) (.nil ρ)
  | ptrNil => exact .cons .ptrNil (.nil ρ)
  | ptr h hb ho hs => exact .cons (.ptr h hb ho hs) (.nil ρ)
  | sliceNil l c => exact .cons (.sliceNil l c) (.nil ρ)
  | slice h hb hs hs' hr => exact .cons (.slice h hb hs hs' hr) (.nil ρ)
  | mapNil => exact .cons .mapNil (.nil ρ)
  | map h => exact .cons (.map h) (.nil ρ)
  | func h hf hc a b => exact .cons (.func h hf hc a b) (.nil ρ)
  | nilFunc => exact .cons .nilFunc (.nil ρ)
  | iface t h => exact .cons (.iface t h) (.nil ρ)
  | sym h hs ho =>
    have : v'.cells = #[v'] := by
      cases v' <;> first | rfl | exact absurd rfl (ho _).1 | exact absurd rfl (ho _).2
    rw [this]
    exact .cons (.sym h hs ho) (.nil ρ)
  | nilIface => exact .cons .nilIface (.nil ρ)
  | tuple hc hv => exact .cons (.tuple hc hv) (.nil ρ)

/-! ### Objects and heaps -/

abbrev Env := Tr Value

inductive AObj where
  | cells (cs : List Value) (elem : TypeId) (opn : Option Nat) (str : Bool)
  | map (es : List MapEntry) (clock : Nat)
  | siter (s : ByteArray) (pos : Nat)
  | miter (m : Option Nat) (since : Nat) (seen : List Nat) (stepped : Nat)
  | loop (state : LoopState) (pending : Option Code) (fn : FuncId) (env : Env) (n : Nat) (params : Array Tmp) (assign body : Code) (defers : Nat)
  | defd
  | rom (ob : Obj) (cs : List Value)

abbrev Heap := Tr AObj

def EnvRel (ρ : Rn) (n : Nat) (env : Env) (tmps : Array Value) : Prop :=
  tmps.size = n ∧ ∀ t v, env.get t = some v → ∃ v', tmps[t]? = some v' ∧ VRel ρ v v'

theorem EnvRel.mono {ρ ρ' : Rn} (hx : ρ.Ext ρ') {n : Nat} {env : Env} {tmps : Array Value} (h : EnvRel ρ n env tmps) : EnvRel ρ' n env tmps :=
  ⟨h.1, fun t v hv => let ⟨v', a, b⟩ := h.2 t v hv; ⟨v', a, b.mono hx⟩⟩

theorem EnvRel.set {ρ : Rn} {n : Nat} {env : Env} {tmps : Array Value} (h : EnvRel ρ n env tmps) {d : Nat} {v v' : Value} (hd : d < n) (hv : VRel ρ v v') :
    EnvRel ρ n (env.set d v) (tmps.setIfInBounds d v') := by
  refine ⟨by simp [h.1], fun t u hu => ?_⟩
  rcases Tr.get_put hu with ⟨a, b⟩ | ⟨a, b⟩
  · subst a; cases b
    exact ⟨v', by simp [h.1, hd], hv⟩
  · obtain ⟨u', hu', hr⟩ := h.2 t u b
    exact ⟨u', by rw [Array.getElem?_setIfInBounds_ne (by omega)]; exact hu', hr⟩

/-- An object over names, and one of the model. -/
def ORel (ρ : Rn) (L : Loc) : AObj → Obj → Prop
  | .cells cs elem opn str, .cells cs' elem' fz =>
    elem' = elem ∧ L.opn = opn.map (fun e => (e, cs'.size)) ∧
    (∀ (i : Nat) v, cs[i]? = some v → ∃ v', cs'[i + L.shift]? = some v' ∧ VRel ρ v v') ∧
    (∀ i, i < cs.length → ¬ (fz.1 ≤ i + L.shift ∧ i + L.shift < fz.2)) ∧ (opn.isSome = true → ∀ i, i < cs'.size → ¬ (fz.1 ≤ i ∧ i < fz.2)) ∧ (str = false → ∀ i, ¬ (fz.1 ≤ i ∧ i < fz.2)) ∧ (opn = none → L.shift = 0)
  | .map es clock, .map es' clock' => clock' = clock ∧ es.length = es'.size ∧
    ∀ (i : Nat) e e', es[i]? = some e → es'[i]? = some e' → e'.born = e.born ∧ VRel ρ e.key e'.key ∧ VRel ρ e.val e'.val
  | .siter s pos, .stringIter s' pos' => L.shift = 0 ∧ s' = s ∧ pos' = pos
  | .miter m since seen stepped, .mapIter m' since' seen' stepped' => L.shift = 0 ∧ since' = since ∧ seen' = seen.toArray ∧ stepped' = stepped ∧
    match m, m' with
    | none, none => True
    | some a, some b => ∃ K, ρ a = some K ∧ b = K.block
    | _, _ => False
  | .loop state pending fn env n params assign body defers, .loop l => l.state = state ∧ l.pending = pending ∧ l.fn = fn ∧ EnvRel ρ n env l.tmps ∧
    l.params = params ∧ l.assign = assign ∧ l.body = body ∧ ∃ K, ρ defers = some K ∧ l.defers = K.block
  | .defd, .deferred c => c = some []
  | .rom ob cs, o' => o' = ob ∧ L.shift = 0 ∧ ∃ (cs' : Array Value) (el : TypeId) (fz : Nat × Nat), ob = .cells cs' el fz ∧ ∀ (i : Nat) v, cs[i]? = some v → ∃ v', cs'[i]? = some v' ∧ VRel ρ v v'
  | _, _ => False

theorem ORel.mono {ρ ρ' : Rn} (hx : ρ.Ext ρ') {L : Loc} {o : AObj} {o' : Obj} (h : ORel ρ L o o') : ORel ρ' L o o' := by
  cases o <;> cases o' <;> simp only [ORel] at h ⊢ <;> try exact h
  all_goals try (obtain ⟨a, b, cs', el, fz, c, d⟩ := h; exact ⟨a, b, cs', el, fz, c, fun i v hv => let ⟨v', x, y⟩ := d i v hv; ⟨v', x, y.mono hx⟩⟩)
  · obtain ⟨a, b, d, e⟩ := h
    exact ⟨a, b, fun i v hv => let ⟨v', x, y⟩ := d i v hv; ⟨v', x, y.mono hx⟩, e⟩
  · obtain ⟨a, b, c⟩ := h
    exact ⟨a, b, fun i e e' h h' => let ⟨x, y, z⟩ := c i e e' h h'; ⟨x, y.mono hx, z.mono hx⟩⟩
  · obtain ⟨z, a, b, c, d⟩ := h
    refine ⟨z, a, b, c, ?_⟩
    split at d <;> try exact d
    obtain ⟨K, hK, e⟩ := d
    exact ⟨K, hx _ _ hK, e⟩
  · obtain ⟨a, b, c, d, e, f, g, K, hK, i⟩ := h
    exact ⟨a, b, c, d.mono hx, e, f, g, K, hx _ _ hK, i⟩

/-- A heap of names, and a world. -/
structure WRel (ρ : Rn) (H : Heap) (w : World) : Prop where
  obj : ∀ n o, H.get n = some o → ∃ L o', ρ n = some L ∧ w.heap[L.block]? = some o' ∧ ORel ρ L o o'
  inj : ∀ n o m p L K, H.get n = some o → H.get m = some p → ρ n = some L → ρ m = some K → L.block = K.block → n = m

/-- What a part of the heap says. -/
def SubHeap (H K : Heap) : Prop := ∀ n o, H.get n = some o → K.get n = some o
theorem WRel.sub {ρ : Rn} {H K : Heap} {w : World} (h : WRel ρ K w) (hs : SubHeap H K) : WRel ρ H w :=
  ⟨fun n o hn => h.obj n o (hs n o hn), fun n o m p L M hn hm => h.inj n o m p L M (hs n o hn) (hs m p hm)⟩
theorem SubHeap.refl (H : Heap) : SubHeap H H := fun _ _ h => h
theorem SubHeap.trans {A B C : Heap} (h : SubHeap A B) (k : SubHeap B C) : SubHeap A C := fun n o x => k n o (h n o x)
theorem SubHeap.erase (H : Heap) (n : Nat) : SubHeap (H.put n none) H := by
  intro m o h
  rcases Tr.get_put h with ⟨_, b⟩ | ⟨_, b⟩
  · cases b
  · exact b

/-- From a world to another one: names may have come; blocks that no name of the heap has are as they were. -/
structure Goes (ρ : Rn) (H : Heap) (w : World) (ρ' : Rn) (H' : Heap) (w' : World) : Prop where
  ext : ρ.Ext ρ'
  rel : WRel ρ' H' w'
  size : w.heap.size ≤ w'.heap.size
  os : w'.os = w.os
  output : w'.output = w.output
  same : ∀ b, b < w.heap.size → (∀ n o L, H.get n = some o → ρ n = some L → L.block ≠ b) → w'.heap[b]? = w.heap[b]?
  new : ∀ n o L, H'.get n = some o → ρ' n = some L → w.heap.size ≤ L.block ∨ ∃ m p K, H.get m = some p ∧ ρ m = some K ∧ K.block = L.block

theorem Goes.refl {ρ : Rn} {H : Heap} {w : World} (h : WRel ρ H w) : Goes ρ H w ρ H w :=
  ⟨.refl ρ, h, Nat.le_refl _, rfl, rfl, fun _ _ _ => rfl, fun n o L hn hL => .inr ⟨n, o, L, hn, hL, rfl⟩⟩

theorem Goes.trans {ρ ρ₁ ρ₂ : Rn} {H H₁ H₂ : Heap} {w w₁ w₂ : World} (a : Goes ρ H w ρ₁ H₁ w₁) (b : Goes ρ₁ H₁ w₁ ρ₂ H₂ w₂) : Goes ρ H w ρ₂ H₂ w₂ where
  ext := a.ext.trans b.ext
  rel := b.rel
  size := Nat.le_trans a.size b.size
  os := b.os.trans a.os
  output := b.output.trans a.output
  same := fun k hk hno => by
    rw [b.same k (Nat.lt_of_lt_of_le hk a.size) ?_]
    · exact a.same k hk hno
    · intro n o L hn hL e
      rcases a.new n o L hn hL with h | ⟨m, p, K, hm, hK, e'⟩
      · omega
      · exact hno m p K hm hK (e'.trans e)
  new := fun n o L hn hL => by
    rcases b.new n o L hn hL with h | ⟨m, p, K, hm, hK, e⟩
    · exact .inl (Nat.le_trans a.size h)
    · rcases a.new m p K hm hK with h | ⟨m', p', K', hm', hK', e'⟩
      · exact .inl (e ▸ h)
      · exact .inr ⟨m', p', K', hm', hK', e'.trans e⟩

/-- A draw changes no memory. -/
theorem Goes.draw {ρ : Rn} {H : Heap} {w : World} (h : WRel ρ H w) (n : Nat) : Goes ρ H w ρ H { w with drawn := n } :=
  ⟨.refl ρ, ⟨h.obj, h.inj⟩, Nat.le_refl _, rfl, rfl, fun _ _ _ => rfl, fun n o L hn hL => .inr ⟨n, o, L, hn, hL, rfl⟩⟩

theorem WRel.draw {ρ : Rn} {H : Heap} {w : World} (h : WRel ρ H w) (n : Nat) : WRel ρ H { w with drawn := n } := ⟨h.obj, h.inj⟩

/-- A new block with a new name. -/
theorem Goes.alloc {ρ : Rn} {H : Heap} {w : World} (h : WRel ρ H w) {n : Nat} {L : Loc} {o : AObj} {o' : Obj} (hn : ρ n = none) (hL : L.block = w.heap.size)
    (ho : ORel (ρ.add n L) L o o') : Goes ρ H w (ρ.add n L) (H.set n o) { w with heap := w.heap.push o' } := by
  have hx : ρ.Ext (ρ.add n L) := Rn.ext_add hn
  have live : ∀ m p, H.get m = some p → m ≠ n ∧ ∃ K p', ρ m = some K ∧ w.heap[K.block]? = some p' ∧ ORel ρ K p p' := by
    intro m p hm
    obtain ⟨K, p', hK, hp, hr⟩ := h.obj m p hm
    refine ⟨fun e => ?_, K, p', hK, hp, hr⟩
    rw [e, hn] at hK; cases hK
  refine ⟨hx, ⟨?_, ?_⟩, by simp, rfl, rfl, ?_, ?_⟩
  · intro m p hm
    rcases Tr.get_put hm with ⟨e, hp⟩ | ⟨e, hp⟩
    · subst e; cases hp
      exact ⟨L, o', Rn.add_same .., by simp [hL], ho⟩
    · obtain ⟨_, K, p', hK, hb, hr⟩ := live m p hp
      refine ⟨K, p', by rw [Rn.add_ne e]; exact hK, ?_, hr.mono hx⟩
      have hlt : K.block < w.heap.size := (Array.getElem?_eq_some_iff.1 hb).1
      show (w.heap.push o')[K.block]? = some p'
      rw [Array.getElem?_push_lt hlt]
      rw [Array.getElem?_eq_getElem hlt] at hb
      exact hb
  · intro a x b y La Lb ha hb hLa hLb he
    rcases Tr.get_put ha with ⟨ea, _⟩ | ⟨ea, pa⟩ <;> rcases Tr.get_put hb with ⟨eb, _⟩ | ⟨eb, pb⟩
    · rw [ea, eb]
    · obtain ⟨_, K, p', hK, hp, _⟩ := live b y pb
      rw [Rn.add_ne eb, hK] at hLb
      rw [ea, Rn.add_same] at hLa
      cases hLa; cases hLb
      have := (Array.getElem?_eq_some_iff.1 hp).1
      omega
    · obtain ⟨_, K, p', hK, hp, _⟩ := live a x pa
      rw [Rn.add_ne ea, hK] at hLa
      rw [eb, Rn.add_same] at hLb
      cases hLa; cases hLb
      have := (Array.getElem?_eq_some_iff.1 hp).1
      omega
    · rw [Rn.add_ne ea] at hLa
      rw [Rn.add_ne eb] at hLb
      exact h.inj a x b y La Lb pa pb hLa hLb he
  · intro b hb _
    show (w.heap.push o')[b]? = w.heap[b]?
    rw [Array.getElem?_push_lt hb, Array.getElem?_eq_getElem hb]
  · intro m p K hm hK
    rcases Tr.get_put hm with ⟨e, _⟩ | ⟨e, hp⟩
    · subst e; rw [Rn.add_same] at hK; cases hK; exact .inl (Nat.le_of_eq hL.symm)
    · rw [Rn.add_ne e] at hK; exact .inr ⟨m, p, K, hp, hK, rfl⟩

/-- A name's object is another one, in its block. -/
theorem Goes.update {ρ : Rn} {H : Heap} {w : World} (h : WRel ρ H w) {n : Nat} {L : Loc} {o p : AObj} {p' : Obj} {w' : World} (hn : H.get n = some o) (hL : ρ n = some L)
    (hw : w'.heap = w.heap.setIfInBounds L.block p') (hos : w'.os = w.os) (hout : w'.output = w.output) (ho : ORel ρ L p p') :
    Goes ρ H w ρ (H.set n p) w' := by
  obtain ⟨L₀, o', hL₀, hb, _⟩ := h.obj n o hn
  rw [hL] at hL₀; cases hL₀
  have hlt : L.block < w.heap.size := (Array.getElem?_eq_some_iff.1 hb).1
  refine ⟨.refl ρ, ⟨?_, ?_⟩, by simp [hw], hos, hout, ?_, ?_⟩
  · intro m q hm
    rcases Tr.get_put hm with ⟨e, hp⟩ | ⟨e, hp⟩
    · subst e; cases hp
      exact ⟨L, p', hL, by simp [hw, hlt], ho⟩
    · obtain ⟨K, q', hK, hq, hr⟩ := h.obj m q hp
      refine ⟨K, q', hK, ?_, hr⟩
      have : L.block ≠ K.block := fun e' => e (h.inj m q n o K L hp hn hK hL e'.symm)
      rw [hw, Array.getElem?_setIfInBounds_ne this]; exact hq
  · intro a x b y La Lb ha hb' hLa hLb he
    have aux : ∀ c z, (H.set n p).get c = some z → ∃ z', H.get c = some z' := by
      intro c z hc
      rcases Tr.get_put hc with ⟨e, _⟩ | ⟨_, hp⟩
      · exact ⟨o, e ▸ hn⟩
      · exact ⟨z, hp⟩
    obtain ⟨x', hx'⟩ := aux a x ha
    obtain ⟨y', hy'⟩ := aux b y hb'
    exact h.inj a x' b y' La Lb hx' hy' hLa hLb he
  · intro b hb' hno
    rw [hw, Array.getElem?_setIfInBounds_ne (hno n o L hn hL)]
  · intro m q K hm hK
    rcases Tr.get_put hm with ⟨e, _⟩ | ⟨e, hp⟩
    · subst e; exact .inr ⟨m, o, K, hn, hK, rfl⟩
    · exact .inr ⟨m, q, K, hp, hK, rfl⟩

/-- A name's block has another name from now on. -/
theorem Goes.rename {ρ : Rn} {H : Heap} {w : World} (h : WRel ρ H w) {m n : Nat} {L L' : Loc} {o p : AObj} {p' : Obj} {w' : World} (hm : H.get m = some o) (hL : ρ m = some L) (hn : ρ n = none)
    (hb : L'.block = L.block) (hw : w'.heap = w.heap.setIfInBounds L.block p') (hos : w'.os = w.os) (hout : w'.output = w.output) (ho : ORel (ρ.add n L') L' p p') :
    Goes ρ H w (ρ.add n L') ((H.put m none).set n p) w' := by
  have hx : ρ.Ext (ρ.add n L') := Rn.ext_add hn
  obtain ⟨L₀, o', hL₀, hbk, _⟩ := h.obj m o hm
  rw [hL] at hL₀; cases hL₀
  have hlt : L.block < w.heap.size := (Array.getElem?_eq_some_iff.1 hbk).1
  have live : ∀ k q, ((H.put m none).set n p).get k = some q → (k = n ∧ q = p) ∨ (k ≠ n ∧ k ≠ m ∧ H.get k = some q) := by
    intro k q hk
    rcases Tr.get_put hk with ⟨e, hq⟩ | ⟨e, hq⟩
    · cases hq; exact .inl ⟨e, rfl⟩
    · rcases Tr.get_put hq with ⟨_, hq'⟩ | ⟨e', hq'⟩
      · cases hq'
      · exact .inr ⟨e, e', hq'⟩
  refine ⟨hx, ⟨?_, ?_⟩, by simp [hw], hos, hout, ?_, ?_⟩
  · intro k q hk
    rcases live k q hk with ⟨e, rfl⟩ | ⟨e, e', hq⟩
    · subst e
      exact ⟨L', p', Rn.add_same .., by simp [hw, hb, hlt], ho⟩
    · obtain ⟨K, q', hK, hq', hr⟩ := h.obj k q hq
      refine ⟨K, q', by rw [Rn.add_ne e]; exact hK, ?_, hr.mono hx⟩
      have : L.block ≠ K.block := fun e2 => e' (h.inj k q m o K L hq hm hK hL e2.symm)
      rw [hw, Array.getElem?_setIfInBounds_ne this]; exact hq'
  · intro a x b y La Lb ha hb' hLa hLb he
    rcases live a x ha with ⟨ea, _⟩ | ⟨ea, ea', qa⟩ <;> rcases live b y hb' with ⟨eb, _⟩ | ⟨eb, eb', qb⟩
    · rw [ea, eb]
    · rw [ea, Rn.add_same] at hLa; cases hLa
      rw [Rn.add_ne eb] at hLb
      exact (eb' (h.inj b y m o Lb L qb hm hLb hL (by rw [← he, hb]))).elim
    · rw [eb, Rn.add_same] at hLb; cases hLb
      rw [Rn.add_ne ea] at hLa
      exact (ea' (h.inj a x m o La L qa hm hLa hL (by rw [he, hb]))).elim
    · rw [Rn.add_ne ea] at hLa
      rw [Rn.add_ne eb] at hLb
      exact h.inj a x b y La Lb qa qb hLa hLb he
  · intro b hb' hno
    rw [hw, Array.getElem?_setIfInBounds_ne (hno m o L hm hL)]
  · intro k q K hk hK
    rcases live k q hk with ⟨e, _⟩ | ⟨e, _, hq⟩
    · subst e; rw [Rn.add_same] at hK; cases hK
      exact .inr ⟨m, o, L, hm, hL, hb.symm⟩
    · rw [Rn.add_ne e] at hK; exact .inr ⟨k, q, K, hq, hK, rfl⟩

/-- A name goes. -/
theorem Goes.drop {ρ : Rn} {H : Heap} {w : World} (h : WRel ρ H w) (n : Nat) : Goes ρ H w ρ (H.put n none) w :=
  ⟨.refl ρ, h.sub (.erase H n), Nat.le_refl _, rfl, rfl, fun _ _ _ => rfl, fun m o L hm hL => .inr ⟨m, o, L, SubHeap.erase H n m o hm, hL, rfl⟩⟩

end Go.Ev
