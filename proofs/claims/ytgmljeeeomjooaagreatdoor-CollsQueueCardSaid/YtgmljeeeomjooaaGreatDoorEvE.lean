/-
  The evaluator and what it says of the model: a part of it.
-/
import Derived.Test.YtgmljeeeomjooaaGreatDoorEvA
import Derived.Test.YtgmljeeeomjooaaGreatDoorEvD
import Derived.Below
set_option linter.all false

namespace Go.Ev
variable [Gho]

noncomputable section

/-- An operation's run: in a context, with calls, operands, the name of a block that it makes, a heap, the first free name. -/
abbrev OF := Cx → Callf → (Operand → Option Value) → Nat → Heap → Nat → Option (Value × Heap × Nat)

def pureR (v : Option Value) (H : Heap) (c : Nat) : Option (Value × Heap × Nat) := Option.rec (motive := fun _ => Option (Value × Heap × Nat)) none (fun v => some (v, H, c)) v
theorem pureR_eq (v : Option Value) (H : Heap) (c : Nat) : pureR v H c = v.map fun v => (v, H, c) := by cases v <;> rfl
def allocR (r : Option (AObj × (Nat → Value))) (n : Nat) (H : Heap) (c : Nat) : Option (Value × Heap × Nat) := r.map fun (ob, mk) => (mk n, H.set n ob, c)
def writeR (r : Option (Value × Heap)) (c : Nat) : Option (Value × Heap × Nat) := Option.rec (motive := fun _ => Option (Value × Heap × Nat)) none (fun r => Prod.rec (motive := fun _ => Option (Value × Heap × Nat)) (fun v H => some (v, H, c)) r) r
theorem writeR_eq (r : Option (Value × Heap)) (c : Nat) : writeR r c = r.map fun (v, H') => (v, H', c) := by rcases r with _ | ⟨v, H⟩ <;> rfl
def orW (a b : Option (Value × Heap)) : Option (Value × Heap) := Option.rec (motive := fun _ => Option (Value × Heap)) b some a
theorem orR_eq (a b : Option Value) : orR a b = match a with | some v => some v | none => b := by cases a <;> rfl
theorem orW_eq (a b : Option (Value × Heap)) : orW a b = match a with | some v => some v | none => b := by cases a <;> rfl
theorem evVal_or (X : Cx) (e : Operand → Option Value) (o : Op) (H : Heap) : evVal X e o H = orR (evPure X e o) (orR (evRead X e o H) (orR (evUns X e o H) (evOrc X e o))) := by
  unfold evVal
  cases evPure X e o with
  | some v => rfl
  | none => cases evRead X e o H with
    | some v => rfl
    | none => cases evUns X e o H <;> rfl
theorem evWr_or (X : Cx) (e : Operand → Option Value) (o : Op) (n : Nat) (H : Heap) : evWr X e o n H = orW (evWrite X e o n H) (evStr X e o H) := by
  unfold evWr
  cases evWrite X e o n H <;> rfl
theorem evOper_or (X : Cx) (call : Callf) (e : Operand → Option Value) (o : Op) (n : Nat) (H : Heap) (c : Nat) : evOper X call e o n H c =
    (match X.kind o with
    | .pure => pureR (evPureO X e o) H c
    | .read => pureR (orR (evPure X e o) (orR (evRead X e o H) (orR (evUns X e o H) (evOrc X e o)))) H c
    | .alloc => (evAlloc X e o).map fun (ob, mk) => (mk n, H.set n ob, c)
    | .write => writeR (orW (evWrite X e o n H) (evStr X e o H)) c
    | .call => match o with
      | .call k => match evTgt X e k with
        | some t => call t H c
        | none => none
      | _ => none
    | .bad => none) := by
  unfold evOper
  simp only [evVal_or, evWr_or, pureR_eq, writeR_eq]
  cases X.kind o <;> rfl

/-! ### Lists of cells -/

def nthF (cs : List Value) : Nat → Option Value := List.rec (motive := fun _ => Nat → Option Value) (fun _ => none) (fun x _ ih i => Nat.rec (motive := fun _ => Option Value) (some x) (fun i _ => ih i) i) cs
theorem nthF_eq : ∀ (cs : List Value) (i : Nat), nthF cs i = cs[i]?
  | [], i => by simp [nthF]
  | x :: cs, 0 => rfl
  | x :: cs, i + 1 => by
    show nthF cs i = _
    rw [nthF_eq cs i, List.getElem?_cons_succ]
def consV (x : Value) (r : Option (List Value)) : Option (List Value) := Option.rec (motive := fun _ => Option (List Value)) none (fun l => some (x :: l)) r
def takeF (cs : List Value) : Nat → Option (List Value) := List.rec (motive := fun _ => Nat → Option (List Value)) (fun n => Nat.rec (motive := fun _ => Option (List Value)) (some []) (fun _ _ => none) n) (fun x _ ih n => Nat.rec (motive := fun _ => Option (List Value)) (some []) (fun n _ => consV x (ih n)) n) cs
theorem takeF_eq : ∀ (cs : List Value) (n : Nat), takeF cs n = if n ≤ cs.length then some (cs.take n) else none
  | [], 0 => rfl
  | [], n + 1 => rfl
  | x :: cs, 0 => rfl
  | x :: cs, n + 1 => by
    show consV x (takeF cs n) = _
    rw [takeF_eq cs n]
    by_cases h : n ≤ cs.length
    · rw [if_pos h, if_pos (by simp; omega)]; rfl
    · rw [if_neg h, if_neg (by simp; omega)]; rfl
def cutF (cs : List Value) : Nat → Nat → Option (List Value) :=
  List.rec (motive := fun _ => Nat → Nat → Option (List Value)) (fun off n => Nat.rec (motive := fun _ => Option (List Value)) (takeF [] n) (fun _ _ => none) off) (fun x cs ih off n => Nat.rec (motive := fun _ => Option (List Value)) (takeF (x :: cs) n) (fun off _ => ih off n) off) cs
theorem cutF_eq : ∀ (cs : List Value) (off n : Nat), cutF cs off n = cut cs off n
  | [], 0, n => by
    show takeF [] n = _
    rw [takeF_eq]
    unfold cut
    cases n with
    | zero => rfl
    | succ n => rfl
  | [], off + 1, n => by
    unfold cut
    have : Nat.ble (off + 1 + n) ([] : List Value).length = false := by
      rw [← Bool.not_eq_true, Nat.ble_eq]; simp
    rw [this]; rfl
  | x :: cs, 0, n => by
    show takeF (x :: cs) n = _
    rw [takeF_eq]
    unfold cut
    rw [Nat.zero_add]
    by_cases h : n ≤ (x :: cs).length
    · rw [if_pos h, Nat.ble_eq_true_of_le h]; rfl
    · rw [if_neg h]
      have : Nat.ble n (x :: cs).length = false := by
        rw [← Bool.not_eq_true, Nat.ble_eq]; exact h
      rw [this]; rfl
  | x :: cs, off + 1, n => by
    show cutF cs off n = _
    rw [cutF_eq cs off n]
    unfold cut
    have : Nat.ble (off + 1 + n) (x :: cs).length = Nat.ble (off + n) cs.length := by
      rw [Bool.eq_iff_iff, Nat.ble_eq, Nat.ble_eq, List.length_cons]; omega
    rw [this]; rfl
/-- Cells laid over others from the first one on. -/
def layF (vs : List Value) : List Value → Option (List Value) :=
  List.rec (motive := fun _ => List Value → Option (List Value)) (fun cs => some cs) (fun v _ ih cs => List.rec (motive := fun _ => Option (List Value)) none (fun _ cs _ => consV v (ih cs)) cs) vs
theorem layF_eq : ∀ (vs cs : List Value), layF vs cs = if vs.length ≤ cs.length then some (vs ++ cs.drop vs.length) else none
  | [], cs => by simp [layF]
  | v :: vs, [] => rfl
  | v :: vs, c :: cs => by
    show consV v (layF vs cs) = _
    rw [layF_eq vs cs]
    by_cases h : vs.length ≤ cs.length
    · rw [if_pos h, if_pos (by simp; omega)]; rfl
    · rw [if_neg h, if_neg (by simp; omega)]; rfl
def splF (vs cs : List Value) : Nat → Option (List Value) :=
  List.rec (motive := fun _ => Nat → Option (List Value)) (fun off => Nat.rec (motive := fun _ => Option (List Value)) (layF vs []) (fun _ _ => none) off) (fun x cs ih off => Nat.rec (motive := fun _ => Option (List Value)) (layF vs (x :: cs)) (fun off _ => consV x (ih off)) off) cs
theorem splF_eq (vs : List Value) : ∀ (cs : List Value) (off : Nat), splF vs cs off = bif Nat.ble (off + vs.length) cs.length then some (spl cs off vs) else none
  | cs, 0 => by
    have e : splF vs cs 0 = layF vs cs := by cases cs <;> rfl
    rw [e, layF_eq, Nat.zero_add]
    by_cases h : vs.length ≤ cs.length
    · rw [if_pos h, Nat.ble_eq_true_of_le h, cond_true]
      unfold spl
      simp
    · rw [if_neg h]
      have : Nat.ble vs.length cs.length = false := by
        rw [← Bool.not_eq_true, Nat.ble_eq]; exact h
      rw [this]; rfl
  | [], off + 1 => by
    have : Nat.ble (off + 1 + vs.length) ([] : List Value).length = false := by
      rw [← Bool.not_eq_true, Nat.ble_eq]; simp
    rw [this]; rfl
  | x :: cs, off + 1 => by
    show consV x (splF vs cs off) = _
    rw [splF_eq vs cs off]
    have : Nat.ble (off + 1 + vs.length) (x :: cs).length = Nat.ble (off + vs.length) cs.length := by
      rw [Bool.eq_iff_iff, Nat.ble_eq, Nat.ble_eq, List.length_cons]; omega
    rw [this]
    cases Nat.ble (off + vs.length) cs.length with
    | false => rfl
    | true =>
      simp only [cond_true]
      show some (x :: spl cs off vs) = some (spl (x :: cs) (off + 1) vs)
      unfold spl
      simp [Nat.add_right_comm]
def allOne (vs : List Value) : Bool := List.rec (motive := fun _ => Bool) true (fun v _ ih => Bool.rec (motive := fun _ => Bool) false ih (one v)) vs
theorem allOne_eq : ∀ (vs : List Value), allOne vs = vs.all one
  | [] => rfl
  | v :: vs => by
    show Bool.rec (motive := fun _ => Bool) false (allOne vs) (one v) = _
    rw [allOne_eq vs, List.all_cons]
    cases one v <;> rfl
def storeC (H : Heap) (n off : Nat) (vs : List Value) (ob : AObj) : Option Heap := match ob with
  | .cells cs el opn str => Bool.rec (motive := fun _ => Option Heap) none (Option.rec (motive := fun _ => Option Heap) none (fun cs => some (H.set n (.cells cs el opn str))) (splF vs cs off)) (allOne vs)
  | _ => none
def storeF (H : Heap) (a : Addr) (vs : List Value) : Option Heap := match a.spot with
  | none => Option.rec (motive := fun _ => Option Heap) none (storeC H a.block a.off vs) (H.get a.block)
  | some _ => none
theorem storeF_eq (H : Heap) (a : Addr) (vs : List Value) : storeF H a vs = storeA H a vs := by
  unfold storeF storeA
  cases a.spot with
  | some n => rfl
  | none =>
    dsimp only
    rcases H.get a.block with _ | ob
    · rfl
    · cases ob with
      | cells cs el opn str =>
        show Bool.rec (motive := fun _ => Option Heap) none (Option.rec (motive := fun _ => Option Heap) none (fun cs => some (H.set a.block (.cells cs el opn str))) (splF vs cs a.off)) (allOne vs) = _
        rw [splF_eq, allOne_eq]
        dsimp only
        cases Nat.ble (a.off + vs.length) cs.length <;> cases vs.all one <;> rfl
      | _ => rfl

section
variable (X : Cx) (e : Operand → Option Value)

def pPick (c a b : Operand) : Option Value := match e c with
  | some (.bool true) => e a
  | some (.bool false) => e b
  | _ => none
def pNil (x : Operand) : Option Value := match e x with
  | some (.pointer none) | some .nilIface | some .nilFunc | some (.func (.method _) _ _) | some (.chan _) => none
  | v => v
def pBuildS (ps : List (Nat × Value)) (z : List Value) (fs : List Field) : Option Value := match X.places fs with
  | some pl => (fillB (fun i => pl[i]?) ps z).map fun l => .agg ⟨l⟩
  | none => none
def pBuildA (ps : List (Nat × Value)) (z : List Value) (el : TypeId) : Option Value := match X.size el with
  | some n => (fillB (fun i => some (i * n, n)) ps z).map fun l => .agg ⟨l⟩
  | none => none
def pBuild (t : TypeId) (parts : Array (Nat × Operand)) : Option Value := match X.zero t, X.under t, evParts e parts.toList with
  | some z, some (.struct fs), some ps => pBuildS X ps z fs.toList
  | some z, some (.array _ el), some ps => pBuildA X ps z el
  | _, _, _ => none
def pFieldAddr (s : TypeId) (x : Operand) (f : Nat) : Option Value := match X.under s, e x with
  | some (.struct fs), some (.pointer (some a)) => match fs[f]? with
    | some fd => match X.size fd.type with
      | some (_ + 1) => some (.pointer (some (addrAdd a fd.offset)))
      | _ => none
    | none => none
  | _, _ => none
def pIndexAddr (t : TypeId) (x i : Operand) : Option Value := match X.under t, e x, e i with
  | some (.array n el), some (.pointer (some a)), some (.int _ (.ofNat i)) =>
    bif Nat.blt i n then (X.size el).map fun s => .pointer (some (addrAdd a (i * s))) else none
  | some (.slice el), some (.slice (some a) n _), some (.int _ (.ofNat i)) =>
    bif Nat.blt i n then (X.size el).map fun s => .pointer (some (addrAdd a (i * s))) else none
  | _, _, _ => none
def pField (t : TypeId) (x : Operand) (f : Nat) : Option Value := match X.under t, e x with
  | some (.struct fs), some (.agg cs) => match fs[f]? with
    | some fd => X.part fd.type fd.offset cs.toList
    | none => none
  | _, _ => none
def pIndex (t : TypeId) (x i : Operand) : Option Value := match X.under t, e x, e i with
  | some (.array n el), some (.agg cs), some (.int _ (.ofNat i)) =>
    bif Nat.blt i n then match X.size el with
      | some s => X.part el (i * s) cs.toList
      | none => none
    else none
  | some .string, some (.string s), some (.int _ (.ofNat i)) => match s.data.toList[i]? with
    | some b => some (.int .u8 b.toNat)
    | none => none
  | _, _, _ => none
def pExtract (x : Operand) (i : Nat) : Option Value := match e x with
  | some (.tuple vs) => vs[i]?
  | _ => none
def pMakeIface (t : TypeId) (x : Operand) : Option Value := match X.under t with
  | some (.interface _) | none => none
  | some _ => (e x).map fun v => .iface t v
def pMakeFunc (fn : Fn) (first captured : Array Operand) : Option Value := bif fnOk fn then match evL e first.toList, evL e captured.toList with
    | some f, some c => some (.func fn ⟨f⟩ ⟨c⟩)
    | _, _ => none
  else none
def pAssert (x : Operand) (asserted : TypeId) (ok : Bool) : Option Value := match X.under asserted, e x with
  | some (.interface want), some (.iface t v) => match X.ty.get t with
    | some i => match Instr.missingMethod want i.methods with
      | none => some (bif ok then .tuple #[.iface t v, .bool true] else .iface t v)
      | some _ => bif ok then (X.zeroV asserted).map fun z => .tuple #[z, .bool false] else none
    | none => none
  | some (.interface _), some .nilIface => bif ok then (X.zeroV asserted).map fun z => .tuple #[z, .bool false] else none
  | some _, some .nilIface => bif ok then (X.zeroV asserted).map fun z => .tuple #[z, .bool false] else none
  | some _, some (.iface t v) =>
    bif Nat.beq t asserted then some (bif ok then .tuple #[v, .bool true] else v)
    else bif ok then (X.zeroV asserted).map fun z => .tuple #[z, .bool false] else none
  | _, _ => none
def pBin (op : BinOp) (t : TypeId) (x y : Operand) : Option Value := match e x, e y with
  | some a, some b => bif guardOk X op t x y a b then binA X op t a b else none
  | _, _ => none
def pUn (op : UnOp) (x : Operand) : Option Value := match e x with
  | some a => unA op a
  | none => none
def pConv (src dst : TypeId) (x : Operand) : Option Value := match e x with
  | some a => convA X src dst a
  | none => none
def pLen (c : Call) : Option Value := match evL e c.args.toList with
  | some [x] => match (c.argTypes[0]?).bind X.under, x with
    | some .string, .string s => some (.int .i64 (.ofNat s.data.toList.length))
    | some (.slice _), .slice _ n _ => some (.int .i64 (.ofNat n))
    | some (.array n _), _ => some (.int .i64 (.ofNat n))
    | _, _ => none
  | _ => none
def pMax (c : Call) : Option Value := match evL e c.args.toList with
  | some (x :: r) => foldA max2A r x
  | _ => none
def pMin (c : Call) : Option Value := match evL e c.args.toList with
  | some (x :: r) => foldA min2A r x
  | _ => none

def aBox (t : TypeId) (x : Operand) : Option (AObj × (Nat → Value)) := (e x).map fun v => (.cells v.cells.toList t none false, fun n => .pointer (some ⟨n, 0, none⟩))
def aAlloc (t : TypeId) : Option (AObj × (Nat → Value)) := (X.zero t).map fun z => (.cells z t none false, fun n => .pointer (some ⟨n, 0, none⟩))
def aConv (src dst : TypeId) (x : Operand) : Option (AObj × (Nat → Value)) := match X.under src, X.under dst, e x with
  | some .string, some (.slice el), some (.string s) => match X.under el with
    | some (.int .u8) => some (.cells (u8s s) el (some 1) true, fun n => .slice (some ⟨n, 0, none⟩) s.data.toList.length s.data.toList.length)
    | _ => none
  | _, _, _ => none
def aMakeMap (t : TypeId) (r : Option Operand) : Option (AObj × (Nat → Value)) := match r with
  | none => some (.map [] 0, fun n => .map (some n))
  | some x => match X.under t, e x with
    | some (.map _ _), some (.int _ _) => some (.map [] 0, fun n => .map (some n))
    | _, _ => none

def aggO (r : Option (List Value)) : Option Value := Option.rec (motive := fun _ => Option Value) none (fun l => some (.agg ⟨l⟩)) r
def rLoadAgg (H : Heap) (a : Addr) (n : Nat) : Option Value := match a.spot, H.get a.block with
  | none, some (.cells cs _ _ _) => aggO (cutF cs a.off n)
  | _, _ => none
def rLoadOne (H : Heap) (a : Addr) : Option Value := match a.spot, H.get a.block with
  | none, some (.cells cs _ _ _) => nthF cs a.off
  | _, _ => none
def rLoad (t : TypeId) (x : Operand) (H : Heap) : Option Value := match e x, X.isAgg t, X.size t with
  | some (.pointer (some a)), some true, some n => rLoadAgg H a n
  | some (.pointer (some a)), some false, some _ => rLoadOne H a
  | _, _, _ => none
theorem rLoadAgg_eq (H : Heap) (a : Addr) (n : Nat) : rLoadAgg H a n = (cellsAt H a n).map fun l => .agg ⟨l⟩ := by
  unfold rLoadAgg cellsAt
  cases a.spot with
  | some s => rfl
  | none =>
    rcases H.get a.block with _ | ob
    · rfl
    · cases ob with
      | cells cs el opn str =>
        dsimp only
        rw [cutF_eq]
        cases cut cs a.off n <;> rfl
      | _ => rfl
theorem rLoadOne_eq (H : Heap) (a : Addr) : rLoadOne H a = match a.spot, H.get a.block with
    | none, some (.cells cs _ _ _) => cs[a.off]?
    | _, _ => none := by
  unfold rLoadOne
  cases a.spot with
  | some s => rfl
  | none =>
    rcases H.get a.block with _ | ob
    · rfl
    · cases ob with
      | cells cs el opn str => exact nthF_eq cs a.off
      | _ => rfl
theorem rLoad_eq (t : TypeId) (x : Operand) (H : Heap) : rLoad X e t x H = evRead X e (.load t x) H := by
  unfold rLoad evRead
  simp only [rLoadAgg_eq, rLoadOne_eq]
  rfl
def uLoad (t : TypeId) (x : Operand) (H : Heap) : Option Value := match e x, X.isAgg t, X.size t with
  | some (.pointer (some a)), some false, some _ => match a.spot, H.get a.block with
    | none, some (.rom _ cs) => cs[a.off]?
    | _, _ => none
  | _, _, _ => none
def rSlice (t : TypeId) (x : Operand) (lo hi mx : Option Operand) (H : Heap) : Option Value := match X.under t, e x with
  | some (.slice el), some (.slice none len cap) => match X.size el, boundsA e len cap lo hi mx with
    | some _, some (l, h, m) => some (.slice none (h - l) (m - l))
    | _, _ => none
  | some (.slice el), some (.slice (some a) len cap) => match X.size el, H.get a.block, boundsA e len cap lo hi mx with
    | some s, some (.cells _ _ opn _), some (l, h, m) =>
      bif opnOk opn s mx && Nat.ble h m then some (.slice (some (bif Nat.beq m l then a else addrAdd a (l * s))) (h - l) (m - l)) else none
    | _, _, _ => none
  | some (.array n el), some (.pointer (some a)) => match a.spot, X.size el, H.get a.block, boundsA e n n lo hi mx with
    | none, some s, some (.cells _ _ none _), some (l, h, m) => some (.slice (some (bif Nat.beq m l then a else addrAdd a (l * s))) (h - l) (m - l))
    | _, _, _, _ => none
  | _, _ => none
def pSlice (t : TypeId) (x : Operand) (lo hi mx : Option Operand) : Option Value := match mx with
  | none => match X.under t, e x with
    | some .string, some (.string s) => (boundsA e s.data.toList.length s.data.toList.length lo hi none).map fun (l, h, _) => .string (bsub s l h)
    | _, _ => none
  | some _ => none
def rLookup (t : TypeId) (x k : Operand) (ok : Bool) (H : Heap) : Option Value := match X.under t, e x, e k with
  | some (.map kt el), some (.map none), some k => bif X.keyTy kt && X.keyFits kt k then
      (X.zeroV el).map fun z => bif ok then .tuple #[z, .bool false] else z
    else none
  | some (.map kt el), some (.map (some r)), some k => match H.get r with
    | some (.map es _) => match X.look kt k es with
      | some (some (_, v)) => some (bif ok then .tuple #[v, .bool true] else v)
      | some none => (X.zeroV el).map fun z => bif ok then .tuple #[z, .bool false] else z
      | none => none
    | _ => none
  | _, _, _ => none
def rBin (op : BinOp) (t : TypeId) (x y : Operand) (H : Heap) : Option Value := match e x, e y, X.under t with
  | some (.pointer (some a)), some (.pointer (some b)), some (.pointer el) => match X.size el, a.spot, b.spot, H.get a.block, H.get b.block with
    | some (_ + 1), none, none, some (.cells _ _ _ false), some (.cells _ _ _ false) =>
      bif eqOp op then
        let r := Nat.beq a.block b.block && Nat.beq a.off b.off
        some (.bool (match op with | .neq => !r | _ => r))
      else none
    | _, _, _, _, _ => none
  | _, _, _ => none

def wStored (r : Option Heap) : Option (Value × Heap) := Option.rec (motive := fun _ => Option (Value × Heap)) none (fun H => some (.tuple #[], H)) r
def wStore (t : TypeId) (x y : Operand) (H : Heap) : Option (Value × Heap) := match e x, e y, X.size t with
  | some (.pointer (some a)), some v, some s => Bool.rec (motive := fun _ => Option (Value × Heap)) none (wStored (storeF H a v.cells.toList)) (Nat.beq v.cells.toList.length s)
  | _, _, _ => none
theorem wStore_eq (t : TypeId) (x y : Operand) (n : Nat) (H : Heap) : wStore X e t x y H = evWrite X e (.store t x y) n H := by
  have hs : ∀ (a : Addr) (v : Value) (s : Nat), Bool.rec (motive := fun _ => Option (Value × Heap)) none (wStored (storeF H a v.cells.toList)) (Nat.beq v.cells.toList.length s) =
      bif Nat.beq v.cells.toList.length s then (storeA H a v.cells.toList).map fun H' => (.tuple #[], H') else none := by
    intro a v s
    rw [storeF_eq]
    cases Nat.beq v.cells.toList.length s with
    | false => rfl
    | true => cases storeA H a v.cells.toList <;> rfl
  unfold wStore evWrite
  simp only [hs]
  rfl
def wUpdate (t : TypeId) (m k v : Operand) (H : Heap) : Option (Value × Heap) := match X.under t, e m, e k, e v with
  | some (.map kt _), some (.map (some r)), some k, some v => match H.get r with
    | some (.map es clock) => match X.look kt k es with
      | some (some (i, _)) => match es[i]? with
        | some x => bif keyEq x.key k then some (.tuple #[], H.set r (.map (setKV k v es i) clock)) else none
        | none => none
      | some none => some (.tuple #[], H.set r (.map (es ++ [{ key := k, val := v, born := clock }]) (clock + 1)))
      | none => none
    | _ => none
  | _, _, _, _ => none
def wAppend (c : Call) (n : Nat) (H : Heap) : Option (Value × Heap) := match c.argTypes.toList, evL e c.args.toList with
  | [t, u], some [s, x] => match X.under t, X.under u with
    | some (.slice el), some du => match X.size el, X.bytes el, X.zero el with
      | some size, some bytes, some z => bif isIntD du then none else appendA el size bytes z s x n H
      | _, _, _ => none
    | _, _ => none
  | _, _ => none
end

/-! ### Each operation's own function -/

def fMove (x : Operand) : OF := fun _ _ e _ H c => pureR (e x) H c
def fPick (a b d : Operand) : OF := fun _ _ e _ H c => pureR (pPick e a b d) H c
def fAlloc (t : TypeId) : OF := fun X _ _ n H c => allocR (aAlloc X t) n H c
def fBox (t : TypeId) (x : Operand) : OF := fun _ _ e n H c => allocR (aBox e t x) n H c
def fBuild (t : TypeId) (ps : Array (Nat × Operand)) : OF := fun X _ e _ H c => pureR (pBuild X e t ps) H c
def fBuildSlice (t : TypeId) (len : Nat) (ps : Array (Nat × Operand)) : OF := fun X _ e n H c => allocR (evAlloc X e (.buildSlice t len ps)) n H c
def fInsert (t : TypeId) (m k v : Operand) : OF := fun X _ e _ H c => writeR (orW (wUpdate X e t m k v H) none) c
def fLoad (t : TypeId) (x : Operand) : OF := fun X _ e _ H c => pureR (orR (rLoad X e t x H) (orR (uLoad X e t x H) none)) H c
def fStore (t : TypeId) (x y : Operand) : OF := fun X _ e _ H c => writeR (orW (wStore X e t x y H) none) c
def fNone : OF := fun _ _ _ _ _ _ => none
def fNil (x : Operand) : OF := fun _ _ e _ H c => pureR (pNil e x) H c
def fArith (op : BinOp) (t : TypeId) (x y : Operand) : OF := fun X _ e _ H c => pureR (orR (pBin X e op t x y) (evOrc X e (.binOp op t x y 0))) H c
def fCmp (op : BinOp) (t : TypeId) (x y : Operand) (u : TypeId) : OF := fun X _ e _ H c => pureR (orR (pBin X e op t x y) (orR (rBin X e op t x y H) (orR none (evOrc X e (.binOp op t x y u))))) H c
def fBin (op : BinOp) (t : TypeId) (x y : Operand) (u : TypeId) : OF :=
  BinOp.rec (motive := fun _ => TypeId → Operand → Operand → TypeId → OF) (fun t x y _ => fArith .add t x y) (fun t x y _ => fArith .sub t x y) (fun t x y _ => fArith .mul t x y) (fun t x y _ => fArith .quo t x y) (fun t x y _ => fArith .rem t x y)
    (fun t x y _ => fArith .and t x y) (fun t x y _ => fArith .or t x y) (fun t x y _ => fArith .xor t x y) (fun t x y _ => fArith .shl t x y) (fun t x y _ => fArith .shr t x y) (fun t x y _ => fArith .andNot t x y)
    (fCmp .eql) (fCmp .neq) (fCmp .lss) (fCmp .leq) (fCmp .gtr) (fCmp .geq) op t x y u
def fUn (op : UnOp) (t : TypeId) (x : Operand) : OF := fun X _ e _ H c => pureR (orR (pUn e op x) (evOrc X e (.unOp op t x))) H c
def fConv (src dst : TypeId) (x : Operand) : OF := fun X call e n H c =>
  match X.under src, X.under dst with
  | some .string, some (.slice _) => allocR (aConv X e src dst x) n H c
  | some (.slice _), some (.slice _) => writeR (orW none (evStr X e (.convert src dst x) H)) c
  | some (.slice _), _ => pureR (evVal X e (.convert src dst x) H) H c
  | some (.pointer _), some .unsafePointer | some .unsafePointer, some (.pointer _) => pureR (evVal X e (.convert src dst x) H) H c
  | _, _ => pureR (orR (pConv X e src dst x) (evOrc X e (.convert src dst x))) H c
def fMakeIface (t : TypeId) (x : Operand) : OF := fun X _ e _ H c => pureR (pMakeIface X e t x) H c
def fMakeFunc (fn : Fn) (a b : Array Operand) : OF := fun _ _ e _ H c => pureR (pMakeFunc e fn a b) H c
def fMakeMap (t : TypeId) (r : Option Operand) : OF := fun X _ e n H c => allocR (aMakeMap X e t r) n H c
def fMakeSlice (t : TypeId) (l k : Operand) : OF := fun X _ e n H c => allocR (evAlloc X e (.makeSlice t l k)) n H c
def fSlice (t : TypeId) (x : Operand) (lo hi mx : Option Operand) : OF := fun X _ e _ H c => pureR (orR (pSlice X e t x lo hi mx) (orR (rSlice X e t x lo hi mx H) (orR none none))) H c
def fFieldAddr (t : TypeId) (x : Operand) (f : Nat) : OF := fun X _ e _ H c => pureR (pFieldAddr X e t x f) H c
def fField (t : TypeId) (x : Operand) (f : Nat) : OF := fun X _ e _ H c => pureR (pField X e t x f) H c
def fIndexAddr (t : TypeId) (x i : Operand) : OF := fun X _ e _ H c => pureR (pIndexAddr X e t x i) H c
def fIndex (t : TypeId) (x i : Operand) : OF := fun X _ e _ H c => pureR (pIndex X e t x i) H c
def fLookup (t : TypeId) (x k : Operand) (ok : Bool) : OF := fun X _ e _ H c => pureR (orR none (orR (rLookup X e t x k ok H) (orR none none))) H c
def fRange (t : TypeId) (x : Operand) : OF := fun X _ e n H c => writeR (orW (evWrite X e (.range t x) n H) none) c
def fNext (x : Operand) (s : Bool) : OF := fun X _ e n H c => writeR (orW (evWrite X e (.next x s) n H) none) c
def fEntry (x : Operand) : OF := fun X _ e _ H c => pureR (orR none (orR (evRead X e (.entry x) H) (orR none none))) H c
def fAssert (x : Operand) (_t u : TypeId) (ok : Bool) : OF := fun X _ e _ H c => pureR (pAssert X e x u ok) H c
def fExtract (x : Operand) (i : Nat) : OF := fun _ _ e _ H c => pureR (pExtract e x i) H c
def fCallB (k : Call) : OF := fun X _ e n H c =>
  match X.kind (.call k) with
  | .pure => pureR (evPureO X e (.call k)) H c
  | .read => pureR (orR (evPure X e (.call k)) (orR (evRead X e (.call k) H) (orR (evUns X e (.call k) H) none))) H c
  | .write => writeR (orW (evWrite X e (.call k) n H) (evStr X e (.call k) H)) c
  | _ => none
def fLen (k : Call) : OF := fun X _ e _ H c => pureR (orR (pLen X e k) (orR (evRead X e (.call k) H) (orR (evUns X e (.call k) H) (evOrc X e (.call k))))) H c
def fMax (k : Call) : OF := fun _ _ e _ H c => pureR (pMax e k) H c
def fMin (k : Call) : OF := fun _ _ e _ H c => pureR (pMin e k) H c
def fAppend (k : Call) : OF := fun X _ e n H c => writeR (orW (wAppend X e k n H) (evStr X e (.call k) H)) c
def bSel (b : Builtin) : Call → OF :=
  Builtin.rec (motive := fun _ => Call → OF) fAppend fCallB fCallB fCallB fCallB fCallB fCallB fCallB fLen fCallB fMax fMin fCallB fCallB fCallB fCallB fCallB fCallB fCallB fCallB fCallB fCallB fCallB fCallB fCallB fCallB b
def fEnter (k : Call) : OF := fun X call e _ H c => match evTgt X e k with
  | some t => call t H c
  | none => none
def cSel (x : Callee) : Call → OF := Callee.rec (motive := fun _ => Call → OF) (fun _ => fEnter) (fun _ _ => fEnter) bSel x
def fCall (k : Call) : OF := cSel k.callee k

/-- An operation's own function. -/
def opSel : Op → OF :=
  Op.rec (motive := fun _ => OF) fMove fMove fPick fAlloc fBox fBuild fBuildSlice fInsert fLoad fStore (fun _ => fNone) (fun _ => fNone) fNil fBin fUn fConv (fun _ _ => fNone) fMakeIface fMakeFunc fMakeMap (fun _ _ => fNone) fMakeSlice
    fSlice fFieldAddr fField fIndexAddr fIndex fLookup fInsert (fun _ _ _ => fNone) (fun _ _ _ _ => fNone) fRange fNext fEntry fAssert fExtract fCall (fun _ => fNone) (fun _ => fNone) (fun _ => fNone) (fun _ _ => fNone) (fun _ _ _ => fNone) (fun _ _ => fNone)

theorem wAppend_eq (X : Cx) (e : Operand → Option Value) (args : Array Operand) (ts : Array TypeId) (n : Nat) (H : Heap) :
    wAppend X e ⟨.builtin .append, args, ts⟩ n H = evWrite X e (.call ⟨.builtin .append, args, ts⟩) n H := by
  unfold wAppend evWrite
  dsimp only
  rcases ts.toList with _ | ⟨t, _ | ⟨u, _ | ⟨_, _⟩⟩⟩ <;> rcases evL e args.toList with _ | _ | ⟨s, _ | ⟨x, _ | ⟨_, _⟩⟩⟩ <;> rfl
theorem pLen_eq (X : Cx) (e : Operand → Option Value) (args : Array Operand) (ts : Array TypeId) : pLen X e ⟨.builtin .len, args, ts⟩ = evPure X e (.call ⟨.builtin .len, args, ts⟩) := by
  unfold pLen evPure
  dsimp only
  rcases evL e args.toList with _ | _ | ⟨s, _ | ⟨x, _⟩⟩ <;> rfl
theorem pMax_eq (X : Cx) (e : Operand → Option Value) (args : Array Operand) (ts : Array TypeId) : pMax e ⟨.builtin .max, args, ts⟩ = evPure X e (.call ⟨.builtin .max, args, ts⟩) := by
  unfold pMax evPure
  dsimp only
  rcases evL e args.toList with _ | _ | ⟨s, _⟩ <;> rfl
theorem pMin_eq (X : Cx) (e : Operand → Option Value) (args : Array Operand) (ts : Array TypeId) : pMin e ⟨.builtin .min, args, ts⟩ = evPure X e (.call ⟨.builtin .min, args, ts⟩) := by
  unfold pMin evPure
  dsimp only
  rcases evL e args.toList with _ | _ | ⟨s, _⟩ <;> rfl

theorem fConv_eq (X : Cx) (call : Callf) (e : Operand → Option Value) (s d : TypeId) (x : Operand) (n : Nat) (H : Heap) (c : Nat) : fConv s d x X call e n H c = evOper X call e (.convert s d x) n H c := by
  rw [evOper_or]
  unfold fConv Cx.kind
  dsimp only
  simp only [evVal_or]
  split <;> simp_all <;> rfl

theorem opSel_eq (X : Cx) (call : Callf) (e : Operand → Option Value) (o : Op) (n : Nat) (H : Heap) (c : Nat) : opSel o X call e n H c = evOper X call e o n H c := by
  rw [evOper_or]
  cases o with
  | binOp op t x y u => cases op <;> rfl
  | call k =>
    obtain ⟨cal, args, ts⟩ := k
    cases cal with
    | value f => rfl
    | invoke r m => rfl
    | builtin b =>
      cases b with
      | append => exact congrArg (fun r => writeR (orW r _) c) (wAppend_eq X e args ts n H)
      | len => exact congrArg (fun r => pureR (orR r _) H c) (pLen_eq X e args ts)
      | max => exact congrArg (fun r => pureR r H c) (pMax_eq X e args ts)
      | min => exact congrArg (fun r => pureR r H c) (pMin_eq X e args ts)
      | _ => rfl
  | load t x => exact congrArg (fun r => pureR (orR r _) H c) (rLoad_eq X e t x H)
  | store t x y => exact congrArg (fun r => writeR (orW r _) c) (wStore_eq X e t x y n H)
  | slice t x lo hi mx => cases mx <;> rfl
  | convert s d x => exact (fConv_eq X call e s d x n H c).trans (evOper_or ..)
  | typeAssert x t u ok => rfl
  | _ => rfl

end
end Go.Ev

namespace Go.Ev
variable [Gho]

noncomputable section

/-! ### Operands -/

def oConst (v : Value) : Option Value := bif clos v then some v else none
def oGlob (nG g : Nat) : Option Value := bif Nat.blt g nG then some (.pointer (some ⟨g, 0, none⟩)) else none
/-- An operand, with what its slot has given by a function. -/
def oSel (x : Operand) : Nat → (Nat → Option Value) → Option Value :=
  Operand.rec (motive := fun _ => Nat → (Nat → Option Value) → Option Value) (fun t _ g => g t) (fun v _ _ => oConst v) (fun g nG _ => oGlob nG g) (fun f _ _ => some (.func (.func f) #[] #[])) x
def evOF (X : Cx) (env : Env) (x : Operand) : Option Value := oSel x X.nG env.get
theorem evOF_eq (X : Cx) (env : Env) : evOF X env = evO X env := by
  funext x
  cases x <;> rfl

/-- A bit. -/
def bitN (m n : Nat) : Bool := Nat.beq (Nat.land (Nat.shiftRight m n) 1) 1
theorem bitN_eq (m n : Nat) : bitN m n = m.testBit n := by
  have h : m.testBit n = decide ((m >>> n) % 2 = 1) := by
    rw [Nat.testBit_eq_decide_div_mod_eq, Nat.shiftRight_eq_div_pow]
  have e : Nat.land (Nat.shiftRight m n) 1 = (m >>> n) % 2 := Nat.and_one_is_mod (m >>> n)
  unfold bitN
  rw [h, e, nbeq]

/-- Slots as bits. -/
def maskOf (l : List Nat) : Nat := List.rec 0 (fun t _ m => Nat.lor (2 ^ t) m) l
theorem maskOf_bit (l : List Nat) (t : Nat) : (maskOf l).testBit t = l.elem t := by
  induction l with
  | nil => simp [maskOf]
  | cons x l ih =>
    show (2 ^ x ||| maskOf l).testBit t = _
    rw [Nat.testBit_or, Nat.testBit_two_pow, ih, List.elem_cons]
    by_cases h : x = t
    · subst h; simp
    · have h' : (t == x) = false := by simpa using fun e => h e.symm
      simp [h, h']

def getM (m : Nat) (env : Env) (t : Nat) : Option Value := bif bitN m t then env.get t else none
def evEF (X : Cx) (m : Nat) (env : Env) (x : Operand) : Option Value := oSel x X.nG (getM m env)
theorem evEF_eq (X : Cx) (ops : Array Oper) (o : Oper) (env : Env) : evEF X (maskOf (o.looksAt ops)) env = evE X ops o env := by
  funext x
  cases x with
  | tmp t =>
    show (bif bitN (maskOf (o.looksAt ops)) t then env.get t else none) = _
    rw [bitN_eq, maskOf_bit]; rfl
  | _ => rfl

/-! ### Kinds -/

def kConv (s d : TypeId) (X : Cx) : Kd := match X.under s, X.under d with
  | some .string, some (.slice _) => .alloc
  | some (.slice _), some (.slice _) => .write
  | some (.slice _), _ => .read
  | some (.pointer _), some .unsafePointer | some .unsafePointer, some (.pointer _) => .read
  | _, _ => .pure
def kC (k : Kd) : Cx → Kd := fun _ => k
def kBin (op : BinOp) : Kd := BinOp.rec (motive := fun _ => Kd) .pure .pure .pure .pure .pure .pure .pure .pure .pure .pure .pure .read .read .read .read .read .read op
def kB (b : Builtin) : Kd :=
  Builtin.rec (motive := fun _ => Kd) .write .read .write .bad .bad .write .write .bad .read .bad .pure .pure .bad .bad .bad .bad .bad .bad .bad .bad .read .write .bad .bad .bad .bad b
def kCal (c : Callee) : Kd := Callee.rec (motive := fun _ => Kd) (fun _ => .call) (fun _ _ => .call) kB c
def kSel (o : Op) : Cx → Kd :=
  Op.rec (motive := fun _ => Cx → Kd) (fun _ => kC .pure) (fun _ => kC .pure) (fun _ _ _ => kC .pure) (fun _ => kC .alloc) (fun _ _ => kC .alloc) (fun _ _ => kC .pure) (fun _ _ _ => kC .alloc) (fun _ _ _ _ => kC .write) (fun _ _ => kC .read) (fun _ _ _ => kC .write)
    (fun _ => kC .bad) (fun _ => kC .bad) (fun _ => kC .pure) (fun op _ _ _ _ => kC (kBin op)) (fun _ _ _ => kC .pure) (fun s d _ => kConv s d) (fun _ _ => kC .bad) (fun _ _ => kC .pure) (fun _ _ _ => kC .pure) (fun _ _ => kC .alloc) (fun _ _ => kC .bad) (fun _ _ _ => kC .alloc)
    (fun _ _ _ _ _ => kC .read) (fun _ _ _ => kC .pure) (fun _ _ _ => kC .pure) (fun _ _ _ => kC .pure) (fun _ _ _ => kC .pure) (fun _ _ _ _ => kC .read) (fun _ _ _ _ => kC .write) (fun _ _ _ => kC .bad) (fun _ _ _ _ => kC .bad) (fun _ _ => kC .write) (fun _ _ => kC .write)
    (fun _ => kC .read) (fun _ _ _ _ => kC .pure) (fun _ _ => kC .pure) (fun c => kC (kCal c.callee)) (fun _ => kC .bad) (fun _ => kC .bad) (fun _ => kC .bad) (fun _ _ => kC .bad) (fun _ _ _ => kC .bad) (fun _ _ => kC .bad) o
theorem kSel_eq (X : Cx) (o : Op) : kSel o X = X.kind o := by
  cases o with
  | binOp op t x y u => cases op <;> rfl
  | call k =>
    obtain ⟨cal, args, ts⟩ := k
    cases cal with
    | value f => rfl
    | invoke r m => rfl
    | builtin b => cases b <;> rfl
  | convert s d x => rfl
  | _ => rfl

/-! ### The plan -/

/-- An operand's slot, ahead of others. -/
def slotK (x : Operand) : Nat → Nat := Operand.rec (motive := fun _ => Nat → Nat) (fun t m => Nat.lor (2 ^ t) m) (fun _ m => m) (fun _ m => m) (fun _ m => m) x
def slotsL (l : List Operand) : Nat → Nat := List.rec (motive := fun _ => Nat → Nat) (fun m => m) (fun x _ ih m => slotK x (ih m)) l
def slotsP (l : List (Nat × Operand)) : Nat → Nat := List.rec (motive := fun _ => Nat → Nat) (fun m => m) (fun x _ ih m => slotK x.2 (ih m)) l
def slotO (x : Option Operand) (m : Nat) : Nat := Option.rec (motive := fun _ => Nat) m (fun x => slotK x m) x
def slotC (c : Callee) : Nat → Nat := Callee.rec (motive := fun _ => Nat → Nat) slotK (fun r _ => slotK r) (fun _ m => m) c
def slotCall (c : Call) (m : Nat) : Nat := slotC c.callee (slotsL c.args.toList m)
def slotsS (l : List SelectCase) : Nat → Nat := List.rec (motive := fun _ => Nat → Nat) (fun m => m) (fun x _ ih m => slotK x.chan (slotO x.send (ih m))) l
/-- The slots that an operation's operands are, as bits. -/
def slotSel (o : Op) : Nat → Nat :=
  Op.rec (motive := fun _ => Nat → Nat) slotK slotK (fun a b c m => slotK a (slotK b (slotK c m))) (fun _ m => m) (fun _ x => slotK x) (fun _ ps => slotsP ps.toList) (fun _ _ ps => slotsP ps.toList) (fun _ a b c m => slotK a (slotK b (slotK c m))) (fun _ x => slotK x)
    (fun _ a b m => slotK a (slotK b m)) (fun _ m => m) (fun _ m => m) slotK (fun _ _ a b _ m => slotK a (slotK b m)) (fun _ _ x => slotK x) (fun _ _ x => slotK x) (fun _ x => slotK x) (fun _ x => slotK x) (fun _ a b m => slotsL a.toList (slotsL b.toList m)) (fun _ r m => slotO r m)
    (fun _ x => slotK x) (fun _ a b m => slotK a (slotK b m)) (fun _ x l h k m => slotK x (slotO l (slotO h (slotO k m)))) (fun _ x _ => slotK x) (fun _ x _ => slotK x) (fun _ a b m => slotK a (slotK b m)) (fun _ a b m => slotK a (slotK b m)) (fun _ a b _ m => slotK a (slotK b m))
    (fun _ a b c m => slotK a (slotK b (slotK c m))) (fun _ a b m => slotK a (slotK b m)) (fun _ a b c m => slotK a (slotK b (slotK c m))) (fun _ x => slotK x) (fun x _ => slotK x) slotK (fun x _ _ _ => slotK x) (fun x _ => slotK x) slotCall slotCall slotCall slotK (fun a b m => slotK a (slotK b m))
    (fun _ x _ => slotK x) (fun cs _ => slotsS cs.toList) o

def tmpsOf (l : List Operand) : List Nat := l.filterMap fun | .tmp t => some t | _ => none
theorem maskOf_cons (t : Nat) (l : List Nat) : maskOf (t :: l) = Nat.lor (2 ^ t) (maskOf l) := rfl
theorem slotK_eq (x : Operand) (l : List Operand) (r : List Nat) : slotK x (maskOf (tmpsOf l ++ r)) = maskOf (tmpsOf (x :: l) ++ r) := by cases x <;> rfl
theorem slotsL_eq : ∀ (l k : List Operand) (r : List Nat), slotsL l (maskOf (tmpsOf k ++ r)) = maskOf (tmpsOf (l ++ k) ++ r)
  | [], _, _ => rfl
  | x :: l, k, r => by
    show slotK x (slotsL l (maskOf (tmpsOf k ++ r))) = _
    rw [slotsL_eq l, slotK_eq]; rfl
theorem slotsP_eq : ∀ (l : List (Nat × Operand)) (k : List Operand) (r : List Nat), slotsP l (maskOf (tmpsOf k ++ r)) = maskOf (tmpsOf (l.map (·.2) ++ k) ++ r)
  | [], _, _ => rfl
  | x :: l, k, r => by
    show slotK x.2 (slotsP l (maskOf (tmpsOf k ++ r))) = _
    rw [slotsP_eq l, slotK_eq]; rfl
theorem slotO_eq (x : Option Operand) (k : List Operand) (r : List Nat) : slotO x (maskOf (tmpsOf k ++ r)) = maskOf (tmpsOf (x.toList ++ k) ++ r) := by
  cases x with
  | none => rfl
  | some x => exact slotK_eq x k r
theorem slotC_eq (c : Callee) (k : List Operand) (r : List Nat) : slotC c (maskOf (tmpsOf k ++ r)) = maskOf (tmpsOf ((match c with | .value f => [f] | .invoke r _ => [r] | .builtin _ => []) ++ k) ++ r) := by
  cases c with
  | value f => exact slotK_eq f k r
  | invoke f _ => exact slotK_eq f k r
  | builtin _ => rfl
theorem slotCall_eq (c : Call) (r : List Nat) : slotCall c (maskOf r) = maskOf (tmpsOf c.operands.toList ++ r) := by
  unfold slotCall Call.operands
  have := slotsL_eq c.args.toList [] r
  rw [show tmpsOf [] ++ r = r from rfl] at this
  rw [this, slotC_eq]
  rcases c.callee <;> simp
theorem slotsS_eq : ∀ (l : List SelectCase) (r : List Nat), slotsS l (maskOf r) = maskOf (tmpsOf (l.flatMap fun c => [c.chan] ++ c.send.toList) ++ r)
  | [], _ => rfl
  | x :: l, r => by
    show slotK x.chan (slotO x.send (slotsS l (maskOf r))) = _
    rw [slotsS_eq l, slotO_eq, slotK_eq]
    simp [List.flatMap_cons]
theorem slotSel_eq (o : Op) (r : List Nat) : slotSel o (maskOf r) = maskOf (tmpsOf o.operands.toList ++ r) := by
  have k1 : ∀ x, slotK x (maskOf r) = maskOf (tmpsOf [x] ++ r) := fun x => slotK_eq x [] r
  have k2 : ∀ x y, slotK x (slotK y (maskOf r)) = maskOf (tmpsOf [x, y] ++ r) := fun x y => by rw [k1, slotK_eq]
  have k3 : ∀ x y z, slotK x (slotK y (slotK z (maskOf r))) = maskOf (tmpsOf [x, y, z] ++ r) := fun x y z => by rw [k2, slotK_eq]
  have kl : ∀ l, slotsL l (maskOf r) = maskOf (tmpsOf l ++ r) := fun l => by
    have := slotsL_eq l [] r
    rw [show tmpsOf [] ++ r = r from rfl, List.append_nil] at this
    exact this
  have ko : ∀ x, slotO x (maskOf r) = maskOf (tmpsOf x.toList ++ r) := fun x => by
    have := slotO_eq x [] r
    rw [show tmpsOf [] ++ r = r from rfl, List.append_nil] at this
    exact this
  have kp : ∀ l, slotsP l (maskOf r) = maskOf (tmpsOf (l.map (·.2)) ++ r) := fun l => by
    have := slotsP_eq l [] r
    rw [show tmpsOf [] ++ r = r from rfl, List.append_nil] at this
    exact this
  cases o with
  | alloc _ => rfl
  | ready _ => rfl
  | waits _ => rfl
  | move x => exact k1 x
  | assign x => exact k1 x
  | box _ x => exact k1 x
  | load _ x => exact k1 x
  | nilCheck x => exact k1 x
  | unOp _ _ x => exact k1 x
  | convert _ _ x => exact k1 x
  | sliceToArrayPointer _ x => exact k1 x
  | makeInterface _ x => exact k1 x
  | makeChan _ x => exact k1 x
  | fieldAddr _ x _ => exact k1 x
  | field _ x _ => exact k1 x
  | range _ x => exact k1 x
  | next x _ => exact k1 x
  | entry x => exact k1 x
  | typeAssert x _ _ _ => exact k1 x
  | extract x _ => exact k1 x
  | panic x => exact k1 x
  | recv _ x _ => exact k1 x
  | pick a b c => exact k3 a b c
  | store _ a b => exact k2 a b
  | binOp _ _ a b _ => exact k2 a b
  | makeSlice _ a b => exact k2 a b
  | indexAddr _ a b => exact k2 a b
  | index _ a b => exact k2 a b
  | lookup _ a b _ => exact k2 a b
  | mapEntry _ a b => exact k2 a b
  | send a b => exact k2 a b
  | mapUpdate _ a b c => exact k3 a b c
  | entryStore _ a b c => exact k3 a b c
  | insert _ a b c => exact k3 a b c
  | call c => exact slotCall_eq c r
  | go c => exact slotCall_eq c r
  | defer c => exact slotCall_eq c r
  | build _ ps => exact (kp ps.toList).trans (by simp [Op.operands])
  | buildSlice _ _ ps => exact (kp ps.toList).trans (by simp [Op.operands])
  | makeFunc _ a b =>
    show slotsL a.toList (slotsL b.toList (maskOf r)) = _
    rw [kl, slotsL_eq]; simp [Op.operands]
  | makeMap _ x => exact (ko x).trans (by simp [Op.operands])
  | slice _ x l h k =>
    show slotK x (slotO l (slotO h (slotO k (maskOf r)))) = _
    rw [ko, slotO_eq, slotO_eq, slotK_eq]; simp [Op.operands]
  | select cs _ => exact (slotsS_eq cs.toList r).trans (by simp [Op.operands, Array.toList_flatMap])

def guardM (ops : Array Oper) (g : Option (Nat × Bool)) : Nat := Option.rec (motive := fun _ => Nat) 0 (fun j => Option.rec (motive := fun _ => Nat) 0 (fun o => Option.rec (motive := fun _ => Nat) 0 (fun d => 2 ^ d) o.dst) (ops.toList[j.1]?)) g
/-- The slots that an operation looks at, as bits. -/
def looksF (ops : Array Oper) (o : Oper) : Nat := slotSel o.op (guardM ops o.guard)
theorem looksF_eq (ops : Array Oper) (o : Oper) : looksF ops o = maskOf (o.looksAt ops) := by
  have hg : guardM ops o.guard = maskOf (match o.guard with | some (g, _) => ((ops[g]?).bind (·.dst)).toList | none => []) := by
    unfold guardM
    rcases o.guard with _ | ⟨g, b⟩
    · rfl
    · show Option.rec (motive := fun _ => Nat) 0 (fun o => Option.rec (motive := fun _ => Nat) 0 (fun d => 2 ^ d) o.dst) (ops.toList[g]?) = _
      rw [Array.getElem?_toList]
      show _ = maskOf ((ops[g]?).bind (·.dst)).toList
      generalize ops[g]? = y
      rcases y with _ | x
      · rfl
      · show Option.rec (motive := fun _ => Nat) 0 (fun d => 2 ^ d) x.dst = maskOf x.dst.toList
        rcases x.dst with _ | d
        · rfl
        · show 2 ^ d = Nat.lor (2 ^ d) 0
          exact (Nat.or_zero _).symm
  unfold looksF
  rw [hg, slotSel_eq]; rfl

/-- What the plan asks of an operation: its slot (plus one; none: nought), the slots that it looks at, is it one on memory, is it none that is taken. -/
structure Pl where
  d : Nat
  m : Nat
  mem : Bool
  bad : Bool
  al : Bool

def dstN (d : Option Tmp) : Nat := Option.rec (motive := fun _ => Nat) 0 (fun d => d + 1) d
def isBad (k : Kd) : Bool := Kd.rec (motive := fun _ => Bool) false false false false false true k
def isMemF (k : Kd) : Bool := Kd.rec (motive := fun _ => Bool) false true false true true false k
def isAlF (k : Kd) : Bool := Kd.rec (motive := fun _ => Bool) false true false false false false k
def plOf (X : Cx) (ops : Array Oper) (o : Oper) : Pl :=
  { d := dstN o.dst, m := looksF ops o, mem := isMemF (kSel o.op X), bad := isBad (kSel o.op X), al := isAlF (kSel o.op X) }
theorem plOf_eq (X : Cx) (ops : Array Oper) (o : Oper) : plOf X ops o = { d := match o.dst with | some d => d + 1 | none => 0, m := maskOf (o.looksAt ops), mem := memK (X.kind o.op), bad := match X.kind o.op with | .bad => true | _ => false, al := isAl (X.kind o.op) } := by
  unfold plOf
  rw [looksF_eq, kSel_eq]
  have e1 : dstN o.dst = match o.dst with | some d => d + 1 | none => 0 := by cases o.dst <;> rfl
  rw [e1]
  generalize X.kind o.op = k
  cases k <;> rfl
def plsOf (X : Cx) (ops : Array Oper) (l : List Oper) : List Pl := List.rec [] (fun o _ r => plOf X ops o :: r) l

/-- A slot, looked at in neither direction. -/
def slotIn (d m : Nat) : Bool := Nat.rec (motive := fun _ => Bool) false (fun d _ => bitN m d) d
def apP (x y : Pl) : Bool := !slotIn x.d y.m && (Nat.beq x.d 0 || !Nat.beq x.d y.d) && !slotIn y.d x.m
def apartP (x y : Pl) (fy : Bool) : Bool := apP x y && (fy || !(x.mem && y.mem))
def apartAllP (y : Pl) (p : Nat) (fy : Bool) (l : List Pl) : Nat → Bool :=
  List.rec (motive := fun _ => Nat → Bool) (fun _ => true) (fun x _ ih j => (bitN p j || apartP x y fy) && ih (j + 1)) l

theorem apP_eq (X : Cx) (ops : Array Oper) (x y : Oper) : apP (plOf X ops x) (plOf X ops y) = x.apart ops y := by
  have hm : ∀ (o : Oper) d, bitN (maskOf (o.looksAt ops)) d = (o.looksAt ops).contains d := fun o d => (bitN_eq _ _).trans (maskOf_bit _ _)
  rw [plOf_eq, plOf_eq]
  unfold apP Oper.apart slotIn
  dsimp only
  rcases hx : x.dst with _ | a <;> rcases hy : y.dst with _ | b <;> dsimp only
  · rfl
  · show (!false && (Nat.beq 0 0 || !Nat.beq 0 (b + 1)) && !bitN (maskOf (x.looksAt ops)) b) = _
    rw [hm]; rfl
  · show (!bitN (maskOf (y.looksAt ops)) a && (Nat.beq (a + 1) 0 || !Nat.beq (a + 1) 0) && !false) = _
    rw [hm]
    have e1 : Nat.beq (a + 1) 0 = false := rfl
    rw [e1]
    simp
  · show (!bitN (maskOf (y.looksAt ops)) a && (Nat.beq (a + 1) 0 || !Nat.beq (a + 1) (b + 1)) && !bitN (maskOf (x.looksAt ops)) b) = _
    rw [hm, hm]
    have e1 : Nat.beq (a + 1) 0 = false := rfl
    rw [e1, nbeq]
    by_cases h : a = b
    · subst h; simp
    · have h' : (some b != some a) = true := by simpa using fun e => h e.symm
      simp [h, h']

theorem apartP_eq (X : Cx) (ops : Array Oper) (x y : Oper) (fy : Bool) : apartP (plOf X ops x) (plOf X ops y) fy = apartA X ops x y fy := by
  unfold apartP apartA
  rw [apP_eq, plOf_eq, plOf_eq]

theorem plsOf_nil (X : Cx) (ops : Array Oper) : plsOf X ops [] = [] := rfl
theorem plsOf_cons (X : Cx) (ops : Array Oper) (o : Oper) (l : List Oper) : plsOf X ops (o :: l) = plOf X ops o :: plsOf X ops l := rfl
theorem plsOf_take (X : Cx) (ops : Array Oper) : ∀ (l : List Oper) (i : Nat), plsOf X ops (l.take i) = (plsOf X ops l).take i
  | [], i => by simp [plsOf_nil]
  | o :: l, 0 => rfl
  | o :: l, i + 1 => by rw [List.take_succ_cons, plsOf_cons, plsOf_cons, List.take_succ_cons, plsOf_take X ops l i]

theorem apartAllP_eq (X : Cx) (ops : Array Oper) (y : Oper) (p : Nat) (fy : Bool) : ∀ (l : List Oper) (j : Nat), apartAllP (plOf X ops y) p fy (plsOf X ops l) j = apartAll X ops y p fy l j
  | [], _ => rfl
  | x :: l, j => by
    rw [plsOf_cons]
    show ((bitN p j || apartP (plOf X ops x) (plOf X ops y) fy) && apartAllP (plOf X ops y) p fy (plsOf X ops l) (j + 1)) = _
    rw [apartP_eq, apartAllP_eq X ops y p fy l (j + 1), bitN_eq]; rfl

/-- Floats and the look at all pairs, over what is asked of each. -/
def floatsP (l : List Pl) : List Nat → Nat → Nat → Nat :=
  List.rec (motive := fun _ => List Nat → Nat → Nat → Nat) (fun _ _ _ => 0) (fun o _ ih ps i M => List.rec (motive := fun _ => Nat) 0 (fun p ps _ =>
    bif o.mem then (bif o.al && !Nat.beq (Nat.land M p) M then Nat.lor (2 ^ i) (ih ps (i + 1) (Nat.lor M (2 ^ i))) else ih ps (i + 1) (Nat.lor M (2 ^ i))) else ih ps (i + 1) M) ps) l
theorem floatsP_eq (X : Cx) (ops : Array Oper) : ∀ (l : List Oper) (ps : List Nat) (i M : Nat), floatsP (plsOf X ops l) ps i M = floats X l ps i M
  | [], _, _, _ => rfl
  | o :: l, [], _, _ => rfl
  | o :: l, p :: ps, i, M => by
    rw [plsOf_cons]
    show (bif (plOf X ops o).mem then (bif (plOf X ops o).al && !Nat.beq (Nat.land M p) M then Nat.lor (2 ^ i) (floatsP (plsOf X ops l) ps (i + 1) (Nat.lor M (2 ^ i))) else floatsP (plsOf X ops l) ps (i + 1) (Nat.lor M (2 ^ i))) else floatsP (plsOf X ops l) ps (i + 1) M) = _
    rw [floatsP_eq X ops l, floatsP_eq X ops l, plOf_eq]; rfl

/-- The last ones first: those ahead of an operation. 'b': those ahead, the last one first, each with its place. -/
def planOkP (F : Nat) (all : List Pl) (l : List Pl) : List Nat → Nat → Bool :=
  List.rec (motive := fun _ => List Nat → Nat → Bool) (fun ps _ => List.rec (motive := fun _ => Bool) true (fun _ _ _ => false) ps)
    (fun o _ ih ps i => List.rec (motive := fun _ => Bool) false (fun p ps _ => apartAllP o p (bitN F i) (all.take i) 0 && !o.bad && (!bitN F i || o.al) && ih ps (i + 1)) ps) l
theorem planOkP_eq (X : Cx) (ops : Array Oper) (F : Nat) : ∀ (l : List Oper) (ps : List Nat) (i : Nat), planOkP F (plsOf X ops ops.toList) (plsOf X ops l) ps i = planOk X ops F l ps i
  | [], [], _ => rfl
  | [], _ :: _, _ => rfl
  | o :: l, [], _ => rfl
  | o :: l, p :: ps, i => by
    rw [plsOf_cons]
    show (apartAllP (plOf X ops o) p (bitN F i) ((plsOf X ops ops.toList).take i) 0 && !(plOf X ops o).bad && (!bitN F i || (plOf X ops o).al) && planOkP F (plsOf X ops ops.toList) (plsOf X ops l) ps (i + 1)) = _
    rw [planOkP_eq X ops F l, ← plsOf_take, apartAllP_eq, bitN_eq]
    have hb : (!(plOf X ops o).bad) = decide (X.kind o.op ≠ .bad) := by
      rw [plOf_eq]
      dsimp only
      generalize X.kind o.op = k
      cases k <;> rfl
    rw [hb, plOf_eq]; rfl

def planAtP (pls : List Pl) (ps : List Nat) (F : Nat) : Option (List Nat × Nat) := bif planOkP F pls pls ps 0 then some (ps, F) else none
def planP2 (pls : List Pl) (ps : List Nat) (F : Nat) : Option (List Nat × Nat) := Nat.rec (motive := fun _ => Option (List Nat × Nat)) (planAtP pls ps 0) (fun F _ => planAtP pls ps (F + 1)) F

/-! ### The preds -/

def bindsB (g : Ground) : Bool := Ground.rec (motive := fun _ => Bool) true true true true (fun _ => false) (fun _ => false) g
/-- The operations ahead by one edge. -/
def predE (i : Nat) (T : Tr Nat) (e : Edge) (r : Option Nat) : Option Nat :=
  bif bindsB e.ground then (bif Nat.blt e.on i then Option.rec (motive := fun _ => Option Nat) none (fun p => Option.rec (motive := fun _ => Option Nat) none (fun q => some (Nat.lor (Nat.lor p (2 ^ e.on)) q)) r) (T.get e.on) else none) else r
def predsF (i : Nat) (T : Tr Nat) (es : List Edge) : Option Nat := List.rec (motive := fun _ => Option Nat) (some 0) (fun e _ r => predE i T e r) es
def consO (p : Nat) (r : Option (List Nat)) : Option (List Nat) := Option.rec (motive := fun _ => Option (List Nat)) none (fun l => some (p :: l)) r
def preds (l : List Oper) : Nat → Tr Nat → Option (List Nat) :=
  List.rec (motive := fun _ => Nat → Tr Nat → Option (List Nat)) (fun _ _ => some []) (fun o _ ih i T => Option.rec (motive := fun _ => Option (List Nat)) none (fun p => consO p (ih (i + 1) (T.set i p))) (predsF i T o.after.toList)) l

theorem predsF_eq (i : Nat) (T : Tr Nat) (ps : List Nat) (h : ∀ j, j < i → T.get j = ps[j]?) : ∀ es, predsF i T es = predsOf i es ps
  | [] => rfl
  | e :: es => by
    have ih := predsF_eq i T ps h es
    show predE i T e (predsF i T es) = _
    rw [ih]
    conv => rhs; unfold predsOf
    unfold predE
    rcases e with ⟨on, g⟩
    dsimp only
    have main : (bif Nat.blt on i then Option.rec (motive := fun _ => Option Nat) none (fun p => Option.rec (motive := fun _ => Option Nat) none (fun q => some (Nat.lor (Nat.lor p (2 ^ on)) q)) (predsOf i es ps)) (T.get on) else none) =
        (bif Nat.blt on i then match ps[on]?, predsOf i es ps with
          | some p, some q => some (Nat.lor (Nat.lor p (2 ^ on)) q)
          | _, _ => none
        else none) := by
      cases hb : Nat.blt on i with
      | false => rfl
      | true =>
        rw [h on (by simpa [Nat.blt_eq] using hb)]
        simp only [cond_true]
        rcases ps[on]? with _ | p
        · rfl
        · rcases predsOf i es ps with _ | q <;> rfl
    cases g <;> first | exact main | rfl

theorem preds_eq : ∀ (l : List Oper) (ps : List Nat) (T : Tr Nat), ps.length + l.length < 30000000 → (∀ j, T.get j = ps[j]?) → (preds l ps.length T).map (ps ++ ·) = planF l ps
  | [], ps, T, _, _ => by
    show some (ps ++ []) = some ps
    rw [List.append_nil]
  | o :: l, ps, T, hl, hT => by
    show (Option.rec (motive := fun _ => Option (List Nat)) none (fun p => consO p (preds l (ps.length + 1) (T.set ps.length p))) (predsF ps.length T o.after.toList)).map (ps ++ ·) = _
    rw [predsF_eq _ _ ps (fun j _ => hT j)]
    unfold planF
    rcases predsOf ps.length o.after.toList ps with _ | p
    · rfl
    · rw [List.length_cons] at hl
      have ih := preds_eq l (ps ++ [p]) (T.set ps.length p) (by rw [List.length_append, List.length_singleton]; omega) (fun j => by
        rw [Tr.set, Tr.get_put_eq _ _ _ _ (by omega), hT j]
        by_cases e : j = ps.length
        · subst e; simp
        · rw [if_neg e]
          rcases Nat.lt_or_ge j ps.length with c | c
          · rw [List.getElem?_append_left c]
          · rw [List.getElem?_eq_none c, List.getElem?_eq_none (by rw [List.length_append, List.length_singleton]; omega)])
      rw [List.length_append, List.length_singleton] at ih
      show (consO p (preds l (ps.length + 1) (T.set ps.length p))).map (ps ++ ·) = planF l (ps ++ [p])
      rw [← ih]
      rcases preds l (ps.length + 1) (T.set ps.length p) with _ | r
      · rfl
      · show some (ps ++ p :: r) = some (ps ++ [p] ++ r)
        simp

/-- The plan. -/
def planFast (X : Cx) (ops : Array Oper) : Option (List Nat × Nat) :=
  bif Nat.blt ops.size 20000000 then
    Option.rec (motive := fun _ => Option (List Nat × Nat)) none (fun ps => planP2 (plsOf X ops ops.toList) ps (floatsP (plsOf X ops ops.toList) ps 0 0)) (preds ops.toList 0 .nil)
  else plan X ops
theorem planFast_eq (X : Cx) (ops : Array Oper) : planFast X ops = plan X ops := by
  unfold planFast
  cases hs : Nat.blt ops.size 20000000 with
  | false => rfl
  | true =>
    have hs' : ops.size < 20000000 := by simpa [Nat.blt_eq] using hs
    have hpr : preds ops.toList 0 .nil = planF ops.toList [] := by
      have := preds_eq ops.toList [] .nil (by simp; omega) (fun j => by simp [Tr.get_nil])
      rw [← this]
      show preds ops.toList 0 .nil = (preds ops.toList 0 .nil).map ([] ++ ·)
      simp
    rw [cond_true, hpr]
    unfold plan
    cases h : planF ops.toList [] with
    | none => rfl
    | some ps =>
      show planP2 (plsOf X ops ops.toList) ps (floatsP (plsOf X ops ops.toList) ps 0 0) = _
      rw [floatsP_eq]
      dsimp only
      have e : ∀ F, planAtP (plsOf X ops ops.toList) ps F = planAt X ops ps F := by
        intro F
        unfold planAtP planAt
        rw [planOkP_eq]
      generalize floats X ops.toList ps 0 0 = F
      cases F with
      | zero => exact e 0
      | succ F => exact e (F + 1)

end
end Go.Ev

namespace Go.Ev
variable [Gho]

noncomputable section

/-! ### Reads -/

abbrev VF := Cx → (Operand → Option Value) → Heap → Option Value
def vAny (o : Op) : VF := fun X e H => evVal X e o H
def vLoad (t : TypeId) (x : Operand) : VF := fun X e H => orR (rLoad X e t x H) (orR (uLoad X e t x H) none)
def vSlice (t : TypeId) (x : Operand) (lo hi mx : Option Operand) : VF := fun X e H => orR (pSlice X e t x lo hi mx) (orR (rSlice X e t x lo hi mx H) (orR none none))
def vLookup (t : TypeId) (x k : Operand) (ok : Bool) : VF := fun X e H => orR none (orR (rLookup X e t x k ok H) (orR none none))
def vCmp (op : BinOp) (t : TypeId) (x y : Operand) (u : TypeId) : VF := fun X e H => orR (pBin X e op t x y) (orR (rBin X e op t x y H) (orR none (evOrc X e (.binOp op t x y u))))
def vLen (k : Call) : VF := fun X e H => orR (pLen X e k) (orR (evRead X e (.call k) H) (orR (evUns X e (.call k) H) (evOrc X e (.call k))))
def vB (b : Builtin) (k : Call) : VF :=
  Builtin.rec (motive := fun _ => Call → VF) (fun k => vAny (.call k)) (fun k => vAny (.call k)) (fun k => vAny (.call k)) (fun k => vAny (.call k)) (fun k => vAny (.call k)) (fun k => vAny (.call k)) (fun k => vAny (.call k)) (fun k => vAny (.call k)) vLen (fun k => vAny (.call k))
    (fun k => vAny (.call k)) (fun k => vAny (.call k)) (fun k => vAny (.call k)) (fun k => vAny (.call k)) (fun k => vAny (.call k)) (fun k => vAny (.call k)) (fun k => vAny (.call k)) (fun k => vAny (.call k)) (fun k => vAny (.call k)) (fun k => vAny (.call k))
    (fun k => vAny (.call k)) (fun k => vAny (.call k)) (fun k => vAny (.call k)) (fun k => vAny (.call k)) (fun k => vAny (.call k)) (fun k => vAny (.call k)) b k
def vCall (k : Call) : VF := Callee.rec (motive := fun _ => Call → VF) (fun _ k => vAny (.call k)) (fun _ _ k => vAny (.call k)) vB k.callee k
def vSel (o : Op) : VF :=
  Op.rec (motive := fun _ => VF) (fun x => vAny (.move x)) (fun x => vAny (.assign x)) (fun a b c => vAny (.pick a b c)) (fun t => vAny (.alloc t)) (fun t x => vAny (.box t x)) (fun t p => vAny (.build t p)) (fun t n p => vAny (.buildSlice t n p)) (fun t m k v => vAny (.insert t m k v))
    vLoad (fun t x y => vAny (.store t x y)) (fun g => vAny (.ready g)) (fun g => vAny (.waits g)) (fun x => vAny (.nilCheck x)) vCmp (fun o t x => vAny (.unOp o t x)) (fun s d x => vAny (.convert s d x)) (fun d x => vAny (.sliceToArrayPointer d x)) (fun t x => vAny (.makeInterface t x))
    (fun f a b => vAny (.makeFunc f a b)) (fun t r => vAny (.makeMap t r)) (fun t s => vAny (.makeChan t s)) (fun t l c => vAny (.makeSlice t l c)) vSlice (fun t x f => vAny (.fieldAddr t x f)) (fun t x f => vAny (.field t x f)) (fun t x i => vAny (.indexAddr t x i)) (fun t x i => vAny (.index t x i))
    vLookup (fun t m k v => vAny (.mapUpdate t m k v)) (fun t m k => vAny (.mapEntry t m k)) (fun t m s v => vAny (.entryStore t m s v)) (fun t x => vAny (.range t x)) (fun x s => vAny (.next x s)) (fun x => vAny (.entry x)) (fun x t u ok => vAny (.typeAssert x t u ok)) (fun x i => vAny (.extract x i))
    vCall (fun c => vAny (.go c)) (fun c => vAny (.defer c)) (fun x => vAny (.panic x)) (fun c x => vAny (.send c x)) (fun t c ok => vAny (.recv t c ok)) (fun c b => vAny (.select c b)) o
theorem vSel_eq (X : Cx) (e : Operand → Option Value) (o : Op) (H : Heap) : vSel o X e H = evVal X e o H := by
  cases o with
  | load t x => rw [evVal_or]; exact congrArg (fun r => orR r _) (rLoad_eq X e t x H)
  | lookup t x k ok => rw [evVal_or]; rfl
  | binOp op t x y u => rw [evVal_or]; rfl
  | call k =>
    obtain ⟨cal, args, ts⟩ := k
    cases cal with
    | value f => rfl
    | invoke r m => rfl
    | builtin b =>
      cases b with
      | len => rw [evVal_or]; exact congrArg (fun r => orR r _) (pLen_eq X e args ts)
      | _ => rfl
  | slice t x lo hi mx => rw [evVal_or]; cases mx <;> rfl
  | _ => rfl

/-! ### Operations one behind the other -/

def wantedG (ops : Array Oper) (env : Env) (g : Nat × Bool) : Option Bool :=
  match (ops[g.1]?).bind (·.dst) with
  | none => some false
  | some d => match env.get d with
    | some (.bool b') => some (b' == g.2)
    | some (.tuple _) => some false
    | _ => none
def wantedF (ops : Array Oper) (env : Env) (o : Oper) : Option Bool := Option.rec (motive := fun _ => Option Bool) (some true) (wantedG ops env) o.guard
theorem wantedF_eq (ops : Array Oper) (env : Env) (o : Oper) : wantedF ops env o = wantedA ops env o := by
  unfold wantedF wantedA
  rcases o.guard with _ | ⟨j, b⟩ <;> rfl
def putD (n : Nat) (env : Env) (d : Nat) (v : Value) : Option Env := Bool.rec (motive := fun _ => Option Env) none (some (env.set d v)) (Nat.ble (Nat.succ d) n)
def putF' (n : Nat) (env : Env) (dst : Option Tmp) (v : Value) : Option Env := Option.rec (motive := fun _ => Option Env) (some env) (fun d => putD n env d v) dst
theorem putD_eq (n : Nat) (env : Env) (d : Nat) (v : Value) : putD n env d v = bif Nat.blt d n then some (env.set d v) else none := by
  show Bool.rec (motive := fun _ => Option Env) none (some (env.set d v)) (Nat.blt d n) = _
  cases Nat.blt d n <;> rfl
theorem putF'_eq (n : Nat) (env : Env) (dst : Option Tmp) (v : Value) : putF' n env dst v = putE n env dst v := by
  cases dst with
  | none => rfl
  | some d => exact putD_eq n env d v

abbrev SK := Env → Heap → Nat → Option St
def opsPut (n : Nat) (dst : Option Tmp) (ih : SK) (env : Env) (r : Value × Heap × Nat) : Option St :=
  Prod.rec (motive := fun _ => Option St) (fun v r => Prod.rec (motive := fun _ => Option St) (fun H c => Option.rec (motive := fun _ => Option St) none (fun env => ih env H c) (putF' n env dst v)) r) r
def opsSkip (n : Nat) (dst : Option Tmp) (ih : SK) (env : Env) (H : Heap) (c : Nat) : Option St :=
  Option.rec (motive := fun _ => Option St) none (fun env => ih env H c) (putF' n env dst undefA)
def opsGo (X : Cx) (call : Callf) (n : Nat) (dst : Option Tmp) (op : Op) (ih : SK) (env : Env) (H : Heap) (c : Nat) : Option St :=
  Option.rec (motive := fun _ => Option St) none (opsPut n dst ih env) (opSel op X call (evOF X env) c H (Nat.succ c))
def opsG (X : Cx) (call : Callf) (n : Nat) (ops : Array Oper) (dst : Option Tmp) (op : Op) (ih : SK) (env : Env) (H : Heap) (c : Nat) (g : Nat × Bool) : Option St :=
  Option.rec (motive := fun _ => Option St) none (fun b => Bool.rec (motive := fun _ => Option St) (opsSkip n dst ih env H c) (opsGo X call n dst op ih env H c) b) (wantedG ops env g)
def opsStep (X : Cx) (call : Callf) (n : Nat) (ops : Array Oper) (o : Oper) (ih : SK) : SK :=
  Oper.rec (motive := fun _ => SK) (fun dst op _ _ _ g env H c => Option.rec (motive := fun _ => Option St) (opsGo X call n dst op ih env H c) (opsG X call n ops dst op ih env H c) g) o
def opsK (X : Cx) (call : Callf) (n : Nat) (ops : Array Oper) (ds : List DE) (l : List Oper) : SK :=
  List.rec (motive := fun _ => SK) (fun env H c => some { env := env, H := H, c := c, ds := ds }) (fun o _ ih => opsStep X call n ops o ih) l
def opsF (X : Cx) (call : Callf) (n : Nat) (ops : Array Oper) (l : List Oper) (s : St) : Option St := opsK X call n ops s.ds l s.env s.H s.c
theorem opsF_eq (X : Cx) (call : Callf) (n : Nat) (ops : Array Oper) : ∀ (l : List Oper) (s : St), opsF X call n ops l s = evOps X call n ops l s
  | [], _ => rfl
  | o :: l, s => by
    have ih : ∀ env H c, opsK X call n ops s.ds l env H c = evOps X call n ops l { env := env, H := H, c := c, ds := s.ds } := fun env H c => opsF_eq X call n ops l { env := env, H := H, c := c, ds := s.ds }
    show opsStep X call n ops o (opsK X call n ops s.ds l) s.env s.H s.c = _
    have hih : opsK X call n ops s.ds l = fun env H c => evOps X call n ops l { env := env, H := H, c := c, ds := s.ds } := by
      funext env H c
      exact ih env H c
    rw [hih]
    obtain ⟨dst, op, ty, pos, after, guard⟩ := o
    have hgo : opsGo X call n dst op (fun env H c => evOps X call n ops l { env := env, H := H, c := c, ds := s.ds }) s.env s.H s.c =
        (match evOper X call (evO X s.env) op s.c s.H (s.c + 1) with
        | some (v, H, c) => match putE n s.env dst v with
          | some env => evOps X call n ops l { s with env := env, H := H, c := c }
          | none => none
        | none => none) := by
      unfold opsGo
      rw [opSel_eq, evOF_eq]
      show Option.rec (motive := fun _ => Option St) none _ (evOper X call (evO X s.env) op s.c s.H (s.c + 1)) = _
      rcases evOper X call (evO X s.env) op s.c s.H (s.c + 1) with _ | ⟨v, H, c⟩
      · rfl
      · show Option.rec (motive := fun _ => Option St) none (fun env => evOps X call n ops l { env := env, H := H, c := c, ds := s.ds }) (putF' n s.env dst v) = _
        rw [putF'_eq]
        dsimp only
        cases putE n s.env dst v <;> rfl
    rcases guard with _ | g
    · show opsGo X call n dst op _ s.env s.H s.c = _
      rw [hgo]
      conv => rhs; unfold evOps
      rfl
    · show opsG X call n ops dst op _ s.env s.H s.c g = _
      unfold opsG
      conv => rhs; unfold evOps
      have hw : wantedA ops s.env ⟨dst, op, ty, pos, after, some g⟩ = wantedG ops s.env g := (wantedF_eq ops s.env ⟨dst, op, ty, pos, after, some g⟩).symm
      rw [hw]
      rcases wantedG ops s.env g with _ | _ | _
      · rfl
      · show opsSkip n dst _ s.env s.H s.c = _
        unfold opsSkip
        rw [putF'_eq]
        dsimp only
        cases putE n s.env dst undefA <;> rfl
      · exact hgo

/-! ### Regions that draw -/

abbrev DK := Env → Heap → Nat → List Nat → List (Nat × Heap) → List Rd → Option DSt
def isRd (k : Kd) : Bool := Kd.rec (motive := fun _ => Bool) false false true false false false k
def dSkip (n : Nat) (dst : Option Tmp) (ih : DK) (env : Env) (H : Heap) (c : Nat) (ws : List Nat) (es : List (Nat × Heap)) (rs : List Rd) : Option DSt :=
  Option.rec (motive := fun _ => Option DSt) none (fun env => ih env H c ws es rs) (putF' n env dst undefA)
def dPutR (n : Nat) (dst : Option Tmp) (i p : Nat) (rd : Heap → Option Value) (ih : DK) (env : Env) (H : Heap) (c : Nat) (ws : List Nat) (es : List (Nat × Heap)) (rs : List Rd) (v : Value) : Option DSt :=
  Option.rec (motive := fun _ => Option DSt) none (fun env => ih env H c ws es (⟨i, p, rd, v, ws.length⟩ :: rs)) (putF' n env dst v)
def rdF (X : Cx) (o : Op) (e : Operand → Option Value) (c0 p : Nat) (fs : List Nat) (H : Heap) : Option Value := vSel o X e (strip c0 p fs H)
def dRead (n : Nat) (dst : Option Tmp) (i p : Nat) (rd : Heap → Option Value) (ih : DK) (env : Env) (H : Heap) (c : Nat) (ws : List Nat) (es : List (Nat × Heap)) (rs : List Rd) : Option DSt :=
  Option.rec (motive := fun _ => Option DSt) none (dPutR n dst i p rd ih env H c ws es rs) (rd H)
def dFlt2 (n : Nat) (dst : Option Tmp) (nm : Nat) (ih : DK) (env : Env) (H : Heap) (c : Nat) (ws : List Nat) (es : List (Nat × Heap)) (rs : List Rd) (r : AObj × (Nat → Value)) : Option DSt :=
  bif Nat.blt nm 90000000000000 then Option.rec (motive := fun _ => Option DSt) none (fun env => ih env (H.set nm r.1) c ws es rs) (putF' n env dst (r.2 nm)) else none
def dPut (n : Nat) (dst : Option Tmp) (i : Nat) (mem : Bool) (ih : DK) (env : Env) (H : Heap) (c : Nat) (ws : List Nat) (es : List (Nat × Heap)) (rs : List Rd) (r : Value × Heap × Nat) : Option DSt :=
  Prod.rec (motive := fun _ => Option DSt) (fun v r => Prod.rec (motive := fun _ => Option DSt) (fun H' c' => Option.rec (motive := fun _ => Option DSt) none
    (fun env => Bool.rec (motive := fun _ => Option DSt) (ih env H c ws es rs) (ih env H' c' (i :: ws) ((ws.length, H) :: es) rs) mem) (putF' n env dst v)) r) r
def dGo (X : Cx) (call : Callf) (n : Nat) (F : Nat) (fs : List Nat) (c0 : Nat) (dst : Option Tmp) (op : Op) (e : Operand → Option Value) (k : Kd) (p i : Nat) (ih : DK) (env : Env) (H : Heap) (c : Nat) (ws : List Nat) (es : List (Nat × Heap)) (rs : List Rd) : Option DSt :=
  Bool.rec (motive := fun _ => Option DSt)
    (Bool.rec (motive := fun _ => Option DSt) (Option.rec (motive := fun _ => Option DSt) none (dPut n dst i (isMemF k) ih env H c ws es rs) (opSel op X call e (c0 + i) H c))
      (Option.rec (motive := fun _ => Option DSt) none (dFlt2 n dst (c0 + i) ih env H c ws es rs) (evAlloc X e op)) (bitN F i))
    (dRead n dst i p (rdF X op e c0 p fs) ih env H c ws es rs) (isRd k)
def dStep (X : Cx) (call : Callf) (n : Nat) (ops : Array Oper) (F : Nat) (fs : List Nat) (c0 : Nat) (o : Oper) (p i : Nat) (ih : DK) : DK := fun env H c ws es rs =>
  Option.rec (motive := fun _ => Option DSt) none (fun b => Bool.rec (motive := fun _ => Option DSt) (dSkip n o.dst ih env H c ws es rs) (dGo X call n F fs c0 o.dst o.op (evEF X (looksF ops o) env) (kSel o.op X) p i ih env H c ws es rs) b) (wantedF ops env o)
/-- What comes behind, of a state. -/
def atD (ih : DK) (s : DSt) : Option DSt := ih s.env s.H s.c s.ws s.es s.rs

theorem dStep_eq (X : Cx) (call : Callf) (n : Nat) (ops : Array Oper) (F : Nat) (fs : List Nat) (c0 : Nat) (o : Oper) (p i : Nat) (ih : DK) (s : DSt) :
    atD (dStep X call n ops F fs c0 o p i ih) s = (match stepD X call n ops F fs c0 o p i s with | some (_, s') => atD ih s' | none => none) := by
  unfold atD dStep stepD
  rw [wantedF_eq]
  rcases wantedA ops s.env o with _ | _ | _
  · rfl
  · show dSkip n o.dst ih s.env s.H s.c s.ws s.es s.rs = _
    unfold dSkip
    rw [putF'_eq]
    dsimp only
    cases putE n s.env o.dst undefA <;> rfl
  · show dGo X call n F fs c0 o.dst o.op (evEF X (looksF ops o) s.env) (kSel o.op X) p i ih s.env s.H s.c s.ws s.es s.rs = _
    unfold dGo
    rw [looksF_eq, evEF_eq, kSel_eq, bitN_eq]
    have hrd : rdF X o.op (evE X ops o s.env) c0 p fs = fun H => evVal X (evE X ops o s.env) o.op (strip c0 p fs H) := by
      funext H
      unfold rdF
      exact vSel_eq ..
    have hmem : ∀ k, isMemF k = memK k := fun k => by cases k <;> rfl
    rw [hmem]
    cases hk : isRd (X.kind o.op) with
    | true =>
      have hk' : X.kind o.op = .read := by
        revert hk
        cases X.kind o.op <;> intro hk <;> first | rfl | cases hk
      rw [hrd]
      rw [hk']
      show dRead n o.dst i p _ ih s.env s.H s.c s.ws s.es s.rs = _
      unfold dRead
      dsimp only
      cases evVal X (evE X ops o s.env) o.op (strip c0 p fs s.H) with
      | none => rfl
      | some v =>
        show dPutR n o.dst i p _ ih s.env s.H s.c s.ws s.es s.rs v = _
        unfold dPutR
        rw [putF'_eq]
        dsimp only
        cases putE n s.env o.dst v <;> rfl
    | false =>
      have hne : X.kind o.op ≠ .read := fun e => by rw [e] at hk; cases hk
      generalize X.kind o.op = kd at hne
      have main : (Bool.rec (motive := fun _ => Option DSt) (Option.rec (motive := fun _ => Option DSt) none (dPut n o.dst i (memK kd) ih s.env s.H s.c s.ws s.es s.rs) (opSel o.op X call (evE X ops o s.env) (c0 + i) s.H s.c))
          (Option.rec (motive := fun _ => Option DSt) none (dFlt2 n o.dst (c0 + i) ih s.env s.H s.c s.ws s.es s.rs) (evAlloc X (evE X ops o s.env) o.op)) (F.testBit i)) =
          (match (bif F.testBit i then
            (match evAlloc X (evE X ops o s.env) o.op with
            | some (ob, mk) => bif Nat.blt (c0 + i) 90000000000000 then
                match putE n s.env o.dst (mk (c0 + i)) with
                | some env => some (mk (c0 + i), { s with env, H := s.H.set (c0 + i) ob })
                | none => none
              else none
            | none => none)
          else match evOper X call (evE X ops o s.env) o.op (c0 + i) s.H s.c with
            | some (v, H, c) => match putE n s.env o.dst v with
              | some env => some (v, bif memK kd then { env, H, c, ws := i :: s.ws, es := (s.ws.length, s.H) :: s.es, rs := s.rs } else { s with env })
              | none => none
            | none => none : Option (Value × DSt)) with | some (_, s') => ih s'.env s'.H s'.c s'.ws s'.es s'.rs | none => none) := by
        cases F.testBit i with
        | true =>
          simp only [cond_true]
          rcases evAlloc X (evE X ops o s.env) o.op with _ | ⟨ob, mk⟩
          · rfl
          · show dFlt2 n o.dst (c0 + i) ih s.env s.H s.c s.ws s.es s.rs (ob, mk) = _
            unfold dFlt2
            dsimp only
            cases Nat.blt (c0 + i) 90000000000000 with
            | false => rfl
            | true =>
              simp only [cond_true]
              rw [putF'_eq]
              cases putE n s.env o.dst (mk (c0 + i)) <;> rfl
        | false =>
          simp only [cond_false]
          rw [opSel_eq]
          rcases evOper X call (evE X ops o s.env) o.op (c0 + i) s.H s.c with _ | ⟨v, H, c⟩
          · rfl
          · show Option.rec (motive := fun _ => Option DSt) none (fun env => Bool.rec (motive := fun _ => Option DSt) (ih env s.H s.c s.ws s.es s.rs) (ih env H c (i :: s.ws) ((s.ws.length, s.H) :: s.es) s.rs) (memK kd)) (putF' n s.env o.dst v) = _
            rw [putF'_eq]
            dsimp only
            cases putE n s.env o.dst v with
            | none => rfl
            | some env => cases memK kd <;> rfl
      refine Eq.trans main ?_
      cases kd <;> first | exact absurd rfl hne | rfl

def drawK (X : Cx) (call : Callf) (n : Nat) (ops : Array Oper) (F : Nat) (fs : List Nat) (c0 : Nat) (l : List Oper) : List Nat → Nat → DK :=
  List.rec (motive := fun _ => List Nat → Nat → DK) (fun ps _ => List.rec (motive := fun _ => DK) (fun env H c ws es rs => some ⟨env, H, c, ws, es, rs⟩) (fun _ _ _ _ _ _ _ _ _ => none) ps)
    (fun o _ ih ps i => List.rec (motive := fun _ => DK) (fun _ _ _ _ _ _ => none) (fun p ps _ => dStep X call n ops F fs c0 o p i (ih ps (Nat.succ i))) ps) l
theorem drawK_eq (X : Cx) (call : Callf) (n : Nat) (ops : Array Oper) (F : Nat) (fs : List Nat) (c0 : Nat) : ∀ (l : List Oper) (ps : List Nat) (i : Nat) (s : DSt), atD (drawK X call n ops F fs c0 l ps i) s = evDraw X call n ops F fs c0 l ps i s
  | [], [], _, _ => rfl
  | [], _ :: _, _, _ => rfl
  | o :: l, [], _, _ => rfl
  | o :: l, p :: ps, i, s => by
    show atD (dStep X call n ops F fs c0 o p i (drawK X call n ops F fs c0 l ps (i + 1))) s = _
    rw [dStep_eq]
    have ih : ∀ s, atD (drawK X call n ops F fs c0 l ps (i + 1)) s = evDraw X call n ops F fs c0 l ps (i + 1) s := drawK_eq X call n ops F fs c0 l ps (i + 1)
    conv => rhs; unfold evDraw
    rcases stepD X call n ops F fs c0 o p i s with _ | ⟨v, s'⟩
    · rfl
    · exact ih s'
def drawF (X : Cx) (call : Callf) (n : Nat) (ops : Array Oper) (F : Nat) (fs : List Nat) (c0 : Nat) (l : List Oper) (ps : List Nat) (i : Nat) (s : DSt) : Option DSt := atD (drawK X call n ops F fs c0 l ps i) s
theorem drawF_eq (X : Cx) (call : Callf) (n : Nat) (ops : Array Oper) (F : Nat) (fs : List Nat) (c0 : Nat) (l : List Oper) (ps : List Nat) (i : Nat) (s : DSt) : drawF X call n ops F fs c0 l ps i s = evDraw X call n ops F fs c0 l ps i s := drawK_eq ..

def regEnd (s : St) (ps : List Nat) (d : DSt) : Option St :=
  bif d.rs.all (fun r => ((d.ws.length, d.H) :: d.es).all (rdOk d.ws ps r)) then some { env := d.env, H := d.H, c := d.c, ds := s.ds } else none
def regGo (X : Cx) (call : Callf) (n : Nat) (ops : Array Oper) (s : St) (r : List Nat × Nat) : Option St :=
  Option.rec (motive := fun _ => Option St) none (regEnd s r.1) (drawF X call n ops r.2 (floatsOf r.2 ops.size) s.c ops.toList r.1 0 { env := s.env, H := s.H, c := s.c + ops.size, ws := [], es := [], rs := [] })
def regF (X : Cx) (call : Callf) (n : Nat) (ops : Array Oper) (s : St) : Option St := Option.rec (motive := fun _ => Option St) none (regGo X call n ops s) (planFast X ops)
theorem regF_eq (X : Cx) (call : Callf) (n : Nat) (ops : Array Oper) (s : St) : regF X call n ops s = evRegionD X call n ops s := by
  unfold regF evRegionD
  rw [planFast_eq]
  rcases plan X ops with _ | ⟨ps, F⟩
  · rfl
  · show regGo X call n ops s (ps, F) = _
    unfold regGo
    dsimp only
    rw [drawF_eq]
    cases evDraw X call n ops F (floatsOf F ops.size) s.c ops.toList ps 0 { env := s.env, H := s.H, c := s.c + ops.size, ws := [], es := [], rs := [] } <;> rfl

end
end Go.Ev

namespace Go.Ev
variable [Gho]

noncomputable section

abbrev CR := Option (AEx × St)
abbrev CF := Cx → Callf → (Code → St → CR) → Fx → St → CR
def stN : Option St → CR := Option.rec (motive := fun _ => CR) none (fun s => some (.normal, s))
def sSkip : CF := fun _ _ _ _ s => some (.normal, s)
def sNo : CF := fun _ _ _ _ _ => none
def plainRF (X : Cx) (call : Callf) (fx : Fx) (ops : Array Oper) (s : St) : Option St :=
  match deferOf ops.toList with
  | none => opsF X call fx.n ops ops.toList s
  | some (t, f, a, b) => match fx.ro with
    | none => evDefer X fx.n t f a b s
    | some _ => none
theorem plainRF_eq (X : Cx) (call : Callf) (fx : Fx) (ops : Array Oper) (s : St) : plainRF X call fx ops s = evPlainR X call fx ops s := by
  unfold plainRF evPlainR
  cases deferOf ops.toList with
  | none => exact opsF_eq ..
  | some r => rfl
def sRegion (_ : Nat) (ops : Array Oper) (draw : Bool) : CF := fun X call _ fx s =>
  Bool.rec (motive := fun _ => CR) (stN (plainRF X call fx ops s)) (stN (regF X call fx.n ops s)) draw
/-- What comes behind a statement that ends as statements do. -/
def thenK (k : St → CR) (r : AEx × St) : CR := AEx.rec (motive := fun _ => St → CR) k (fun i s => some (.exit i, s)) (fun s => some (.ret, s)) r.1 r.2
def seqR (a : CR) (k : St → CR) : CR := Option.rec (motive := fun _ => CR) none (thenK k) a
def sSeq (a b : Code) : CF := fun _ _ rec _ s => seqR (rec a s) (rec b)
def condV (v : Value) (a b : CR) : CR := match v with
  | .bool true => a
  | .bool false => b
  | _ => none
def sCond (c : Operand) (a b : Code) : CF := fun X _ rec _ s => Option.rec (motive := fun _ => CR) none (fun v => condV v (rec a s) (rec b s)) (evOF X s.env c)
def blockK (id : Nat) (r : AEx × St) : CR := AEx.rec (motive := fun _ => St → CR) (fun s => some (.normal, s)) (fun i s => bif Nat.beq i id then some (.normal, s) else some (.exit i, s)) (fun s => some (.ret, s)) r.1 r.2
def sBlock (id : Nat) (b : Code) : CF := fun _ _ rec _ s => Option.rec (motive := fun _ => CR) none (blockK id) (rec b s)
def sLoop (b : Code) : CF := fun _ _ rec _ s => seqR (rec b s) (rec (.loop b))
def sExit (i : Nat) : CF := fun _ _ _ _ s => some (.exit i, s)
def sScope (b : Code) : CF := fun _ _ rec _ s => rec b s
def sRet : CF := fun _ _ _ _ s => some (.ret, s)
def sRange (f : Operand) (params : Array Tmp) (assign body : Code) : CF := fun X call rec fx s => evCode X call rec fx (.rangeFunc f params assign body) s
def cdSel (k : Code) : CF :=
  Code.rec (motive := fun _ => CF) sSkip sRegion (fun a b _ _ => sSeq a b) (fun c a b _ _ => sCond c a b) (fun id b _ => sBlock id b) (fun b _ => sLoop b) (fun f ps a b _ _ => sRange f ps a b) sExit (fun b _ => sScope b) (fun _ => sSkip) (fun _ => sNo) sRet (fun _ => sNo) k

theorem cdSel_eq (X : Cx) (call : Callf) (rec : Code → St → CR) (fx : Fx) (k : Code) (s : St) : cdSel k X call rec fx s = evCode X call rec fx k s := by
  cases k with
  | region id ops draw =>
    cases draw with
    | false =>
      show stN (plainRF X call fx ops s) = _
      rw [plainRF_eq]
      conv => rhs; unfold evCode
      dsimp only [cond_false]
      cases evPlainR X call fx ops s <;> rfl
    | true =>
      show stN (regF X call fx.n ops s) = _
      rw [regF_eq]
      conv => rhs; unfold evCode
      dsimp only [cond_true]
      cases evRegionD X call fx.n ops s <;> rfl
  | seq a b =>
    show seqR (rec a s) (rec b) = _
    conv => rhs; unfold evCode
    dsimp only
    rcases rec a s with _ | ⟨_ | i | _, s⟩ <;> rfl
  | loop b =>
    show seqR (rec b s) (rec (.loop b)) = _
    conv => rhs; unfold evCode
    dsimp only
    rcases rec b s with _ | ⟨_ | i | _, s⟩ <;> rfl
  | block id b =>
    show Option.rec (motive := fun _ => CR) none (blockK id) (rec b s) = _
    conv => rhs; unfold evCode
    dsimp only
    rcases rec b s with _ | ⟨_ | i | _, s⟩ <;> rfl
  | cond c a b =>
    show Option.rec (motive := fun _ => CR) none (fun v => condV v (rec a s) (rec b s)) (evOF X s.env c) = _
    rw [evOF_eq]
    conv => rhs; unfold evCode
    dsimp only
    rcases evO X s.env c with _ | v
    · rfl
    · cases v with
      | bool b => cases b <;> rfl
      | _ => rfl
  | _ => rfl

/-! ### Calls -/

def fillEnv (l : List Value) : Nat → Env → Env := List.rec (motive := fun _ => Nat → Env → Env) (fun _ e => e) (fun v _ ih i e => ih (i + 1) (e.set i v)) l
theorem fillEnv_eq : ∀ (l : List Value) (i : Nat) (e : Env), fillEnv l i e = envOf l i e
  | [], _, _ => rfl
  | v :: l, i, e => fillEnv_eq l (i + 1) (e.set i v)
def retOf (X : Cx) (code : Rec) (g : Func) (s : St) : Option (Value × Heap × Nat) :=
  match runD X code s.ds s.H s.c with
  | some (H', c') => (resOf X s.env H' g.results.toList).map fun l => (oneOf l, H', c')
  | none => none
def retK (X : Cx) (code : Rec) (g : Func) (r : AEx × St) : Option (Value × Heap × Nat) := AEx.rec (motive := fun _ => St → Option (Value × Heap × Nat)) (retOf X code g) (fun _ _ => none) (retOf X code g) r.1 r.2
def callBody (X : Cx) (code : Rec) (f : FuncId) (args : List Value) (H : Heap) (c : Nat) (g : Func) (b : Code) : Option (Value × Heap × Nat) :=
  bif Nat.ble args.length g.ntmps then
    Option.rec (motive := fun _ => Option (Value × Heap × Nat)) none (retK X code g) (code ⟨g.ntmps, f, none⟩ b { env := fillEnv args 0 .nil, H := H, c := c, ds := [] })
  else none
def callNone (X : Cx) (args : List Value) (H : Heap) (c : Nat) (g : Func) : Option (Value × Heap × Nat) :=
  match Extern.findNext g, Extern.find g with
  | none, some e => bif g.name == "internal/abi.NoEscape" then (match args with | [x] => some (x, H, c) | _ => none) else
    bif g.name == "sync/atomic.StoreInt64" || g.name == "sync/atomic.StoreUint32" then (evStoreX args H).map fun r => (r.1, r.2, c) else
    bif g.name == "sync/atomic.LoadInt64" then (evLoadX .i64 args H).map fun v => (v, H, c) else
    bif g.name == "sync/atomic.LoadUint32" then (evLoadX .u32 args H).map fun v => (v, H, c) else
    match pureRun X.P (e ⟨args⟩) with
    | some v => bif clos v && args.all clos then some (v, H, c) else none
    | none => none
  | _, _ => none
def callFn (X : Cx) (code : Rec) (f : FuncId) (args : List Value) (H : Heap) (c : Nat) (g : Func) : Option (Value × Heap × Nat) :=
  bif g.name == "runtime.NumGoroutine" then none else Option.rec (motive := fun _ => Option (Value × Heap × Nat)) (callNone X args H c g) (callBody X code f args H c g) g.body
def plainSel (t : Tgt) : Cx → Rec → Heap → Nat → Option (Value × Heap × Nat) :=
  Tgt.rec (motive := fun _ => Cx → Rec → Heap → Nat → Option (Value × Heap × Nat))
    (fun f args X code H c => Option.rec (motive := fun _ => Option (Value × Heap × Nat)) none (callFn X code f args H c) (X.fn.get f)) (fun l args _ code H c => evYield code l args H c) t
theorem plainSel_eq (X : Cx) (code : Rec) (t : Tgt) (H : Heap) (c : Nat) : plainSel t X code H c = evPlain X code t H c := by
  cases t with
  | yield l args => rfl
  | fn f args =>
    show Option.rec (motive := fun _ => Option (Value × Heap × Nat)) none (callFn X code f args H c) (X.fn.get f) = _
    unfold evPlain
    dsimp only
    rcases X.fn.get f with _ | g
    · rfl
    · show callFn X code f args H c g = _
      unfold callFn
      dsimp only
      cases (g.name == "runtime.NumGoroutine") with
      | true => rfl
      | false =>
        simp only [cond_false]
        rcases g.body with _ | b
        · rfl
        · show callBody X code f args H c g b = _
          unfold callBody
          dsimp only
          rw [fillEnv_eq]
          cases Nat.ble args.length g.ntmps with
          | false => rfl
          | true =>
            simp only [cond_true]
            rcases code ⟨g.ntmps, f, none⟩ b { env := envOf args 0 .nil, H := H, c := c, ds := [] } with _ | ⟨_ | i | _, s⟩ <;> rfl

def byMeans (X : Cx) (code : Rec) (args : List Value) (H : Heap) (c : Nat) (h : OrG) : Option (Value × Heap × Nat) := h.run (fun t H c => plainSel t X code H c) args H c
def callSel (t : Tgt) : Cx → Rec → Heap → Nat → Option (Value × Heap × Nat) :=
  Tgt.rec (motive := fun _ => Cx → Rec → Heap → Nat → Option (Value × Heap × Nat))
    (fun f args X code H c => Option.rec (motive := fun _ => Option (Value × Heap × Nat)) (Option.rec (motive := fun _ => Option (Value × Heap × Nat)) (plainSel (.fn f args) X code H c) (byMeans X code args H c) (findG f X.org)) (fun v => some (v, H, c)) (findF X f args H X.orf))
    (fun l args X code H c => plainSel (.yield l args) X code H c) t
theorem callSel_eq (X : Cx) (code : Rec) (t : Tgt) (H : Heap) (c : Nat) : callSel t X code H c = evCall X code t H c := by
  have hp : (fun t H c => plainSel t X code H c) = evPlain X code := by
    funext t H c
    exact plainSel_eq X code t H c
  cases t with
  | yield l args =>
    show plainSel (.yield l args) X code H c = _
    rw [plainSel_eq]
    rfl
  | fn f args =>
    show Option.rec (motive := fun _ => Option (Value × Heap × Nat)) (Option.rec (motive := fun _ => Option (Value × Heap × Nat)) (plainSel (.fn f args) X code H c) (byMeans X code args H c) (findG f X.org)) (fun v => some (v, H, c)) (findF X f args H X.orf) = _
    unfold evCall byMeans
    rw [hp, plainSel_eq]
    dsimp only
    rcases findF X f args H X.orf with _ | u
    · rcases findG f X.org with _ | h <;> rfl
    · rfl

/-- The evaluator at a depth, laid for the kernel. -/
def runF (X : Cx) (d : Nat) : Rec :=
  Nat.rec (motive := fun _ => Rec) (fun _ _ _ => none) (fun _ rec fx k s => cdSel k X (fun t H c => callSel t X rec H c) (rec fx) fx s) d
theorem runF_eq (X : Cx) (d : Nat) : runF X d = run X d := by
  induction d with
  | zero => rfl
  | succ d ih =>
    funext fx k s
    show cdSel k X (fun t H c => callSel t X (runF X d) H c) (runF X d fx) fx s = _
    rw [run_succ, cdSel_eq, ih]
    congr 1
    funext t H c
    exact callSel_eq X (run X d) t H c
/-- A call at a depth. -/
def callF (X : Cx) (d : Nat) : Callf := fun t H c => callSel t X (runF X d) H c
theorem callF_eq (X : Cx) (d : Nat) : callF X d = callAt X d := by
  funext t H c
  unfold callF
  rw [callSel_eq, runF_eq]; rfl

end
end Go.Ev

namespace Go.Ev
variable [Gho]

noncomputable def saysF (X : Cx) (d f : Nat) (args : List Value) (c : Nat) (v : Value) : Bool :=
  clos v && (match X.fn.get f with | some g => g.body.isSome | none => false) &&
  (match callF X d (.fn f args) .nil c with
   | some (u, _) => vEq 3 u v
   | none => false)
theorem saysF_eq (X : Cx) (d f : Nat) (args : List Value) (c : Nat) (v : Value) : saysF X d f args c v = saysOrc X d f args c v := by
  unfold saysF saysOrc
  rw [callF_eq]
  rfl

theorem calls_symF {P : Program} {b : Nat} {l : List Value} {o : List Orc} (ok : (Cx.sy P b l o).Ok) {d f c : Nat} {args args' : List Value} {v : Value} (h : saysF (Cx.sy P b l o) d f args c v = true)
    (hl : LRel (globS P.globals.size b l) args args') (hn : P.globals.size ≤ b) (hc : b + l.length ≤ c) (w : World) :
    Calls P f args'.toArray w fun e w' => e = .returned v ∧ Kept w w' := calls_sym ok (saysF_eq .. ▸ h) hl hn hc w

noncomputable def endOfF (X : Cx) (d f : Nat) (args : List Value) (H : Heap) (c : Nat) (v : Value) (ns : List Nat) : Option (List (Option AObj)) :=
  match callF X d (.fn f args) H c with
  | some (u, H', _) => bif vEq 3 u v then some (ns.map H'.get) else none
  | none => none
theorem endOfF_eq (X : Cx) (d f : Nat) (args : List Value) (H : Heap) (c : Nat) (v : Value) (ns : List Nat) : endOfF X d f args H c v ns = endOf X d f args H c v ns := by
  unfold endOfF endOf
  rw [callF_eq]
  rfl

end Go.Ev

namespace Go.Ev
variable [Gho]
open Go.RowKit

theorem Goes.below {ρ ρ' : Rn} {H' : Heap} {w w' : World} (h : Goes ρ .nil w ρ' H' w') : Below w.heap.size w w' :=
  ⟨h.os, congrArg Prod.snd h.output, congrArg Prod.fst h.output, h.size, fun b hb => h.same b hb fun n o L hn => by cases hn⟩

noncomputable def valF (X : Cx) (d f : Nat) (args : List Value) (c : Nat) : Option Value := (callF X d (.fn f args) .nil c).map (·.1)

theorem calls_rel {P : Program} {b : Nat} {l : List Value} {o : List Orc} (ok : (Cx.sy P b l o).Ok) {d f c : Nat} {args args' : List Value} {v : Value} (h : valF (Cx.sy P b l o) d f args c = some v) {g : Func} (hf : P.funcs[f]? = some g) (hbd : g.body.isSome = true)
    (hl : LRel (globS P.globals.size b l) args args') (hn : P.globals.size ≤ b) (hc : b + l.length ≤ c) (w : World) :
    Calls P f args'.toArray w fun e w' => ∃ v' ρ', e = .returned v' ∧ (globS P.globals.size b l).Ext ρ' ∧ VRel ρ' v v' ∧ Below w.heap.size w w' := by
  unfold valF at h
  rw [callF_eq, Option.map_eq_some_iff] at h
  obtain ⟨⟨u, H', c'⟩, hu, rfl⟩ := h
  obtain ⟨bd, hb⟩ := Option.isSome_iff_exists.1 hbd
  exact (calls_of ok hu hf hb hl (WRel.nothing (globS_warm _ _ _) w) (globS_below (by omega) hc) (globS_rel hn)).mono fun e w' ⟨ρ', v', he, hvr, hgo⟩ => ⟨v', ρ', he, hgo.ext, hvr, hgo.below⟩

/-- It ends in a known value. -/
theorem calls_below {P : Program} {b : Nat} {l : List Value} {o : List Orc} (ok : (Cx.sy P b l o).Ok) {d f c : Nat} {args args' : List Value} {v : Value} (hv : clos v = true) (h : valF (Cx.sy P b l o) d f args c = some v) {g : Func} (hf : P.funcs[f]? = some g) (hbd : g.body.isSome = true)
    (hl : LRel (globS P.globals.size b l) args args') (hn : P.globals.size ≤ b) (hc : b + l.length ≤ c) (w : World) :
    Calls P f args'.toArray w fun e w' => e = .returned v ∧ Below w.heap.size w w' :=
  (calls_rel ok h hf hbd hl hn hc w).mono fun e w' ⟨v', ρ', he, _, hvr, hb⟩ => ⟨by rw [he, clos_eq hvr hv], hb⟩

/-- It ends in an aggregate of its own arguments' cells. -/
theorem calls_cells {P : Program} {b : Nat} {l : List Value} {o : List Orc} (ok : (Cx.sy P b l o).Ok) {d f c : Nat} {args args' : List Value} {is : List Nat} (hi : ∀ i ∈ is, i < l.length) (h : valF (Cx.sy P b l o) d f args c = some (.agg ⟨is.map fun i => .chan (some (b + i))⟩))
    {g : Func} (hf : P.funcs[f]? = some g) (hbd : g.body.isSome = true) (hl : LRel (globS P.globals.size b l) args args') (hn : P.globals.size ≤ b) (hc : b + l.length ≤ c) (w : World) :
    Calls P f args'.toArray w fun e w' => e = .returned (.agg ⟨is.map fun i => l.getD i undef⟩) ∧ Below w.heap.size w w' := by
  refine (calls_rel ok h hf hbd hl hn hc w).mono fun e w' ⟨v', ρ', he, hx, hvr, hb⟩ => ⟨?_, hb⟩
  obtain ⟨b', rfl, ha⟩ := hvr.unagg
  have key : ∀ (is : List Nat) (r : List Value), (∀ i ∈ is, i < l.length) → LRel ρ' (is.map fun i => .chan (some (b + i))) r → r = is.map fun i => l.getD i undef := by
    intro is
    induction is with
    | nil => intro r _ hr; exact hr.unnil
    | cons i is ih =>
      intro r hi hr
      obtain ⟨y, c, rfl, hy, hc⟩ := hr.uncons
      have hlt := hi i (by simp)
      have hg : globS P.globals.size b l (b + i) = some ⟨0, 0, none, some (l.getD i undef), none⟩ := by
        unfold globS
        rw [if_neg (by omega), if_pos (by omega), show b + i - b = i by omega, List.getElem?_eq_getElem hlt, List.getD_eq_getElem?_getD, List.getElem?_eq_getElem hlt]; rfl
      have hyv : y = l.getD i undef := by
        cases hy with
        | sym h' hs' _ =>
          rw [hx _ _ hg] at h'; cases h'
          cases hs'; rfl
      rw [hyv, ih c (fun j hj => hi j (by simp [hj])) hc]; rfl
  have := key is b'.toList hi ha.list
  rw [he]
  congr 2
  exact Array.ext' this

end Go.Ev

namespace Go.Ev
variable [Gho]
open Go.RowKit

/-- Package-level variables, one block, and unknown values, named. -/
def oneS (n z zb b : Nat) (l : List Value) : Rn := fun m => if m < n then some ⟨m, 0, none, none, none⟩ else if m = z then some ⟨zb, 0, none, none, none⟩ else if b ≤ m then (l[m - b]?).map fun v => ⟨0, 0, none, some v, none⟩ else none

theorem oneS_below {n z zb b c : Nat} {l : List Value} (h : n ≤ c) (hz : z < c) (hb : b + l.length ≤ c) : (oneS n z zb b l).Below c := by
  intro m hm
  unfold oneS
  rw [if_neg (by omega), if_neg (by omega)]
  by_cases h' : b ≤ m
  · rw [if_pos h', List.getElem?_eq_none (by omega)]; rfl
  · rw [if_neg h']
theorem oneS_warm (n z zb b : Nat) (l : List Value) : (oneS n z zb b l).Warm := fun m L h => by
  unfold oneS at h
  split at h
  · cases h; rfl
  · split at h
    · cases h; rfl
    · split at h
      · obtain ⟨v, _, rfl⟩ := Option.map_eq_some_iff.1 h; rfl
      · cases h
theorem oneS_rel {P : Program} {z zb b : Nat} {l : List Value} {o : List Orc} (h : P.globals.size ≤ b) (hz : z < b) : GRel (Cx.sy P b l o) (oneS P.globals.size z zb b l) := by
  refine ⟨fun g hg => if_pos hg, fun r v hr => ?_, (oneS_warm _ _ _ _ _).gh⟩
  have hr' : symsOf b l r = some v := hr
  unfold symsOf at hr'
  by_cases hb : b ≤ r
  · rw [if_pos hb] at hr'
    refine ⟨⟨0, 0, none, some v, none⟩, ?_, rfl⟩
    unfold oneS
    rw [if_neg (by omega), if_neg (by omega), if_pos hb, hr']; rfl
  · rw [if_neg hb] at hr'; cases hr'
theorem one_sym {n z zb b : Nat} {l : List Value} {i : Nat} {v : Value} (h : n ≤ b) (hz : z < b) (hi : l[i]? = some v) (ho : ∀ c, v ≠ .agg c ∧ v ≠ .tuple c) : VRel (oneS n z zb b l) (.chan (some (b + i))) v := by
  refine .sym (L := ⟨0, 0, none, some v, none⟩) ?_ rfl ho
  unfold oneS
  rw [if_neg (by omega), if_neg (by omega), if_pos (by omega), show b + i - b = i by omega, hi]; rfl
theorem oneS_z {n z zb b : Nat} {l : List Value} (hz : n ≤ z) : oneS n z zb b l z = some ⟨zb, 0, none, none, none⟩ := by
  unfold oneS
  rw [if_neg (by omega), if_pos rfl]
theorem one_ptr {n z zb b : Nat} {l : List Value} (hz : n ≤ z) : VRel (oneS n z zb b l) (.pointer (some ⟨z, 0, none⟩)) (.pointer (some ⟨zb, 0, none⟩)) :=
  .ptr (oneS_z hz) rfl (by simp) rfl

theorem one_wrel {n z zb b : Nat} {l : List Value} (hz : n ≤ z) {w : World} {cs : Array Value} {el : TypeId} {fz : Nat × Nat} (hw : w.heap[zb]? = some (.cells cs el fz)) (hc : cs.toList.all clos = true) :
    WRel (oneS n z zb b l) (Tr.nil.set z (AObj.rom (.cells cs el fz) cs.toList)) w := by
  have at' : ∀ m o, (Tr.nil.set z (AObj.rom (.cells cs el fz) cs.toList)).get m = some o → m = z ∧ o = .rom (.cells cs el fz) cs.toList := by
    intro m o hm
    rcases Tr.get_put hm with ⟨a, b⟩ | ⟨_, b⟩
    · cases b; exact ⟨a, rfl⟩
    · cases b
  refine ⟨fun m o hm => ?_, fun m o k p L K hm hk hL hK he => ?_, (oneS_warm _ _ _ _ _).iced _ _⟩
  · obtain ⟨rfl, rfl⟩ := at' m o hm
    refine ⟨_, _, oneS_z hz, hw, ?_⟩
    simp only [ORel]
    refine ⟨trivial, trivial, cs, el, fz, ⟨rfl, by simp⟩, fun i v hv => ?_⟩
    refine ⟨v, by simpa using hv, clos_rel _ ?_⟩
    exact List.all_eq_true.1 hc v (List.mem_of_getElem? hv)
  · exact (at' m o hm).1.trans (at' k p hk).1.symm

theorem calls_one {P : Program} {z zb b : Nat} {l : List Value} {o : List Orc} (ok : (Cx.sy P b l o).Ok) {d f c : Nat} {args args' : List Value} {v : Value} (hv : clos v = true) {cs : Array Value} {el : TypeId} {fz : Nat × Nat}
    (h : endOfF (Cx.sy P b l o) d f args (Tr.nil.set z (AObj.rom (.cells cs el fz) cs.toList)) c v [z] = some [some (AObj.rom (.cells cs el fz) cs.toList)])
    {g : Func} (hf : P.funcs[f]? = some g) (hbd : g.body.isSome = true)
    (hl : LRel (oneS P.globals.size z zb b l) args args') (hn : P.globals.size ≤ z) (hz : z < b) (hc : b + l.length ≤ c) (w : World) (hw : w.heap[zb]? = some (.cells cs el fz)) (hcl : cs.toList.all clos = true) :
    Calls P f args'.toArray w fun e w' => e = .returned v ∧ Below w.heap.size w w' := by
  rw [endOfF_eq] at h
  unfold endOf at h
  split at h
  · rename_i u H' c' hu
    cases hq : vEq 3 u v with
    | false => rw [hq, cond_false] at h; cases h
    | true =>
      rw [hq, cond_true] at h
      have := vEq_eq _ _ _ hq
      subst this
      obtain ⟨bd, hb⟩ := Option.isSome_iff_exists.1 hbd
      have hW := one_wrel (b := b) (l := l) hn hw hcl
      have hend : H'.get z = some (AObj.rom (.cells cs el fz) cs.toList) := by simpa using h
      refine (calls_of ok hu hf hb hl hW (oneS_below (by omega) (by omega) hc) (oneS_rel (by omega) hz)).mono fun e w' ⟨ρ', v', he, hvr, hgo⟩ => ?_
      refine ⟨by rw [he, clos_eq hvr hv], hgo.os, congrArg Prod.snd hgo.output, congrArg Prod.fst hgo.output, hgo.size, fun q hq => ?_⟩
      have hk := kept_rom hW hgo (fun n o hno => by
        rcases Tr.get_put hno with ⟨a, b⟩ | ⟨_, b⟩
        · cases b; subst a; exact ⟨⟨_, _, rfl⟩, hend⟩
        · cases b)
      exact hk.same q hq
  · cases h

end Go.Ev

namespace Go.Ev
variable [Gho]
open Go.RowKit

/-- A program's context with unknown values, and what is known of operations and calls on them. -/
noncomputable def Cx.sx (P : Program) (b : Nat) (l : List Value) (o : List Orc) (v : List OrV) (f : List OrF) (g : List OrG := []) : Cx := { Cx.of P with sym := symsOf b l, orc := o, orv := v, orf := f, org := g }

/-- What is asked of an operation's answer. -/
def OrvOk (X : Cx) (en : OrV) : Prop := ∀ ρ, GRel X ρ → ∀ as', LRel ρ en.as as' → ∀ w, ∃ v', en.k.Run X.P as' w v' ∧ VRel ρ en.r v'
/-- What is asked of a call's answer. -/
def OrfOk (X : Cx) (en : OrF) : Prop := (∃ g b, X.P.funcs[en.f]? = some g ∧ g.body = some b ∧ (g.name == "runtime.NumGoroutine") = false) ∧ ∀ ρ, GRel X ρ → ∀ w as', LRel ρ en.as as' →
    (∀ g l, en.rom = some (g, l) → ∃ (cs' : Array Value) (el : TypeId) (fz : Nat × Nat), w.heap[g]? = some (.cells cs' el fz) ∧ cs'.size = l.length ∧ ∀ (i : Nat) v, l[i]? = some v → ∃ v', cs'[i]? = some v' ∧ VRel ρ v v') →
    Calls X.P en.f as'.toArray w fun e w' => ∃ v', e = .returned v' ∧ VRel ρ en.r v' ∧ Below w.heap.size w w'

/-- What is asked of other means for a call. -/
def OrgOk (X : Cx) (en : OrG) : Prop := ∀ call, CallSound X call → ∀ args H c v H' c', en.run call args H c = some (v, H', c') → ∀ (ρ : Rn) (w : World) (args' : List Value) (cs : List Frame), LRel ρ args args' → WRel ρ H w → ρ.Below c → GRel X ρ →
    ∃ ρ' v' w', Entered X.P en.f args'.toArray cs w w' v' ∧ VRel ρ' v v' ∧ Goes ρ H w ρ' H' w' ∧ ρ'.Below c' ∧ c ≤ c' ∧ ∀ m, m < c → ρ' m = ρ m

theorem Cx.sx_okG {P : Program} (hm : P.follows .mixedOrders = true) {b : Nat} {l : List Value} {o : List Orc} {v : List OrV} {f : List OrF} {g : List OrG} (ho : ∀ en ∈ o, OrcOk (Cx.sx P b l o v f g) en) (hv : ∀ en ∈ v, OrvOk (Cx.sx P b l o v f g) en) (hf : ∀ en ∈ f, OrfOk (Cx.sx P b l o v f g) en)
    (hg : ∀ en ∈ g, OrgOk (Cx.sx P b l o v f g) en) : (Cx.sx P b l o v f g).Ok :=
  ⟨(Cx.of_ok P hm).ty, (Cx.of_ok P hm).fn, hm, hv, hf, hg, ho⟩
theorem Cx.sx_ok {P : Program} (hm : P.follows .mixedOrders = true) {b : Nat} {l : List Value} {o : List Orc} {v : List OrV} {f : List OrF} (ho : ∀ en ∈ o, OrcOk (Cx.sx P b l o v f) en) (hv : ∀ en ∈ v, OrvOk (Cx.sx P b l o v f) en) (hf : ∀ en ∈ f, OrfOk (Cx.sx P b l o v f) en) : (Cx.sx P b l o v f).Ok :=
  Cx.sx_okG hm ho hv hf (fun en he => by cases he)

theorem sx_rel {P : Program} {b : Nat} {l : List Value} {o : List Orc} {v : List OrV} {f : List OrF} {g : List OrG} (h : P.globals.size ≤ b) : GRel (Cx.sx P b l o v f g) (globS P.globals.size b l) := by
  obtain ⟨h1, h2, h3⟩ := globS_rel (P := P) (l := l) (o := o) h
  exact ⟨h1, h2, h3⟩

theorem calls_rom_sx {P : Program} {b : Nat} {l : List Value} {o : List Orc} {vv : List OrV} {ff : List OrF} {gg : List OrG} (ok : (Cx.sx P b l o vv ff gg).Ok) {d f c : Nat} {args args' : List Value} {v : Value} {roms : List (Nat × Obj × List Value)} (hv : clos v = true) {g : Func} (hf : P.funcs[f]? = some g) (hbd : g.body.isSome = true)
    (h : endOfF (Cx.sx P b l o vv ff gg) d f args (romH roms) c v (roms.map (·.1)) = some (roms.map fun x => some (.rom x.2.1 x.2.2)))
    (hl : LRel (globS P.globals.size b l) args args') (hn : P.globals.size ≤ b) (hc : b + l.length ≤ c) (w : World) (hr : ∀ x ∈ roms, RomIs (globS P.globals.size b l) P.globals.size w x) :
    Calls P f args'.toArray w fun e w' => e = .returned v ∧ Kept w w' := by
  rw [endOfF_eq] at h
  unfold endOf at h
  split at h
  · rename_i u H' c' hu
    cases hq : vEq 3 u v with
    | false => rw [hq, cond_false] at h; cases h
    | true =>
      rw [hq, cond_true] at h
      have := vEq_eq _ _ _ hq
      subst this
      obtain ⟨bd, hb⟩ := Option.isSome_iff_exists.1 hbd
      have hw := romH_rel hr
      have hend : ∀ x ∈ roms, H'.get x.1 = some (.rom x.2.1 x.2.2) := by
        have h2 := Option.some.inj h
        rw [List.map_map] at h2
        intro x hx
        exact List.map_inj_left.1 h2 x hx
      refine (calls_of ok hu hf hb hl hw (globS_below (by omega) hc) (sx_rel hn)).mono fun e w' ⟨ρ', v', he, hvr, hgo⟩ => ?_
      refine ⟨by rw [he, clos_eq hvr hv], kept_rom hw hgo fun n o hno => ?_⟩
      obtain ⟨x, hx, rfl, rfl⟩ := romH_get hno
      exact ⟨⟨_, _, rfl⟩, hend x hx⟩
  · cases h

end Go.Ev
