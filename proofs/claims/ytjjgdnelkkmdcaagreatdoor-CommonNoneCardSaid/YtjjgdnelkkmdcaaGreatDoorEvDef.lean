/-
  The evaluator: what operations, statements and calls of the model's programs come to over a heap of names. Definitions alone; that they are true of the model is proved behind.
-/
import Derived.Test.YtjjgdnelkkmdcaaGreatDoorEvInt
import GoSem.Dispatch
set_option linter.all false
namespace Go.Ev

/-- What a comparison with an unknown value comes to. -/
structure Orc where
  op : BinOp
  t : TypeId
  a : Value
  b : Value
  r : Bool

/-- A program, its types and functions as tries, how many package-level variables it has. -/
structure Cx where
  P : Program
  ty : Tr TypeInfo
  fn : Tr Func
  nG : Nat
  sym : Nat → Option Value := fun _ => none
  orc : List Orc := []

noncomputable def Cx.of (P : Program) : Cx := { P, ty := .ofList P.types.toList, fn := .ofList P.funcs.toList, nG := P.globals.size }

noncomputable section
variable (X : Cx)

def Cx.under (t : TypeId) : Option TypeDesc :=
  match X.ty.get t with
  | none => none
  | some i => match i.desc with
    | .named _ u => (X.ty.get u).map (·.desc)
    | d => some d

def Cx.size (t : TypeId) : Option Nat := (X.ty.get t).map (·.size)
def Cx.bytes (t : TypeId) : Option Nat := (X.ty.get t).map (·.bytes)

def aggD : TypeDesc → Bool
  | .struct _ | .array _ _ => true
  | _ => false
def Cx.isAgg (t : TypeId) : Option Bool := (X.under t).map aggD

def clos1 : Value → Bool
  | .bool _ | .int _ _ | .float _ _ | .string _ | .pointer none | .slice none _ _ | .map none | .nilFunc | .nilIface => true
  | _ => false
/-- A value without addresses. -/
def clos : Value → Bool
  | .agg cs => cs.toList.all clos1
  | .tuple cs => cs.toList.all clos1
  | v => clos1 v

def one : Value → Bool
  | .agg _ | .tuple _ => false
  | _ => true

/-- The cells of a type's zero value. -/
def Cx.zero (t : TypeId) : Option (List Value) :=
  match X.ty.get t with
  | some i => match i.zero with
    | some z => bif clos z then some z.cells.toList else none
    | none => none
  | none => none
def Cx.zeroV (t : TypeId) : Option Value :=
  match X.ty.get t with
  | some i => match i.zero with
    | some z => bif clos z then some z else none
    | none => none
  | none => none

/-! ### Operands -/

def evO (env : Env) : Operand → Option Value
  | .tmp t => env.get t
  | .const v => bif clos v then some v else none
  | .global g => bif Nat.blt g X.nG then some (.pointer (some ⟨g, 0, none⟩)) else none
  | .func f => some (.func (.func f) #[] #[])

def evL (e : Operand → Option Value) : List Operand → Option (List Value)
  | [] => some []
  | x :: r => match e x with
    | some v => (evL e r).map (v :: ·)
    | none => none

def addrAdd (a : Addr) (n : Nat) : Addr := bif Nat.beq n 0 then a else { block := a.block, off := a.off + n, spot := none }

/-- So many cells from a place on. -/
def cut (cs : List Value) (off n : Nat) : Option (List Value) :=
  bif Nat.ble (off + n) cs.length then some ((cs.drop off).take n) else none
/-- Cells from a place on are others. -/
def spl (cs : List Value) (off : Nat) (vs : List Value) : List Value := cs.take off ++ vs ++ cs.drop (off + vs.length)

def partA (agg : Bool) (size off : Nat) (cs : List Value) : Option Value :=
  bif agg then (cut cs off size).map (fun l => .agg ⟨l⟩) else cs[off]?

def Cx.part (t : TypeId) (off : Nat) (cs : List Value) : Option Value :=
  match X.isAgg t, X.size t with
  | some g, some n => partA g n off cs
  | _, _ => none

def intOf : Value → Option Int
  | .int _ n => some n
  | _ => none
def natOf : Value → Option Nat
  | .int _ (.ofNat n) => some n
  | _ => none

/-! ### Values made of parts -/

/-- The parts one behind the other, from cur on: their cells. -/
def fillC (place : Nat → Option (Nat × Nat)) : List (Nat × Value) → Nat → Option (List Value)
  | [], _ => some []
  | (i, v) :: r, cur => match place i with
    | some (off, size) =>
      bif Nat.beq off cur && Nat.beq v.cells.toList.length size then (fillC place r (cur + size)).map (v.cells.toList ++ ·) else none
    | none => none
/-- The parts laid over cells. -/
def fillA (place : Nat → Option (Nat × Nat)) : List (Nat × Value) → List Value → Option (List Value)
  | [], cs => some cs
  | (i, v) :: r, cs => match place i with
    | some (off, size) =>
      bif Nat.beq v.cells.toList.length size && Nat.ble (off + size) cs.length then fillA place r (spl cs off v.cells.toList) else none
    | none => none
def fillB (place : Nat → Option (Nat × Nat)) (parts : List (Nat × Value)) (cs : List Value) : Option (List Value) :=
  match fillC place parts 0 with
  | some l => bif Nat.beq l.length cs.length then some l else fillA place parts cs
  | none => fillA place parts cs

def rep (c : Nat) (z : List Value) : List Value :=
  match c with
  | 0 => []
  | c + 1 => z ++ rep c z

def Cx.places (fs : List Field) : Option (List (Nat × Nat)) :=
  match fs with
  | [] => some []
  | f :: r => match X.size f.type with
    | some n => (Cx.places r).map ((f.offset, n) :: ·)
    | none => none

def evParts (e : Operand → Option Value) : List (Nat × Operand) → Option (List (Nat × Value))
  | [] => some []
  | (i, x) :: r => match e x with
    | some v => (evParts e r).map ((i, v) :: ·)
    | none => none

/-! ### Equality -/

def Cx.eqFs (eq : TypeId → Value → Value → Option Bool) (xs ys : List Value) : List Field → Option Bool
  | [] => some true
  | f :: r =>
    if f.name = "_" then Cx.eqFs eq xs ys r
    else match X.part f.type f.offset xs, X.part f.type f.offset ys with
      | some a, some b => match eq f.type a b with
        | some true => Cx.eqFs eq xs ys r
        | o => o
      | _, _ => none
def Cx.eqEs (eq : TypeId → Value → Value → Option Bool) (el : TypeId) (s : Nat) (xs ys : List Value) : Nat → Nat → Option Bool
  | 0, _ => some true
  | n + 1, i => match X.part el (i * s) xs, X.part el (i * s) ys with
    | some a, some b => match eq el a b with
      | some true => Cx.eqEs eq el s xs ys n (i + 1)
      | o => o
    | _, _ => none

/-- Are two values the same, seen without memory? -/
def Cx.eqV : Nat → TypeId → Value → Value → Option Bool
  | 0, _, _, _ => none
  | d + 1, t, x, y =>
    match X.under t with
    | none => none
    | some u =>
      match u, x, y with
      | .bool, .bool a, .bool b => some (a == b)
      | .int _, .int k a, .int j b => bif decide (k = j) then some (intEq a b) else none
      | .float _, .float k a, .float j b => bif decide (k = j) then some (Op.floatEq k a b) else none
      | .string, .string a, .string b => some (eqB a.data.toList b.data.toList)
      | .pointer _, .pointer none, .pointer b => some b.isNone
      | .pointer _, .pointer (some _), .pointer none => some false
      | .pointer el, .pointer (some a), .pointer (some b) =>
        match X.size el with
        | some (_ + 1) => bif Nat.beq a.block b.block && decide (a.spot = none) && decide (b.spot = none) then some (Nat.beq a.off b.off) else none
        | _ => none
      | .interface _, .nilIface, .nilIface => some true
      | .interface _, .nilIface, .iface _ _ => some false
      | .interface _, .iface _ _, .nilIface => some false
      | .interface _, .iface tx vx, .iface ty vy =>
        bif Nat.beq tx ty then
          match X.ty.get tx with
          | some i => bif i.comparable then Cx.eqV d tx vx vy else none
          | none => none
        else some false
      | .struct fs, .agg xs, .agg ys =>
        bif X.P.stoodInHeld t then none else X.eqFs (Cx.eqV d) xs.toList ys.toList fs.toList
      | .array n el, .agg xs, .agg ys =>
        match X.size el with
        | some s => X.eqEs (Cx.eqV d) el s xs.toList ys.toList n 0
        | none => none
      | .slice _, .slice none _ _, .slice b _ _ => some b.isNone
      | .slice _, .slice (some _) _ _, .slice none _ _ => some false
      | .map _ _, .map none, .map b => some b.isNone
      | .map _ _, .map (some _), .map none => some false
      | .func _ _ _, .nilFunc, .nilFunc => some true
      | .func _ _ _, .nilFunc, .func _ _ _ => some false
      | .func _ _ _, .func _ _ _, .nilFunc => some false
      | _, _, _ => none

/-! ### Operations that do not look at memory -/

def boundA (i : Value) (y : Nat) : Option Nat :=
  match i with
  | .int _ (.ofNat n) => bif Nat.ble n y then some n else none
  | _ => none

/-- The bounds of a slice expression: low, high, max. -/
def boundsA (e : Operand → Option Value) (len cap : Nat) (lo hi mx : Option Operand) : Option (Nat × Nat × Nat) :=
  let m : Option Nat := match mx with
    | some x => match e x with
      | some v => boundA v cap
      | none => none
    | none => some cap
  match m with
  | none => none
  | some m =>
    let h : Option Nat := match hi, mx with
      | some x, _ => match e x with
        | some v => boundA v m
        | none => none
      | none, none => some len
      | none, some _ => none
    match h with
    | none => none
    | some h => match lo with
      | some x => match e x with
        | some v => (boundA v h).map fun l => (l, h, m)
        | none => none
      | none => some (0, h, m)

def min2A : Value → Value → Option Value
  | .int k x, .int _ y => some (.int k (bif intLt y x then y else x))
  | .string x, .string y => some (.string (bif ltB x.data.toList y.data.toList || eqB x.data.toList y.data.toList then x else y))
  | _, _ => none
def max2A : Value → Value → Option Value
  | .int k x, .int _ y => some (.int k (bif intLt x y then y else x))
  | .string x, .string y => some (.string (bif !ltB x.data.toList y.data.toList then x else y))
  | _, _ => none
def foldA (f : Value → Value → Option Value) : List Value → Value → Option Value
  | [], x => some x
  | y :: r, x => match f x y with
    | some z => foldA f r z
    | none => none

/-- A run that asks for nothing but the program. -/
def pureRun {α : Type} (P : Program) : Sem α → Option α
  | .pure a => some a
  | .program k => pureRun P (k P)
  | _ => none

def isFloat : Value → Bool
  | .float _ _ => true
  | _ => false

def eqOp : BinOp → Bool
  | .eql | .neq => true
  | _ => false

def binA (op : BinOp) (t : TypeId) (a b : Value) : Option Value :=
  match a, b with
  | .int k x, .int j y => bif isShift op || decide (k = j) then intOp op k x y else none
  | .string x, .string y => strOp op x y
  | .float _ _, .float _ _ => match pureRun X.P (Go.binOp op t a b) with
    | some v => bif clos v then some v else none
    | none => none
  | _, _ =>
    bif eqOp op then
      match X.eqV 20 t a b with
      | some r => some (.bool (match op with | .neq => !r | _ => r))
      | none => none
    else none

def isConst : Operand → Bool
  | .const _ => true
  | _ => false
/-- What the model asks ahead of == and !=. -/
def guardV (t : TypeId) (x y : Operand) (a b : Value) : Bool :=
  match a, b with
  | .nilIface, .nilIface => isConst x || isConst y
  | .agg _, .agg _ => !X.P.eqGuardType X.P.depth t
  | .chan _, _ => false
  | _, .chan _ => false
  | _, _ => true
def guardOk (op : BinOp) (t : TypeId) (x y : Operand) (a b : Value) : Bool := !eqOp op || guardV X t x y a b

def unA (op : UnOp) (x : Value) : Option Value :=
  match op, x with
  | .neg, .int k n => some (.int k (wrapF k (0 - n)))
  | .xor, .int k n => intOp .xor k (if k.signed then -1 else k.max) n
  | .neg, .float k b => some (.float k (Op.negFloat k b))
  | .not, .bool b => some (.bool !b)
  | _, _ => none

def numD : TypeDesc → Bool
  | .int _ | .float _ => true
  | _ => false
def convA (src dst : TypeId) (x : Value) : Option Value :=
  match X.under src, X.under dst, x with
  | some _, some (.int k), .int _ n => some (.int k (wrapF k n))
  | some _, some .string, .string s => some (.string s)
  | some _, some d, .float k b => match pureRun X.P (Go.convert src dst (.float k b)) with
    | some v => bif clos v && numD d then some v else none
    | none => none
  | some _, some (.float _), .int k n => match pureRun X.P (Go.convert src dst (.int k n)) with
    | some v => bif clos v then some v else none
    | none => none
  | _, _, _ => none

def fnOk : Fn → Bool
  | .yield _ => false
  | _ => true

def evPure (e : Operand → Option Value) (o : Op) : Option Value :=
  match o with
  | .move x | .assign x => e x
  | .pick c a b => match e c with
    | some (.bool true) => e a
    | some (.bool false) => e b
    | _ => none
  | .nilCheck x => match e x with
    | some (.pointer none) | some .nilIface | some .nilFunc | some (.func (.method _) _ _) | some (.chan _) => none
    | v => v
  | .build t parts => match X.zero t, X.under t, evParts e parts.toList with
    | some z, some (.struct fs), some ps => match X.places fs.toList with
      | some pl => (fillB (fun i => pl[i]?) ps z).map fun l => .agg ⟨l⟩
      | none => none
    | some z, some (.array _ el), some ps => match X.size el with
      | some n => (fillB (fun i => some (i * n, n)) ps z).map fun l => .agg ⟨l⟩
      | none => none
    | _, _, _ => none
  | .fieldAddr s x f => match X.under s, e x with
    | some (.struct fs), some (.pointer (some a)) => match fs[f]? with
      | some fd => match X.size fd.type with
        | some (_ + 1) => some (.pointer (some (addrAdd a fd.offset)))
        | _ => none
      | none => none
    | _, _ => none
  | .indexAddr t x i => match X.under t, e x, e i with
    | some (.array n el), some (.pointer (some a)), some (.int _ (.ofNat i)) =>
      bif Nat.blt i n then (X.size el).map fun s => .pointer (some (addrAdd a (i * s))) else none
    | some (.slice el), some (.slice (some a) n _), some (.int _ (.ofNat i)) =>
      bif Nat.blt i n then (X.size el).map fun s => .pointer (some (addrAdd a (i * s))) else none
    | _, _, _ => none
  | .field t x f => match X.under t, e x with
    | some (.struct fs), some (.agg cs) => match fs[f]? with
      | some fd => X.part fd.type fd.offset cs.toList
      | none => none
    | _, _ => none
  | .index t x i => match X.under t, e x, e i with
    | some (.array n el), some (.agg cs), some (.int _ (.ofNat i)) =>
      bif Nat.blt i n then match X.size el with
        | some s => X.part el (i * s) cs.toList
        | none => none
      else none
    | some .string, some (.string s), some (.int _ (.ofNat i)) => match s.data.toList[i]? with
      | some b => some (.int .u8 b.toNat)
      | none => none
    | _, _, _ => none
  | .slice t x lo hi none => match X.under t, e x with
    | some .string, some (.string s) => (boundsA e s.data.toList.length s.data.toList.length lo hi none).map fun (l, h, _) => .string (bsub s l h)
    | _, _ => none
  | .extract x i => match e x with
    | some (.tuple vs) => vs[i]?
    | _ => none
  | .makeInterface t x => match X.under t with
    | some (.interface _) | none => none
    | some _ => (e x).map fun v => .iface t v
  | .makeFunc fn first captured => bif fnOk fn then match evL e first.toList, evL e captured.toList with
      | some f, some c => some (.func fn ⟨f⟩ ⟨c⟩)
      | _, _ => none
    else none
  | .typeAssert x _ asserted ok => match X.under asserted, e x with
    | some (.interface want), some (.iface t v) => match X.ty.get t with
      | some i => match Instr.missingMethod want i.methods with
        | none => some (bif ok then .tuple #[.iface t v, .bool true] else .iface t v)
        | some _ => bif ok then (X.zeroV asserted).map fun z => .tuple #[z, .bool false] else none
      | none => none
    | some (.interface _), some .nilIface => bif ok then (X.zeroV asserted).map fun z => .tuple #[z, .bool false] else none
    | some _, some .nilIface => bif ok then (X.zeroV asserted).map fun z => .tuple #[z, .bool false] else none
    | some _, some (.iface t v) =>
      bif Nat.beq t asserted then some (bif ok then .tuple #[v, .bool true] else v)
      else bif ok then (X.zeroV asserted).map fun z => .tuple #[z, .bool false] else none
    | _, _ => none
  | .binOp op t x y _ => match e x, e y with
    | some a, some b => bif guardOk X op t x y a b then binA X op t a b else none
    | _, _ => none
  | .unOp op _ x => match e x with
    | some a => unA op a
    | none => none
  | .convert src dst x => match e x with
    | some a => convA X src dst a
    | none => none
  | .call c => match c.callee, evL e c.args.toList with
    | .builtin .len, some [x] => match (c.argTypes[0]?).bind X.under, x with
      | some .string, .string s => some (.int .i64 (.ofNat s.data.toList.length))
      | some (.slice _), .slice _ n _ => some (.int .i64 (.ofNat n))
      | some (.array n _), _ => some (.int .i64 (.ofNat n))
      | _, _ => none
    | .builtin .max, some (x :: r) => foldA max2A r x
    | .builtin .min, some (x :: r) => foldA min2A r x
    | _, _ => none
  | _ => none

/-! ### Operations that make one new block -/

def u8s (s : ByteArray) : List Value := s.data.toList.map fun b => .int .u8 b.toNat

def evAlloc (e : Operand → Option Value) (o : Op) : Option (AObj × (Nat → Value)) :=
  match o with
  | .alloc t => (X.zero t).map fun z => (.cells z t none false, fun n => .pointer (some ⟨n, 0, none⟩))
  | .box t x => (e x).map fun v => (.cells v.cells.toList t none false, fun n => .pointer (some ⟨n, 0, none⟩))
  | .buildSlice t len parts => match X.under t, evParts e parts.toList with
    | some (.slice el), some ps => match X.size el with
      | some s => bif Nat.ble (len * s) 16777216 then
          match (bif Nat.beq (len * s) 0 then some [] else X.zero el) with
          | some z => bif Nat.beq (len * s) 0 || Nat.beq z.length s then
              (fillB (fun i => some (i * s, s)) ps (bif Nat.beq (len * s) 0 then [] else rep len z)).map fun l => (.cells l el none false, fun n => .slice (some ⟨n, 0, none⟩) len len)
            else none
          | none => none
        else none
      | none => none
    | _, _ => none
  | .makeSlice t l c => match X.under t, e l, e c with
    | some (.slice el), some (.int _ (.ofNat l)), some (.int _ (.ofNat c)) => match X.size el, X.bytes el with
      | some s, some b =>
        bif Nat.ble l c && Nat.ble c 1125899906842624 && Nat.ble (b * c) 281474976710656 then
          match (bif Nat.beq (c * s) 0 then some [] else X.zero el) with
          | some z => bif Nat.beq (c * s) 0 || Nat.beq z.length s then some (.cells (bif Nat.beq (c * s) 0 then [] else rep c z) el none false, fun n => .slice (some ⟨n, 0, none⟩) l c) else none
          | none => none
        else none
      | _, _ => none
    | _, _, _ => none
  | .makeMap t r => match r with
    | none => some (.map [] 0, fun n => .map (some n))
    | some x => match X.under t, e x with
      | some (.map _ _), some (.int _ _) => some (.map [] 0, fun n => .map (some n))
      | _, _ => none
  | .convert src dst x => match X.under src, X.under dst, e x with
    | some .string, some (.slice el), some (.string s) => match X.under el with
      | some (.int .u8) => some (.cells (u8s s) el (some 1) true, fun n => .slice (some ⟨n, 0, none⟩) s.data.toList.length s.data.toList.length)
      | _ => none
    | _, _, _ => none
  | _ => none

/-! ### Operations that look at memory -/

def cellsAt (H : Heap) (a : Addr) (n : Nat) : Option (List Value) :=
  match a.spot, H.get a.block with
  | none, some (.cells cs _ _ _) => cut cs a.off n
  | _, _ => none

/-- The first n elements of what is appended or copied. -/
def firstA (H : Heap) (size n : Nat) : Value → Option (List Value)
  | .slice (some a) _ _ => cellsAt H a (n * size)
  | .slice none _ _ => some []
  | .string s => some ((s.data.toList.take n).map fun b => .int .u8 b.toNat)
  | _ => none
def lenA : Value → Option Nat
  | .slice _ n _ => some n
  | .string s => some s.data.toList.length
  | _ => none

def bytesOf : List Value → Option (List UInt8)
  | [] => some []
  | .int .u8 (.ofNat n) :: r => (bytesOf r).map (UInt8.ofNat n :: ·)
  | _ => none

def scal : Value → Bool
  | .bool _ | .int _ _ | .string _ => true
  | _ => false
/-- May it be a key: of scalars alone? -/
def keyVal : Value → Bool
  | .agg cs => cs.toList.all scal
  | v => scal v

def scalEq : Value → Value → Bool
  | .bool a, .bool b => a == b
  | .int k a, .int j b => decide (k = j) && intEq a b
  | .string a, .string b => eqB a.data.toList b.data.toList
  | _, _ => false
def scalsEq : List Value → List Value → Bool
  | [], [] => true
  | a :: x, b :: y => scalEq a b && scalsEq x y
  | _, _ => false
def keyEq : Value → Value → Bool
  | .agg a, .agg b => scalsEq a.toList b.toList
  | a, b => scalEq a b

/-- Kinds of keys that the evaluator takes: scalars, and structs of them. -/
def Cx.keyScal (t : TypeId) : Bool :=
  match X.under t with
  | some (.int _) | some .string | some .bool => true
  | _ => false
def Cx.keyTy (t : TypeId) : Bool :=
  match X.under t with
  | some (.int _) | some .string | some .bool => true
  | some (.struct fs) => !X.P.stoodInHeld t && keyFs fs.toList 0
  | _ => false
where
  keyFs : List Field → Nat → Bool
    | [], _ => true
    | f :: r, i => X.keyScal f.type && Nat.beq f.offset i && decide (f.name ≠ "_") && keyFs r (i + 1)
/-- A key of its type: as many cells as fields, each of its field's kind. -/
def Cx.keyFits (t : TypeId) (k : Value) : Bool :=
  match X.under t, k with
  | some (.int _), .int _ _ | some .string, .string _ | some .bool, .bool _ => true
  | some (.struct fs), .agg cs => fits fs.toList cs.toList
  | _, _ => false
where
  fits : List Field → List Value → Bool
    | [], [] => true
    | f :: r, v :: c => (match X.under f.type, v with | some (.int _), .int _ _ | some .string, .string _ | some .bool, .bool _ => true | _, _ => false) && fits r c
    | _, _ => false

/-- The place of a key. -/
def Cx.findA (kt : TypeId) (k : Value) : List MapEntry → Nat → Option (Option (Nat × Value))
  | [], _ => some none
  | e :: r, i => match X.eqV 3 kt k e.key with
    | some true => some (some (i, e.val))
    | some false => Cx.findA kt k r (i + 1)
    | none => none

def Cx.look (kt : TypeId) (k : Value) (es : List MapEntry) : Option (Option (Nat × Value)) :=
  bif X.keyTy kt && X.keyFits kt k then X.findA kt k es 0 else none

/-- May a slice of such a block be sliced so? -/
def opnOk (opn : Option Nat) (s : Nat) (mx : Option Operand) : Bool :=
  match opn with
  | none => true
  | some z => Nat.beq z s && mx.isNone

def evRead (e : Operand → Option Value) (o : Op) (H : Heap) : Option Value :=
  match o with
  | .load t x => match e x, X.isAgg t, X.size t with
    | some (.pointer (some a)), some true, some n => (cellsAt H a n).map fun l => .agg ⟨l⟩
    | some (.pointer (some a)), some false, some _ => match a.spot, H.get a.block with
      | none, some (.cells cs _ _ _) => cs[a.off]?
      | _, _ => none
    | _, _, _ => none
  | .slice t x lo hi mx => match X.under t, e x with
    | some (.slice el), some (.slice none len cap) => match X.size el, boundsA e len cap lo hi mx with
      | some _, some (l, h, m) => some (.slice none (h - l) (m - l))
      | _, _ => none
    | some (.slice el), some (.slice (some a) len cap) => match X.size el, H.get a.block, boundsA e len cap lo hi mx with
      | some s, some (.cells _ _ opn _), some (l, h, m) =>
        bif opnOk opn s mx && Nat.ble h m then some (.slice (some (bif Nat.beq m l then a else addrAdd a (l * s))) (h - l) (m - l)) else none
      | _, _, _ => none
    | some (.array n el), some (.pointer (some a)) => match a.spot, X.size el, H.get a.block, boundsA e n n lo hi mx with
      | none, some s, some (.cells _ _ none _), some (l, h, m) => some (.slice (some (bif Nat.beq m l then a else addrAdd a (l * s))) (h - l) (m - l))
      | _, _, _, _ => none
    | _, _ => none
  | .lookup t x k ok => match X.under t, e x, e k with
    | some (.map kt el), some (.map none), some k => bif X.keyTy kt && X.keyFits kt k then
        (X.zeroV el).map fun z => bif ok then .tuple #[z, .bool false] else z
      else none
    | some (.map kt el), some (.map (some r)), some k => match H.get r with
      | some (.map es _) => match X.look kt k es with
        | some (some (_, v)) => some (bif ok then .tuple #[v, .bool true] else v)
        | some none => (X.zeroV el).map fun z => bif ok then .tuple #[z, .bool false] else z
        | none => none
      | _ => none
    | _, _, _ => none
  | .convert src dst x => match X.under src, X.under dst, e x with
    | some (.slice el), some .string, some (.slice b n _) => match X.under el with
      | some (.int .u8) => match b with
        | none => some (.string .empty)
        | some a => match cellsAt H a n with
          | some l => (bytesOf l).map fun s => .string ⟨⟨s⟩⟩
          | none => none
      | _ => none
    | _, _, _ => none
  | .call c => match c.callee, c.argTypes[0]?, evL e c.args.toList with
    | .builtin .len, some t, some [.map none] => match X.under t with
      | some (.map _ _) => some (.int .i64 0)
      | _ => none
    | .builtin .len, some t, some [.map (some r)] => match X.under t, H.get r with
      | some (.map _ _), some (.map es _) => some (.int .i64 (.ofNat es.length))
      | _, _ => none
    | .builtin .cap, some t, some [.slice (some a) _ n] => match X.under t, H.get a.block with
      | some (.slice _), some (.cells _ _ none _) => some (.int .i64 (.ofNat n))
      | _, _ => none
    | _, _, _ => none
  | .binOp op t x y _ => match e x, e y, X.under t with
    | some (.pointer (some a)), some (.pointer (some b)), some (.pointer el) => match X.size el, a.spot, b.spot, H.get a.block, H.get b.block with
      | some (_ + 1), none, none, some (.cells _ _ _ false), some (.cells _ _ _ false) =>
        bif eqOp op then
          let r := Nat.beq a.block b.block && Nat.beq a.off b.off
          some (.bool (match op with | .neq => !r | _ => r))
        else none
      | _, _, _, _, _ => none
    | _, _, _ => none
  | .entry x => match e x with
    | some (.pointer (some ⟨r, 0, _⟩)) => match H.get r with
      | some (.miter (some m) _ seen stepped) => match H.get m, seen.getLast? with
        | some (.map es clock), some stamp => bif Nat.beq clock stepped then
            match es.find? (fun x => Nat.beq x.born stamp) with
            | some x => some (.tuple #[x.key, x.val])
            | none => none
          else none
        | _, _ => none
      | _ => none
    | _ => none
  | _ => none

/-! ### Operations that write -/

def setKV (k v : Value) : List MapEntry → Nat → List MapEntry
  | [], _ => []
  | e :: r, 0 => { key := k, val := v, born := e.born } :: r
  | e :: r, i + 1 => e :: setKV k v r i
def dropAt : List MapEntry → Nat → List MapEntry
  | [], _ => []
  | _ :: r, 0 => r
  | e :: r, i + 1 => e :: dropAt r i

/-- Cells of a name from a place on are others. -/
def storeA (H : Heap) (a : Addr) (vs : List Value) : Option Heap :=
  match a.spot, H.get a.block with
  | none, some (.cells cs el opn str) =>
    bif Nat.ble (a.off + vs.length) cs.length && vs.all one then some (H.set a.block (.cells (spl cs a.off vs) el opn str)) else none
  | _, _ => none

def appendA (el size bytes : Nat) (z : List Value) (s x : Value) (n : Nat) (H : Heap) : Option (Value × Heap) :=
  match s, lenA x with
  | .slice base len cap, some k => match firstA H size k x with
    | none => none
    | some new =>
      bif Nat.ble (len + k) cap then
        match base with
        | none => some (.slice none (len + k) cap, H)
        | some a => (storeA H (addrAdd a (len * size)) new).map fun H' => (.slice base (len + k) cap, H')
      else bif Nat.ble ((len + k) * 2 + 192) 1048576 && Nat.ble bytes 1048576 && Nat.beq z.length size && Nat.beq new.length (k * size) then
        match base with
        | none => bif Nat.beq len 0 then some (.slice (some ⟨n, 0, none⟩) (len + k) (len + k), H.set n (.cells new el (some size) false)) else none
        | some a => match H.get a.block, cellsAt H a (len * size) with
          | some (.cells _ _ none _), some old => some (.slice (some ⟨n, 0, none⟩) (len + k) (len + k), H.set n (.cells (old ++ new) el (some size) false))
          | some (.cells _ el2 (some z) str), some old => bif Nat.beq z size && new.all one && Nat.beq el2 el then
              some (.slice (some ⟨n, 0, none⟩) (len + k) (len + k), (H.put a.block none).set n (.cells (old ++ new) el (some size) str)) else none
          | _, _ => none
      else none
  | _, _ => none

def isIntD : TypeDesc → Bool
  | .int _ => true
  | _ => false

def evWrite (e : Operand → Option Value) (o : Op) (n : Nat) (H : Heap) : Option (Value × Heap) :=
  match o with
  | .store t x y => match e x, e y, X.size t with
    | some (.pointer (some a)), some v, some s => bif Nat.beq v.cells.toList.length s then (storeA H a v.cells.toList).map fun H' => (.tuple #[], H') else none
    | _, _, _ => none
  | .mapUpdate t m k v | .insert t m k v => match X.under t, e m, e k, e v with
    | some (.map kt _), some (.map (some r)), some k, some v => match H.get r with
      | some (.map es clock) => match X.look kt k es with
        | some (some (i, _)) => match es[i]? with
          | some x => bif keyEq x.key k then some (.tuple #[], H.set r (.map (setKV k v es i) clock)) else none
          | none => none
        | some none => some (.tuple #[], H.set r (.map (es ++ [{ key := k, val := v, born := clock }]) (clock + 1)))
        | none => none
      | _ => none
    | _, _, _, _ => none
  | .range t x => match X.under t, e x with
    | some .string, some (.string s) => some (.pointer (some ⟨n, 0, none⟩), H.set n (.siter s 0))
    | some (.map _ _), some (.map none) => some (.pointer (some ⟨n, 0, none⟩), H.set n (.miter none 0 [] 0))
    | some (.map _ _), some (.map (some m)) => match H.get m with
      | some (.map _ clock) => some (.pointer (some ⟨n, 0, none⟩), H.set n (.miter (some m) clock [] clock))
      | _ => none
    | _, _ => none
  | .next x isS => match e x with
    | some (.pointer (some ⟨r, 0, _⟩)) => match H.get r, isS with
      | some (.siter s pos), true => bif Nat.blt pos s.data.toList.length then
          let cw := Utf8.decode s pos
          some (.tuple #[.bool true, .int .i64 (.ofNat pos), .int .i32 cw.1], H.set r (.siter s (pos + cw.2)))
        else some (.tuple #[.bool false], H)
      | some (.miter none _ _ _), false => some (.tuple #[.bool false], H)
      | some (.miter (some m) since seen stepped), false => match H.get m with
        | some (.map es clock) =>
          match es with
          | [] => some (.tuple #[.bool false], H)
          | [x] =>
            bif Nat.blt x.born since then
              (bif seen.contains x.born then (bif Nat.blt x.born stepped then some (.tuple #[.bool false], H) else none)
               else bif seen.isEmpty then some (.tuple #[.bool true, x.key, x.val], H.set r (.miter (some m) since (seen ++ [x.born]) clock)) else none)
            else none
          | _ => none
        | _ => none
      | _, _ => none
    | _ => none
  | .call c => match c.callee, c.argTypes.toList, evL e c.args.toList with
    | .builtin .append, [t, u], some [s, x] => match X.under t, X.under u with
      | some (.slice el), some du => match X.size el, X.bytes el, X.zero el with
        | some size, some bytes, some z => bif isIntD du then none else appendA el size bytes z s x n H
        | _, _, _ => none
      | _, _ => none
    | .builtin .copy, t :: _, some [.slice base dl _, src] => match X.under t, lenA src with
      | some (.slice el), some k => match X.size el with
        | some size => match firstA H size (Nat.min k dl) src with
          | some cells => match base with
            | none => some (.int .i64 (.ofNat (Nat.min k dl)), H)
            | some a => (storeA H a cells).map fun H' => (.int .i64 (.ofNat (Nat.min k dl)), H')
          | none => none
        | none => none
      | _, _ => none
    | .builtin .delete, t :: _, some [.map (some r), k] => match X.under t, H.get r with
      | some (.map kt _), some (.map es clock) => match X.look kt k es with
        | some (some (i, _)) => some (.tuple #[], H.set r (.map (dropAt es i) clock))
        | some none => some (.tuple #[], H)
        | none => none
      | _, _ => none
    | .builtin .clear, t :: _, some [.map (some r)] => match X.under t, H.get r with
      | some (.map _ _), some (.map _ clock) => some (.tuple #[], H.set r (.map [] clock))
      | _, _ => none
    | _, _, _ => none
  | _ => none

/-- Reads that strings.Builder asks, and reads of package variables. -/
def evUns (e : Operand → Option Value) (o : Op) (H : Heap) : Option Value :=
  match o with
  | .load t x => match e x, X.isAgg t, X.size t with
    | some (.pointer (some a)), some false, some _ => match a.spot, H.get a.block with
      | none, some (.rom _ cs) => cs[a.off]?
      | _, _ => none
    | _, _, _ => none
  | .convert s d x => match X.under s, X.under d, e x with
    | some (.pointer t), some .unsafePointer, some (.pointer (some a)) => match X.size t, H.get a.block with
      | some (_ + 1), some (.cells cs _ _ _) => bif Nat.blt a.off cs.length then some (.pointer (some a)) else none
      | _, _ => none
    | some .unsafePointer, some (.pointer u), some (.pointer (some a)) => match X.size u, H.get a.block with
      | some (k + 1), some (.cells cs el none _) => bif Nat.beq el u && Nat.beq (a.off % (k + 1)) 0 && Nat.ble (a.off + (k + 1)) cs.length then some (.pointer (some a)) else none
      | _, _ => none
    | _, _, _ => none
  | .call c => match c.callee, evL e c.args.toList with
    | .builtin .unsafeSliceData, some [.slice none _ _] => some (.pointer none)
    | .builtin .unsafeSliceData, some [.slice (some a) _ (_ + 1)] => some (.pointer (some a))
    | _, _ => none
  | _ => none

/-- unsafe.String: the block goes, for its bytes are frozen. -/
def evStr (e : Operand → Option Value) (o : Op) (H : Heap) : Option (Value × Heap) :=
  match o with
  | .call c => match c.callee, c.argTypes.toList, evL e c.args.toList with
    | .builtin .unsafeString, [pt, _], some [.pointer (some a), .int .i64 (.ofNat (n + 1))] => match X.under pt, H.get a.block, cellsAt H a (n + 1) with
      | some (.pointer el), some (.cells _ el' _ _), some l => match X.size el, bytesOf l with
        | some 1, some s => bif Nat.beq el' el && Nat.ble n 4611686018427387904 then some (.string ⟨⟨s⟩⟩, H.put a.block none) else none
        | _, _ => none
      | _, _, _ => none
    | .builtin .unsafeString, [_, _], some [.pointer _, .int .i64 (.ofNat 0)] => some (.string .empty, H)
    | _, _, _ => none
  | _ => none

end
end Go.Ev
