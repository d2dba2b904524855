/-
  The evaluator's statements and calls.
-/
import Derived.Test.YtjjgdnelkkmdcaaGreatDoorEvDef
import Derived.Orders
set_option linter.all false
namespace Go.Ev

inductive Kd where
  | pure | alloc | read | write | call | bad
  deriving DecidableEq

noncomputable section
variable (X : Cx)

/-- Is it a comparison? -/
def cmpOp : BinOp → Bool
  | .eql | .neq | .lss | .leq | .gtr | .geq => true
  | _ => false

def Cx.kind (o : Op) : Kd :=
  match o with
  | .alloc _ | .box _ _ | .buildSlice _ _ _ | .makeSlice _ _ _ | .makeMap _ _ => .alloc
  | .convert s d _ => match X.under s, X.under d with
    | some .string, some (.slice _) => .alloc
    | some (.slice _), _ => .read
    | some (.pointer _), some .unsafePointer | some .unsafePointer, some (.pointer _) => .read
    | _, _ => .pure
  | .store _ _ _ | .mapUpdate _ _ _ _ | .insert _ _ _ _ | .range _ _ | .next _ _ => .write
  | .call c => match c.callee with
    | .builtin .append | .builtin .copy | .builtin .delete | .builtin .clear => .write
    | .builtin .len | .builtin .cap | .builtin .unsafeSliceData => .read
    | .builtin .unsafeString => .write
    | .builtin .max | .builtin .min => .pure
    | .builtin _ => .bad
    | _ => .call
  | .load _ _ | .lookup _ _ _ _ | .entry _ | .slice _ _ _ _ _ => .read
  | .binOp op _ _ _ _ => bif cmpOp op then .read else .pure
  | .move _ | .assign _ | .pick _ _ _ | .nilCheck _ | .build _ _ | .fieldAddr _ _ _ | .indexAddr _ _ _ | .field _ _ _ | .index _ _ _ | .extract _ _
  | .makeInterface _ _ | .makeFunc _ _ _ | .typeAssert _ _ _ _ | .unOp _ _ _ => .pure
  | _ => .bad

def vEqs (eq : Value → Value → Bool) : List Value → List Value → Bool
  | [], [] => true
  | a :: x, b :: y => eq a b && vEqs eq x y
  | _, _ => false
def vEq : Nat → Value → Value → Bool
  | 0, _, _ => false
  | _, .bool a, .bool b => a == b
  | _, .int k a, .int j b => decide (k = j) && intEq a b
  | _, .float k a, .float j b => decide (k = j) && Nat.beq a b
  | _, .string a, .string b => eqB a.data.toList b.data.toList
  | _, .pointer none, .pointer none => true
  | _, .pointer (some a), .pointer (some b) => Nat.beq a.block b.block && Nat.beq a.off b.off && decide (a.spot = b.spot)
  | _, .slice none l c, .slice none m d => Nat.beq l m && Nat.beq c d
  | _, .slice (some a) l c, .slice (some b) m d => Nat.beq a.block b.block && Nat.beq a.off b.off && decide (a.spot = b.spot) && Nat.beq l m && Nat.beq c d
  | _, .map none, .map none => true
  | _, .map (some a), .map (some b) => Nat.beq a b
  | _, .nilFunc, .nilFunc => true
  | _, .nilIface, .nilIface => true
  | _, .chan (some a), .chan (some b) => Nat.beq a b
  | d + 1, .iface t v, .iface u w => Nat.beq t u && vEq d v w
  | d + 1, .func f ⟨a⟩ ⟨b⟩, .func g ⟨x⟩ ⟨y⟩ => decide (f = g) && vEqs (vEq d) a x && vEqs (vEq d) b y
  | d + 1, .agg ⟨a⟩, .agg ⟨b⟩ => vEqs (vEq d) a b
  | d + 1, .tuple ⟨a⟩, .tuple ⟨b⟩ => vEqs (vEq d) a b
  | _, _, _ => false

/-- A comparison with an unknown value. -/
def findO (op : BinOp) (t : TypeId) (a b : Value) : List Orc → Option Bool
  | [] => none
  | x :: r => bif decide (x.op = op) && Nat.beq x.t t && vEq 2 x.a a && vEq 2 x.b b then some x.r else findO op t a b r
def evOrc (e : Operand → Option Value) (o : Op) : Option Value :=
  match o with
  | .binOp op t x y _ => match X.orc, e x, e y with
    | [], _, _ => none
    | l, some a, some b => (findO op t a b l).map .bool
    | _, _, _ => none
  | _ => none

def evVal (e : Operand → Option Value) (o : Op) (H : Heap) : Option Value :=
  match evPure X e o with
  | some v => some v
  | none => match evRead X e o H with
    | some v => some v
    | none => match evUns X e o H with
      | some v => some v
      | none => evOrc X e o

/-- Operations that write. -/
def evWr (e : Operand → Option Value) (o : Op) (n : Nat) (H : Heap) : Option (Value × Heap) :=
  match evWrite X e o n H with
  | some r => some r
  | none => evStr X e o H

/-- A receiver within a value: embedded fields, none of them behind a pointer. -/
def Cx.followA : List FieldStep → TypeId → Value → Option (TypeId × Value)
  | [], t, v => some (t, v)
  | s :: r, _, .agg cs =>
    bif s.deref then none else
    match X.under s.struct with
    | some (.struct fs) => match fs[s.index]? with
      | some fd => match X.part fd.type fd.offset cs.toList with
        | some v => Cx.followA r fd.type v
        | none => none
      | none => none
    | _ => none
  | _, _, _ => none

/-- Which function a call enters, with which arguments. -/
inductive Tgt where
  | fn (f : FuncId) (args : List Value)
  | yield (l : Nat) (args : List Value)

def tgtOf : Value → List Value → Option Tgt
  | .func (.func f) first cap, args => some (.fn f (first.toList ++ args ++ cap.toList))
  | .func (.yield l) ⟨[]⟩ ⟨[]⟩, args => some (.yield l args)
  | _, _ => none

def evTgt (e : Operand → Option Value) (c : Call) : Option Tgt :=
  match c.callee with
  | .value f => match e f, evL e c.args.toList with
    | some v, some args => tgtOf v args
    | _, _ => none
  | .invoke r name => match e r, evL e c.args.toList with
    | some (.iface t v), some args => match X.ty.get t with
      | some i => match i.methods.toList.find? (fun m => m.name == name) with
        | some m => match X.followA m.path.toList t v with
          | some (xt, u) => match m.func, X.under xt with
            | some (f, true), some (.pointer _) => some (.fn f (u :: args))
            | some (_, false), some (.pointer _) => none
            | some (f, false), some _ => some (.fn f (u :: args))
            | _, _ => none
          | none => none
        | none => none
      | none => none
    | _, _ => none
  | .builtin _ => none

/-- A run's state: the slots, the heap, the first name that is free, the names of blocks of deferred calls (all without one). -/
structure St where
  env : Env
  H : Heap
  c : Nat
  ds : List Nat

inductive AEx where
  | normal
  | exit (id : Nat)
  | ret

abbrev Callf := Tgt → Heap → Nat → Option (Value × Heap × Nat)

/-- An operation: its value, the heap, the first free name. 'n': the name of a block that it makes. -/
def evOper (call : Callf) (e : Operand → Option Value) (o : Op) (n : Nat) (H : Heap) (c : Nat) : Option (Value × Heap × Nat) :=
  match X.kind o with
  | .pure => (evPure X e o).map fun v => (v, H, c)
  | .read => (evVal X e o H).map fun v => (v, H, c)
  | .alloc => (evAlloc X e o).map fun (ob, mk) => (mk n, H.set n ob, c)
  | .write => (evWr X e o n H).map fun (v, H') => (v, H', c)
  | .call => match o with
    | .call k => match evTgt X e k with
      | some t => call t H c
      | none => none
    | _ => none
  | .bad => none

def undefA : Value := .tuple #[]

/-- Is an operation wanted? -/
def wantedA (ops : Array Oper) (env : Env) (o : Oper) : Option Bool :=
  match o.guard with
  | none => some true
  | some (j, b) => match (ops[j]?).bind (·.dst) with
    | none => some false
    | some d => match env.get d with
      | some (.bool b') => some (b' == b)
      | some (.tuple _) => some false
      | _ => none

def putE (n : Nat) (env : Env) (dst : Option Tmp) (v : Value) : Option Env :=
  match dst with
  | none => some env
  | some d => bif Nat.blt d n then some (env.set d v) else none

/-- Operations in the order of the text. -/
def evOps (call : Callf) (n : Nat) (ops : Array Oper) : List Oper → St → Option St
  | [], s => some s
  | o :: r, s => match wantedA ops s.env o with
    | none => none
    | some false => match putE n s.env o.dst undefA with
      | some env => evOps call n ops r { s with env }
      | none => none
    | some true => match evOper X call (evO X s.env) o.op s.c s.H (s.c + 1) with
      | some (v, H, c) => match putE n s.env o.dst v with
        | some env => evOps call n ops r { s with env, H, c }
        | none => none
      | none => none

/-! ### A region that draws its order -/

/-- Which operations stand ahead of one: a bit each. -/
def predsOf (i : Nat) : List Edge → List Nat → Option Nat
  | [], _ => some 0
  | e :: r, ps =>
    match e.ground with
    | .textOnly _ | .gcOnly _ => predsOf i r ps
    | _ => bif Nat.blt e.on i then match ps[e.on]?, predsOf i r ps with
        | some p, some q => some (Nat.lor (Nat.lor p (2 ^ e.on)) q)
        | _, _ => none
      else none
def planF : List Oper → List Nat → Option (List Nat)
  | [], ps => some ps
  | o :: r, ps => match predsOf ps.length o.after.toList ps with
    | some p => planF r (ps ++ [p])
    | none => none

/-- Does it make, or write, memory? -/
def memK : Kd → Bool
  | .alloc | .write | .call => true
  | _ => false

def isAl : Kd → Bool
  | .alloc => true
  | _ => false
/-- Two operations, the first one ahead in the text, of which none must stand ahead of the other: do they let one another be? 'fy': the second one is a float (it makes memory, and may come earlier than the text has it). -/
def apartA (ops : Array Oper) (x y : Oper) (fy : Bool) : Bool :=
  x.apart ops y && (fy || !(memK (X.kind x.op) && memK (X.kind y.op)))
def apartAll (ops : Array Oper) (y : Oper) (p : Nat) (fy : Bool) : List Oper → Nat → Bool
  | [], _ => true
  | x :: r, j => (p.testBit j || apartA X ops x y fy) && apartAll ops y p fy r (j + 1)
/-- The floats, a bit each. 'M': the operations on memory ahead. -/
def floats : List Oper → List Nat → Nat → Nat → Nat
  | o :: r, p :: ps, i, M =>
    bif memK (X.kind o.op) then
      (bif isAl (X.kind o.op) && !Nat.beq (Nat.land M p) M then Nat.lor (2 ^ i) (floats r ps (i + 1) (Nat.lor M (2 ^ i))) else floats r ps (i + 1) (Nat.lor M (2 ^ i)))
    else floats r ps (i + 1) M
  | _, _, _, _ => 0
def planOk (ops : Array Oper) (F : Nat) : List Oper → List Nat → Nat → Bool
  | o :: r, p :: ps, i => apartAll X ops o p (F.testBit i) (ops.toList.take i) 0 && decide (X.kind o.op ≠ .bad) && (!F.testBit i || isAl (X.kind o.op)) && planOk ops F r ps (i + 1)
  | [], [], _ => true
  | _, _, _ => false
def planAt (ops : Array Oper) (ps : List Nat) (F : Nat) : Option (List Nat × Nat) := bif planOk X ops F ops.toList ps 0 then some (ps, F) else none
def plan (ops : Array Oper) : Option (List Nat × Nat) :=
  match planF ops.toList [] with
  | some ps => match floats X ops.toList ps 0 0 with
    | 0 => planAt X ops ps 0
    | F + 1 => planAt X ops ps (F + 1)
  | none => none
/-- The floats' places. -/
def floatsOf (F n : Nat) : List Nat := bif Nat.beq F 0 then [] else (List.range n).filter (F.testBit ·)
/-- A heap without the floats that need not be done. -/
def strip (c0 p : Nat) : List Nat → Heap → Heap
  | [], H => H
  | j :: r, H => strip c0 p r (bif p.testBit j then H else H.put (c0 + j) none)

/-- A read: its place, its preds, what it gives of a heap, what it gave, how many operations on memory had been. -/
structure Rd where
  i : Nat
  p : Nat
  rd : Heap → Option Value
  v : Value
  k : Nat

structure DSt where
  env : Env
  H : Heap
  c : Nat
  ws : List Nat           -- the places of operations on memory, the last one first
  es : List (Nat × Heap)  -- the heap just ahead of each, and how many had been
  rs : List Rd

/-- The operands of an operation: no slot but its own. -/
def evE (ops : Array Oper) (o : Oper) (env : Env) : Operand → Option Value
  | .tmp t => bif (o.looksAt ops).elem t then env.get t else none
  | x => evO X env x

def stepD (call : Callf) (n : Nat) (ops : Array Oper) (F : Nat) (fs : List Nat) (c0 : Nat) (o : Oper) (p i : Nat) (s : DSt) : Option (Value × DSt) :=
  match wantedA ops s.env o with
  | none => none
  | some false => match putE n s.env o.dst undefA with
    | some env => some (undefA, { s with env })
    | none => none
  | some true =>
    match X.kind o.op with
    | .read => match evVal X (evE X ops o s.env) o.op (strip c0 p fs s.H) with
      | some v => match putE n s.env o.dst v with
        | some env => some (v, { s with env, rs := ⟨i, p, fun H => evVal X (evE X ops o s.env) o.op (strip c0 p fs H), v, s.ws.length⟩ :: s.rs })
        | none => none
      | none => none
    | kd => bif F.testBit i then
        (match evAlloc X (evE X ops o s.env) o.op with
        | some (ob, mk) => bif Nat.blt (c0 + i) 90000000000000 then
            match putE n s.env o.dst (mk (c0 + i)) with
            | some env => some (mk (c0 + i), { s with env, H := s.H.set (c0 + i) ob })
            | none => none
          else none
        | none => none)
      else match evOper X call (evE X ops o s.env) o.op (c0 + i) s.H s.c with
      | some (v, H, c) => match putE n s.env o.dst v with
        | some env => some (v, bif memK kd then { env, H, c, ws := i :: s.ws, es := (s.ws.length, s.H) :: s.es, rs := s.rs } else { s with env })
        | none => none
      | none => none

def evDraw (call : Callf) (n : Nat) (ops : Array Oper) (F : Nat) (fs : List Nat) (c0 : Nat) : List Oper → List Nat → Nat → DSt → Option DSt
  | o :: r, p :: ps, i, s => match stepD X call n ops F fs c0 o p i s with
    | some (_, s') => evDraw call n ops F fs c0 r ps (i + 1) s'
    | none => none
  | [], [], _, s => some s
  | _, _, _, _ => none

def countP (f : Nat → Bool) : List Nat → Nat
  | [] => 0
  | x :: r => bif f x then countP f r + 1 else countP f r

/-- A read against another level that it may come at. -/
def rdOk (ws pl : List Nat) (r : Rd) (E : Nat × Heap) : Bool :=
  Nat.beq E.1 r.k || Nat.blt E.1 (countP (fun x => r.p.testBit x) ws) || Nat.blt (countP (fun x => !((pl[x]?).getD 0).testBit r.i) ws) E.1 ||
  (match r.rd E.2 with | some v => vEq 3 v r.v | none => false)

def evRegionD (call : Callf) (n : Nat) (ops : Array Oper) (s : St) : Option St :=
  match plan X ops with
  | none => none
  | some (ps, F) =>
    match evDraw X call n ops F (floatsOf F ops.size) s.c ops.toList ps 0 { env := s.env, H := s.H, c := s.c + ops.size, ws := [], es := [], rs := [] } with
    | none => none
    | some d => bif d.rs.all (fun r => ((d.ws.length, d.H) :: d.es).all (rdOk d.ws ps r)) then some { s with env := d.env, H := d.H, c := d.c } else none

/-! ### Statements -/

/-- Where statements stand: how many slots, in which function, in a round of which loop. -/
structure Fx where
  n : Nat
  fn : FuncId
  ro : Option Nat

abbrev Rec := Fx → Code → St → Option (AEx × St)

/-- Has a function a body? -/
def hasBody (f : FuncId) : Bool :=
  match X.fn.get f with
  | some g => g.body.isSome
  | none => false

/-- A loop over a function: the one call. -/
def evLoop (call : Callf) (v : Value) (l : Nat) (H : Heap) (c : Nat) (s : St) : Option (AEx × St) :=
  match tgtOf v [.func (.yield l) #[] #[]] with
  | some (.fn g args) => bif hasBody X g then match call (.fn g args) H c with
    | some (_, H', c') => match H'.get l with
      | some (.loop st pend _ _ _ _ _ _ _) => bif decide (st = .busy) then none else
          match pend with
          | none => some (.normal, { s with H := H'.put l none, c := c' })
          | some (.exit i) => some (.exit i, { s with H := H'.put l none, c := c' })
          | some .ret => some (.ret, { s with H := H'.put l none, c := c' })
          | some _ => none
      | _ => none
    | none => none
    else none
  | _ => none

/-- One step of depth: statements, with calls taken from 'call'. 'rec': statements at the depth below. -/
def evCode (call : Callf) (rec : Code → St → Option (AEx × St)) (fx : Fx) (k : Code) (s : St) : Option (AEx × St) :=
  match k with
  | .skip | .label _ => some (.normal, s)
  | .region _ ops draw => bif draw then (evRegionD X call fx.n ops s).map fun s => (.normal, s) else (evOps X call fx.n ops ops.toList s).map fun s => (.normal, s)
  | .seq a b => match rec a s with
    | some (.normal, s) => rec b s
    | r => r
  | .cond c a b => match evO X s.env c with
    | some (.bool true) => rec a s
    | some (.bool false) => rec b s
    | _ => none
  | .block id b => match rec b s with
    | some (.exit i, s) => bif Nat.beq i id then some (.normal, s) else some (.exit i, s)
    | r => r
  | .loop b => match rec b s with
    | some (.normal, s) => rec (.loop b) s
    | r => r
  | .scope b => rec b s
  | .exit i => some (.exit i, s)
  | .ret => some (.ret, s)
  | .rangeFunc f params assign body => match evO X s.env f with
    | some v => match fx.ro with
      | none => evLoop X call v (s.c + 1) ((s.H.set s.c .defd).set (s.c + 1) (.loop .ready none fx.fn s.env fx.n params assign body s.c)) (s.c + 2) { s with ds := s.c :: s.ds }
      | some l0 => match s.H.get l0 with
        | some (.loop _ _ _ _ _ _ _ _ d) => evLoop X call v s.c (s.H.set s.c (.loop .ready none fx.fn s.env fx.n params assign body d)) (s.c + 1) s
        | _ => none
    | none => none
  | _ => none

def envOf : List Value → Nat → Env → Env
  | [], _, e => e
  | v :: r, i, e => envOf r (i + 1) (e.set i v)

def resOf (env : Env) (H : Heap) : List ResultVar → Option (List Value)
  | [] => some []
  | .tmp t :: r => match env.get t with
    | some v => (resOf env H r).map (v :: ·)
    | none => none
  | .cell a t :: r => match env.get a with
    | some (.pointer (some b)) => match X.isAgg t, X.size t with
      | some true, some n => match cellsAt H b n with
        | some l => (resOf env H r).map (.agg ⟨l⟩ :: ·)
        | none => none
      | some false, some _ => match b.spot, H.get b.block with
        | none, some (.cells cs _ _ _) => match cs[b.off]? with
          | some v => (resOf env H r).map (v :: ·)
          | none => none
        | _, _ => none
      | _, _ => none
    | _ => none
def oneOf : List Value → Value
  | [v] => v
  | l => .tuple ⟨l⟩

/-- A function's leaving: the blocks of deferred calls of its loops over functions, all empty. -/
def dropD : List Nat → Heap → Option Heap
  | [], H => some H
  | n :: r, H => match H.get n with
    | some .defd => dropD r (H.put n none)
    | _ => none

/-- The parameters of a loop over a function. -/
def envPs (n : Nat) : List Tmp → List Value → Env → Option Env
  | [], [], e => some e
  | t :: ts, v :: vs, e => bif Nat.blt t n then envPs n ts vs (e.set t v) else none
  | _, _, _ => none

/-- How a loop stands behind a round, and what yield answers. -/
def roundEnd : AEx → LoopState × Option Code × Bool
  | .normal => (.ready, none, true)
  | .exit i => (.done, some (.exit i), false)
  | .ret => (.done, some .ret, false)

/-- A round of a loop over a function. -/
def evYield (code : Rec) (l : Nat) (args : List Value) (H : Heap) (c : Nat) : Option (Value × Heap × Nat) :=
  match H.get l with
  | some (.loop _ _ fn env n params assign body _) => match envPs n params.toList args env with
    | some env' => match code ⟨n, fn, some l⟩ assign { env := env', H := H, c := c, ds := [] } with
      | some (.normal, s1) => match s1.ds, s1.H.get l with
        | [], some (.loop .ready pe fn2 env2 n2 params2 assign2 body2 d2) =>
          match code ⟨n, fn, some l⟩ body { s1 with H := s1.H.set l (.loop .busy pe fn2 env2 n2 params2 assign2 body2 d2) } with
          | some (ex, s2) => match s2.ds, s2.H.get l with
            | [], some (.loop _ _ fn3 env3 n3 params3 assign3 body3 d3) =>
              some (.bool (roundEnd ex).2.2, s2.H.set l (.loop (roundEnd ex).1 (roundEnd ex).2.1 fn3 env3 n3 params3 assign3 body3 d3), s2.c)
            | _, _ => none
          | none => none
        | _, _ => none
      | _ => none
    | none => none
  | _ => none

/-- sync/atomic's Store and Load. -/
def evStoreX (args : List Value) (H : Heap) : Option (Value × Heap) :=
  match args with
  | [.pointer (some a), v] => (storeA H a [v]).map fun H' => (undefA, H')
  | _ => none
def evLoadX (k : IntKind) (args : List Value) (H : Heap) : Option Value :=
  match args with
  | [.pointer (some a)] => match a.spot, H.get a.block with
    | none, some (.cells cs _ _ _) => match cs[a.off]? with
      | some (.int j n) => bif decide (j = k) then some (.int j n) else none
      | _ => none
    | _, _ => none
  | _ => none

/-- A call, its body's statements taken from 'code'. -/
def evCall (code : Rec) (t : Tgt) (H : Heap) (c : Nat) : Option (Value × Heap × Nat) :=
  match t with
  | .yield l args => evYield code l args H c
  | .fn f args => match X.fn.get f with
    | none => none
    | some g => bif g.name == "runtime.NumGoroutine" then none else
      match g.body with
      | none => match Extern.findNext g, Extern.find g with
        | none, some e => bif g.name == "internal/abi.NoEscape" then (match args with | [x] => some (x, H, c) | _ => none) else
          bif g.name == "sync/atomic.StoreInt64" || g.name == "sync/atomic.StoreUint32" then (evStoreX args H).map fun r => (r.1, r.2, c) else
          bif g.name == "sync/atomic.LoadInt64" then (evLoadX .i64 args H).map fun v => (v, H, c) else
          bif g.name == "sync/atomic.LoadUint32" then (evLoadX .u32 args H).map fun v => (v, H, c) else
          match pureRun X.P (e ⟨args⟩) with
          | some v => bif clos v && args.all clos then some (v, H, c) else none
          | none => none
        | _, _ => none
      | some b =>
        bif Nat.ble args.length g.ntmps then
          match code ⟨g.ntmps, f, none⟩ b { env := envOf args 0 .nil, H := H, c := c, ds := [] } with
          | some (.normal, s) | some (.ret, s) => match dropD s.ds s.H with
            | some H' => (resOf X s.env H' g.results.toList).map fun l => (oneOf l, H', s.c)
            | none => none
          | _ => none
        else none

end

/-- The evaluator at a depth. -/
noncomputable def run (X : Cx) (d : Nat) : Rec :=
  Nat.rec (motive := fun _ => Rec) (fun _ _ _ => none) (fun _ rec fx k s => evCode X (evCall X rec) (rec fx) fx k s) d

theorem run_zero (X : Cx) (fx : Fx) (k : Code) (s : St) : run X 0 fx k s = none := rfl
theorem run_succ (X : Cx) (d : Nat) (fx : Fx) (k : Code) (s : St) : run X (d + 1) fx k s = evCode X (evCall X (run X d)) (run X d fx) fx k s := rfl

/-- A call at a depth. -/
noncomputable def callAt (X : Cx) (d : Nat) : Callf := evCall X (run X d)

end Go.Ev
