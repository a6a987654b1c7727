/- The evaluator: abstract values, abstract state, and a deterministic evaluation of the model's own code over them. Nothing is proved here. -/
import Derived.Calls
import Derived.Orders
set_option linter.all false
set_option linter.unusedVariables false
set_option linter.unusedSimpArgs false
namespace Go.Ev
open Go

/-- Who owns what lies behind a slice's end: nobody may append (sealed); its capacity is its length (exact); the newest slice of a stamp (live). -/
inductive Own where
  | sealed | exact | live (s : Nat)
  deriving DecidableEq, Inhabited, Repr

/-- Abstract values. -/
inductive V where
  | any
  | bool (b : Bool)
  | int (k : IntKind) (n : Int)
  | str (s : List UInt8)
  | nilp
  | ptr (id off : Nat)
  | eptr (x : V)
  | lst (o : Own) (xs : List V)
  | sl (id off len cap : Nat)
  | fn (f : Fn) (first captured : List V)
  | yield (id : Nat)
  | nilf
  | map (id : Nat)
  | nilm
  | iface (t : TypeId) (v : V)
  | nili
  | agg (cs : List V)
  | tup (vs : List V)
  deriving Inhabited

def V.cells : V → List V
  | .agg cs => cs
  | v => [v]

def V.isAgg : V → Bool
  | .agg _ => true
  | _ => false

/-- A value that one cell may hold, of which it is known what it is. -/
def cellB : V → Bool
  | .any | .tup _ | .agg _ => false
  | _ => true

/-- Not an aggregate. -/
def flatB : V → Bool
  | .agg _ => false
  | _ => true

def goodB : V → Bool
  | .agg cs => cs.all cellB
  | v => cellB v

def absCell : Value → V
  | .bool b => .bool b
  | .int k n => .int k n
  | .string s => .str s.data.toList
  | .pointer none => .nilp
  | .slice none 0 0 => .lst .exact []
  | .map none => .nilm
  | .nilFunc => .nilf
  | .nilIface => .nili
  | _ => .any

def absV : Value → V
  | .agg cs => .agg (cs.toList.map absCell)
  | v => absCell v

/-- How code is left. -/
inductive Ex where
  | norm | exit (id : Nat) | ret
  deriving DecidableEq, Inhabited

inductive Blk where
  | row (t : TypeId) (cells : List V)
  | lp (st : LoopState) (pend : Option Ex) (fn : FuncId) (env : List V) (ps : List Nat) (asg body : Code)
  | df (fresh : Bool)
  | mp (es : List (V × V))
  | sit (s : List UInt8) (pos : Nat)
  | mit (m : Nat) (since : Nat) (left : List Nat) (last : Option Nat)
  deriving Inhabited

structure St where
  heap : List Blk := []
  /-- per stamp: the length of the newest slice, and the size of its elements -/
  live : List (Nat × Nat) := []
  deriving Inhabited

inductive Out (α : Type) where
  | ok (a : α) (s : St)
  | pan (v : V) (s : St)
  | err
  | choice (n : Nat) (k : Nat → Out α)
  | br (t : Bool) (x y : Out α)

def Out.bind {α β : Type} : Out α → (α → St → Out β) → Out β
  | .ok a s, f => f a s
  | .pan v s, _ => .pan v s
  | .err, _ => .err
  | .choice n k, f => .choice n fun i => (k i).bind f
  | .br t x y, f => .br t (x.bind f) (y.bind f)

/-- Where a panic is not followed. -/
def Out.noPan {α : Type} : Out α → Out α
  | .ok a s => .ok a s
  | .pan _ _ => .err
  | .err => .err
  | .choice n k => .choice n fun i => (k i).noPan
  | .br t x y => .br t x.noPan y.noPan

def Out.ofOption {α : Type} (x : Option α) (s : St) : Out α :=
  match x with
  | some a => .ok a s
  | none => .err

abbrev Env := List V

def evalO (env : Env) : Operand → V
  | .tmp t => env.getD t .any
  | .const v => absV v
  | .global _ => .any
  | .func f => .fn (.func f) [] []

def putE (env : Env) (dst : Option Tmp) (v : V) : Env :=
  match dst with
  | some d => env.set d v
  | none => env

/-! ### pure operations -/
section pure
variable (P : Program)

/-- Is a value of the type an aggregate, and how many cells has it? -/
def kindT (t : TypeId) : Option (Bool × Nat) :=
  match P.info? t, P.underlying t with
  | some i, some (.struct _) | some i, some (.array _ _) => some (true, i.size)
  | some i, some _ => some (false, i.size)
  | _, _ => none

def bytesT (t : TypeId) : Nat := ((P.info? t).map (·.bytes)).getD 0
def zeroT (t : TypeId) : Option V := ((P.info? t).bind (·.zero)).map absV

def setAll (cells : List V) (off : Nat) : List V → List V
  | [] => cells
  | c :: r => setAll (cells.set off c) (off + 1) r

/-- A part of a row of cells, as a value of type t. -/
def partV (t : TypeId) (cs : List V) (off : Nat) : Option V :=
  match kindT P t with
  | some (true, n) => if off + n ≤ cs.length then some (.agg ((cs.drop off).take n)) else none
  | some (false, _) => cs[off]?
  | none => none

def fillV (place : Nat → Option (Nat × Nat)) (cells : List V) : List (Nat × V) → Option (List V)
  | [] => some cells
  | (i, v) :: rest =>
    match place i with
    | none => none
    | some (off, size) =>
      if v.cells.length = size ∧ off + size ≤ cells.length ∧ goodB v = true then fillV place (setAll cells off v.cells) rest else none

def placesT (fields : Array Field) : Option (List (Nat × Nat)) :=
  fields.toList.mapM (fun f => (P.info? f.type).map fun i => (f.offset, i.size))

def buildV (t : TypeId) (parts : List (Nat × V)) : Option V :=
  match zeroT P t, P.underlying t with
  | some z, some (.struct fields) =>
    match placesT P fields with
    | some places => (fillV (fun i => places[i]?) z.cells parts).map .agg
    | none => none
  | some z, some (.array _ elem) =>
    match kindT P elem with
    | some (_, n) => (fillV (fun i => some (i * n, n)) z.cells parts).map .agg
    | none => none
  | _, _ => none

def sizedB (t : TypeId) (v : V) : Bool :=
  match kindT P t with
  | some (a, n) => v.cells.length == n && v.isAgg == a && goodB v
  | none => false

/-- The elements of a slice that is built. -/
def putParts (e : TypeId) (xs : List V) : List (Nat × V) → Option (List V)
  | [] => some xs
  | (i, v) :: rest => if i < xs.length ∧ sizedB P e v = true then putParts e (xs.set i v) rest else none

def bcond (c : Bool) (a b : V) : V :=
  match a, b with
  | .bool p, .bool q => .bool (cond c p q)
  | a, b => cond c a b

def bytesLess : List UInt8 → List UInt8 → Bool
  | _, [] => false
  | [], _ :: _ => true
  | a :: x, b :: y => decide (a < b) || (a == b && bytesLess x y)

def intV (op : BinOp) (k : IntKind) (a b : Int) : Option V :=
  match op with
  | .add => some (.int k (k.wrap (a + b)))
  | .sub => some (.int k (k.wrap (a - b)))
  | .mul => some (.int k (k.wrap (a * b)))
  | .quo => if b = 0 then none else some (.int k (k.wrap (a.tdiv b)))
  | .rem => if b = 0 then none else some (.int k (a.tmod b))
  | .and => some (.int k (k.wrap (BitVec.ofInt k.bits a &&& BitVec.ofInt k.bits b).toNat))
  | .or => some (.int k (k.wrap (BitVec.ofInt k.bits a ||| BitVec.ofInt k.bits b).toNat))
  | .xor => some (.int k (k.wrap (BitVec.ofInt k.bits a ^^^ BitVec.ofInt k.bits b).toNat))
  | .andNot => some (.int k (k.wrap (BitVec.ofInt k.bits a &&& ~~~ BitVec.ofInt k.bits b).toNat))
  | .eql => some (.bool (a == b))
  | .neq => some (.bool (a != b))
  | .lss => some (.bool (decide (a < b)))
  | .leq => some (.bool (decide (a ≤ b)))
  | .gtr => some (.bool (decide (a > b)))
  | .geq => some (.bool (decide (a ≥ b)))
  | _ => none

def strV (op : BinOp) (a b : List UInt8) : Option V :=
  match op with
  | .add => if a.length + b.length ≤ 9223372036854775807 then some (.str (a ++ b)) else none
  | .eql => some (.bool (a == b))
  | .neq => some (.bool (!(a == b)))
  | .lss => some (.bool (bytesLess a b))
  | .leq => some (.bool (bytesLess a b || a == b))
  | .gtr => some (.bool (!(bytesLess a b || a == b)))
  | .geq => some (.bool (!(bytesLess a b)))
  | _ => none

def shiftV (op : BinOp) (k : IntKind) (a b : Int) : Option V :=
  if b < 0 then none else
  match op with
  | .shl => some (.int k (k.wrap (a * 2 ^ (min b.toNat k.bits))))
  | .shr => some (.int k (a.fdiv (2 ^ (min b.toNat k.bits))))
  | _ => none

/-- Equality of cells of simple kinds, by the type. -/
def eqCell (t : TypeId) (x y : V) : Option Bool :=
  match P.underlying t, x, y with
  | some .bool, .bool a, .bool b => some (a == b)
  | some (.int _), .int k a, .int k' b => if k = k' then some (a == b) else none
  | some .string, .str a, .str b => some (a == b)
  | some (.pointer _), .nilp, .nilp => some true
  | some (.pointer _), .ptr _ _, .nilp | some (.pointer _), .nilp, .ptr _ _ => some false
  | some (.pointer _), .eptr _, .nilp | some (.pointer _), .nilp, .eptr _ => some false
  | some (.func _ _ _), .nilf, .nilf => some true
  | some (.func _ _ _), .fn _ _ _, .nilf | some (.func _ _ _), .nilf, .fn _ _ _ => some false
  | some (.interface _), .iface _ _, .nili | some (.interface _), .nili, .iface _ _ => some false
  | some (.map _ _), .nilm, .nilm => some true
  | some (.map _ _), .map _, .nilm | some (.map _ _), .nilm, .map _ => some false
  | _, _, _ => none

def eqFields (xs ys : List V) : List Field → Option Bool
  | [] => some true
  | f :: fs =>
    if f.name = "_" then eqFields xs ys fs else
    if (kindT P f.type).map (·.1) = some false then
    match xs[f.offset]?, ys[f.offset]? with
    | some x, some y =>
      match eqCell P f.type x y with
      | some true => eqFields xs ys fs
      | some false => some false
      | none => none
    | _, _ => none
    else none

def eqV (t : TypeId) (x y : V) : Option Bool :=
  match P.underlying t, x, y with
  | some (.struct fields), .agg xs, .agg ys =>
    if P.stoodInHeld t || P.eqGuardType P.depth t then none else eqFields P xs ys fields.toList
  | _, .agg _, _ | _, _, .agg _ => none
  | _, x, y => eqCell P t x y

def binV (op : BinOp) (t : TypeId) (x y : V) : Option V :=
  match x, y with
  | .int k a, .int k' b =>
    match op with
    | .shl | .shr => shiftV op k a b
    | _ => if k = k' then intV op k a b else none
  | .str a, .str b => strV op a b
  | x, y =>
    match op with
    | .eql => (eqV P t x y).map .bool
    | .neq => (eqV P t x y).map fun b => .bool (!b)
    | _ => none

def unV (op : UnOp) (x : V) : Option V :=
  match op, x with
  | .neg, .int k n => some (.int k (k.wrap (0 - n)))
  | .not, .bool b => some (.bool (!b))
  | _, _ => none

def toBytes : List V → Option (List UInt8)
  | [] => some []
  | .int .u8 n :: r => (toBytes r).map (UInt8.ofNat n.toNat :: ·)
  | _ :: _ => none

def convV (src dst : TypeId) (x : V) : Option V :=
  match P.underlying src, P.underlying dst, x with
  | some _, some (.int k), .int _ n => some (.int k (k.wrap n))
  | some _, some .string, .str s => some (.str s)
  | some (.slice e), some .string, .lst _ xs =>
    match P.underlying e with
    | some (.int .u8) => (toBytes xs).map .str
    | _ => none
  | _, _, _ => none

def boundV (x : V) (y : Nat) : Option Nat :=
  match x with
  | .int _ i => if 0 ≤ i ∧ i ≤ y then some i.toNat else none
  | _ => none

/-- low, high, max of a slice expression. -/
def boundsV (len cap : Nat) (lo hi mx : Option V) : Option (Nat × Nat × Nat) :=
  match (match mx with | some v => boundV v cap | none => some cap) with
  | none => none
  | some m =>
    match (match hi, mx with | some v, _ => boundV v m | none, none => some len | none, some _ => none) with
    | none => none
    | some h =>
      match (match lo with | some v => boundV v h | none => some 0) with
      | none => none
      | some l => some (l, h, m)

/-- Who owns a part of a slice. -/
def subOwn (mx : Bool) (m h n : Nat) (o : Own) : Own :=
  if mx then (if m = h then .exact else .sealed)
  else if h = n then (if o = .exact then .exact else .sealed) else .sealed

def sliceV (t : TypeId) (x : V) (lo hi mx : Option V) : Option V :=
  match P.underlying t, x with
  | some .string, .str s =>
    if mx.isSome then none else
    match boundsV s.length s.length lo hi none with
    | some (l, h, _) => some (.str ((s.drop l).take (h - l)))
    | none => none
  | some (.slice e), .lst o xs =>
    if !(xs.all (sizedB P e)) then none else
    match kindT P e, boundsV xs.length xs.length lo hi mx with
    | some _, some (l, h, m) =>
      if mx.isNone ∧ l = 0 ∧ h = xs.length then some (.lst o xs) else
      some (.lst (subOwn mx.isSome m h xs.length o) ((xs.drop l).take (h - l)))
    | _, _ => none
  | some (.slice e), .sl id off len cap =>
    match kindT P e, boundsV len cap lo hi mx with
    | some (_, n), some (l, h, m) => some (.sl id (off + l * n) (h - l) (m - l))
    | _, _ => none
  | some (.array n e), .ptr id off =>
    match kindT P e, boundsV n n lo hi mx with
    | some (_, z), some (l, h, m) => some (.sl id (off + l * z) (h - l) (m - l))
    | _, _ => none
  | _, _ => none

def fieldAddrV (s : TypeId) (x : V) (f : Nat) : Option V :=
  match P.underlying s with
  | some (.struct fields) =>
    match fields[f]? with
    | some f =>
      match kindT P f.type with
      | some (_, n) =>
        if n = 0 then none else
        match x with
        | .ptr id off => some (.ptr id (off + f.offset))
        | .eptr (.agg cs) => (if cs.all flatB then partV P f.type cs f.offset else none).map .eptr
        | _ => none
      | none => none
    | none => none
  | _ => none

def fieldV (t : TypeId) (x : V) (f : Nat) : Option V :=
  match P.underlying t, x with
  | some (.struct fields), .agg cs =>
    match fields[f]? with
    | some f => partV P f.type cs f.offset
    | none => none
  | _, _ => none

def indexAddrV (t : TypeId) (x ix : V) : Option V :=
  match P.underlying t, x, ix with
  | some (.slice e), .lst _ xs, .int _ i =>
    if 0 ≤ i then
      match xs[i.toNat]? with
      | some y => if sizedB P e y then some (.eptr y) else none
      | none => none
    else none
  | some (.slice e), .sl id off len _, .int _ i =>
    match kindT P e with
    | some (_, z) => if 0 ≤ i ∧ i < (len : Int) then some (.ptr id (off + i.toNat * z)) else none
    | none => none
  | some (.array n e), .ptr id off, .int _ i =>
    match kindT P e with
    | some (_, z) => if 0 ≤ i ∧ i < (n : Int) then some (.ptr id (off + i.toNat * z)) else none
    | none => none
  | some (.array n e), .eptr (.agg cs), .int _ i =>
    match kindT P e with
    | some (_, z) => if 0 ≤ i ∧ i < (n : Int) ∧ cs.all flatB = true then (partV P e cs (i.toNat * z)).map .eptr else none
    | none => none
  | _, _, _ => none

def indexV (t : TypeId) (x ix : V) : Option V :=
  match P.underlying t, x, ix with
  | some .string, .str s, .int _ i => if 0 ≤ i then (s[i.toNat]?).map fun b => .int .u8 b.toNat else none
  | some (.array n e), .agg cs, .int _ i =>
    match kindT P e with
    | some (_, z) => if 0 ≤ i ∧ i < (n : Int) then partV P e cs (i.toNat * z) else none
    | none => none
  | _, _, _ => none

def lenV (t : TypeId) (x : V) : Option V :=
  match P.underlying t, x with
  | some .string, .str s => some (.int .i64 s.length)
  | some (.slice _), .lst _ xs => some (.int .i64 xs.length)
  | some (.slice _), .sl _ _ len _ => some (.int .i64 len)
  | some (.array n _), _ => some (.int .i64 n)
  | _, _ => none

def capV (t : TypeId) (x : V) : Option V :=
  match P.underlying t, x with
  | some (.slice _), .lst .exact xs => some (.int .i64 xs.length)
  | some (.array n _), _ => some (.int .i64 n)
  | _, _ => none

def minV : V → List V → Option V
  | v, [] => some v
  | .int k x, .int _ y :: r => minV (.int k (if y < x then y else x)) r
  | _, _ => none

def maxV : V → List V → Option V
  | v, [] => some v
  | .int k x, .int _ y :: r => maxV (.int k (if y > x then y else x)) r
  | _, _ => none

def nilCheckV : V → Option V
  | .ptr id off => some (.ptr id off)
  | .eptr x => some (.eptr x)
  | .fn (.func f) a b => some (.fn (.func f) a b)
  | .iface t v => some (.iface t v)
  | _ => none

def builtinV (b : Builtin) (argTypes : Array TypeId) (args : List V) : Option V :=
  match b, args with
  | .len, [x] => match argTypes[0]? with | some t => lenV P t x | none => none
  | .cap, [x] => match argTypes[0]? with | some t => capV P t x | none => none
  | .min, x :: r => minV x r
  | .max, x :: r => maxV x r
  | _, _ => none

/-- Operations that neither read nor write the state, and do not panic here. -/
def evPure (ev : Operand → V) : Op → Option V
  | .move x | .assign x => some (ev x)
  | .pick c a b => match ev c with | .bool c => some (bcond c (ev a) (ev b)) | _ => none
  | .build t parts => buildV P t (parts.toList.map fun p => (p.1, ev p.2))
  | .binOp op t x y _ => binV P op t (ev x) (ev y)
  | .unOp op _ x => unV op (ev x)
  | .convert src dst x => convV P src dst (ev x)
  | .makeInterface t x =>
    match P.underlying t with
    | some (.interface _) | none => none
    | some _ => some (.iface t (ev x))
  | .makeFunc f first captured => some (.fn f (first.toList.map ev) (captured.toList.map ev))
  | .slice t x lo hi mx => sliceV P t (ev x) (lo.map ev) (hi.map ev) (mx.map ev)
  | .fieldAddr s x f => fieldAddrV P s (ev x) f
  | .field t x f => fieldV P t (ev x) f
  | .indexAddr t x ix => indexAddrV P t (ev x) (ev ix)
  | .index t x ix => indexV P t (ev x) (ev ix)
  | .extract x i => match ev x with | .tup vs => vs[i]? | _ => none
  | .nilCheck x => nilCheckV (ev x)
  | .call c =>
    match c.callee with
    | .builtin b => builtinV P b c.argTypes (c.args.toList.map ev)
    | _ => none
  | _ => none

end pure

/-! ### values that a call may hand over without the caller's heap -/

mutual
def closed : V → Bool
  | .any | .bool _ | .int _ _ | .str _ | .nilp | .nilf | .nilm | .nili => true
  | .ptr _ _ | .sl _ _ _ _ | .map _ | .yield _ => false
  | .eptr x => closed x
  | .lst (.live _) _ => false
  | .lst _ xs => closedL xs
  | .fn _ a b => closedL a && closedL b
  | .iface _ v => closed v
  | .agg cs => closedL cs
  | .tup vs => closedL vs
def closedL : List V → Bool
  | [] => true
  | x :: r => closed x && closedL r
end

def stripCell : V → V
  | .lst (.live _) xs => .lst .sealed xs
  | v => v

def stripFlat : V → V
  | .agg cs => .agg (cs.map stripCell)
  | v => stripCell v

def strip : V → V
  | .tup vs => .tup (vs.map stripFlat)
  | v => stripFlat v

/-! ### operations on the state -/

structure Cfg where
  /-- functions that are taken by a contract -/
  ext : FuncId → Option (List V → St → Out V)
  /-- functions that are called without the caller's heap -/
  shut : FuncId → Bool
  /-- where what is made is a row of the heap: function, region, place in the region -/
  heapy : FuncId → Nat → Nat → Bool
  /-- temporaries that are cleared at a loop's head: function, first region of the body -/
  dead : FuncId → Nat → List Nat
  /-- the order in which a region that draws its order is carried out: operation and mode (0: looks at no memory; 1: only reads; 2: nothing else can come up) -/
  rest : FuncId → Nat → Option (List (Nat × Nat))
  /-- functions in which a test gives a branch, whatever it comes to -/
  sym : FuncId → Bool
  /-- loops that are taken by a contract: function, first region of the body -/
  loop : FuncId → Nat → Option (Nat → Env → List Nat → St → Out (Ex × Env × List Nat))
  /-- functions whose contract is a value alone -/
  quiet : FuncId → Option (List V → Option V)
  /-- functions that read and write rows that are not known in full -/
  mem : FuncId → Bool

structure Ctx where
  P : Program
  cfg : Cfg
  self : FuncId
  call : FuncId → List V → St → Out V
  /-- code of a function, run in a frame of its own -/
  run : FuncId → Code → Env → St → Out (Ex × Env × List Nat)
  /-- is this a round of a range over a function? -/
  round : Bool
  /-- how deep calls may be -/
  depth : Nat

/-! ### regions that draw their order -/
/-- Operations that leave the state as it is. -/
def quietKind (cfg : Cfg) : Op → Bool
  | .move _ | .assign _ | .pick _ _ _ | .build _ _ | .binOp _ _ _ _ _ | .unOp _ _ _ | .makeInterface _ _ | .makeFunc _ _ _ | .slice _ _ _ _ _
  | .fieldAddr _ _ _ | .field _ _ _ | .indexAddr _ _ _ | .index _ _ _ | .extract _ _ | .nilCheck _ | .load _ _ | .lookup _ _ _ _ => true
  | .call c =>
    match c.callee with
    | .builtin .append => false
    | .builtin _ => true
    | .value (.func f) => cfg.shut f
    | _ => false
  | _ => false

/-- What is asked of the operations that may come up before operation i: M is what may be listed without it. -/
def aheadB (cfg : Cfg) (ops : Array Oper) (listed M : Array Bool) (strict : Bool) (i : Nat) : Bool :=
  M.size == ops.size && !M.getD i true && ((Region.ready .any ops M).all (· == i)) && ((List.range ops.size).all fun j => !listed.getD j false || M.getD j false) &&
  match ops[i]? with
  | none => false
  | some oi => (List.range ops.size).all fun j =>
    match ops[j]? with
    | none => true
    | some oj => !(M.getD j false) || listed.getD j true || (oi.apart ops oj && (strict || quietKind cfg oj.op))

def pushOnce (ops : Array Oper) (i : Nat) (M : Array Bool) : Array Bool :=
  (Region.ready .any ops M).foldl (fun M j => if j = i then M else M.setIfInBounds j true) M

def maxOut (ops : Array Oper) (i : Nat) : Nat → Array Bool → Array Bool
  | 0, M => M
  | n + 1, M => maxOut ops i n (pushOnce ops i M)

def quietAt (cfg : Cfg) (ops : Array Oper) (i : Nat) : Bool :=
  match ops[i]? with
  | some o => quietKind cfg o.op
  | none => false

def schedB (cfg : Cfg) (ops : Array Oper) : List (Nat × Nat) → Array Bool → Bool
  | [], listed => (Region.ready .any ops listed).isEmpty
  | (i, m) :: r, listed => (Region.ready .any ops listed).contains i &&
    (match m with
     | 0 => aheadB cfg ops listed (maxOut ops i ops.size listed) true i
     | 1 => aheadB cfg ops listed (maxOut ops i ops.size listed) false i && quietAt cfg ops i
     | _ => (Region.ready .any ops listed).all (· == i)) && schedB cfg ops r (listed.setIfInBounds i true)

/-- The schedules that a function's code has are good ones. -/
def codeSched (cfg : Cfg) (self : FuncId) : Code → Bool
  | .region id ops true => match cfg.rest self id with | some l => l.length == ops.size && schedB cfg ops l (Array.replicate ops.size false) | none => true
  | .seq a b | .cond _ a b | .rangeFunc _ _ a b => codeSched cfg self a && codeSched cfg self b
  | .block _ c | .loop c | .scope c => codeSched cfg self c
  | _ => true


def newBlk (b : Blk) (s : St) : Nat × St := (s.heap.length, { s with heap := s.heap ++ [b] })

def newRow (t : TypeId) (cells : List V) (s : St) : Out V :=
  .ok (.ptr s.heap.length 0) { s with heap := s.heap ++ [.row t cells] }

def loadV (P : Program) (t : TypeId) (a : V) (s : St) : Option V :=
  match a with
  | .ptr id off =>
    match s.heap[id]? with
    | some (.row _ cells) => partV P t cells off
    | _ => none
  | .eptr x => if kindT P t = some (x.isAgg, x.cells.length) then some x else none
  | _ => none

def storeV (P : Program) (t : TypeId) (a x : V) (s : St) : Option St :=
  match a with
  | .ptr id off =>
    match s.heap[id]? with
    | some (.row u cells) =>
      if (kindT P t).map (·.2) = some x.cells.length ∧ off + x.cells.length ≤ cells.length ∧ goodB x = true then some { s with heap := s.heap.set id (.row u (setAll cells off x.cells)) } else none
    | _ => none
  | _ => none

/-- The elements that a slice, or a string, has. -/
def elemsV (P : Program) (e : TypeId) (x : V) (s : St) : Option (List V) :=
  match x with
  | .lst _ xs => some xs
  | .str b => some (b.map fun c => .int .u8 c.toNat)
  | .sl id off len _ =>
    if kindT P e ≠ some (false, 1) then none else
    match s.heap[id]? with
    | some (.row _ cells) => if off + len ≤ cells.length then some ((cells.drop off).take len) else none
    | _ => none
  | _ => none

/-- How long a slice may grow here. -/
def roomB (P : Program) (e : TypeId) (n : Nat) : Bool := decide (n * bytesT P e ≤ 35184372088832) && decide (n ≤ 35184372088832)

/-- What is appended is a slice or a string. -/
def sliceyB (P : Program) (u : TypeId) : Bool :=
  match P.underlying u with
  | some (.slice _) | some .string => true
  | _ => false

def appendV (P : Program) (t u : TypeId) (x y : V) (s : St) : Out V :=
  match P.underlying t with
  | some (.slice e) =>
    match kindT P e, elemsV P e y s with
    | none, _ => .err
    | _, none => .err
    | some (_, z), some ys =>
      if ys.all (sizedB P e) ∧ sliceyB P u = true ∧ (zeroT P e).map (·.cells.length) = some z then
        match x with
        | .lst o xs =>
          if roomB P e (xs.length + ys.length) then
            match ys with
            | [] => .ok (.lst o xs) s
            | _ =>
              match o with
              | .exact =>
                if xs.all (sizedB P e) then .ok (.lst (.live s.live.length) (xs ++ ys)) { s with live := s.live ++ [(xs.length + ys.length, z)] }
                else .err
              | .live i =>
                if s.live[i]? = some (xs.length, z) then .ok (.lst (.live i) (xs ++ ys)) { s with live := s.live.set i (xs.length + ys.length, z) }
                else .err
              | .sealed => .err
          else .err
        | _ => .err
      else .err
  | _ => .err

/-- Are two keys the same? Keys of simple kinds. -/
def sameV : TypeDesc → V → V → Option Bool
  | .int _, .int a m, .int b n => if a = b then some (m == n) else none
  | .string, .str a, .str b => some (a == b)
  | .bool, .bool a, .bool b => some (a == b)
  | _, _, _ => none

def keyB : TypeDesc → V → Bool
  | .int _, .int _ _ => true
  | .string, .str _ => true
  | .bool, .bool _ => true
  | _, _ => false

def findV (d : TypeDesc) (k : V) : List (V × V) → Option (Option (Nat × V))
  | [] => some none
  | (k', v) :: r =>
    match sameV d k k' with
    | some true => some (some (0, v))
    | some false => (findV d k r).map (·.map fun p => (p.1 + 1, p.2))
    | none => none

def entriesV (m : V) (s : St) : Option (List (V × V)) :=
  match m with
  | .nilm => some []
  | .map id => match s.heap[id]? with | some (.mp es) => some es | _ => none
  | _ => none

def lookupV (P : Program) (t : TypeId) (m k : V) (ok : Bool) (s : St) : Option V :=
  match P.underlying t with
  | some (.map kt et) =>
    match P.underlying kt, entriesV m s with
    | some d, some es =>
      if keyB d k then
        match findV d k es with
        | none => none
        | some (some (_, v)) => some (if ok then .tup [v, .bool true] else v)
        | some none => match zeroT P et with | some z => some (if ok then .tup [z, .bool false] else z) | none => none
      else none
    | _, _ => none
  | _ => none

def updateV (P : Program) (t : TypeId) (m k x : V) (s : St) : Option St :=
  match P.underlying t, m with
  | some (.map kt _), .map id =>
    match P.underlying kt, s.heap[id]? with
    | some d, some (.mp es) =>
      if keyB d k then
        match findV d k es with
        | none => none
        | some (some (i, _)) => some { s with heap := s.heap.set id (.mp (es.set i (k, x))) }
        | some none => some { s with heap := s.heap.set id (.mp (es ++ [(k, x)])) }
      else none
    | _, _ => none
  | _, _ => none

/-- What a call without the caller's heap comes to, for the caller. -/
def Out.shut (s : St) : Out V → Out V
  | .ok v _ => if closed (strip v) then .ok (strip v) s else .err
  | .pan v _ => if closed v then .pan v s else .err
  | .err => .err
  | .choice n k => .choice n fun i => (k i).shut s
  | .br t x y => .br t (x.shut s) (y.shut s)

def headV (X : Ctx) (f : FuncId) : List V → St → Out V :=
  match X.cfg.ext f with
  | some g => g
  | none => X.call f

def callV (X : Ctx) (f : FuncId) (args : List V) (s : St) : Out V :=
  if X.cfg.shut f then
    if closedL (args.map strip) then (headV X f (args.map strip) {}).shut s else .err
  else headV X f args s

def setParams (env : Env) : List Nat → List V → Env
  | t :: ps, x :: xs => setParams (env.set t x) ps xs
  | _, _ => env

def Ex.pend : Ex → Option Ex
  | .norm => none
  | e => some e

/-- A round of a range over a function. -/
def roundV (X : Ctx) (id : Nat) (args : List V) (s : St) : Out V :=
  match s.heap[id]? with
  | some (.lp _ _ fn env ps asg body) =>
    if args.length = ps.length ∧ codeSched X.cfg fn asg = true ∧ codeSched X.cfg fn body = true then
      (X.run fn asg (setParams env ps args) s).noPan.bind fun r s =>
        if r.1 = .norm ∧ r.2.2 = [] then
          match s.heap[id]? with
          | some (.lp .ready pend fn' env' ps' asg' body') =>
            (X.run fn body r.2.1 { s with heap := s.heap.set id (.lp .busy pend fn' env' ps' asg' body') }).noPan.bind fun r s =>
              match s.heap[id]? with
              | some (.lp _ _ fn' env' ps' asg' body') =>
                .ok (.bool (r.1 = .norm)) { s with heap := s.heap.set id (.lp (if r.1 = .norm then .ready else .done) r.1.pend fn' env' ps' asg' body') }
              | _ => .err
          | _ => .err
        else .err
    else .err
  | _ => .err

def callFn (X : Ctx) (f : V) (args : List V) (s : St) : Out V :=
  match f with
  | .yield id => roundV X id args s
  | .fn (.func f) first captured => callV X f (first ++ args ++ captured) s
  | _ => .err

def rangeV (P : Program) (t : TypeId) (x : V) (s : St) : Out V :=
  match P.underlying t, x with
  | some .string, .str b => .ok (.ptr s.heap.length 0) { s with heap := s.heap ++ [.sit b 0] }
  | some (.map _ _), .map id =>
    match s.heap[id]? with
    | some (.mp es) => .ok (.ptr s.heap.length 0) { s with heap := s.heap ++ [.mit id es.length (List.range es.length) none] }
    | _ => .err
  | _, _ => .err

def nextV (it : V) (isString : Bool) (s : St) : Out V :=
  match it with
  | .ptr id 0 =>
    match s.heap[id]?, isString with
    | some (.sit b pos), true =>
      if pos < b.length then
        .ok (.tup [.bool true, .int .i64 pos, .int .i32 (Utf8.decode ⟨b.toArray⟩ pos).1]) { s with heap := s.heap.set id (.sit b (pos + (Utf8.decode ⟨b.toArray⟩ pos).2)) }
      else .ok (.tup [.bool false]) s
    | some (.mit m since left _), false =>
      match s.heap[m]? with
      | some (.mp es) =>
        if es.length = since then
          if left = [] then .ok (.tup [.bool false]) s
          else .choice left.length fun i =>
            match left[i]? with
            | some j =>
              match es[j]? with
              | some (k, v) => .ok (.tup [.bool true, k, v]) { s with heap := s.heap.set id (.mit m since (left.eraseIdx i) (some j)) }
              | none => .err
            | none => .err
        else .err
      | _ => .err
    | _, _ => .err
  | _ => .err

def entryV (it : V) (s : St) : Option V :=
  match it with
  | .ptr id 0 =>
    match s.heap[id]? with
    | some (.mit m since _ (some j)) =>
      match s.heap[m]? with
      | some (.mp es) =>
        if es.length = since then (es[j]?).map fun p => .tup [p.1, p.2] else none
      | _ => none
    | _ => none
  | _ => none

def panicV (x : V) (s : St) : Out V :=
  match x with
  | .iface t v => .pan (.iface t v) s
  | _ => .err

def lenMapV (P : Program) (t : TypeId) (x : V) (s : St) : Out V :=
  match P.underlying t, x with
  | some (.map _ _), .nilm => .ok (.int .i64 0) s
  | some (.map _ _), .map id => match s.heap[id]? with | some (.mp es) => .ok (.int .i64 es.length) s | _ => .err
  | _, _ => .err

/-- Operations that are rare. -/
def evMore (env : Env) (op : Op) (s : St) : Out V :=
  match op with
  | .entry it => .ofOption (entryV (evalO env it) s) s
  | _ => .err

def evOp0 (X : Ctx) (region place : Nat) (env : Env) (op : Op) (s : St) : Out V :=
  let P := X.P
  match evPure P (evalO env) op with
  | some v => .ok v s
  | none =>
    match op with
    | .alloc e => match zeroT P e with | some z => newRow e z.cells s | none => .err
    | .box e x => if goodB (evalO env x) = true then newRow e (evalO env x).cells s else .err
    | .buildSlice t len parts =>
      match P.underlying t with
      | some (.slice e) =>
        match kindT P e, zeroT P e with
        | some (_, n), some z =>
          if n = 0 ∨ 65536 < len * n ∨ z.cells.length ≠ n then .err else
          match putParts P e (List.replicate len z) (parts.toList.map fun p => (p.1, evalO env p.2)) with
          | none => .err
          | some xs =>
            if X.cfg.heapy X.self region place then
              .ok (.sl s.heap.length 0 len len) { s with heap := s.heap ++ [.row e (xs.flatMap V.cells)] }
            else .ok (.lst .exact xs) s
        | _, _ => .err
      | _ => .err
    | .makeSlice t len cap =>
      match P.underlying t, evalO env len, evalO env cap with
      | some (.slice e), .int _ l, .int _ c =>
        match kindT P e, zeroT P e with
        | some (_, n), some z =>
          if 0 ≤ l ∧ l ≤ c ∧ c ≤ 1099511627776 ∧ roomB P e c.toNat ∧ z.cells.length = n ∧ n ≠ 0 then
            if X.cfg.heapy X.self region place then
              .ok (.sl s.heap.length 0 l.toNat c.toNat) { s with heap := s.heap ++ [.row e ((List.replicate c.toNat z).flatMap V.cells)] }
            else if l = c then .ok (.lst .exact (List.replicate c.toNat z)) s
            else .err
          else .err
        | _, _ => .err
      | _, _, _ => .err
    | .convert src dst x =>
      match P.underlying src, P.underlying dst, evalO env x with
      | some .string, some (.slice e), .str b =>
        match P.underlying e with
        | some (.int .u8) =>
          if b.length ≤ 1099511627776 then
            if X.cfg.heapy X.self region place then
              .ok (.sl s.heap.length 0 b.length b.length) { s with heap := s.heap ++ [.row e (b.map fun c => .int .u8 c.toNat)] }
            else .ok (.lst (.live s.live.length) (b.map fun c => .int .u8 c.toNat)) { s with live := s.live ++ [(b.length, 1)] }
          else .err
        | _ => .err
      | some (.slice e), some .string, .sl id off len _ =>
        match P.underlying e, s.heap[id]? with
        | some (.int .u8), some (.row _ cells) =>
          if off + len ≤ cells.length then
            match toBytes ((cells.drop off).take len) with
            | some b => .ok (.str b) s
            | none => .err
          else .err
        | _, _ => .err
      | _, _, _ => .err
    | .load t a => .ofOption (loadV P t (evalO env a) s) s
    | .store t a x => match storeV P t (evalO env a) (evalO env x) s with | some s' => .ok .any s' | none => .err
    | .makeMap _ none => .ok (.map s.heap.length) { s with heap := s.heap ++ [.mp []] }
    | .lookup t m k ok => .ofOption (lookupV P t (evalO env m) (evalO env k) ok s) s
    | .mapUpdate t m k x | .insert t m k x =>
      match updateV P t (evalO env m) (evalO env k) (evalO env x) s with | some s' => .ok .any s' | none => .err
    | .range t x => rangeV P t (evalO env x) s
    | .next it isString => nextV (evalO env it) isString s
    | .panic x => panicV (evalO env x) s
    | .call c =>
      match c.callee with
      | .builtin .append =>
        match c.args.toList, c.argTypes[0]?, c.argTypes[1]? with
        | [x, y], some t, some u => appendV P t u (evalO env x) (evalO env y) s
        | _, _, _ => .err
      | .builtin .len =>
        match c.args.toList, c.argTypes[0]? with
        | [x], some t => lenMapV P t (evalO env x) s
        | _, _ => .err
      | .value f => callFn X (evalO env f) (c.args.toList.map (evalO env)) s
      | _ => .err
    | op => evMore env op s

/-- An index or a bound that is given. -/
def intOf : V → Option Int
  | .int _ i => some i
  | _ => none

def optInt (d : Int) : Option V → Option Int
  | none => some d
  | some v => intOf v

/-- A partial operation that only reads values: a branch on its condition. -/
def need (c : Bool) (v : V) (s : St) : Out V := .br c (.ok v s) .err

/-- Elements of a list, seen as values of a kind. -/
def intAt (xs : List V) (j : Nat) : Int := match xs[j]? with | some (.int _ n) => n | _ => 0
def isIntAt (k : IntKind) (xs : List V) (j : Nat) : Bool := match xs[j]? with | some (.int k' _) => decide (k' = k) | _ => false
def strAt (xs : List V) (j : Nat) : List UInt8 := match xs[j]? with | some (.str l) => l | _ => []
def isStrAt (xs : List V) (j : Nat) : Bool := match xs[j]? with | some (.str _) => true | _ => false

/-- Lists of bytes, seen as bytes. -/
def isByteB : V → Bool
  | .int .u8 _ => true
  | _ => false
def byteOf : V → UInt8
  | .int _ n => UInt8.ofNat n.toNat
  | _ => 0

/-- Reads of memory at places that are not known in full: the condition, and the value. -/
def symRead (P : Program) (env : Env) (op : Op) (s : St) : Option (Bool × V) :=
  match op with
  | .indexAddr t x ix =>
    match P.underlying t, evalO env x, evalO env ix with
    | some (.slice e), .sl id off len _, .int _ i =>
      match kindT P e with
      | some (_, z) => some (decide (0 ≤ i ∧ i < (len : Int)), .ptr id (off + i.toNat * z))
      | none => none
    | _, _, _ => none
  | .load t a =>
    match evalO env a with
    | .ptr id off =>
      match s.heap[id]? with
      | some (.row _ cells) =>
        match kindT P t, P.underlying t with
        | some (false, _), some (.int k) => some (isIntAt k cells off, .int k (intAt cells off))
        | some (false, _), some .string => some (isStrAt cells off, .str (strAt cells off))
        | _, _ => none
      | _ => none
    | _ => none
  | .convert src dst x =>
    match P.underlying src, P.underlying dst, evalO env x with
    | some (.slice e), some .string, .sl id off len _ =>
      match P.underlying e, s.heap[id]? with
      | some (.int .u8), some (.row _ cells) => some (decide (off + len ≤ cells.length) && ((cells.drop off).take len).all isByteB, .str (((cells.drop off).take len).map byteOf))
      | _, _ => none
    | _, _, _ => none
  | _ => none

/-- What is stored where a cell is not known in full: the condition, and the state. -/
def symStore (P : Program) (env : Env) (op : Op) (s : St) : Option (Bool × St) :=
  match op with
  | .store t a x =>
    match evalO env a, evalO env x with
    | .ptr id off, .int k n =>
      match s.heap[id]? with
      | some (.row u cells) =>
        if (kindT P t).map (·.2) = some 1 then some (decide (off + 1 ≤ cells.length), { s with heap := s.heap.set id (.row u (cells.set off (.int k n))) }) else none
      | _ => none
    | .ptr id off, .str l =>
      match s.heap[id]? with
      | some (.row u cells) =>
        if (kindT P t).map (·.2) = some 1 then some (decide (off + 1 ≤ cells.length), { s with heap := s.heap.set id (.row u (cells.set off (.str l))) }) else none
      | _ => none
    | _, _ => none
  | _ => none

/-- Where tests give branches, so do the conditions of partial operations. -/
def evSym (P : Program) (env : Env) (op : Op) (s : St) : Option (Out V) :=
  match op with
  | .slice t x lo hi none =>
    match P.underlying t, evalO env x with
    | some .string, .str l =>
      match optInt 0 (lo.map (evalO env)), optInt l.length (hi.map (evalO env)) with
      | some a, some b => some (need (decide (0 ≤ a ∧ a ≤ b ∧ b ≤ l.length)) (.str ((l.drop a.toNat).take (b.toNat - a.toNat))) s)
      | _, _ => none
    | _, _ => none
  | .index t x ix =>
    match P.underlying t, evalO env x, evalO env ix with
    | some .string, .str l, .int _ i => some (need (decide (0 ≤ i ∧ i < l.length)) (.int .u8 (l.getD i.toNat 0).toNat) s)
    | _, _, _ => none
  | .binOp .add _ x y _ =>
    match evalO env x, evalO env y with
    | .str a, .str b => some (need (decide (a.length + b.length ≤ 9223372036854775807)) (.str (a ++ b)) s)
    | _, _ => none
  | .indexAddr t x ix =>
    match P.underlying t, evalO env x, evalO env ix with
    | some (.slice e), .lst _ xs, .int _ i =>
      match P.underlying e with
      | some (.int k) => if sizedB P e (.int k 0) then some (need (decide (0 ≤ i) && isIntAt k xs i.toNat) (.eptr (.int k (intAt xs i.toNat))) s) else none
      | some .string => if sizedB P e (.str []) then some (need (decide (0 ≤ i) && isStrAt xs i.toNat) (.eptr (.str (strAt xs i.toNat))) s) else none
      | _ => none
    | _, _, _ => none
  | .binOp .quo _ x y _ =>
    match evalO env x, evalO env y with
    | .int k a, .int k' b => if k = k' then some (need (decide (b ≠ 0)) (.int k (k.wrap (a.tdiv b))) s) else none
    | _, _ => none
  | .binOp .rem _ x y _ =>
    match evalO env x, evalO env y with
    | .int k a, .int k' b => if k = k' then some (need (decide (b ≠ 0)) (.int k (a.tmod b)) s) else none
    | _, _ => none
  | _ => none

/-- Look a key up, each comparison being a branch. -/
def symLook (d : TypeDesc) (k : V) (f : Option V → Out V) : List (V × V) → Option (Out V)
  | [] => some (f none)
  | (k', v) :: r =>
    match sameV d k k' with
    | some b => (symLook d k f r).map fun o => .br b (f (some v)) o
    | none => none

def symAppend (P : Program) (t u : TypeId) (x y : V) (s : St) : Option (Out V) :=
  match P.underlying t with
  | some (.slice e) =>
    match kindT P e, x, (match y with | .lst _ ys => some ys | .str b => some (b.map fun c : UInt8 => V.int .u8 c.toNat) | _ => none) with
    | some (_, z), .lst o xs, some ys =>
      if sliceyB P u = true ∧ (zeroT P e).map (fun c : V => c.cells.length) = some z then
        some (.br ys.isEmpty (.br (roomB P e (xs.length + ys.length)) (.ok (.lst o xs) s) .err)
          (match o with
            | .exact => .br (roomB P e (xs.length + ys.length) && ys.all (sizedB P e) && xs.all (sizedB P e))
                (.ok (.lst (.live s.live.length) (xs ++ ys)) { s with live := s.live ++ [(xs.length + ys.length, z)] }) .err
            | .live i => .br (roomB P e (xs.length + ys.length) && ys.all (sizedB P e) && decide (s.live[i]? = some (xs.length, z)))
                (.ok (.lst (.live i) (xs ++ ys)) { s with live := s.live.set i (xs.length + ys.length, z) }) .err
            | .sealed => .err))
      else none
    | _, _, _ => none
  | _ => none

def evSym2 (P : Program) (hp : Bool) (env : Env) (op : Op) (s : St) : Option (Out V) :=
  match op with
  | .slice t x lo hi none =>
    match P.underlying t, evalO env x with
    | some (.slice e), .lst o xs =>
      match kindT P e, optInt 0 (lo.map (evalO env)), optInt xs.length (hi.map (evalO env)) with
      | some _, some a, some b => some (.br (decide (0 ≤ a ∧ a ≤ b ∧ b ≤ xs.length) && xs.all (sizedB P e)) (.ok (.lst .sealed ((xs.drop a.toNat).take (b.toNat - a.toNat))) s) .err)
      | _, _, _ => none
    | _, _ => none
  | .convert src dst x =>
    match P.underlying src, P.underlying dst, evalO env x with
    | some .string, some (.slice e), .str b =>
      match P.underlying e with
      | some (.int .u8) =>
        if hp then some (.br (decide (b.length ≤ 1099511627776)) (.ok (.sl s.heap.length 0 b.length b.length) { s with heap := s.heap ++ [.row e (b.map fun c => .int .u8 c.toNat)] }) .err) else
        some (.br (decide (b.length ≤ 1099511627776)) (.ok (.lst (.live s.live.length) (b.map fun c => .int .u8 c.toNat)) { s with live := s.live ++ [(b.length, 1)] }) .err)
      | _ => none
    | some (.slice e), some .string, .lst _ xs =>
      match P.underlying e with
      | some (.int .u8) => some (.br (xs.all isByteB) (.ok (.str (xs.map byteOf)) s) .err)
      | _ => none
    | _, _, _ => none
  | .lookup t m k ok =>
    match P.underlying t with
    | some (.map kt et) =>
      match P.underlying kt, entriesV (evalO env m) s, zeroT P et with
      | some d, some es, some z =>
        if keyB d (evalO env k) then
          symLook d (evalO env k) (fun r => match r with
            | some v => .ok (if ok then .tup [v, .bool true] else v) s
            | none => .ok (if ok then .tup [z, .bool false] else z) s) es
        else none
      | _, _, _ => none
    | _ => none
  | .next it true =>
    match evalO env it with
    | .ptr id 0 =>
      match s.heap[id]? with
      | some (.sit b pos) =>
        some (.br (decide (pos < b.length)) (.ok (.tup [.bool true, .int .i64 pos, .int .i32 (Utf8.decode ⟨b.toArray⟩ pos).1]) { s with heap := s.heap.set id (.sit b (pos + (Utf8.decode ⟨b.toArray⟩ pos).2)) })
          (.ok (.tup [.bool false]) s))
      | _ => none
    | _ => none
  | .call c =>
    match c.callee with
    | .builtin .append =>
      match c.args.toList, c.argTypes[0]?, c.argTypes[1]? with
      | [x, y], some t, some u => symAppend P t u (evalO env x) (evalO env y) s
      | _, _, _ => none
    | _ => none
  | _ => none

def evOp (X : Ctx) (region place : Nat) (env : Env) (op : Op) (s : St) : Out V :=
  if X.cfg.sym X.self then
    match (if X.cfg.mem X.self then symRead X.P env op s else none) with
    | some (c, v) => .br c (.ok v s) .err
    | none =>
      match (if X.cfg.mem X.self then symStore X.P env op s else none) with
      | some (c, s') => .br c (.ok .any s') .err
      | none =>
        match evSym X.P env op s with
        | some r => r
        | none =>
          match evSym2 X.P (X.cfg.heapy X.self region place) env op s with
          | some r => r
          | none => evOp0 X region place env op s
  else evOp0 X region place env op s

/-! ### code -/

def wantedE (env : Env) (ops : Array Oper) (o : Oper) : Option Bool :=
  match o.guard with
  | none => some true
  | some (j, want) =>
    match (ops[j]?).bind (·.dst) with
    | some d => match env[d]? with | some (.bool b) => some (cond want b (!b)) | some (.tup []) => some false | _ => none
    | none => none

/-- What a guard has come to is known behind a branch. -/
def knowG (env : Env) (ops : Array Oper) (o : Oper) (t : Bool) : Env :=
  match o.guard with
  | some (j, want) =>
    match (ops[j]?).bind (·.dst) with
    | some d => match env[d]? with | some (.bool _) => env.set d (.bool (t == want)) | _ => env
    | none => env
  | none => env

def knowC (env : Env) (c : Operand) (t : Bool) : Env :=
  match c with
  | .tmp d => env.set d (.bool t)
  | _ => env

def clear (env : Env) : List Nat → Env
  | [] => env
  | d :: r => clear (env.set d .any) r

/-- The slot of a guard that is not decided here, and what it holds. -/
def undecided (env : Env) (ops : Array Oper) (known : List Nat) (o : Oper) : Option (Nat × Bool) :=
  match o.guard with
  | none => none
  | some (j, _) =>
    match (ops[j]?).bind (·.dst) with
    | some d => if known.contains d then none else match env[d]? with | some (.bool b) => some (d, b) | _ => none
    | none => none

/-- Operations that can be carried out aside. -/
def asideB : Op → Bool
  | .move _ | .assign _ | .pick _ _ _ | .unOp _ _ _ | .extract _ _ | .field _ _ _ | .makeInterface _ _ => true
  | .binOp op _ _ _ _ => match op with | .quo | .rem | .shl | .shr => false | _ => true
  | .call c => match c.callee with | .builtin .len => true | .builtin .min => true | .builtin .max => true | .value (.func _) => true | _ => false
  | _ => false

def quietV (X : Ctx) (env : Env) (op : Op) : Option V :=
  if asideB op then
    match op with
    | .binOp .add _ x _ _ => match evalO env x with | .int _ _ => evPure X.P (evalO env) op | _ => none
    | .call c =>
      match c.callee with
      | .value (.func f) => if X.cfg.shut f then none else match X.cfg.quiet f with | some h => h (c.args.toList.map (evalO env)) | none => none
      | _ => evPure X.P (evalO env) op
    | op => evPure X.P (evalO env) op
  else none

def isPick (d : Nat) (o : Oper) : Bool := match o.op with | .pick (.tmp c) _ _ => Nat.beq c d | _ => false

/-- How many operations lie up to the pick by a slot, and where that puts its value. -/
def blockOf (d : Nat) : List Oper → Option (Nat × Nat)
  | [] => none
  | o :: r => if isPick d o then o.dst.map fun p => (1, p) else (blockOf d r).map fun q => (q.1 + 1, q.2)

def dstsOf : List Oper → List Nat
  | [] => []
  | o :: r => match o.dst with | some d => d :: dstsOf r | none => dstsOf r

def mergeV (t : Bool) (a b : V) : Option V :=
  match a, b with
  | .bool p, .bool q => some (.bool (cond t p q))
  | .int k p, .int k' q => if k = k' then some (.int k (cond t p q)) else none
  | _, _ => none

/-- Operations that only make values, both ways of a guard being carried out and joined. -/
def evQ (X : Ctx) (ops : Array Oper) : Nat → List Oper → List Nat → Env → Option Env
  | 0, _, _, _ => none
  | _ + 1, [], _, env => some env
  | n + 1, o :: rest, known, env =>
    match wantedE env ops o with
    | none => none
    | some t =>
      match undecided env ops known o with
      | none =>
        match t with
        | true => match quietV X env o.op with | some v => evQ X ops n rest known (putE env o.dst v) | none => none
        | false => evQ X ops n rest known (putE env o.dst (.tup []))
      | some (d, b) =>
        match blockOf d (o :: rest) with
        | none => none
        | some (k, p) =>
          match evQ X ops n ((o :: rest).take k) (d :: known) (env.set d (.bool true)), evQ X ops n ((o :: rest).take k) (d :: known) (env.set d (.bool false)) with
          | some eA, some eB =>
            match mergeV b (eA.getD p .any) (eB.getD p .any) with
            | some v => evQ X ops n ((o :: rest).drop k) known ((clear env (dstsOf ((o :: rest).take k))).set p v)
            | none => none
          | _, _ => none

/-- One block. -/
def blockQ (X : Ctx) (ops : Array Oper) (l : List Oper) (known : List Nat) (env : Env) (d : Nat) (b : Bool) : Option (Nat × Env) :=
  match blockOf d l with
  | none => none
  | some (k, p) =>
    match evQ X ops (l.length + l.length) (l.take k) (d :: known) (env.set d (.bool true)), evQ X ops (l.length + l.length) (l.take k) (d :: known) (env.set d (.bool false)) with
    | some eA, some eB =>
      match mergeV b (eA.getD p .any) (eB.getD p .any) with
      | some v => some (k, (clear env (dstsOf (l.take k))).set p v)
      | none => none
    | _, _ => none

def evOps (X : Ctx) (region : Nat) (ops : Array Oper) : List Oper → Nat → List Nat → Nat → Env → St → Out Env
  | [], _, _, _, env, s => .ok env s
  | _ :: rest, skip + 1, known, i, env, s => evOps X region ops rest skip known (i + 1) env s
  | o :: rest, 0, known, i, env, s =>
    match wantedE env ops o with
    | none => .err
    | some t =>
      match (if X.cfg.sym X.self then undecided env ops known o else none) with
      | none =>
        match t with
        | true => (evOp X region i env o.op s).bind fun v s => evOps X region ops rest 0 known (i + 1) (putE env o.dst v) s
        | false => evOps X region ops rest 0 known (i + 1) (putE env o.dst (.tup [])) s
      | some (d, b) =>
        match blockQ X ops (o :: rest) known env d b with
        | some (k + 1, env') => evOps X region ops rest k known (i + 1) env' s
        | _ =>
          .br t ((evOp X region i (knowG env ops o true) o.op s).bind fun v s => evOps X region ops rest 0 (d :: known) (i + 1) (putE (knowG env ops o true) o.dst v) s)
            (evOps X region ops rest 0 (d :: known) (i + 1) (putE (knowG env ops o false) o.dst (.tup [])) s)

/-- A region that draws its order, in one of its orders. -/
def evSched (X : Ctx) (region : Nat) (ops : Array Oper) : List (Nat × Nat) → Env → St → Out Env
  | [], env, s => .ok env s
  | (i, m) :: rest, env, s =>
    match ops[i]? with
    | none => .err
    | some o =>
      match wantedE env ops o with
      | none => .err
      | some false => evSched X region ops rest (putE env o.dst (.tup [])) s
      | some true =>
        match m with
        | 0 => match evPure X.P (evalO env) o.op with | some v => evSched X region ops rest (putE env o.dst v) s | none => .err
        | 1 =>
          match (if X.cfg.mem X.self then symRead X.P env o.op s else none) with
          | some (c, v) => .br c (evSched X region ops rest (putE env o.dst v) s) .err
          | none => match evOp0 X region i env o.op s with | .ok v _ => evSched X region ops rest (putE env o.dst v) s | _ => .err
        | _ =>
          match (if X.cfg.mem X.self then symRead X.P env o.op s else none) with
          | some (c, v) => .br c (evSched X region ops rest (putE env o.dst v) s) .err
          | none =>
            match (if X.cfg.mem X.self then symStore X.P env o.op s else none) with
            | some (c, s') => .br c (evSched X region ops rest (putE env o.dst .any) s') .err
            | none => (evOp0 X region i env o.op s).bind fun v s => evSched X region ops rest (putE env o.dst v) s

def firstRegion : Code → Nat
  | .region id _ _ => id
  | .seq a b => match a with | .skip => firstRegion b | .label _ => firstRegion b | a => firstRegion a
  | .block _ c | .loop c | .scope c => firstRegion c
  | _ => 0

/-- Behind a change of the marks no panic is followed. -/
def Out.calm {α : Type} (ms ms' : List Nat) (x : Out α) : Out α := if ms' = ms then x else x.noPan

def loopN (body : Env → List Nat → St → Out (Ex × Env × List Nat)) (dead : List Nat) : Nat → Env → List Nat → St → Out (Ex × Env × List Nat)
  | 0, _, _, _ => .err
  | n + 1, env, ms, s => (body (clear env dead) ms s).bind fun r s =>
    match r.1 with
    | .norm => (loopN body dead n r.2.1 r.2.2 s).calm ms r.2.2
    | e => .ok (e, r.2) s

mutual
/-- A value looks at the first n rows of the heap alone. -/
def refsV (n : Nat) : V → Bool
  | .any | .bool _ | .int _ _ | .str _ | .nilp | .nilf | .nilm | .nili => true
  | .ptr id _ | .sl id _ _ _ | .map id | .yield id => Nat.blt id n
  | .eptr x => refsV n x
  | .lst _ xs => refsL n xs
  | .fn _ a b => refsL n a && refsL n b
  | .iface _ v => refsV n v
  | .agg cs => refsL n cs
  | .tup vs => refsL n vs
def refsL (n : Nat) : List V → Bool
  | [] => true
  | x :: r => refsV n x && refsL n r
end

def refsM (n : Nat) : List (V × V) → Bool
  | [] => true
  | p :: r => refsV n p.1 && refsV n p.2 && refsM n r

def refsBlk (n : Nat) : Blk → Bool
  | .row _ cells => refsL n cells
  | .lp _ _ _ env _ _ _ => refsL n env
  | .df _ => true
  | .mp es => refsM n es
  | .sit _ _ => true
  | .mit m _ _ _ => Nat.blt m n

def refsH (n : Nat) : List Blk → Bool
  | [] => true
  | k :: r => refsBlk n k && refsH n r

def St.cut (n : Nat) (s : St) : St := { s with heap := s.heap.take n }

/-- A loop whose rounds leave no rows behind. -/
def loopC (body : Env → List Nat → St → Out (Ex × Env × List Nat)) (dead : List Nat) : Nat → Env → St → Out (Ex × Env × List Nat)
  | 0, _, _ => .err
  | n + 1, env, s => (body (clear env dead) [] s).bind fun r s' =>
    match r.1 with
    | .norm => .br (refsL s.heap.length (clear r.2.1 dead) && refsH s.heap.length (s'.heap.take s.heap.length) && r.2.2.isEmpty) (loopC body dead n (clear r.2.1 dead) (s'.cut s.heap.length)) .err
    | e => .ok (e, r.2) s'

/-- The rounds that a loop may have. -/
def LF : Nat := 4611686018427387904

def evCode (X : Ctx) : Code → Env → List Nat → St → Out (Ex × Env × List Nat)
  | .skip, env, ms, s => .ok (.norm, env, ms) s
  | .label _, env, ms, s => .ok (.norm, env, ms) s
  | .region id ops false, env, ms, s => (evOps X id ops ops.toList 0 [] 0 env s).bind fun env s => .ok (.norm, env, ms) s
  | .region id ops true, env, ms, s =>
    match X.cfg.rest X.self id with
    | some l => (evSched X id ops l env s).bind fun env s => .ok (.norm, env, ms) s
    | none => .err
  | .seq a b, env, ms, s => (evCode X a env ms s).bind fun r s => match r.1 with | .norm => (evCode X b r.2.1 r.2.2 s).calm ms r.2.2 | e => .ok (e, r.2) s
  | .cond c a b, env, ms, s => match evalO env c with | .bool t => if X.cfg.sym X.self then .br t (evCode X a (knowC env c true) ms s) (evCode X b (knowC env c false) ms s) else if t then evCode X a env ms s else evCode X b env ms s | _ => .err
  | .block id c, env, ms, s => (evCode X c env ms s).bind fun r s =>
    match r.1 with
    | .exit i => if i = id then .ok (.norm, r.2) s else .ok (.exit i, r.2) s
    | e => .ok (e, r.2) s
  | .exit id, env, ms, s => .ok (.exit id, env, ms) s
  | .ret, env, ms, s => .ok (.ret, env, ms) s
  | .loop c, env, ms, s =>
    if X.round then loopN (evCode X c) (X.cfg.dead X.self (firstRegion c)) LF env ms s else
    match X.cfg.loop X.self (firstRegion c) with
    | some h => h X.depth env ms s
    | none => loopN (evCode X c) (X.cfg.dead X.self (firstRegion c)) LF env ms s
  | .rangeFunc f ps asg body, env, ms, s =>
    if X.round then .err else
    match evalO env f with
    | .fn (.func fid) first captured =>
      (callV X fid (first ++ [.yield (s.heap.length + 1)] ++ captured) { s with heap := s.heap ++ [.df true] ++ [.lp .ready none X.self env ps.toList asg body] }).noPan.bind fun _ s2 =>
        match s2.heap[s.heap.length + 1]? with
        | some (.lp st pend fn' env' ps' asg' body') =>
          if st = .busy then .err else
          .ok (pend.getD .norm, env, s.heap.length :: ms) { s2 with heap := s2.heap.set (s.heap.length + 1) (.lp .exhausted pend fn' env' ps' asg' body') }
        | _ => .err
    | _ => .err
  | _, _, _, _ => .err

def loopsOf : Code → List Code
  | .loop c => c :: loopsOf c
  | .seq a b | .cond _ a b => loopsOf a ++ loopsOf b
  | .block _ c => loopsOf c
  | _ => []

/-- The marks are come to. -/
def unmark : List Nat → St → Option St
  | [], s => some s
  | id :: r, s =>
    match s.heap[id]? with
    | some (.df true) => unmark r { s with heap := s.heap.set id (.df false) }
    | _ => none

def resV (P : Program) (env : Env) (s : St) : List ResultVar → Option (List V)
  | [] => some []
  | .tmp t :: r => (resV P env s r).map (env.getD t .any :: ·)
  | .cell a t :: r => match loadV P t (env.getD a .any) s with | some v => (resV P env s r).map (v :: ·) | none => none

def tupV : List V → V
  | [v] => v
  | vs => .tup vs

structure Two where
  call : FuncId → List V → St → Out V
  run : FuncId → Code → Env → St → Out (Ex × Env × List Nat)

def evTwo (P : Program) (cfg : Cfg) : Nat → Two
  | 0 => { call := fun _ _ _ => .err, run := fun _ _ _ _ => .err }
  | k + 1 =>
    { call := fun f args s =>
        match P.funcs[f]? with
        | none => .err
        | some fn =>
          match fn.body with
          | none => .err
          | some c =>
            (evCode { P, cfg, self := f, call := (evTwo P cfg k).call, run := (evTwo P cfg k).run, round := false, depth := k } c (args ++ List.replicate (fn.ntmps - args.length) .any) [] s).bind fun r s =>
              match r.1 with
              | .norm | .ret =>
                match unmark r.2.2 s with
                | some s => match resV P r.2.1 s fn.results.toList with | some vs => .ok (tupV vs) s | none => .err
                | none => .err
              | _ => .err,
      run := fun f c env s => evCode { P, cfg, self := f, call := (evTwo P cfg k).call, run := (evTwo P cfg k).run, round := true, depth := k } c env [] s }

def evFn (P : Program) (cfg : Cfg) (k : Nat) : FuncId → List V → St → Out V := (evTwo P cfg k).call

end Go.Ev
