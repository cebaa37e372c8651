/- The operations of the model with their types resolved. -/
import Derived.Test.YtfcpgeanbklleaaGreatDoorCore
set_option linter.unusedSectionVars false
set_option linter.unusedSimpArgs false
set_option linter.unusedVariables false
namespace Ab
open Go

def Jump.code : Jump → Code
  | .exit id => .exit id
  | .ret => .ret

def info (P : Program) (t : TypeId) : Option TypeInfo := P.info? t

def isAggB (P : Program) (t : TypeId) : Bool :=
  match P.underlying t with
  | some (.struct _) | some (.array _ _) => true
  | _ => false

/-- How a variable of a type is read: its cells together, or its one cell. -/
def aggOf (P : Program) (t : TypeId) : Option (Option Nat) :=
  match P.info? t, P.underlying t with
  | some i, some d => some (match d with | .struct _ | .array _ _ => some i.size | _ => none)
  | _, _ => none

def isScalarCell : Value → Bool
  | .bool _ | .int _ _ | .string _ | .pointer none | .slice none 0 0 | .map none | .nilFunc | .nilIface => true
  | _ => false

/-- The cells of a type's zero value, if they name no block. -/
def zeroOf (P : Program) (t : TypeId) : Option (List Value) :=
  match P.info? t with
  | some i => match i.zero with
    | some z => if (cellsOf z).all isScalarCell && decide ((cellsOf z).length = i.size) then some (cellsOf z) else none
    | none => none
  | none => none

/-- A constant that names no block. -/
def okConst : Value → Bool
  | .agg cs => cs.toList.all isScalarCell
  | .tuple cs => cs.toList.isEmpty
  | v => isScalarCell v

/-- A type's zero value, if it names no block. -/
def zeroVal (P : Program) (t : TypeId) : Option Value :=
  match P.info? t with
  | some i => match i.zero with
    | some z => if okConst z then some z else none
    | none => none
  | none => none

/-- What '==' compares, cell by cell, of a type of one cell: true: a number, false: a truth value. -/
def kindOf (P : Program) (t : TypeId) : Option Bool :=
  match P.underlying t, P.info? t with
  | some (.int _), some i => if i.size = 1 then some true else none
  | some .bool, some i => if i.size = 1 then some false else none
  | _, _ => none

/-- The kinds of fields that lie one behind the other. -/
def flatFields (P : Program) : List Field → Nat → Option (List Bool)
  | [], _ => some []
  | f :: fs, n => if f.offset = n ∧ f.name ≠ "_" then match kindOf P f.type, flatFields P fs (n + 1) with
    | some k, some ks => some (k :: ks)
    | _, _ => none
    else none

def flat (P : Program) (t : TypeId) : Option (List Bool) :=
  match P.underlying t with
  | some (.struct fs) => if P.stoodInHeld t || P.eqGuardType P.depth t then none else flatFields P fs.toList 0
  | some (.array n e) => if P.eqGuardType P.depth t then none else (kindOf P e).map fun k => List.replicate n k
  | _ => none

def keyOk (P : Program) (k : TypeId) : Option KK :=
  match P.underlying k with
  | some (.int _) => some .int
  | some .string => some .str
  | some .bool => some .bool
  | some (.struct _) | some (.array _ _) => (flat P k).map .flat
  | _ => none

def okOperand (ng : Nat) : Operand → Bool
  | .const v => okConst v
  | .global g => decide (g < ng)
  | _ => true

def placesA (P : Program) (fs : List Field) : Option (List (Nat × Nat)) :=
  fs.mapM fun f => (P.info? f.type).map fun i => (f.offset, i.size)

def cOp (P : Program) (o : Op) (_t : TypeId) : Option AOp :=
  match o with
  | .move x | .assign x => some (.move x)
  | .pick c a b => some (.pick c a b)
  | .alloc t => (zeroOf P t).map fun z => .zero z t
  | .box t v => some (.box v t)
  | .build t parts =>
    match zeroOf P t, P.underlying t with
    | some z, some (.struct fs) => match placesA P fs.toList, parts.toList.mapM (fun (i, x) => (P.info? ((fs.getD i default).type)).bind fun inf => if i < fs.size then some ((fs.getD i default).offset, inf.size, x) else none) with
      | some _, some ps => some (.build z ps)
      | _, _ => none
    | some z, some (.array _ e) => (P.info? e).map fun i => .build z (parts.toList.map fun (k, x) => (k * i.size, i.size, x))
    | _, _ => none
  | .buildSlice t n parts =>
    match P.underlying t with
    | some (.slice e) => match P.info? e, zeroOf P e with
      | some i, some z => if n * i.size ≤ 65536 ∧ n ≤ 65536 then some (.buildSlice n i.size z (parts.toList.map fun (k, x) => (k * i.size, i.size, x)) e) else none
      | _, _ => none
    | _ => none
  | .load t a => (aggOf P t).map fun g => .load g a
  | .store t a v => (P.info? t).map fun i => .store i.size a v
  | .nilCheck x => some (.nilCheck x)
  | .binOp op t x y _ =>
    match P.underlying t with
    | some (.int _) | some .string => some (.bin op x y)
    | some .bool => match op with
      | .eql => some (.eqBool false x y)
      | .neq => some (.eqBool true x y)
      | _ => none
    | some (.slice _) => match op with
      | .eql => some (.eqNil false false x y)
      | .neq => some (.eqNil true false x y)
      | _ => none
    | some (.map _ _) => match op with
      | .eql => some (.eqNil false true x y)
      | .neq => some (.eqNil true true x y)
      | _ => none
    | some (.struct _) | some (.array _ _) => match flat P t with
      | some ks => match op with
        | .eql => some (.eqFlat false ks x y)
        | .neq => some (.eqFlat true ks x y)
        | _ => none
      | none => none
    | _ => none
  | .unOp op _ x => some (.un op x)
  | .convert s d x => match P.underlying s, P.underlying d with
    | some (.int _), some (.int k) => some (.conv k x)
    | _, _ => none
  | .makeFunc (.func f) first captured => some (.mkFunc f first.toList captured.toList)
  | .makeMap t none => match P.underlying t with
    | some (.map _ _) => some .makeMap
    | _ => none
  | .makeSlice t l c => match P.underlying t with
    | some (.slice e) => match P.info? e, zeroOf P e with
      | some i, some z => if i.size ≠ 0 then some (.makeSlice i.size i.bytes z l c e) else none
      | _, _ => none
    | _ => none
  | .slice t x lo hi mx => match P.underlying t with
    | some (.slice e) => (P.info? e).map fun i => .slice i.size x lo hi mx
    | some .string => if mx.isSome = true then none else some (.sliceStr x lo hi)
    | some (.array n e) => if mx.isSome = true ∨ 65536 < n then none else (P.info? e).map fun i => .sliceArr n i.size x lo hi
    | some (.pointer arr) => match P.underlying arr with
      | some (.array n e) => if mx.isSome = true ∨ 65536 < n then none else (P.info? e).map fun i => .sliceArr n i.size x lo hi
      | _ => none
    | _ => none
  | .fieldAddr s x f => match P.underlying s with
    | some (.struct fs) => (fs[f]?).bind fun fd => (P.info? fd.type).bind fun i => if i.size = 0 then none else some (.fieldAddr fd.offset x)
    | _ => none
  | .field s x f => match P.underlying s with
    | some (.struct fs) => (fs[f]?).bind fun fd => match P.info? fd.type, P.underlying fd.type with
      | some i, some _ => some (.field fd.offset i.size (isAggB P fd.type) x)
      | _, _ => none
    | _ => none
  | .indexAddr t x i => match P.underlying t with
    | some (.array n e) => (P.info? e).map fun inf => .indexAddr (some n) inf.size x i
    | some (.slice e) => (P.info? e).map fun inf => .indexAddr none inf.size x i
    | _ => none
  | .makeInterface t x => match P.underlying t with
    | some (.interface _) | none => none
    | _ => some (.mkIface t x)
  | .panic _ => some .stuck
  | .index t x i => match P.underlying t with
    | some .string => some (.strIndex x i)
    | some (.array n e) => match P.info? e, P.underlying e with
      | some inf, some _ => some (.index n inf.size (isAggB P e) x i)
      | _, _ => none
    | _ => none
  | .lookup t m k ok => match P.underlying t with
    | some (.map kt e) => match zeroVal P e, keyOk P kt with
      | some z, some kk => some (.lookup kk z ok m k)
      | _, _ => none
    | _ => none
  | .mapUpdate t m k v | .insert t m k v => match P.underlying t with
    | some (.map kt _) => (keyOk P kt).map fun kk => .mapUpdate kk m k v
    | _ => none
  | .range t m => match P.underlying t with
    | some (.map _ _) => some (.rangeMap m)
    | _ => none
  | .next it false => some (.next it)
  | .entry it => some (.entry it)
  | .extract x i => some (.extract x i)
  | .call c => match c.callee with
    | .value f => some (.call f c.args.toList)
    | .invoke _ _ => none
    | .builtin b => match b, c.args.toList, c.argTypes.toList with
      | .len, [x], [t] => match P.underlying t with
        | some .string => some (.len true x)
        | some (.slice _) => some (.len false x)
        | some (.array n _) => some (.lenArr n)
        | some (.pointer arr) => match P.underlying arr with
          | some (.array n _) => some (.lenArr n)
          | _ => none
        | some (.map _ _) => some (.lenMap x)
        | _ => none
      | .append, [s, x], [ts, tx] => match P.underlying ts with
        | some (.slice e) => match P.info? e, zeroOf P e, P.underlying tx with
          | some i, some z, some (.slice _) => some (.append i.size i.bytes z s x e)
          | some i, some z, some .string => some (.append i.size i.bytes z s x e)
          | _, _, _ => none
        | _ => none
      | .copy, [d, s], [td, _] => match P.underlying td with
        | some (.slice e) => (P.info? e).map fun i => .copy i.size d s
        | _ => none
      | .clear, [x], [t] => match P.underlying t with
        | some (.slice e) => match P.info? e, zeroOf P e with
          | some i, some z => some (.clear i.size z x)
          | _, _ => none
        | _ => none
      | .min, [x, y], _ => some (.minmax false x y)
      | .max, [x, y], _ => some (.minmax true x y)
      | _, _, _ => none
  | _ => none

/-! ### Regions -/

def AOp.operands : AOp → List Operand
  | .move x | .un _ x | .conv _ x | .fieldAddr _ x | .field _ _ _ x | .nilCheck x | .extract x _ | .len _ x | .load _ x | .lenMap x | .entry x | .box x _ | .rangeMap x | .clear _ _ x | .next x => [x]
  | .pick c a b => [c, a, b]
  | .bin _ x y | .eqBool _ x y | .eqFlat _ _ x y | .eqNil _ _ x y | .indexAddr _ _ x y | .index _ _ _ x y | .minmax _ x y | .lookup _ _ _ x y | .store _ x y | .append _ _ _ x y _ | .copy _ x y | .makeSlice _ _ _ x y _ => [x, y]
  | .mkFunc _ a c => a ++ c
  | .build _ ps | .buildSlice _ _ _ ps _ => ps.map (·.2.2)
  | .slice _ x l h m => x :: (l.toList ++ h.toList ++ m.toList)
  | .sliceStr x l h | .sliceArr _ _ x l h => x :: (l.toList ++ h.toList)
  | .lenArr _ | .zero _ _ | .makeMap => []
  | .mapUpdate _ m k v => [m, k, v]
  | .mkIface _ x => [x]
  | .strIndex x i => [x, i]
  | .stuck => []
  | .call f args => f :: args

def cGuard (ops : Array Oper) (g : Option (Nat × Bool)) : Option (Option (Tmp × Bool)) :=
  match g with
  | none => some none
  | some (j, b) => match (ops[j]?).bind (·.dst) with
    | some t => some (some (t, b))
    | none => none

def cOper (P : Program) (n : Nat) (ops : Array Oper) (i : Nat) : Option AOper :=
  match ops[i]? with
  | none => none
  | some o => match cOp P o.op o.type, cGuard ops o.guard with
    | some a, some g => if a.operands.all (okOperand P.globals.size) = true ∧ o.dst.all (fun t => decide (t < n)) = true then some { idx := i, dst := o.dst, op := a, guard := g, pend := [] } else none
    | _, _ => none

def cOpers (P : Program) (n : Nat) (ops : Array Oper) : List Nat → Option (List AOper)
  | [] => some []
  | i :: rest => match cOper P n ops i, cOpers P n ops rest with
    | some o, some os => some (o :: os)
    | _, _ => none

/-- The bits of all that goes ahead of an operation. -/
def maskOf (acc : List Nat) (es : List Edge) : Nat := es.foldl (fun s e => if Region.binds .any e then s ||| 2 ^ e.on ||| acc.getD e.on 0 else s) 0

/-- For each operation the bits of all that go ahead of it. -/
def masks (ops : List Oper) : List Nat := ops.foldl (fun acc o => acc ++ [maskOf acc o.after.toList]) []

def inMask (ms : List Nat) (i k : Nat) : Bool := (ms.getD i 0).testBit k

def isCls (c : Cls) : AOp → Bool := fun op => match c, op.cls with
  | .pure, .pure | .read, .read | .new, .new | .write, .write | .next, .next | .call, .call => true
  | _, _ => false

def opTmps (o : AOper) : List Tmp :=
  (o.op.operands.filterMap fun | .tmp t => some t | _ => none) ++ (match o.guard with | some (t, _) => [t] | none => [])

/-- May the operation float among the others: it reads memory or makes a block at most, and its slot is its own? -/
def floats (l : List AOper) (o : AOper) : Bool :=
  (isCls .pure o.op || isCls .read o.op || isCls .new o.op) && (match o.op with | .rangeMap _ | .entry _ => false | _ => true) &&
  match o.dst with
  | none => false
  | some t => !(opTmps o).contains t && l.all fun q => q.idx == o.idx || (q.dst != some t && (decide (o.idx < q.idx) || !(opTmps q).contains t))

/-- The operations in the order of the text, but each one that floats as soon as it may be. -/
def asap (ms : List Nat) (fl : Nat → Bool) : Nat → List Nat → List Nat → List Nat
  | 0, _, acc => acc.reverse
  | fuel + 1, left, acc =>
    match left with
    | [] => acc.reverse
    | i :: rest =>
      match left.find? (fun k => fl k && left.all fun m => m == k || !inMask ms k m) with
      | some k => asap ms fl fuel (left.filter (· != k)) (k :: acc)
      | none => asap ms fl fuel rest (i :: acc)

def pendOf (ms : List Nat) (fl : Nat → Bool) (before : List AOper) (o : AOper) : List Operand :=
  if fl o.idx then [] else
  before.filterMap fun p =>
    if fl p.idx && !inMask ms o.idx p.idx then
      if isCls .read p.op then p.op.operands.head?
      else if isCls .new p.op then p.dst.map .tmp
      else none
    else none

def withPend (ms : List Nat) (fl : Nat → Bool) : List AOper → List AOper → List AOper
  | _, [] => []
  | before, o :: rest => { o with pend := pendOf ms fl before o } :: withPend ms fl (before ++ [o]) rest

def sameOperand : Operand → Operand → Bool
  | .tmp a, .tmp b => a == b
  | .global a, .global b => a == b
  | _, _ => false

/-- An operation that may be carried out after others in the machine, but has been carried out before them here: what it reads, and where it writes. -/
def apartOps (p q : AOper) : Bool :=
  (match p.dst with | some t => !(opTmps q).contains t && q.dst != some t | none => true) &&
  (match q.dst with | some t => !(opTmps p).contains t | none => true)

def keptOps (p q : AOper) : Bool :=
  (!isCls .read p.op || (match p.op.operands.head? with
    | none => false
    | some (.const _) | some (.func _) => true
    | some x => q.pend.any (sameOperand x))) &&
  (!isCls .new p.op || (match p.dst with | none => false | some t => q.pend.any (sameOperand (.tmp t))))

/-- What is asked of two operations, the one ahead of the other. -/
def pairOk (ms : List Nat) (fl : Nat → Bool) (p q : AOper) : Bool :=
  !inMask ms p.idx q.idx && p.idx != q.idx && (fl p.idx || inMask ms q.idx p.idx) &&
  (!(fl p.idx) || inMask ms q.idx p.idx || (apartOps p q && (fl q.idx || keptOps p q))) &&
  (!(fl p.idx) || !(fl q.idx) || (match q.dst with | some t => !(opTmps p).contains t && p.dst != some t | none => true))

def pairsOk (ms : List Nat) (fl : Nat → Bool) : List AOper → Bool
  | [] => true
  | p :: rest => rest.all (pairOk ms fl p) && pairsOk ms fl rest

def edgesOk (ops : Array Oper) : Bool :=
  (List.range ops.size).all fun i => ((ops[i]?).map fun o => o.after.toList.all fun e => !Region.binds .any e || decide (e.on < i)).getD false

def flOf (l : List AOper) : Nat → Bool := fun i => l.any fun o => o.idx == i && floats l o

/-- What is asked of the order of a region that draws: see Draw. -/
def drawOk (ops : Array Oper) (l : List AOper) : Bool :=
  (List.range ops.size).all (fun i => l.any (·.idx == i)) && l.all (fun o => decide (o.idx < ops.size)) && pairsOk (masks ops.toList) (flOf l) l && edgesOk ops

def cDraw (P : Program) (n : Nat) (ops : Array Oper) : Option (List AOper) :=
  match cOpers P n ops (List.range ops.size) with
  | none => none
  | some l =>
    let ms := masks ops.toList
    let fl := flOf l
    match cOpers P n ops (asap ms fl (ops.size + 1) (List.range ops.size) []) with
    | none => none
    | some l' => let l'' := withPend ms fl [] l'; if drawOk ops l'' then some l'' else none

def cCode (P : Program) (n : Nat) : Code → Option ACode
  | .skip | .label _ => some .skip
  | .region _ ops draw => if draw then (cDraw P n ops).map .ops else (cOpers P n ops (List.range ops.size)).map .ops
  | .seq a b => match cCode P n a, cCode P n b with
    | some a, some b => some (.seq a b)
    | _, _ => none
  | .cond c a b => if okOperand P.globals.size c then match cCode P n a, cCode P n b with
    | some a, some b => some (.cond c a b)
    | _, _ => none
    else none
  | .block id c => (cCode P n c).map (.block id)
  | .loop c => (cCode P n c).map .loop
  | .rangeFunc f params assign body => if okOperand P.globals.size f then match cCode P n assign, cCode P n body with
    | some a, some b => some (.range f params.toList a b)
    | _, _ => none
    else none
  | .exit id => some (.jump (.exit id))
  | .ret => some (.jump .ret)
  | .scope c => (cCode P n c).map .scope
  | _ => none

def cRes (P : Program) : ResultVar → Option ARes
  | .tmp t => some (.tmp t)
  | .cell a t => (aggOf P t).map fun g => .cell g a

def cFunc (P : Program) (fn : Func) : Option AFunc :=
  match fn.body with
  | none => none
  | some b => match cCode P fn.ntmps b, fn.results.toList.mapM (cRes P) with
    | some c, some rs => if (fn.name == "runtime.NumGoroutine") = true ∨ fn.ntmps < fn.params.size + fn.nfree then none else some { ntmps := fn.ntmps, nargs := fn.params.size + fn.nfree, results := rs, body := c }
    | _, _ => none

end Ab
