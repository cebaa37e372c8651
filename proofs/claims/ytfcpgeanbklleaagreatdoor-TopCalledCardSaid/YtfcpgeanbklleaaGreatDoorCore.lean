/- An abstract machine for a cut Go program: values, a heap of blocks, operations with their types resolved, and a weakest precondition. It imports the model and states nothing of a particular program. -/
import GoSem.Step
import Derived.Calls
import Derived.Laws.Sem
import Derived.Laws.Cells
import Derived.Laws.CopyRow
import Derived.Laws.Entries
set_option linter.unusedSectionVars false
set_option linter.unusedSimpArgs false
set_option linter.unusedVariables false
namespace Ab
open Go

/-- Where an abstract block lies: the concrete block, its first cell, how many cells from there on belong to it, and the cells of one element. -/
structure Spot where
  blk : Nat
  sh : Nat
  cap : Nat
  esz : Nat

abbrev Inj := Nat → Option Spot

/-- The capacity of a slice whose capacity the program may not know. -/
def openCap : Nat := 18446744073709551616

def undef : Value := .tuple #[]

/-- What a map's keys are: numbers, texts, truth values, or values of cells (true: a number). -/
inductive KK where
  | int | str | bool
  | flat (ks : List Bool)
  deriving Inhabited

inductive AOp where
  | move (x : Operand)
  | pick (c a b : Operand)
  | bin (op : BinOp) (x y : Operand)
  | eqBool (neg : Bool) (x y : Operand)
  | eqFlat (neg : Bool) (ks : List Bool) (x y : Operand)
  | eqNil (neg isMap : Bool) (x y : Operand)
  | un (op : UnOp) (x : Operand)
  | conv (k : IntKind) (x : Operand)
  | mkFunc (f : FuncId) (first captured : List Operand)
  | build (zero : List Value) (parts : List (Nat × Nat × Operand))
  | fieldAddr (off : Nat) (x : Operand)
  | field (off size : Nat) (agg : Bool) (x : Operand)
  | indexAddr (arr : Option Nat) (esz : Nat) (x i : Operand)
  | index (len esz : Nat) (agg : Bool) (x i : Operand)
  | slice (esz : Nat) (x : Operand) (lo hi mx : Option Operand)
  | sliceStr (x : Operand) (lo hi : Option Operand)
  | sliceArr (len esz : Nat) (x : Operand) (lo hi : Option Operand)
  | nilCheck (x : Operand)
  | extract (x : Operand) (i : Nat)
  | len (isStr : Bool) (x : Operand)
  | lenArr (n : Nat)
  | minmax (isMax : Bool) (x y : Operand)
  | load (agg : Option Nat) (a : Operand)
  | lookup (kk : KK) (zero : Value) (ok : Bool) (m k : Operand)
  | lenMap (m : Operand)
  | entry (it : Operand)
  | box (v : Operand) (t : TypeId)
  | zero (cells : List Value) (t : TypeId)
  | buildSlice (len esz : Nat) (zero : List Value) (parts : List (Nat × Nat × Operand)) (t : TypeId)
  | makeSlice (esz bytes : Nat) (zero : List Value) (l c : Operand) (t : TypeId)
  | makeMap
  | rangeMap (m : Operand)
  | store (size : Nat) (a v : Operand)
  | append (esz bytes : Nat) (zero : List Value) (s x : Operand) (t : TypeId)
  | copy (esz : Nat) (d s : Operand)
  | clear (esz : Nat) (zero : List Value) (x : Operand)
  | mapUpdate (kk : KK) (m k v : Operand)
  | next (it : Operand)
  | call (f : Operand) (args : List Operand)
  | mkIface (t : TypeId) (x : Operand)
  | strIndex (x i : Operand)
  | stuck
  deriving Inhabited

structure AOper where
  idx : Nat
  dst : Option Tmp
  op : AOp
  guard : Option (Tmp × Bool)
  pend : List Operand
  deriving Inhabited

inductive Jump where
  | exit (id : Nat)
  | ret
  deriving DecidableEq, Inhabited

inductive ACode where
  | skip
  | ops (l : List AOper)
  | seq (a b : ACode)
  | cond (c : Operand) (a b : ACode)
  | block (id : Nat) (c : ACode)
  | loop (c : ACode)
  | range (f : Operand) (params : List Tmp) (assign body : ACode)
  | scope (c : ACode)
  | jump (j : Jump)
  deriving Inhabited

structure LoopRec where
  state : LoopState
  pending : Option Jump
  fn : FuncId
  tmps : List Value
  params : List Tmp
  assign : ACode
  body : ACode

inductive Blk where
  | cells (ro : Bool) (esz : Nat) (cs : List Value)
  | map (es : List MapEntry) (clock : Nat)
  | iter (m : Option Nat) (since : Nat) (seen : List Nat) (stepped : Nat)
  | loop (r : LoopRec)
  | dead

/-- Can the block be written? -/
def Blk.rw : Blk → Bool
  | .cells ro _ _ => !ro
  | .dead => false
  | _ => true

def Blk.alive : Blk → Bool
  | .dead => false
  | _ => true

structure Heap where
  get : Nat → Option Blk
  size : Nat

def Heap.push (H : Heap) (b : Blk) : Heap := ⟨fun i => if i = H.size then some b else H.get i, H.size + 1⟩
def Heap.set (H : Heap) (k : Nat) (b : Blk) : Heap := ⟨fun i => if i = k then some b else H.get i, H.size⟩

/-! ### Operands and temporaries -/

def ev (T : List Value) : Operand → Value
  | .tmp t => T.getD t undef
  | .const v => v
  | .global g => .pointer (some ⟨g, 0, none⟩)
  | .func f => .func (.func f) #[] #[]

def put (d : Option Tmp) (v : Value) (T : List Value) : List Value :=
  match d with
  | some t => T.set t v
  | none => T

def wantB (g : Option (Tmp × Bool)) (T : List Value) : Bool :=
  match g with
  | none => true
  | some (t, b) => match T.getD t undef with
    | .bool c => c == b
    | _ => false

/-! ### Pure operations -/

def inI (n : Int) : Prop := -9223372036854775808 ≤ n ∧ n ≤ 9223372036854775807
instance (n : Int) : Decidable (inI n) := inferInstanceAs (Decidable (_ ∧ _))

def chk (c : Prop) [Decidable c] (v : Value) : Option Value := if c then some v else none

/-- The sum, difference or product of two numbers of a kind; int64's must not wrap. -/
def arith (k : IntKind) (r : Int) : Option Value :=
  match k with
  | .i64 => chk (inI r) (.int .i64 r)
  | k => some (.int k (k.wrap r))

def bitsOp (op : BinOp) (k : IntKind) (x y : Int) : Option Value :=
  let a := BitVec.ofInt k.bits x
  let b := BitVec.ofInt k.bits y
  let back (r : BitVec k.bits) : Option Value := some (.int k (k.wrap r.toNat))
  match op with
  | .and => back (a &&& b)
  | .or => back (a ||| b)
  | .xor => back (a ^^^ b)
  | .andNot => back (a &&& ~~~b)
  | _ => none

def binInt (op : BinOp) (k : IntKind) (x y : Int) : Option Value :=
  match op with
  | .add => arith k (x + y)
  | .sub => arith k (x - y)
  | .mul => arith k (x * y)
  | .quo => match k with
    | .i64 => chk (y ≠ 0 ∧ inI (x.tdiv y)) (.int .i64 (x.tdiv y))
    | k => chk (y ≠ 0) (.int k (k.wrap (x.tdiv y)))
  | .rem => chk (y ≠ 0) (.int k (x.tmod y))
  | .eql => some (.bool (decide (x = y)))
  | .neq => some (.bool (decide (x ≠ y)))
  | .lss => some (.bool (decide (x < y)))
  | .leq => some (.bool (decide (x ≤ y)))
  | .gtr => some (.bool (decide (y < x)))
  | .geq => some (.bool (decide (y ≤ x)))
  | .and | .or | .xor | .andNot => bitsOp op k x y
  | _ => none

def shiftInt (op : BinOp) (k : IntKind) (x y : Int) : Option Value :=
  if y < 0 then none else
    match op with
    | .shl => some (.int k (k.wrap (x * 2 ^ (min y.toNat k.bits))))
    | .shr => some (.int k (x.fdiv (2 ^ (min y.toNat k.bits))))
    | _ => none

def binStr (op : BinOp) (x y : ByteArray) : Option Value :=
  match op with
  | .eql => some (.bool (x.toList == y.toList))
  | .neq => some (.bool (!(x.toList == y.toList)))
  | _ => none

def binV (op : BinOp) (x y : Value) : Option Value :=
  match x, y with
  | .int k a, .int k' b =>
    match op with
    | .shl => shiftInt .shl k a b
    | .shr => shiftInt .shr k a b
    | op => if k = k' then binInt op k a b else none
  | .string a, .string b => binStr op a b
  | _, _ => none

/-- Are two cells of a flat value equal? -/
def cellEq : Bool → Value → Value → Option Bool
  | true, .int k a, .int k' b => if k = k' then some (decide (a = b)) else none
  | false, .bool a, .bool b => some (a == b)
  | _, _, _ => none

def cellsEq : List Bool → List Value → List Value → Option Bool
  | [], [], [] => some true
  | k :: ks, a :: as, b :: bs => match cellEq k a b, cellsEq ks as bs with
    | some x, some y => some (x && y)
    | _, _ => none
  | _, _, _ => none

/-- A slice or a map against nil. -/
def eqNilV (isMap : Bool) (x y : Value) : Option Bool :=
  match isMap, x, y with
  | false, .slice none _ _, .slice b _ _ => some b.isNone
  | false, .slice _ _ _, .slice none _ _ => some false
  | true, .map none, .map b => some b.isNone
  | true, .map _, .map none => some false
  | _, _, _ => none

def flip (neg b : Bool) : Value := .bool (if neg then !b else b)

def unV (op : UnOp) (x : Value) : Option Value :=
  match op, x with
  | .neg, .int k n => arith k (0 - n)
  | .not, .bool b => some (.bool !b)
  | .xor, .int k n => bitsOp .xor k (if k.signed then -1 else k.max) n
  | _, _ => none

/-- Cells with a part laid over them from a place on. -/
def over (cs : List Value) (off : Nat) (p : List Value) : List Value :=
  match p with
  | [] => cs
  | v :: rest => over (cs.set off v) (off + 1) rest

def cellsOf : Value → List Value
  | .agg cs => cs.toList
  | v => [v]

def fillA (ρ : Operand → Value) (cells : List Value) : List (Nat × Nat × Operand) → Option (List Value)
  | [] => some cells
  | (off, size, x) :: rest =>
    let c := cellsOf (ρ x)
    if c.length = size ∧ off + size ≤ cells.length then fillA ρ (over cells off c) rest else none

def partV (agg : Bool) (off size : Nat) (cs : List Value) : Option Value :=
  if agg then some (.agg ⟨(cs.drop off).take size⟩) else cs[off]?

def idx (v : Value) : Option Int :=
  match v with
  | .int _ n => some n
  | _ => none

/-- The bounds of a slice expression: low, high. -/
def boundsA (len cap : Nat) (lo hi mx : Option Value) : Option (Nat × Nat × Nat) :=
  match lo.elim (some 0) idx, hi.elim (some (len : Int)) idx, mx.elim (some (cap : Int)) idx with
  | some l, some h, some m => if 0 ≤ l ∧ l ≤ h ∧ h ≤ m ∧ m ≤ cap ∧ (mx.isSome → hi.isSome) then some (l.toNat, h.toNat, m.toNat) else none
  | _, _, _ => none

def sliceStrV (x : Value) (lo hi : Option Value) : Option Value :=
  match x with
  | .string s =>
    match boundsA s.size s.size lo hi none with
    | some (l, h, _) => some (.string (s.extract l h))
    | none => none
  | _ => none

def sliceArrV (n esz : Nat) (x : Value) (lo hi : Option Value) : Option Value :=
  match x with
  | .pointer (some ⟨b, o, none⟩) =>
    match boundsA n n lo hi none with
    | some (l, h, m) => some (.slice (some ⟨b, if m = l then o else o + l * esz, none⟩) (h - l) (m - l))
    | none => none
  | _ => none

def lenV : Value → Option Nat
  | .slice _ n _ => some n
  | .string s => some s.size
  | _ => none

def oEv (ρ : Operand → Value) (x : Option Operand) : Option Value := x.map ρ

/-- An operation that reads no memory and makes none. -/
def pureOp (ρ : Operand → Value) : AOp → Option Value
  | .move x => some (ρ x)
  | .pick c a b => match ρ c with
    | .bool true => some (ρ a)
    | .bool false => some (ρ b)
    | _ => none
  | .bin op x y => binV op (ρ x) (ρ y)
  | .eqBool neg x y => match ρ x, ρ y with
    | .bool a, .bool b => some (flip neg (a == b))
    | _, _ => none
  | .eqFlat neg ks x y => match ρ x, ρ y with
    | .agg a, .agg b => (cellsEq ks a.toList b.toList).map (flip neg)
    | _, _ => none
  | .eqNil neg m x y => (eqNilV m (ρ x) (ρ y)).map (flip neg)
  | .un op x => unV op (ρ x)
  | .conv k x => match ρ x with
    | .int _ n => some (.int k (k.wrap n))
    | _ => none
  | .mkFunc f first captured => some (.func (.func f) ⟨first.map ρ⟩ ⟨captured.map ρ⟩)
  | .build zero parts => (fillA ρ zero parts).map fun cs => .agg ⟨cs⟩
  | .fieldAddr off x => match ρ x with
    | .pointer (some ⟨b, o, none⟩) => some (.pointer (some ⟨b, o + off, none⟩))
    | _ => none
  | .field off size agg x => match ρ x with
    | .agg cs => partV agg off size cs.toList
    | _ => none
  | .indexAddr arr esz x i => match arr, ρ x, ρ i with
    | some n, .pointer (some ⟨b, o, none⟩), .int _ k => if 0 ≤ k ∧ k < n then some (.pointer (some ⟨b, o + k.toNat * esz, none⟩)) else none
    | none, .slice (some ⟨b, o, none⟩) n _, .int _ k => if 0 ≤ k ∧ k < n then some (.pointer (some ⟨b, o + k.toNat * esz, none⟩)) else none
    | _, _, _ => none
  | .index n esz agg x i => match ρ x, ρ i with
    | .agg cs, .int _ k => if 0 ≤ k ∧ k < n then partV agg (k.toNat * esz) esz cs.toList else none
    | _, _ => none
  | .sliceStr x lo hi => sliceStrV (ρ x) (oEv ρ lo) (oEv ρ hi)
  | .sliceArr n esz x lo hi => sliceArrV n esz (ρ x) (oEv ρ lo) (oEv ρ hi)
  | .nilCheck x => match ρ x with
    | .pointer (some a) => some (.pointer (some a))
    | .func (.func f) a b => some (.func (.func f) a b)
    | .func (.yield l) a b => some (.func (.yield l) a b)
    | _ => none
  | .extract x i => match ρ x with
    | .tuple vs => vs.toList[i]?
    | _ => none
  | .len isStr x => match isStr, ρ x with
    | true, .string s => some (.int .i64 s.size)
    | false, .slice _ n _ => some (.int .i64 n)
    | _, _ => none
  | .lenArr n => some (.int .i64 n)
  | .mkIface t x => some (.iface t (ρ x))
  | .strIndex x i => match ρ x, ρ i with
    | .string s, .int _ k => if 0 ≤ k then match s[k.toNat]? with
      | some b => some (.int .u8 b.toNat)
      | none => none
      else none
    | _, _ => none
  | .minmax isMax x y => match ρ x, ρ y with
    | .int k a, .int _ b => some (.int k (if isMax then (if b > a then b else a) else (if b < a then b else a)))
    | _, _ => none
  | _ => none

/-! ### Operations that read memory -/

def keyEq : KK → Value → Value → Option Bool
  | .int, .int k a, .int k' b => if k = k' then some (decide (a = b)) else none
  | .str, .string a, .string b => some (a == b)
  | .bool, .bool a, .bool b => some (a == b)
  | .flat ks, .agg a, .agg b => cellsEq ks a.toList b.toList
  | _, _, _ => none

/-- The place of a key among entries: none: the comparison is not covered. -/
def findEnt (kk : KK) (k : Value) : List MapEntry → Nat → Option (Option (Nat × Value))
  | [], _ => some none
  | e :: es, i => match keyEq kk k e.key with
    | some true => some (some (i, e.val))
    | some false => findEnt kk k es (i + 1)
    | none => none

/-- Is it a key of its kind? -/
def isKey : KK → Value → Bool
  | .int, .int _ _ | .str, .string _ | .bool, .bool _ => true
  | .flat ks, .agg a => (cellsEq ks a.toList a.toList).isSome
  | _, _ => false

def mapOf (H : Heap) : Value → Option (List MapEntry × Nat)
  | .map none => some ([], 0)
  | .map (some r) => match H.get r with
    | some (.map es c) => some (es, c)
    | _ => none
  | _ => none

def loadA (H : Heap) (agg : Option Nat) (a : Value) : Option Value :=
  match a with
  | .pointer (some ⟨b, o, none⟩) => match H.get b with
    | some (.cells _ _ cs) => match agg with
      | none => cs[o]?
      | some n => if o + n ≤ cs.length then some (.agg ⟨(cs.drop o).take n⟩) else none
    | _ => none
  | _ => none

def sliceV (H : Heap) (esz : Nat) (x : Value) (lo hi mx : Option Value) : Option Value :=
  match x with
  | .slice none _ _ =>
    match boundsA 0 0 lo hi mx with
    | some _ => some (.slice none 0 0)
    | none => none
  | .slice (some ⟨b, o, none⟩) len cap =>
    if cap = openCap then
      -- the capacity is not known: bounds up to the length alone
      match H.get b with
      | some (.cells _ e _) =>
        if e = esz then
          match boundsA len len lo hi mx with
          | some (l, h, m) => some (.slice (some ⟨b, if mx.isSome && decide (m = l) then o else o + l * esz, none⟩) (h - l) (if mx.isSome then m - l else openCap))
          | none => none
        else none
      | _ => none
    else
      match boundsA len cap lo hi mx with
      | some (l, h, m) => some (.slice (some ⟨b, if m = l then o else o + l * esz, none⟩) (h - l) (m - l))
      | none => none
  | _ => none

def readOp (ρ : Operand → Value) (H : Heap) : AOp → Option Value
  | .slice esz x lo hi mx => sliceV H esz (ρ x) (oEv ρ lo) (oEv ρ hi) (oEv ρ mx)
  | .load agg a => loadA H agg (ρ a)
  | .lookup kk zero ok m k => if isKey kk (ρ k) = false then none else match mapOf H (ρ m) with
    | some (es, _) => match findEnt kk (ρ k) es 0 with
      | some (some (_, v)) => some (if ok then .tuple #[v, .bool true] else v)
      | some none => some (if ok then .tuple #[zero, .bool false] else zero)
      | none => none
    | none => none
  | .lenMap m => (mapOf H (ρ m)).map fun p => .int .i64 p.1.length
  | .entry it => match ρ it with
    | .pointer (some ⟨r, 0, none⟩) => match H.get r with
      | some (.iter (some m) _ seen stepped) => match seen.getLast?, H.get m with
        | some stamp, some (.map es clock) => if clock = stepped then match es.find? (·.born == stamp) with
            | some e => some (.tuple #[e.key, e.val])
            | none => none
          else none
        | _, _ => none
      | _ => none
    | _ => none
  | op => pureOp ρ op

/-! ### Operations that make one block -/

def repl (n : Nat) (zero : List Value) : List Value := (List.replicate n zero).flatten

/-- The block that is made, and the value, as a function of the block's number. -/
def newOp (ρ : Operand → Value) (H : Heap) : AOp → Option (Blk × (Nat → Value))
  | .box v _ => some (.cells false 0 (cellsOf (ρ v)), fun b => .pointer (some ⟨b, 0, none⟩))
  | .zero cells _ => some (.cells false 0 cells, fun b => .pointer (some ⟨b, 0, none⟩))
  | .buildSlice len esz zero parts _ => (fillA ρ (repl len zero) parts).map fun cs => (.cells false esz cs, fun b => .slice (some ⟨b, 0, none⟩) len len)
  | .makeSlice esz bytes zero l c _ => match ρ l, ρ c with
    | .int _ l, .int _ c => if 0 ≤ l ∧ l ≤ c ∧ c * bytes ≤ 281474976710656 ∧ c ≤ 281474976710656 then
        some (.cells false esz (repl c.toNat zero), fun b => .slice (some ⟨b, 0, none⟩) l.toNat c.toNat) else none
    | _, _ => none
  | .makeMap => some (.map [] 0, fun b => .map (some b))
  | .rangeMap m => match ρ m with
    | .map none => some (.iter none 0 [] 0, fun b => .pointer (some ⟨b, 0, none⟩))
    | .map (some r) => match H.get r with
      | some (.map _ clock) => some (.iter (some r) clock [] clock, fun b => .pointer (some ⟨b, 0, none⟩))
      | _ => none
    | _ => none
  | _ => none

/-! ### Operations that write -/

/-- Cells written from a place on. -/
def storeA (H : Heap) (b o : Nat) (vs : List Value) : Option Heap :=
  match H.get b with
  | some (.cells false esz cs) => if o + vs.length ≤ cs.length ∧ vs.all Value.oneCell' = true then some (H.set b (.cells false esz (over cs o vs))) else none
  | _ => none

def sliceCells (H : Heap) (esz n : Nat) : Value → Option (List Value)
  | .slice none _ _ => if n = 0 then some [] else none
  | .slice (some ⟨b, o, none⟩) _ _ => if n * esz = 0 then some [] else match H.get b with
    | some (.cells _ _ cs) => if o + n * esz ≤ cs.length then some ((cs.drop o).take (n * esz)) else none
    | _ => none
  | .string s => if esz = 1 then some ((s.extract 0 n).data.toList.map fun b => .int .u8 b.toNat) else none
  | _ => none

/-- 'append': the slice that comes out, and the heap. A slice of unknown capacity is moved: its old block dies. -/
def appendA (H : Heap) (esz bytes : Nat) (s : Value) (x : Value) : Option (Value × Heap) :=
  match lenV x with
  | none => none
  | some n => match sliceCells H esz n x with
    | none => none
    | some new =>
      match s with
      | .slice base len cap =>
        if n = 0 then some (s, H)
        else if ¬ (esz ≠ 0 ∧ new.all Value.oneCell' = true ∧ (len + n) * bytes ≤ 70368744177664 ∧ len + n ≤ 70368744177664) then none
        else if cap = openCap then
          match base with
          | some ⟨b, o, none⟩ => match H.get b with
            | some (.cells false e cs) =>
              if ¬ (e = esz ∧ o + len * esz ≤ cs.length) then none
              else if o + (len + n) * esz ≤ cs.length then some (.slice (some ⟨b, o, none⟩) (len + n) openCap, H.set b (.cells false e (over cs (o + len * esz) new)))
              else some (.slice (some ⟨H.size, 0, none⟩) (len + n) openCap, (H.set b .dead).push (.cells false esz ((cs.drop o).take (len * esz) ++ new)))
            | _ => none
          | _ => none
        else if len + n ≤ cap then
          match base with
          | some ⟨b, o, none⟩ => match H.get b with
            | some (.cells false e cs) => if o + (len + n) * esz ≤ cs.length then some (.slice (some ⟨b, o, none⟩) (len + n) cap, H.set b (.cells false e (over cs (o + len * esz) new))) else none
            | _ => none
          | _ => none
        else match sliceCells H esz len s with
          | some old => some (.slice (some ⟨H.size, 0, none⟩) (len + n) openCap, H.push (.cells false esz (old ++ new)))
          | none => none
      | _ => none

def copyA (H : Heap) (esz : Nat) (d s : Value) : Option (Value × Heap) :=
  match lenV s, d with
  | some m, .slice a dl _ =>
    let n := Nat.min m dl
    match sliceCells H esz n s, a with
    | some _, none => some (.int .i64 n, H)
    | some cs, some ⟨b, o, none⟩ => if n * esz = 0 then some (.int .i64 n, H) else (storeA H b o cs).map fun H' => (.int .i64 n, H')
    | _, _ => none
  | _, _ => none

def clearA (H : Heap) (esz : Nat) (zero : List Value) : Value → Option Heap
  | .slice none _ _ => some H
  | .slice (some ⟨b, o, none⟩) n _ => if n * esz = 0 then some H else storeA H b o (repl n zero)
  | _ => none

def mapUpdateA (H : Heap) (kk : KK) (m k v : Value) : Option Heap :=
  if isKey kk k = false then none else
  match m with
  | .map (some r) => match H.get r with
    | some (.map es clock) => match findEnt kk k es 0 with
      | some (some (i, _)) => some (H.set r (.map (es.modify i fun e => { e with key := k, val := v }) clock))
      | some none => some (H.set r (.map (es ++ [{ key := k, val := v, born := clock }]) (clock + 1)))
      | none => none
    | _ => none
  | _ => none

/-- An operation that writes, but for a call and a step of an iterator. -/
def writeOp (ρ : Operand → Value) (H : Heap) : AOp → Option (Value × Heap)
  | .store size a v => match ρ a with
    | .pointer (some ⟨b, o, none⟩) => if (cellsOf (ρ v)).length = size then (storeA H b o (cellsOf (ρ v))).map fun H' => (undef, H') else none
    | _ => none
  | .append esz bytes _ s x _ => appendA H esz bytes (ρ s) (ρ x)
  | .copy esz d s => copyA H esz (ρ d) (ρ s)
  | .clear esz zero x => (clearA H esz zero (ρ x)).map fun H' => (.tuple #[], H')
  | .mapUpdate kk m k v => (mapUpdateA H kk (ρ m) (ρ k) (ρ v)).map fun H' => (undef, H')
  | _ => none

/-! ### Calls -/

inductive Tgt where
  | fn (f : FuncId)
  | round (l : Nat)

/-- What a call of a function value is a call of, with what arguments. -/
def target (f : Value) (args : List Value) : Option (Tgt × List Value) :=
  match f with
  | .func (.func f) first captured => some (.fn f, first.toList ++ args ++ captured.toList)
  | .func (.yield l) _ _ => some (.round l, args)
  | _ => none

/-- What calls do: target, arguments, heap, what holds behind. -/
abbrev CallPred := Tgt → List Value → Heap → (Value → Heap → Prop) → Prop

/-- The block that an operand leads to is as it was. -/
def keepV (v : Value) (H H' : Heap) : Prop :=
  match v with
  | .pointer (some a) => H'.get a.block = H.get a.block
  | .map (some r) => H'.get r = H.get r
  | .slice (some a) _ _ => H'.get a.block = H.get a.block
  | _ => True

def keeps (l : List Operand) (T : List Value) (H H' : Heap) : Prop :=
  match l with
  | [] => True
  | x :: rest => keepV (ev T x) H H' ∧ keeps rest T H H'

def optV (o : Option Value) (K : Value → Prop) : Prop :=
  match o with
  | some v => K v
  | none => False

def optVH (o : Option (Value × Heap)) (K : Value → Heap → Prop) : Prop :=
  match o with
  | some (v, H) => K v H
  | none => False

/-- The candidates of a step over a map. -/
def iterNext (H : Heap) (it : Value) (K : Value → Heap → Prop) : Prop :=
  match it with
  | .pointer (some ⟨r, 0, none⟩) => match H.get r with
    | some (.iter none _ _ _) => K (.tuple #[.bool false]) H
    | some (.iter (some m) since seen last) => match H.get m with
      | some (.map es clock) =>
        (seen = [] ∨ es = [] ∨ ∃ e ∈ es, e.born < last) ∧
        ((∀ e ∈ es, e.born < since → e.born ∈ seen) → K (.tuple #[.bool false]) H) ∧
        (∀ e ∈ es, e.born ∉ seen → K (.tuple #[.bool true, e.key, e.val]) (H.set r (.iter (some m) since (seen ++ [e.born]) clock)))
      | _ => False
    | _ => False
  | _ => False

inductive Cls where
  | pure | read | new | write | next | call

def AOp.cls : AOp → Cls
  | .load .. | .lookup .. | .lenMap _ | .entry _ | .slice .. => .read
  | .box .. | .zero .. | .buildSlice .. | .makeSlice .. | .makeMap | .rangeMap _ => .new
  | .store .. | .append .. | .copy .. | .clear .. | .mapUpdate .. => .write
  | .next _ => .next
  | .call .. => .call
  | _ => .pure

def callWp (X : CallPred) (f : Value) (args : List Value) (H : Heap) (K : Value → Heap → Prop) : Prop :=
  match target f args with
  | some (t, args) => X t args H K
  | none => False

def actWp (X : CallPred) (op : AOp) (ρ : Operand → Value) (H : Heap) (K : Value → Heap → Prop) : Prop :=
  match op.cls with
  | .pure => optV (pureOp ρ op) fun v => K v H
  | .read => optV (readOp ρ H op) fun v => K v H
  | .new => match newOp ρ H op with
    | some (b, f) => K (f H.size) (H.push b)
    | none => False
  | .write => optVH (writeOp ρ H op) K
  | .next => match op with
    | .next it => iterNext H (ρ it) K
    | _ => False
  | .call => match op with
    | .call f args => callWp X (ρ f) (args.map ρ) H K
    | _ => False

def opsWp (X : CallPred) : List AOper → List Value → Heap → (List Value → Heap → Prop) → Prop
  | [], T, H, K => K T H
  | o :: rest, T, H, K =>
    if wantB o.guard T = true then actWp X o.op (ev T) H fun v H' => keeps o.pend T H H' ∧ opsWp X rest (put o.dst v T) H' K
    else opsWp X rest (put o.dst undef T) H K

inductive Ex where
  | normal
  | jump (j : Jump)

abbrev Post := Ex → List Value → Heap → Prop

def thenP (K : List Value → Heap → Prop) (Q : Post) : Post
  | .normal, T, H => K T H
  | .jump j, T, H => Q (.jump j) T H

def blockP (id : Nat) (Q : Post) : Post
  | .normal, T, H => Q .normal T H
  | .jump (.exit i), T, H => if i = id then Q .normal T H else Q (.jump (.exit i)) T H
  | .jump .ret, T, H => Q (.jump .ret) T H

/-- A loop: the least relation that a round leads back into. -/
def loopP (body : List Value → Heap → Post → Prop) (T : List Value) (H : Heap) (Q : Post) : Prop :=
  ∀ I : List Value → Heap → Prop, (∀ T H, body T H (thenP I Q) → I T H) → I T H

def AJump.toEx : Option Jump → Ex
  | none => .normal
  | some j => .jump j

/-- Behind a range over a function: the pending jump is taken. -/
def endRange (l : Nat) (T : List Value) (Q : Post) (H : Heap) : Prop :=
  match H.get l with
  | some (.loop r) => r.state ≠ .busy ∧ Q (AJump.toEx r.pending) T (H.set l (.loop { r with state := .exhausted }))
  | _ => False

/-- The function whose text runs, and the round of a range over a function that it runs in. -/
structure Ctx where
  fn : FuncId
  rd : Option Nat

/-- In a round the loop's own record is there. -/
def roundOk (cx : Ctx) (H : Heap) : Prop :=
  match cx.rd with
  | none => True
  | some l => match H.get l with
    | some (.loop _) => True
    | _ => False

def wp (X : CallPred) (cx : Ctx) : ACode → List Value → Heap → Post → Prop
  | .skip, T, H, Q => Q .normal T H
  | .ops l, T, H, Q => opsWp X l T H (Q .normal)
  | .seq a b, T, H, Q => wp X cx a T H (thenP (fun T H => wp X cx b T H Q) Q)
  | .cond c a b, T, H, Q => match ev T c with
    | .bool true => wp X cx a T H Q
    | .bool false => wp X cx b T H Q
    | _ => False
  | .block id c, T, H, Q => wp X cx c T H (blockP id Q)
  | .loop c, T, H, Q => loopP (fun T H Q => wp X cx c T H Q) T H Q
  | .range f params assign body, T, H, Q =>
    roundOk cx H ∧ callWp X (ev T f) [.func (.yield H.size) #[] #[]] (H.push (.loop { state := .ready, pending := none, fn := cx.fn, tmps := T, params, assign, body })) fun _ H' => endRange H.size T Q H'
  | .scope c, T, H, Q => wp X cx c T H Q
  | .jump j, T, H, Q => Q (.jump j) T H

theorem Heap.get_push (H : Heap) (b : Blk) (i : Nat) : (H.push b).get i = if i = H.size then some b else H.get i := rfl
theorem Heap.get_set (H : Heap) (k : Nat) (b : Blk) (i : Nat) : (H.set k b).get i = if i = k then some b else H.get i := rfl
theorem Heap.size_push (H : Heap) (b : Blk) : (H.push b).size = H.size + 1 := rfl
theorem Heap.size_set (H : Heap) (k : Nat) (b : Blk) : (H.set k b).size = H.size := rfl

/-- Where a result lies. -/
inductive ARes where
  | tmp (t : Tmp)
  | cell (agg : Option Nat) (a : Tmp)

structure AFunc where
  ntmps : Nat
  nargs : Nat
  results : List ARes
  body : ACode

abbrev AProg := FuncId → Option AFunc

def resA (H : Heap) (T : List Value) : ARes → Option Value
  | .tmp t => some (T.getD t undef)
  | .cell agg a => loadA H agg (T.getD a undef)

def resAll (H : Heap) (T : List Value) : List ARes → Option (List Value)
  | [] => some []
  | r :: rest => match resA H T r, resAll H T rest with
    | some v, some vs => some (v :: vs)
    | _, _ => none

def resV : List Value → Value
  | [v] => v
  | vs => .tuple ⟨vs⟩

def putAll (params : List Tmp) (args : List Value) (T : List Value) : List Value :=
  match params, args with
  | p :: ps, a :: as => putAll ps as (T.set p a)
  | _, _ => T

def retP (H : Heap) (T : List Value) (rs : List ARes) (R : Value → Heap → Prop) : Prop :=
  match resAll H T rs with
  | some vs => R (resV vs) H
  | none => False

def bodyP (fn : AFunc) (R : Value → Heap → Prop) : Post
  | .normal, T, H => retP H T fn.results R
  | .jump .ret, T, H => retP H T fn.results R
  | .jump (.exit _), _, _ => False

def exPending : Ex → Option Jump
  | .normal => none
  | .jump j => some j

def roundEnd (l : Nat) (R : Value → Heap → Prop) : Post := fun e _ H =>
  match H.get l with
  | some (.loop r) => R (.bool (exPending e).isNone) (H.set l (.loop { r with state := if (exPending e).isNone then .ready else .done, pending := exPending e }))
  | _ => False

def roundBegin (X : CallPred) (cx : Ctx) (body : ACode) (l : Nat) (R : Value → Heap → Prop) : Post
  | .normal, T, H => match H.get l with
    | some (.loop r) => r.state = .ready ∧ wp X cx body T (H.set l (.loop { r with state := .busy })) (roundEnd l R)
    | _ => False
  | .jump _, _, _ => False

def callBody (AP : AProg) (X : CallPred) : Tgt → List Value → Heap → (Value → Heap → Prop) → Prop
  | .fn f, args, H, R => match AP f with
    | some fn => args.length = fn.nargs ∧ wp X ⟨f, none⟩ fn.body (args ++ List.replicate (fn.ntmps - args.length) undef) H (bodyP fn R)
    | none => False
  | .round l, args, H, R => match H.get l with
    | some (.loop r) => args.length = r.params.length ∧ wp X ⟨r.fn, some l⟩ r.assign (putAll r.params args r.tmps) H (roundBegin X ⟨r.fn, some l⟩ r.body l R)
    | _ => False

/-- THE ABSTRACT CALL: the least relation that bears the base B and the bodies of the program. -/
def ACall (AP : AProg) (B : CallPred) : CallPred := fun t args H R =>
  ∀ X : CallPred, (∀ t args H R, B t args H R → X t args H R) → (∀ t args H R, callBody AP X t args H R → X t args H R) → X t args H R

/-! ### Monotone -/

theorem optV_mono {o : Option Value} {K K' : Value → Prop} (h : ∀ v, K v → K' v) (hh : optV o K) : optV o K' := by
  cases o with
  | none => exact hh
  | some v => exact h _ hh

theorem optVH_mono {o : Option (Value × Heap)} {K K' : Value → Heap → Prop} (h : ∀ v H, K v H → K' v H) (hh : optVH o K) : optVH o K' := by
  cases o with
  | none => exact hh
  | some v => exact h _ _ hh

theorem iterNext_mono {H : Heap} {it : Value} {K K' : Value → Heap → Prop} (h : ∀ v H, K v H → K' v H) (hh : iterNext H it K) : iterNext H it K' := by
  unfold iterNext at *
  split at hh
  · split at hh
    · exact h _ _ hh
    · split at hh
      · exact ⟨hh.1, fun a => h _ _ (hh.2.1 a), fun e he a => h _ _ (hh.2.2 e he a)⟩
      · exact hh
    · exact hh
  · exact hh

structure CallMono (X Y : CallPred) : Prop where
  le : ∀ t args H R R', (∀ v H, R v H → R' v H) → X t args H R → Y t args H R'

theorem actWp_mono {X Y : CallPred} (hX : CallMono X Y) {op : AOp} {ρ : Operand → Value} {H : Heap} {K K' : Value → Heap → Prop} (h : ∀ v H, K v H → K' v H)
    (hh : actWp X op ρ H K) : actWp Y op ρ H K' := by
  unfold actWp at *
  split at hh
  · exact optV_mono (fun v => h v H) hh
  · exact optV_mono (fun v => h v H) hh
  · split at hh
    · exact h _ _ hh
    · exact hh
  · exact optVH_mono h hh
  · split at hh
    · exact iterNext_mono h hh
    · exact hh
  · split at hh
    · unfold callWp at *
      split at hh
      · exact hX.le _ _ _ _ _ h hh
      · exact hh
    · exact hh

theorem opsWp_mono {X Y : CallPred} (hX : CallMono X Y) {K K' : List Value → Heap → Prop} (h : ∀ T H, K T H → K' T H) :
    ∀ (l : List AOper) (T : List Value) (H : Heap), opsWp X l T H K → opsWp Y l T H K'
  | [], _, _, hh => h _ _ hh
  | o :: rest, T, H, hh => by
    unfold opsWp at *
    split
    · rename_i hw
      rw [if_pos hw] at hh
      exact actWp_mono hX (fun v H' hk => ⟨hk.1, opsWp_mono hX h rest _ _ hk.2⟩) hh
    · rename_i hw
      rw [if_neg hw] at hh
      exact opsWp_mono hX h rest _ _ hh

theorem thenP_mono {K K' : List Value → Heap → Prop} {Q Q' : Post} (h : ∀ T H, K T H → K' T H) (hq : ∀ e T H, Q e T H → Q' e T H) :
    ∀ e T H, thenP K Q e T H → thenP K' Q' e T H
  | .normal, _, _, hh => h _ _ hh
  | .jump _, _, _, hh => hq _ _ _ hh

theorem blockP_mono {id : Nat} {Q Q' : Post} (hq : ∀ e T H, Q e T H → Q' e T H) : ∀ e T H, blockP id Q e T H → blockP id Q' e T H
  | .normal, _, _, hh => hq _ _ _ hh
  | .jump .ret, _, _, hh => hq _ _ _ hh
  | .jump (.exit i), T, H, hh => by
    by_cases hi : i = id
    · simp only [blockP, hi, if_true] at *; exact hq _ _ _ hh
    · simp only [blockP, hi, if_false] at *; exact hq _ _ _ hh

theorem endRange_mono {l : Nat} {T : List Value} {Q Q' : Post} {H : Heap} (hq : ∀ e T H, Q e T H → Q' e T H) (hh : endRange l T Q H) : endRange l T Q' H := by
  unfold endRange at *
  split at hh
  · exact ⟨hh.1, hq _ _ _ hh.2⟩
  · exact hh

theorem callWp_mono {X Y : CallPred} (hX : CallMono X Y) {f : Value} {args : List Value} {H : Heap} {K K' : Value → Heap → Prop} (h : ∀ v H, K v H → K' v H)
    (hh : callWp X f args H K) : callWp Y f args H K' := by
  unfold callWp at *
  split at hh
  · exact hX.le _ _ _ _ _ h hh
  · exact hh

theorem wp_mono {X Y : CallPred} (hX : CallMono X Y) {cx : Ctx} : ∀ (c : ACode) (T : List Value) (H : Heap) (Q Q' : Post), (∀ e T H, Q e T H → Q' e T H) →
    wp X cx c T H Q → wp Y cx c T H Q'
  | .skip, T, H, Q, Q', hq, hh => hq _ _ _ hh
  | .ops l, T, H, Q, Q', hq, hh => opsWp_mono hX (hq _) l T H hh
  | .seq a b, T, H, Q, Q', hq, hh => wp_mono hX a _ _ _ _ (thenP_mono (fun T H h => wp_mono hX b _ _ _ _ hq h) hq) hh
  | .cond c a b, T, H, Q, Q', hq, hh => by
    unfold wp at *
    split at hh
    · exact wp_mono hX a _ _ _ _ hq hh
    · exact wp_mono hX b _ _ _ _ hq hh
    · exact hh
  | .block id c, T, H, Q, Q', hq, hh => wp_mono hX c _ _ _ _ (blockP_mono hq) hh
  | .loop c, T, H, Q, Q', hq, hh => by
    intro I hI
    refine hh I fun T H hb => hI T H ?_
    exact wp_mono hX c _ _ _ _ (thenP_mono (fun _ _ h => h) hq) hb
  | .range f params assign body, T, H, Q, Q', hq, hh => ⟨hh.1, callWp_mono hX (fun _ _ h => endRange_mono hq h) hh.2⟩
  | .scope c, T, H, Q, Q', hq, hh => wp_mono hX c _ _ _ _ hq hh
  | .jump j, T, H, Q, Q', hq, hh => hq _ _ _ hh

theorem retP_mono {H : Heap} {T : List Value} {rs : List ARes} {R R' : Value → Heap → Prop} (h : ∀ v H, R v H → R' v H) (hh : retP H T rs R) : retP H T rs R' := by
  unfold retP at *
  split at hh
  · exact h _ _ hh
  · exact hh

theorem bodyP_mono {fn : AFunc} {R R' : Value → Heap → Prop} (h : ∀ v H, R v H → R' v H) : ∀ e T H, bodyP fn R e T H → bodyP fn R' e T H
  | .normal, _, _, hh => retP_mono h hh
  | .jump .ret, _, _, hh => retP_mono h hh
  | .jump (.exit _), _, _, hh => hh

theorem roundEnd_mono {l : Nat} {R R' : Value → Heap → Prop} (h : ∀ v H, R v H → R' v H) : ∀ e T H, roundEnd l R e T H → roundEnd l R' e T H := by
  intro e T H hh
  unfold roundEnd at *
  split at hh
  · exact h _ _ hh
  · exact hh

theorem roundBegin_mono {X Y : CallPred} (hX : CallMono X Y) {cx : Ctx} {body : ACode} {l : Nat} {R R' : Value → Heap → Prop} (h : ∀ v H, R v H → R' v H) :
    ∀ e T H, roundBegin X cx body l R e T H → roundBegin Y cx body l R' e T H
  | .normal, T, H, hh => by
    simp only [roundBegin] at *
    split at hh
    · exact ⟨hh.1, wp_mono hX _ _ _ _ _ (roundEnd_mono h) hh.2⟩
    · exact hh
  | .jump _, _, _, hh => hh

theorem callBody_mono {AP : AProg} {X Y : CallPred} (hX : CallMono X Y) {t : Tgt} {args : List Value} {H : Heap} {R R' : Value → Heap → Prop} (h : ∀ v H, R v H → R' v H)
    (hh : callBody AP X t args H R) : callBody AP Y t args H R' := by
  cases t with
  | fn f =>
    simp only [callBody] at *
    split at hh
    · exact ⟨hh.1, wp_mono hX _ _ _ _ _ (bodyP_mono h) hh.2⟩
    · exact hh
  | round l =>
    simp only [callBody] at *
    split at hh
    · exact ⟨hh.1, wp_mono hX _ _ _ _ _ (roundBegin_mono hX h) hh.2⟩
    · exact hh

/-- The base speaks of what it promises alone. -/
def BaseMono (B : CallPred) : Prop := ∀ t args H R R', (∀ v H, R v H → R' v H) → B t args H R → B t args H R'

theorem ACall.mono {AP : AProg} {B : CallPred} (hB : BaseMono B) {t : Tgt} {args : List Value} {H : Heap} {R R' : Value → Heap → Prop} (h : ∀ v H, R v H → R' v H)
    (hh : ACall AP B t args H R) : ACall AP B t args H R' := by
  intro X h1 h2
  refine hh (fun t args H R => ∀ R', (∀ v H, R v H → R' v H) → X t args H R') ?_ ?_ R' h
  · intro t args H R hb R' hr
    exact h1 _ _ _ _ (hB _ _ _ _ _ hr hb)
  · intro t args H R hb R' hr
    exact h2 _ _ _ _ (callBody_mono ⟨fun t args H R R' hr hx => hx R' hr⟩ hr hb)

theorem ACall.fold {AP : AProg} {B : CallPred} {t : Tgt} {args : List Value} {H : Heap} {R : Value → Heap → Prop} (hB : BaseMono B)
    (hh : callBody AP (ACall AP B) t args H R) : ACall AP B t args H R := by
  intro X h1 h2
  exact h2 _ _ _ _ (callBody_mono (X := ACall AP B) (Y := X) ⟨fun t args H R R' hr hx => (ACall.mono hB hr hx) X h1 h2⟩ (fun _ _ h => h) hh)

theorem ACall.base {AP : AProg} {B : CallPred} {t : Tgt} {args : List Value} {H : Heap} {R : Value → Heap → Prop} (hh : B t args H R) : ACall AP B t args H R :=
  fun _ h1 _ => h1 _ _ _ _ hh

/-- THE RULE OF LOOPS: an invariant and a measure that every round lowers. -/
theorem loop_rule {body : List Value → Heap → Post → Prop} {Q : Post} (hmono : ∀ T H (Q Q' : Post), (∀ e T H, Q e T H → Q' e T H) → body T H Q → body T H Q')
    (I : List Value → Heap → Prop) (μ : List Value → Heap → Nat)
    (round : ∀ T H, I T H → body T H (thenP (fun T' H' => I T' H' ∧ μ T' H' < μ T H) Q)) {T : List Value} {H : Heap} (h0 : I T H) : loopP body T H Q := by
  intro J hJ
  have key : ∀ n T H, μ T H = n → I T H → J T H := by
    intro n
    induction n using Nat.strongRecOn with
    | _ n ih =>
      intro T H hn hI
      refine hJ T H (hmono _ _ _ _ (thenP_mono ?_ (fun _ _ _ h => h)) (round T H hI))
      intro T' H' ⟨hI', hlt⟩
      exact ih _ (hn ▸ hlt) T' H' rfl hI'
  exact key _ T H rfl h0

theorem CallMono.acall {AP : AProg} {B : CallPred} (hB : BaseMono B) : CallMono (ACall AP B) (ACall AP B) := ⟨fun _ _ _ _ _ hr hx => ACall.mono hB hr hx⟩

end Ab
