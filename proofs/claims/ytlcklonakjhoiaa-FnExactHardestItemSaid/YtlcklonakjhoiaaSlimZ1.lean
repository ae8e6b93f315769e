/- The slim machine: its values, memory, operations, code, and the evaluator. -/
import Derived.Calls
import Derived.LoopN
import Derived.Orders
import Derived.Below
import Derived.Laws.Sem
import Derived.Laws.World
import Derived.Laws.Cells
import Derived.Laws.Rows
import Derived.Laws.Entries
import Derived.Laws.IdiomCopy
import Derived.Laws.Tables
import Derived.Laws.StructEq
import Derived.Laws.Cover3
import Derived.ChangeKeysEq
import Derived.Laws.Strings2
import Derived.Laws.Strings3
import Derived.Laws.Slices
import Derived.Laws.Append
import Derived.Laws.BytesString
import Derived.Laws.BytesArg
/- The slim machine: its values, memory, operations, code, and the evaluator. -/
namespace Go.Proofs.Ytlcklonakjhoiaa.Slim
open Go

/-- A value of the slim machine. Addresses are numbers of slim blocks. 'undef' tells nothing. -/
inductive AV where
  | undef
  | bool (b : Bool)
  | int (k : IntKind) (n : Int)
  | str (s : ByteArray)
  | agg (cs : List AV)
  | tup (vs : List AV)
  | ptr (p : Option (Nat × Nat))
  | slice (p : Option (Nat × Nat)) (sz len : Nat) (cap : Option Nat)
  | fn (f : FuncId) (first captured : List AV)
  | nilfn
  | map (m : Option Nat)
  | nilif
  | someif
  deriving Inhabited

abbrev nilSlice : AV := .slice none 0 0 none

/-- Can stand in one cell of memory. -/
def AV.isCell : AV → Bool
  | .undef | .agg _ | .tup _ => false
  | _ => true

inductive Blk where
  | dead
  | cells (cs : List AV) (wr : Bool)
  deriving Inhabited

structure Mem where
  H : List Blk
  esc : Option Nat

/-- operands: a kept slot, the result of an operation of this region, a constant. -/
inductive X where
  | t (s : Nat)
  | l (j : Nat)
  | c (v : AV)
  deriving Inhabited

inductive AO where
  | mv (x : X)
  | pick (c a b : X)
  | alloc (zero : List AV)
  | box (x : X)
  | build (zero : List AV) (parts : List (Nat × Nat × X))
  | buildSlice (sz len : Nat) (zero : List AV) (parts : List (Nat × Nat × X))
  | load (agg : Bool) (sz : Nat) (x : X)
  | store (sz : Nat) (a x : X)
  | nilCheck (x : X)
  | bin (cls : Nat) (op : BinOp) (x y : X)
  | eqCells (ks : List Nat) (neg : Bool) (x y : X)
  | un (op : UnOp) (x : X)
  | conv (k : IntKind) (x : X)
  | same (x : X)
  | toBytes (x : X)
  | ofBytes (x : X)
  | makeFunc (f : FuncId) (first captured : List X)
  | makeSlice (sz bytes : Nat) (zero : List AV) (len cap : X)
  | sliceStr (x : X) (lo hi : Option X)
  | sliceSl (sz : Nat) (x : X) (lo hi mx : Option X)
  | sliceArr (n sz : Nat) (x : X) (lo hi mx : Option X)
  | fieldAddr (off : Nat) (x : X)
  | field (agg : Bool) (off sz : Nat) (x : X)
  | indexAddrS (sz : Nat) (x i : X)
  | indexAddrA (n sz : Nat) (x i : X)
  | indexA (agg : Bool) (n sz : Nat) (x i : X)
  | indexS (x i : X)
  | extract (i : Nat) (x : X)
  | len (x : X)
  | lenStr (x : X)
  | lenA (n : Nat)
  | append (str : Bool) (sz bytes : Nat) (s x : X)
  | max2 (x y : X)
  | min2 (x y : X)
  | call (f : X) (args : List X)
  deriving Inhabited

structure AOper where
  op : AO
  guard : Option (X × Bool)
  deriving Inhabited

/-- An operation of a region that draws its order, and what it is told anew behind it: the operations that read memory and may come later. -/
structure DE where
  op : AO
  guard : Option (X × Bool)
  again : List (Nat × AOper)
  deriving Inhabited

inductive ACode where
  | skip
  | region (ops : List AOper) (outs : List (Nat × Nat))
  | draw (es : List DE) (outs : List (Nat × Nat))
  | seq (a b : ACode)
  | cond (c : X) (thn els : ACode)
  | block (id : Nat) (body : ACode)
  | loop (body : ACode)
  | exit (id : Nat)
  | ret
  deriving Inhabited

inductive AR where
  | tmp (s : Nat)
  | cell (s : Nat) (agg : Bool) (sz : Nat)

structure AFun where
  keep : List Nat
  ntmps : Nat
  code : ACode
  results : List AR
  mode : Nat

inductive Ex where
  | normal | exit (id : Nat) | ret
  deriving DecidableEq

def get (tm loc : List AV) : X → AV
  | .t s => (tm[s]?).getD .undef
  | .l j => (loc[j]?).getD .undef
  | .c v => v

/-- The cells that a value takes in memory. -/
def cellsOf : AV → Option (List AV)
  | .undef | .tup _ => none
  | .agg cs => some cs
  | v => some [v]

def setRange (cs : List AV) (off : Nat) (new : List AV) : List AV := cs.take off ++ new ++ cs.drop (off + new.length)

def fillParts (g : X → AV) : List AV → List (Nat × Nat × X) → Option (List AV)
  | cs, [] => some cs
  | cs, (off, sz, x) :: rest =>
    match cellsOf (g x) with
    | none => none
    | some new => if new.length = sz ∧ off + sz ≤ cs.length then fillParts g (setRange cs off new) rest else none

/-- the numbers of blocks that a value names are below n -/
def AV.under (n : Nat) : AV → Bool
  | .ptr (some (b, _)) => b < n
  | .slice (some (b, _)) _ _ _ => b < n
  | .map (some b) => b < n
  | .agg cs => go cs
  | .tup vs => go vs
  | .fn _ a b => go a && go b
  | _ => true
where go : List AV → Bool
  | [] => true
  | v :: vs => v.under n && go vs

def minEsc : Option Nat → Nat → Option Nat
  | none, b => some b
  | some e, b => some (min e b)

def joinEsc : Option Nat → Option Nat → Option Nat
  | e, none => e
  | e, some b => minEsc e b

def cellsAt (H : List Blk) (b : Nat) : Option (List AV) :=
  match H[b]? with
  | some (.cells cs _) => some cs
  | _ => none

def loadAt (H : List Blk) (agg : Bool) (sz : Nat) : AV → Option AV
  | .ptr (some (b, o)) =>
    match cellsAt H b with
    | none => none
    | some cs =>
      if agg then (if o + sz ≤ cs.length then some (.agg ((cs.drop o).take sz)) else none)
      else cs[o]?
  | _ => none

def part (agg : Bool) (cs : List AV) (off sz : Nat) : Option AV :=
  if agg then (if off + sz ≤ cs.length then some (.agg ((cs.drop off).take sz)) else none) else cs[off]?

def intOp (op : BinOp) (k : IntKind) (x y : Int) : Option AV :=
  match op with
  | .add => some (.int k (k.wrap (x + y)))
  | .sub => some (.int k (k.wrap (x - y)))
  | .mul => some (.int k (k.wrap (x * y)))
  | .quo => if y = 0 then none else some (.int k (k.wrap (x.tdiv y)))
  | .rem => if y = 0 then none else some (.int k (x.tmod y))
  | .and => some (.int k (k.wrap (BitVec.ofInt k.bits x &&& BitVec.ofInt k.bits y).toNat))
  | .or => some (.int k (k.wrap (BitVec.ofInt k.bits x ||| BitVec.ofInt k.bits y).toNat))
  | .xor => some (.int k (k.wrap (BitVec.ofInt k.bits x ^^^ BitVec.ofInt k.bits y).toNat))
  | .andNot => some (.int k (k.wrap (BitVec.ofInt k.bits x &&& ~~~BitVec.ofInt k.bits y).toNat))
  | .eql => some (.bool (decide (x = y)))
  | .neq => some (.bool (!decide (x = y)))
  | .lss => some (.bool (decide (x < y)))
  | .leq => some (.bool (decide (x ≤ y)))
  | .gtr => some (.bool (decide (y < x)))
  | .geq => some (.bool (decide (y ≤ x)))
  | .shl => if y < 0 then none else some (.int k (k.wrap (x * 2 ^ (min y.toNat k.bits))))
  | .shr => if y < 0 then none else some (.int k (x.fdiv (2 ^ (min y.toNat k.bits))))

/-- cls: what the operands' type is: 0 a number, 1 a string, 2 a bool, 3 a slice (against nil), 4 an interface (against nil) -/
def binop (cls : Nat) (op : BinOp) (a b : AV) : Option AV :=
  match cls, a, b with
  | 0, .int k x, .int k' y => if k = k' ∨ op = .shl ∨ op = .shr then intOp op k x y else none
  | 1, .str a, .str b =>
    match op with
    | .add => if a.size + b.size ≤ 140737488355328 then some (.str (a ++ b)) else none
    | .eql => some (.bool (decide (a = b)))
    | .neq => some (.bool (!decide (a = b)))
    | .lss => some (.bool (Op.bytesLess a.toList b.toList))
    | _ => none
  | 2, .bool a, .bool b =>
    match op with
    | .eql => some (.bool (a == b))
    | .neq => some (.bool (!(a == b)))
    | _ => none
  | 3, .slice p _ _ _, .slice none _ _ _ =>
    match op with
    | .eql => some (.bool p.isNone)
    | .neq => some (.bool (!p.isNone))
    | _ => none
  | 4, .nilif, .nilif =>
    match op with
    | .eql => some (.bool true)
    | .neq => some (.bool false)
    | _ => none
  | 4, .someif, .nilif =>
    match op with
    | .eql => some (.bool false)
    | .neq => some (.bool true)
    | _ => none
  | _, _, _ => none

def unop (op : UnOp) (a : AV) : Option AV :=
  match op, a with
  | .neg, .int k n => some (.int k (k.wrap (0 - n)))
  | .xor, .int k n => intOp .xor k (if k.signed then -1 else k.max) n
  | .not, .bool b => some (.bool !b)
  | _, _ => none

def eqCell (k : Nat) (a b : AV) : Option Bool :=
  match k, a, b with
  | 0, .int k x, .int k' y => if k = k' then some (decide (x = y)) else none
  | 1, .bool a, .bool b => some (a == b)
  | 2, .str a, .str b => some (decide (a = b))
  | _, _, _ => none

def eqList : List Nat → List AV → List AV → Option Bool
  | [], [], [] => some true
  | k :: ks, x :: xs, y :: ys =>
    match eqCell k x y, eqList ks xs ys with
    | some a, some b => some (a && b)
    | _, _ => none
  | _, _, _ => none

def natOf : AV → Option Nat
  | .int _ n => if 0 ≤ n then some n.toNat else none
  | _ => none

/-- the bound of a slice expression; what is not told is d -/
def bound (g : X → AV) (x : Option X) (d : Nat) : Option Nat :=
  match x with
  | none => some d
  | some x => natOf (g x)

def bytesOf (s : ByteArray) : List AV := s.data.toList.map fun b => .int .u8 b.toNat

def byteOf : AV → Option UInt8
  | .int .u8 n => some (UInt8.ofNat n.toNat)
  | _ => none

def ofBytesL : List AV → Option (List UInt8)
  | [] => some []
  | v :: vs => match byteOf v, ofBytesL vs with
    | some b, some bs => some (b :: bs)
    | _, _ => none

/-- the elements of a slice, or the bytes of a string, as cells; what is not in memory is none -/
def srcCells (str : Bool) (H : List Blk) : AV → Option (Nat × List AV)
  | .slice none _ _ _ => if str then none else some (0, [])
  | .slice (some (b, o)) sz n _ =>
    if str then none else
    match cellsAt H b with
    | none => none
    | some cs => if o + n * sz ≤ cs.length then some (n, (cs.drop o).take (n * sz)) else none
  | .str s => if str then some (s.size, bytesOf s) else none
  | _ => none

def zeros (n : Nat) (zero : List AV) : List AV := (List.replicate n zero).flatten

def newBlk (m : Mem) (cs : List AV) : Mem := { m with H := m.H ++ [.cells cs true] }

def maxBytes : Nat := 35184372088832

def optNat (g : X → AV) : Option X → Option (Option Nat)
  | none => some none
  | some x => (natOf (g x)).map some

def sliceVal (sz : Nat) (p : Option (Nat × Nat)) (sz' n : Nat) (cap : Option Nat) (l h : Nat) (m : Option Nat) : Option AV :=
  match p with
  | none => if l = 0 ∧ h = 0 ∧ (m = none ∨ m = some 0) then some nilSlice else none
  | some (b, o) =>
    if sz' = sz ∧ l ≤ h ∧ h ≤ m.getD n ∧ m.getD n ≤ n then
      some (.slice (some (b, o + l * sz)) sz (h - l) (match m with | none => cap.map (· - l) | some m => some (m - l)))
    else none

/-- the operations that read no memory -/
def light (g : X → AV) : AO → Option AV
  | .mv x => some (g x)
  | .pick c a b => match g c with
    | .bool true => some (g a)
    | .bool false => some (g b)
    | _ => none
  | .build zero parts => (fillParts g zero parts).map .agg
  | .nilCheck x => match g x with
    | .ptr (some p) => some (.ptr (some p))
    | .fn f a b => some (.fn f a b)
    | _ => none
  | .bin cls op x y => binop cls op (g x) (g y)
  | .eqCells ks neg x y => match g x, g y with
    | .agg xs, .agg ys => (eqList ks xs ys).map fun b => .bool (if neg then !b else b)
    | _, _ => none
  | .un op x => unop op (g x)
  | .conv k x => match g x with
    | .int _ n => some (.int k (k.wrap n))
    | _ => none
  | .same x => match g x with
    | .str s => some (.str s)
    | _ => none
  | .makeFunc f first captured => some (.fn f (first.map g) (captured.map g))
  | .sliceStr x lo hi => match g x with
    | .str s => match bound g hi s.size, bound g lo 0 with
      | some h, some l => if l ≤ h ∧ h ≤ s.size then some (.str (s.extract l h)) else none
      | _, _ => none
    | _ => none
  | .sliceSl sz x lo hi mx => match g x with
    | .slice p sz' n cap => match bound g hi n, bound g lo 0, optNat g mx with
      | some h, some l, some m => if mx = none ∨ hi ≠ none then sliceVal sz p sz' n cap l h m else none
      | _, _, _ => none
    | _ => none
  | .fieldAddr off x => match g x with
    | .ptr (some (b, o)) => some (.ptr (some (b, o + off)))
    | _ => none
  | .field agg off sz x => match g x with
    | .agg cs => part agg cs off sz
    | _ => none
  | .indexAddrS sz x i => match g x, g i with
    | .slice (some (b, o)) sz' n _, .int _ i => if 0 ≤ i ∧ i < n ∧ sz' = sz then some (.ptr (some (b, o + i.toNat * sz))) else none
    | _, _ => none
  | .indexAddrA n sz x i => match g x, g i with
    | .ptr (some (b, o)), .int _ i => if 0 ≤ i ∧ i < n then some (.ptr (some (b, o + i.toNat * sz))) else none
    | _, _ => none
  | .indexA agg n sz x i => match g x, g i with
    | .agg cs, .int _ i => if 0 ≤ i ∧ i < n then part agg cs (i.toNat * sz) sz else none
    | _, _ => none
  | .indexS x i => match g x, g i with
    | .str s, .int _ i => if 0 ≤ i then (s[i.toNat]?).map fun b => .int .u8 b.toNat else none
    | _, _ => none
  | .extract i x => match g x with
    | .tup vs => vs[i]?
    | _ => none
  | .len x => match g x with
    | .slice _ _ n _ => some (.int .i64 n)
    | _ => none
  | .lenStr x => match g x with
    | .str s => some (.int .i64 s.size)
    | _ => none
  | .lenA n => some (.int .i64 n)
  | .max2 x y => match g x, g y with
    | .int k a, .int k' b => if k = k' then some (.int k (if b > a then b else a)) else none
    | _, _ => none
  | .min2 x y => match g x, g y with
    | .int k a, .int k' b => if k = k' then some (.int k (if b < a then b else a)) else none
    | _, _ => none
  | _ => none

/-- the operations that read memory and leave it alone -/
def memop (g : X → AV) (H : List Blk) : AO → Option AV
  | .load agg sz x => loadAt H agg sz (g x)
  | .ofBytes x => match g x with
    | .slice p sz n c => match srcCells false H (.slice p sz n c) with
      | some (_, cs) => if sz = 1 ∨ p = none then (ofBytesL cs).map fun bs => .str ⟨bs.toArray⟩ else none
      | none => none
    | _ => none
  | .sliceArr n sz x lo hi mx => match g x with
    | .ptr (some (b, o)) => match H[b]?, bound g hi n, bound g lo 0, optNat g mx with
      | some (.cells cs true), some h, some l, some m =>
        if (mx = none ∨ hi ≠ none) ∧ 0 < cs.length ∧ o + n * sz ≤ cs.length then sliceVal sz (some (b, o)) sz n (some n) l h m else none
      | _, _, _, _ => none
    | _ => none
  | _ => none

/-- the operations that make one block: its cells, and the value as a function of the block's number -/
def making (g : X → AV) : AO → Option (List AV × (Nat → AV))
  | .alloc zero => some (zero, fun b => .ptr (some (b, 0)))
  | .box x => (cellsOf (g x)).map fun cs => (cs, fun b => .ptr (some (b, 0)))
  | .buildSlice sz len zero parts => (fillParts g zero parts).map fun cs => (cs, fun b => .slice (some (b, 0)) sz len (some len))
  | _ => none

/-- the operations that write -/
def heavy (call : FuncId → List AV → Mem → Option (AV × Mem)) (g : X → AV) (m : Mem) : AO → Option (AV × Mem)
  | .store sz a x => match g a, cellsOf (g x) with
    | .ptr (some (b, o)), some new => match m.H[b]? with
      | some (.cells cs true) =>
        if new.length = sz ∧ 0 < sz ∧ o + sz ≤ cs.length then
          some (.tup [], { H := m.H.set b (.cells (setRange cs o new) true), esc := if (new.all fun v => v.under (b + 1)) then m.esc else minEsc m.esc b })
        else none
      | _ => none
    | _, _ => none
  | .toBytes x => match g x with
    | .str s => if s.size ≤ maxBytes then some (.slice (some (m.H.length, 0)) 1 s.size none, newBlk m (bytesOf s)) else none
    | _ => none
  | .makeSlice sz bytes zero len cap => match g len, g cap with
    | .int .i64 l, .int .i64 c => if 0 ≤ l ∧ l = c ∧ l * bytes ≤ maxBytes then
        some (.slice (some (m.H.length, 0)) sz l.toNat (some l.toNat), newBlk m (zeros l.toNat zero)) else none
    | _, _ => none
  | .append str sz bytes s x => match g s with
    | .slice none _ _ _ => match srcCells str m.H (g x) with
      | some (n, cs) => if n = 0 then some (nilSlice, m)
          else if n * bytes ≤ maxBytes ∧ cs.length = n * sz then some (.slice (some (m.H.length, 0)) sz n none, newBlk m cs) else none
      | none => none
    | .slice (some (b, o)) sz' n cap => match m.H[b]?, srcCells str m.H (g x) with
      | some (.cells old wr), some (k, cs) =>
        if sz' = sz ∧ (n + k) * bytes ≤ maxBytes ∧ cs.length = k * sz ∧ o + n * sz ≤ old.length then
          if cap = some 0 ∧ 0 < k then some (.slice (some (m.H.length, 0)) sz (n + k) none, newBlk m cs)
          else if wr then some (.slice (some (m.H.length, 0)) sz (n + k) none, { m with H := m.H.set b .dead ++ [.cells ((old.drop o).take (n * sz) ++ cs) true] })
          else none
        else none
      | _, _ => none
    | _ => none
  | .call f args => match g f with
    | .fn f first captured => call f (first ++ args.map g ++ captured) m
    | _ => none
  | _ => none

def aop (call : FuncId → List AV → Mem → Option (AV × Mem)) (g : X → AV) (m : Mem) (op : AO) : Option (AV × Mem) :=
  match light g op with
  | some v => some (v, m)
  | none => match memop g m.H op with
    | some v => some (v, m)
    | none => match making g op with
      | some (cs, v) => some (v m.H.length, newBlk m cs)
      | none => heavy call g m op

/-- is the operation to be carried out? none: cannot be told -/
def wanted (g : X → AV) : Option (X × Bool) → Option Bool
  | none => some true
  | some (x, b) => match g x with
    | .bool c => some (c == b)
    | .tup [] => some false
    | _ => none

def aops (call : FuncId → List AV → Mem → Option (AV × Mem)) (tm : List AV) : List AOper → List AV → Mem → Option (List AV × Mem)
  | [], loc, m => some (loc, m)
  | o :: rest, loc, m =>
    match wanted (get tm loc) o.guard with
    | none => none
    | some false => aops call tm rest (loc ++ [.tup []]) m
    | some true => match aop call (get tm loc) m o.op with
      | none => none
      | some (v, m) => aops call tm rest (loc ++ [v]) m

def setOuts (tm loc : List AV) : List (Nat × Nat) → List AV
  | [] => tm
  | (s, j) :: rest => setOuts (tm.set s ((loc[j]?).getD .undef)) loc rest

end Go.Proofs.Ytlcklonakjhoiaa.Slim

/- The slim machine: how the model's code becomes slim code (checked by the kernel, a function at a time), and the evaluator of code. -/
namespace Go.Proofs.Ytlcklonakjhoiaa.Slim
open Go

def ofCell : Value → Option AV
  | .bool b => some (.bool b)
  | .int k n => some (.int k n)
  | .string s => some (.str s)
  | .pointer none => some (.ptr none)
  | .slice none 0 0 => some nilSlice
  | .nilFunc => some .nilfn
  | .nilIface => some .nilif
  | .map none => some (.map none)
  | _ => none

def ofCells : List Value → Option (List AV)
  | [] => some []
  | v :: vs => match ofCell v, ofCells vs with
    | some a, some az => some (a :: az)
    | _, _ => none

def ofConst : Value → Option AV
  | .agg cs => (ofCells cs.toList).map .agg
  | v => ofCell v

def aggT (P : Program) (t : TypeId) : Option Bool :=
  match P.underlying t with
  | some (.struct _) => some true
  | some (.array _ _) => some true
  | some _ => some false
  | none => none

def szT (P : Program) (t : TypeId) : Option Nat := (P.info? t).map (·.size)
def bytesT (P : Program) (t : TypeId) : Option Nat := (P.info? t).map (·.bytes)
def zeroT (P : Program) (t : TypeId) : Option (List AV) :=
  match (P.info? t).map (·.zero) with
  | some (some v) => ofCells v.cells.toList
  | _ => none

/-- the kind of a plain cell: 0 a number, 1 a bool, 2 a string -/
def scalarT (P : Program) (t : TypeId) : Option Nat :=
  match P.underlying t with
  | some (.int _) => some 0
  | some .bool => some 1
  | some .string => some 2
  | _ => none

def fieldKinds (P : Program) : List (Field × Nat) → Option (List Nat)
  | [] => some []
  | (f, i) :: fs => match scalarT P f.type, fieldKinds P fs with
    | some k, some ks => if f.offset = i ∧ f.name ≠ "_" then some (k :: ks) else none
    | _, _ => none

/-- a struct or an array of plain cells: equal exactly if its cells are -/
def flatT (P : Program) (t : TypeId) : Option (List Nat) :=
  if P.eqGuardType P.depth t then none else
  match P.underlying t with
  | some (.struct fs) => if P.stoodInHeld t then none else fieldKinds P fs.toList.zipIdx
  | some (.array n e) => match scalarT P e, szT P e with
    | some k, some 1 => some (List.replicate n k)
    | _, _ => none
  | _ => none

abbrev Look := Operand → Option X

def mapX (cx : Look) : List Operand → Option (List X)
  | [] => some []
  | o :: os => match cx o, mapX cx os with
    | some x, some xs => some (x :: xs)
    | _, _ => none

def optX (cx : Look) : Option Operand → Option (Option X)
  | none => some none
  | some o => (cx o).map some

/-- the parts of a composite: where each lies, and its size -/
def partsX (cx : Look) (place : Nat → Option (Nat × Nat)) : List (Nat × Operand) → Option (List (Nat × Nat × X))
  | [] => some []
  | (i, o) :: rest => match place i, cx o, partsX cx place rest with
    | some (off, sz), some x, some xs => some ((off, sz, x) :: xs)
    | _, _, _ => none

def fieldsPlace (P : Program) (fs : Array Field) (i : Nat) : Option (Nat × Nat) :=
  match fs[i]? with
  | some f => (szT P f.type).map fun s => (f.offset, s)
  | none => none

def zerosOf (n : Nat) (zero : List AV) : List AV := zeros n zero

def compileCall (P : Program) (cx : Look) (c : Call) : Option AO :=
  match c.callee with
  | .value f => do
    let x ← cx f
    let xs ← mapX cx c.args.toList
    pure (.call x xs)
  | .builtin .len => match c.argTypes[0]?, c.args[0]? with
    | some t, some o => match P.underlying t with
      | some .string => (cx o).map .lenStr
      | some (.slice _) => (cx o).map .len
      | some (.array n _) => some (.lenA n)
      | _ => none
    | _, _ => none
  | .builtin .append => match c.argTypes[0]?, c.argTypes[1]?, c.args[0]?, c.args[1]? with
    | some t, some u, some s, some x => match P.underlying t, P.underlying u with
      | some (.slice e), some (.slice _) => do
        let sz ← szT P e
        let by' ← bytesT P e
        let a ← cx s
        let b ← cx x
        if 0 < by' && 0 < sz && (zeroT P e).map (·.length) == some sz then pure (.append false sz by' a b) else none
      | some (.slice e), some .string => do
        let sz ← szT P e
        let by' ← bytesT P e
        let a ← cx s
        let b ← cx x
        if by' == 1 && sz == 1 && (zeroT P e).map (·.length) == some sz then pure (.append true sz by' a b) else none
      | _, _ => none
    | _, _, _, _ => none
  | .builtin .max => match c.args.toList with
    | [a, b] => match cx a, cx b with
      | some x, some y => some (.max2 x y)
      | _, _ => none
    | _ => none
  | .builtin .min => match c.args.toList with
    | [a, b] => match cx a, cx b with
      | some x, some y => some (.min2 x y)
      | _, _ => none
    | _ => none
  | _ => none

def compileOp (P : Program) (cx : Look) (o : Op) : Option AO :=
  match o with
  | .move x => (cx x).map .mv
  | .assign x => (cx x).map .mv
  | .pick c a b => do pure (.pick (← cx c) (← cx a) (← cx b))
  | .alloc e => (zeroT P e).map .alloc
  | .box _ x => (cx x).map .box
  | .build t parts => match P.underlying t with
    | some (.struct fs) => do
      let zero ← zeroT P t
      if fs.toList.all (fun f => (szT P f.type).isSome) then pure (.build zero (← partsX cx (fieldsPlace P fs) parts.toList)) else none
    | some (.array _ e) => do
      let zero ← zeroT P t
      let sz ← szT P e
      pure (.build zero (← partsX cx (fun i => some (i * sz, sz)) parts.toList))
    | _ => none
  | .buildSlice t len parts => match P.underlying t with
    | some (.slice e) => do
      let sz ← szT P e
      let zero ← zeroT P e
      if len * sz ≤ 16777216 && 0 < sz && zero.length == sz then pure (.buildSlice sz len (zeros len zero) (← partsX cx (fun i => some (i * sz, sz)) parts.toList)) else none
    | _ => none
  | .load t a => do pure (.load (← aggT P t) (← szT P t) (← cx a))
  | .store t a x => do pure (.store (← szT P t) (← cx a) (← cx x))
  | .nilCheck x => (cx x).map .nilCheck
  | .binOp op t x y _ =>
    match P.underlying t with
      | some (.struct _) | some (.array _ _) =>
        if op == .eql || op == .neq then do pure (.eqCells (← flatT P t) (op == .neq) (← cx x) (← cx y)) else none
      | some (.int _) => do pure (.bin 0 op (← cx x) (← cx y))
      | some .string => do pure (.bin 1 op (← cx x) (← cx y))
      | some .bool => do pure (.bin 2 op (← cx x) (← cx y))
      | some (.slice _) => do pure (.bin 3 op (← cx x) (← cx y))
      | some (.interface _) => match y with
        | .const _ => do pure (.bin 4 op (← cx x) (← cx y))
        | _ => none
      | _ => none
  | .unOp op _ x => do pure (.un op (← cx x))
  | .convert src dst x => match P.underlying src, P.underlying dst with
    | some (.int _), some (.int k) => (cx x).map (.conv k)
    | some .string, some .string => (cx x).map .same
    | some .string, some (.slice e) => match P.underlying e, szT P e with
      | some (.int .u8), some 1 => (cx x).map .toBytes
      | _, _ => none
    | some (.slice e), some .string => match P.underlying e, szT P e with
      | some (.int .u8), some 1 => (cx x).map .ofBytes
      | _, _ => none
    | _, _ => none
  | .makeFunc (.func f) first captured => do pure (.makeFunc f (← mapX cx first.toList) (← mapX cx captured.toList))
  | .makeSlice t l c => match P.underlying t with
    | some (.slice e) => do
      let sz ← szT P e
      let by' ← bytesT P e
      let zero ← zeroT P e
      if 0 < sz && 0 < by' && zero.length == sz then pure (.makeSlice sz by' zero (← cx l) (← cx c)) else none
    | _ => none
  | .slice t x lo hi mx => match P.underlying t with
    | some .string => match mx with
      | none => do pure (.sliceStr (← cx x) (← optX cx lo) (← optX cx hi))
      | some _ => none
    | some (.slice e) => do
      let sz ← szT P e
      if 0 < sz then pure (.sliceSl sz (← cx x) (← optX cx lo) (← optX cx hi) (← optX cx mx)) else none
    | some (.array n e) => do
      let sz ← szT P e
      if 0 < sz then pure (.sliceArr n sz (← cx x) (← optX cx lo) (← optX cx hi) (← optX cx mx)) else none
    | _ => none
  | .fieldAddr s x i => match P.underlying s with
    | some (.struct fs) => match fs[i]? with
      | some f => match szT P f.type with
        | some (_ + 1) => (cx x).map (.fieldAddr f.offset)
        | _ => none
      | none => none
    | _ => none
  | .field t x i => match P.underlying t with
    | some (.struct fs) => match fs[i]? with
      | some f => do pure (.field (← aggT P f.type) f.offset (← szT P f.type) (← cx x))
      | none => none
    | _ => none
  | .indexAddr t x i => match P.underlying t with
    | some (.slice e) => do pure (.indexAddrS (← szT P e) (← cx x) (← cx i))
    | some (.array n e) => do pure (.indexAddrA n (← szT P e) (← cx x) (← cx i))
    | _ => none
  | .index t x i => match P.underlying t with
    | some (.array n e) => do pure (.indexA (← aggT P e) n (← szT P e) (← cx x) (← cx i))
    | some .string => do pure (.indexS (← cx x) (← cx i))
    | _ => none
  | .extract x i => (cx x).map (.extract i)
  | .call c => compileCall P cx c
  | _ => none

/-- operands: what this region has made so far, a kept slot, or nothing known -/
def cxOf (keep : List Nat) (env : List (Nat × Nat)) : Look
  | .tmp t => match env.lookup t with
    | some j => some (.l j)
    | none => match keep.idxOf? t with
      | some s => some (.t s)
      | none => some (.c .undef)
  | .const v => (ofConst v).map .c
  | .func f => some (.c (.fn f [] []))
  | .global _ => none

/-- the guard's operation lies ahead: its slot is read -/
def guardX (ops : Array Oper) (cx : Look) : Option (Nat × Bool) → Option (Option (X × Bool))
  | none => some none
  | some (j, b) => match (ops[j]?).bind (·.dst) with
    | some d => (cx (.tmp d)).map fun x => some (x, b)
    | none => none

def envPut (env : List (Nat × Nat)) (dst : Option Tmp) (i : Nat) : List (Nat × Nat) :=
  match dst with
  | some d => (d, i) :: env
  | none => env

def dstOk (nt : Nat) : Option Tmp → Bool
  | some d => d < nt
  | none => true

def compileOps (P : Program) (nt : Nat) (keep : List Nat) (all : Array Oper) : List Oper → Nat → List (Nat × Nat) → Option (List AOper × List (Nat × Nat))
  | [], _, env => some ([], env)
  | o :: rest, i, env =>
    match compileOp P (cxOf keep env) o.op, guardX all (cxOf keep env) o.guard,
      compileOps P nt keep all rest (i + 1) (envPut env o.dst i) with
    | some a, some g, some (az, env') => if dstOk nt o.dst then some (⟨a, g⟩ :: az, env') else none
    | _, _, _ => none

/-- the kept slots that a region writes: from slot s on -/
def outsFrom (env : List (Nat × Nat)) : List Nat → Nat → List (Nat × Nat)
  | [], _ => []
  | t :: ks, s => match env.lookup t with
    | some j => (s, j) :: outsFrom env ks (s + 1)
    | none => outsFrom env ks (s + 1)

end Go.Proofs.Ytlcklonakjhoiaa.Slim

/- The slim machine: what its values and memory tell of the model's. -/
namespace Go.Proofs.Ytlcklonakjhoiaa.Slim
open Go
set_option linter.unusedVariables false

/-- where the slim blocks lie: the model's block and a shift -/
abbrev Emb := List (Option (Nat × Nat))

mutual
def V (ι : Emb) (w : World) : AV → Value → Prop
  | .undef, _ => True
  | .bool b, v => v = .bool b
  | .int k n, v => v = .int k n
  | .str s, v => v = .string s
  | .agg cs, v => ∃ xs : List Value, v = .agg xs.toArray ∧ VL ι w cs xs ∧ cs.all AV.isCell = true
  | .tup vs, v => ∃ xs : List Value, v = .tuple xs.toArray ∧ VL ι w vs xs
  | .ptr none, v => v = .pointer none
  | .ptr (some (b, o)), v => ∃ c d, ι[b]? = some (some (c, d)) ∧ v = .pointer (some ⟨c, d + o, none⟩)
  | .slice none _ n _, v => n = 0 ∧ v = .slice none 0 0
  | .slice (some (b, o)) sz n cap, v => ∃ c d x k e m, ι[b]? = some (some (c, d)) ∧ v = .slice (some ⟨c, x, none⟩) n k ∧ n ≤ k ∧
      (x = d + o ∨ (n = 0 ∧ k = 0)) ∧ w.shape? c = some (e, m) ∧ (k = 0 ∨ x + k * sz ≤ m) ∧ (∀ q, cap = some q → k = q)
  | .fn f a b, v => ∃ xs ys : List Value, v = .func (.func f) xs.toArray ys.toArray ∧ VL ι w a xs ∧ VL ι w b ys
  | .nilfn, v => v = .nilFunc
  | .map none, v => v = .map none
  | .map (some b), v => ∃ c d, ι[b]? = some (some (c, d)) ∧ v = .map (some c)
  | .nilif, v => v = .nilIface
  | .someif, v => ∃ t x, v = .iface t x
def VL (ι : Emb) (w : World) : List AV → List Value → Prop
  | [], xs => xs = []
  | c :: cs, xs => ∃ y ys, xs = y :: ys ∧ V ι w c y ∧ VL ι w cs ys
end

/-- what a later embedding keeps of an earlier one -/
def Emb.le (ι ι' : Emb) : Prop := ∀ (b : Nat) (p : Nat × Nat), ι[b]? = some (some p) → ι'[b]? = some (some p)

theorem Emb.le_refl (ι : Emb) : Emb.le ι ι := fun _ _ h => h
theorem Emb.le_trans {a b c : Emb} (h : Emb.le a b) (k : Emb.le b c) : Emb.le a c := fun _ _ e => k _ _ (h _ _ e)

/-- the shapes of rows stay -/
def Shapes (w w' : World) : Prop := ∀ (r : Nat) s, w.shape? r = some s → w'.shape? r = some s
theorem Shapes.refl (w : World) : Shapes w w := fun _ _ h => h
theorem Shapes.trans {a b c : World} (h : Shapes a b) (k : Shapes b c) : Shapes a c := fun _ _ e => k _ _ (h _ _ e)

mutual
theorem V.mono {ι ι' : Emb} {w w' : World} (hι : Emb.le ι ι') (hw : Shapes w w') : ∀ (a : AV) (v : Value), V ι w a v → V ι' w' a v
  | .undef, _, _ => trivial
  | .bool _, _, h => h
  | .int _ _, _, h => h
  | .str _, _, h => h
  | .agg cs, v, ⟨xs, e, h, c⟩ => ⟨xs, e, VL.mono hι hw cs xs h, c⟩
  | .tup vs, v, ⟨xs, e, h⟩ => ⟨xs, e, VL.mono hι hw vs xs h⟩
  | .ptr none, _, h => h
  | .ptr (some (b, o)), v, ⟨c, d, h, e⟩ => ⟨c, d, hι _ _ h, e⟩
  | .slice none _ _ _, _, h => h
  | .slice (some (b, o)) sz n cap, v, ⟨c, d, x, k, e, m, h1, h2, h3, h4, h5, h6, h7⟩ => ⟨c, d, x, k, e, m, hι _ _ h1, h2, h3, h4, hw _ _ h5, h6, h7⟩
  | .fn f a b, v, ⟨xs, ys, e, h, k⟩ => ⟨xs, ys, e, VL.mono hι hw a xs h, VL.mono hι hw b ys k⟩
  | .nilfn, _, h => h
  | .map none, _, h => h
  | .map (some b), v, ⟨c, d, h, e⟩ => ⟨c, d, hι _ _ h, e⟩
  | .nilif, _, h => h
  | .someif, _, h => h
theorem VL.mono {ι ι' : Emb} {w w' : World} (hι : Emb.le ι ι') (hw : Shapes w w') : ∀ (a : List AV) (v : List Value), VL ι w a v → VL ι' w' a v
  | [], _, h => h
  | c :: cs, xs, ⟨y, ys, e, h, k⟩ => ⟨y, ys, e, V.mono hι hw c y h, VL.mono hι hw cs ys k⟩
end

section lists
variable {ι : Emb} {w : World}
theorem VL.length : ∀ {a : List AV} {v : List Value}, VL ι w a v → v.length = a.length
  | [], _, h => by cases h; rfl
  | c :: cs, _, ⟨y, ys, e, _, k⟩ => by subst e; simp [VL.length k]
theorem VL.append : ∀ {a b : List AV} {u v : List Value}, VL ι w a u → VL ι w b v → VL ι w (a ++ b) (u ++ v)
  | [], _, _, _, h, k => by cases h; exact k
  | c :: cs, _, _, _, ⟨y, ys, e, h, t⟩, k => by subst e; exact ⟨y, ys ++ _, rfl, h, VL.append t k⟩
theorem VL.get : ∀ {a : List AV} {v : List Value}, VL ι w a v → ∀ (i : Nat) c, a[i]? = some c → ∃ y, v[i]? = some y ∧ V ι w c y
  | [], _, _, i, c, e => by simp at e
  | c :: cs, _, ⟨y, ys, e', h, t⟩, 0, d, e => by subst e'; simp at e; subst e; exact ⟨y, rfl, h⟩
  | c :: cs, _, ⟨y, ys, e', h, t⟩, i + 1, d, e => by subst e'; simpa using VL.get t i d (by simpa using e)
theorem VL.getV : ∀ {a : List AV} {v : List Value}, VL ι w a v → ∀ (i : Nat) y, v[i]? = some y → ∃ c, a[i]? = some c ∧ V ι w c y
  | [], _, h, i, c, e => by cases h; simp at e
  | c :: cs, _, ⟨y, ys, e', h, t⟩, 0, d, e => by subst e'; simp at e; subst e; exact ⟨c, rfl, h⟩
  | c :: cs, _, ⟨y, ys, e', h, t⟩, i + 1, d, e => by subst e'; simpa using VL.getV t i d (by simpa using e)
theorem VL.take : ∀ (n : Nat) {a : List AV} {v : List Value}, VL ι w a v → VL ι w (a.take n) (v.take n)
  | 0, _, _, _ => rfl
  | n + 1, [], _, h => by cases h; rfl
  | n + 1, c :: cs, _, ⟨y, ys, e, h, t⟩ => by subst e; exact ⟨y, _, rfl, h, VL.take n t⟩
theorem VL.drop : ∀ (n : Nat) {a : List AV} {v : List Value}, VL ι w a v → VL ι w (a.drop n) (v.drop n)
  | 0, _, _, h => h
  | n + 1, [], _, h => by cases h; rfl
  | n + 1, c :: cs, _, ⟨y, ys, e, h, t⟩ => by subst e; exact VL.drop n t
theorem VL.setRange {a b : List AV} {u v : List Value} (off : Nat) (h : VL ι w a u) (k : VL ι w b v) : VL ι w (Slim.setRange a off b) (u.take off ++ v ++ u.drop (off + v.length)) := by
  unfold Slim.setRange
  rw [← k.length]
  exact ((h.take _).append k).append (h.drop _)
theorem VL.replicate {c : AV} {y : Value} (h : V ι w c y) : ∀ n, VL ι w (List.replicate n c) (List.replicate n y)
  | 0 => rfl
  | n + 1 => ⟨y, _, rfl, h, VL.replicate h n⟩
theorem VL.flatten {c : List AV} {y : List Value} (h : VL ι w c y) : ∀ n, VL ι w (List.replicate n c).flatten (List.replicate n y).flatten
  | 0 => rfl
  | n + 1 => by simp only [List.replicate_succ, List.flatten_cons]; exact h.append (VL.flatten h n)
theorem VL.map_of {α : Type} {f : α → AV} {g : α → Value} : ∀ (l : List α), (∀ x ∈ l, V ι w (f x) (g x)) → VL ι w (l.map f) (l.map g)
  | [], _ => rfl
  | x :: xs, h => ⟨_, _, rfl, h x (by simp), VL.map_of xs fun y hy => h y (by simp [hy])⟩
end lists

/-- one cell in memory is no composite -/
theorem V.oneCell {ι : Emb} {w : World} {c : AV} {v : Value} (hc : c.isCell = true) (h : V ι w c v) : v.oneCell' = true := by
  cases c with
  | undef => cases hc
  | agg => cases hc
  | tup => cases hc
  | bool => cases h; rfl
  | int => cases h; rfl
  | str => cases h; rfl
  | ptr p =>
    cases p with
    | none => cases h; rfl
    | some p => obtain ⟨b, o⟩ := p; obtain ⟨_, _, _, rfl⟩ := h; rfl
  | slice p =>
    cases p with
    | none => obtain ⟨_, rfl⟩ := h; rfl
    | some p => obtain ⟨b, o⟩ := p; obtain ⟨_, _, _, _, _, _, _, rfl, _⟩ := h; rfl
  | fn => obtain ⟨_, _, rfl, _⟩ := h; rfl
  | nilfn => cases h; rfl
  | map m =>
    cases m with
    | none => cases h; rfl
    | some b => obtain ⟨_, _, _, rfl⟩ := h; rfl
  | nilif => cases h; rfl
  | someif => obtain ⟨_, _, rfl⟩ := h; rfl

/-- a block of cells: where its cells lie, what they hold, and whether it may be written -/
structure CellsAt (ι : Emb) (w : World) (c d : Nat) (cs : List AV) (wr : Bool) : Prop where
  vals : ∃ vs : List Value, VL ι w cs vs ∧ ∀ j v, vs[j]? = some v → w.cell? ⟨c, d + j, none⟩ = some v
  cell : cs.all AV.isCell = true
  free : wr = true → ∃ e n, w.shape? c = some (e, n) ∧ ∀ o, o < n → w.frozen? ⟨c, o, none⟩ = false

/-- the slim memory m stands for the world w -/
structure Rel (ι : Emb) (m : Mem) (w : World) : Prop where
  len : ι.length = m.H.length
  low : ∀ (b c d : Nat), ι[b]? = some (some (c, d)) → c < w.heap.size
  at' : ∀ (b : Nat) cs wr, m.H[b]? = some (Blk.cells cs wr) → ∃ c d, ι[b]? = some (some (c, d)) ∧ CellsAt ι w c d cs wr
  inj : ∀ (b b' : Nat) cs cs' wr (c d c' d' : Nat), b ≠ b' → m.H[b]? = some (Blk.cells cs true) → m.H[b']? = some (Blk.cells cs' wr) →
    ι[b]? = some (some (c, d)) → ι[b']? = some (some (c', d')) → c ≠ c'

/-- the model's blocks that may be written -/
def Img (ι : Emb) (m : Mem) (r : Nat) : Prop := ∃ (b : Nat) (cs : List AV) (d : Nat), m.H[b]? = some (Blk.cells cs true) ∧ ι[b]? = some (some (r, d))

/-- what a step does to the world -/
structure Ext (ι : Emb) (m : Mem) (w : World) (ι' : Emb) (m' : Mem) (w' : World) : Prop where
  le : Emb.le ι ι'
  grow : ι.length ≤ ι'.length
  size : w.heap.size ≤ w'.heap.size
  shapes : Shapes w w'
  img : ∀ r, Img ι' m' r → Img ι m r ∨ w.heap.size ≤ r
  frame : ∀ r, r < w.heap.size → ¬ Img ι m r → w'.heap[r]? = w.heap[r]?
  os : w'.os = w.os
  tape : w'.tape = w.tape
  output : w'.output = w.output

theorem Ext.refl (ι : Emb) (m : Mem) (w : World) : Ext ι m w ι m w :=
  ⟨Emb.le_refl _, Nat.le_refl _, Nat.le_refl _, Shapes.refl _, fun _ h => .inl h, fun _ _ _ => rfl, rfl, rfl, rfl⟩

theorem Ext.trans {ι ι₁ ι₂ : Emb} {m m₁ m₂ : Mem} {w w₁ w₂ : World} (h : Ext ι m w ι₁ m₁ w₁) (k : Ext ι₁ m₁ w₁ ι₂ m₂ w₂) : Ext ι m w ι₂ m₂ w₂ where
  le := Emb.le_trans h.le k.le
  grow := Nat.le_trans h.grow k.grow
  size := Nat.le_trans h.size k.size
  shapes := h.shapes.trans k.shapes
  img := fun r hr => by
    rcases k.img r hr with h1 | h1
    · exact h.img r h1
    · exact .inr (Nat.le_trans h.size h1)
  frame := fun r hr hi => by
    rw [k.frame r (Nat.lt_of_lt_of_le hr h.size) (fun h1 => ?_), h.frame r hr hi]
    rcases h.img r h1 with h2 | h2
    · exact hi h2
    · exact absurd hr (by omega)
  os := k.os.trans h.os
  tape := k.tape.trans h.tape
  output := k.output.trans h.output

/-- a draw turns nothing -/
theorem Rel.drew {ι : Emb} {m : Mem} {w : World} (h : Rel ι m w) : Rel ι m w.drew :=
  ⟨h.len, h.low, fun b cs wr hb => by
    obtain ⟨c, d, hi, hv, hc, hf⟩ := h.at' b cs wr hb
    refine ⟨c, d, hi, ?_, hc, hf⟩
    obtain ⟨vs, h1, h2⟩ := hv
    exact ⟨vs, VL.mono (Emb.le_refl _) (w := w) (w' := w.drew) (fun _ _ h => h) _ _ h1, h2⟩, h.inj⟩

theorem Ext.drew (ι : Emb) (m : Mem) (w : World) : Ext ι m w ι m w.drew :=
  ⟨Emb.le_refl _, Nat.le_refl _, Nat.le_refl _, Shapes.refl _, fun _ h => .inl h, fun _ _ _ => rfl, rfl, rfl, rfl⟩

section alloc
variable {ι : Emb} {m : Mem} {w : World}

theorem shapes_alloc (w : World) (o : Obj) : Shapes w (w.alloc o) := by
  intro r s h
  unfold World.shape? at *
  have hr : r < w.heap.size := by
    rcases Nat.lt_or_ge r w.heap.size with h' | h'
    · exact h'
    · simp [Array.getElem?_eq_none h'] at h
  rw [heap_alloc_old w o r hr]
  exact h

theorem CellsAt.mono {ι' : Emb} {w' : World} {c d : Nat} {cs : List AV} {wr : Bool} (h : CellsAt ι w c d cs wr) (hι : Emb.le ι ι') (hw : Shapes w w')
    (hc : w'.heap[c]? = w.heap[c]?) : CellsAt ι' w' c d cs wr := by
  obtain ⟨⟨vs, h1, h2⟩, h3, h4⟩ := h
  refine ⟨⟨vs, VL.mono hι hw _ _ h1, fun j v hj => ?_⟩, h3, fun hwr => ?_⟩
  · rw [← h2 j v hj]; simp [World.cell?, hc]
  · obtain ⟨e, n, a, b⟩ := h4 hwr
    exact ⟨e, n, hw _ _ a, fun o ho => by rw [← b o ho]; simp [World.frozen?, hc]⟩

/-- a new block of cells -/
theorem Rel.allocF {cs : List AV} {vs : List Value} {e : TypeId} {fz : Nat × Nat} (h : Rel ι m w) (hv : VL ι w cs vs) (hc : cs.all AV.isCell = true) (extra : List Value) (hfz : ∀ o, o < (vs ++ extra).length → ¬ (fz.1 ≤ o ∧ o < fz.2)) :
    Rel (ι ++ [some (w.heap.size, 0)]) (newBlk m cs) (w.alloc (.cells (vs ++ extra).toArray e fz)) ∧
    Ext ι m w (ι ++ [some (w.heap.size, 0)]) (newBlk m cs) (w.alloc (.cells (vs ++ extra).toArray e fz)) := by
  have hle : Emb.le ι (ι ++ [some (w.heap.size, 0)]) := fun b p hb => by
    rw [List.getElem?_append_left]; exact hb
    exact (List.getElem?_eq_some_iff.mp hb).1
  have hsh := shapes_alloc w (.cells (vs ++ extra).toArray e fz)
  have hnew : (w.alloc (.cells (vs ++ extra).toArray e fz)).heap[w.heap.size]? = some (.cells (vs ++ extra).toArray e fz) := heap_alloc_new _ _
  have hcell : CellsAt (ι ++ [some (w.heap.size, 0)]) (w.alloc (.cells (vs ++ extra).toArray e fz)) w.heap.size 0 cs true := by
    refine ⟨⟨vs, VL.mono hle hsh _ _ hv, fun j v hj => ?_⟩, hc, fun _ => ⟨e, (vs ++ extra).length, ?_, fun o ho => ?_⟩⟩
    · rw [Nat.zero_add]
      simp only [World.cell?, hnew, Option.isSome_none, Bool.false_eq_true, if_false]
      rw [List.getElem?_toArray, List.getElem?_append_left]
      · exact hj
      · exact (List.getElem?_eq_some_iff.mp hj).1
    · unfold World.shape?; rw [hnew]; simp
    · have h2 := hfz o ho
      obtain ⟨lo, hi⟩ := fz
      unfold World.frozen?; simp only [hnew]
      simpa using h2
  have hold : ∀ (b c d : Nat), ι[b]? = some (some (c, d)) → (w.alloc (.cells (vs ++ extra).toArray e fz)).heap[c]? = w.heap[c]? :=
    fun b c d hb => heap_alloc_old w _ c (h.low b c d hb)
  have key : ∀ b : Nat, (ι ++ [some (w.heap.size, 0)])[b]? = if b < ι.length then ι[b]? else if b = ι.length then some (some (w.heap.size, 0)) else none := by
    intro b
    by_cases h1 : b < ι.length
    · rw [if_pos h1, List.getElem?_append_left h1]
    · rw [if_neg h1, List.getElem?_append_right (by omega)]
      by_cases h2 : b = ι.length
      · subst h2; simp
      · rw [if_neg h2]; rw [List.getElem?_eq_none]; simp; omega
  have keyH : ∀ b : Nat, (newBlk m cs).H[b]? = if b < ι.length then m.H[b]? else if b = ι.length then some (.cells cs true) else none := by
    intro b
    simp only [newBlk]
    by_cases h1 : b < ι.length
    · rw [if_pos h1, List.getElem?_append_left (by rw [← h.len]; exact h1)]
    · rw [if_neg h1, List.getElem?_append_right (by rw [← h.len]; omega)]
      by_cases h2 : b = ι.length
      · subst h2; simp [h.len]
      · rw [if_neg h2]; rw [List.getElem?_eq_none]; simp [← h.len]; omega
  refine ⟨⟨?_, ?_, ?_, ?_⟩, ⟨hle, ?_, ?_, hsh, ?_, ?_, rfl, rfl, rfl⟩⟩
  · simp [newBlk, h.len]
  · intro b c d hb
    rw [key] at hb
    rw [World.size_alloc]
    split at hb
    · have := h.low b c d hb; omega
    · split at hb
      · cases hb; omega
      · cases hb
  · intro b cs' wr hb
    rw [keyH] at hb
    split at hb
    · rename_i hlt
      obtain ⟨c, d, h1, h2⟩ := h.at' b cs' wr hb
      exact ⟨c, d, hle _ _ h1, h2.mono hle hsh (hold b c d h1)⟩
    · split at hb
      · rename_i hlt heq
        cases hb
        exact ⟨w.heap.size, 0, by rw [key, if_neg hlt, if_pos heq], hcell⟩
      · cases hb
  · intro b b' cs₁ cs₂ wr c d c' d' hne hb hb' hi hi'
    rw [keyH] at hb hb'
    rw [key] at hi hi'
    by_cases h1 : b < ι.length <;> by_cases h2 : b' < ι.length
    · rw [if_pos h1] at hb hi; rw [if_pos h2] at hb' hi'
      exact h.inj b b' cs₁ cs₂ wr c d c' d' hne hb hb' hi hi'
    · rw [if_pos h1] at hb hi; rw [if_neg h2] at hb' hi'
      split at hi'
      · cases hi'; have := h.low b c d hi; omega
      · cases hi'
    · rw [if_neg h1] at hb hi; rw [if_pos h2] at hb' hi'
      split at hi
      · cases hi; have := h.low b' c' d' hi'; omega
      · cases hi
    · rw [if_neg h1] at hb hi; rw [if_neg h2] at hb' hi'
      split at hi
      · split at hi'
        · omega
        · cases hi'
      · cases hi
  · simp
  · rw [World.size_alloc]; omega
  · rintro r ⟨b, cs', d, hb, hi⟩
    rw [keyH] at hb
    rw [key] at hi
    split at hb
    · rename_i hlt
      rw [if_pos hlt] at hi
      exact .inl ⟨b, cs', d, hb, hi⟩
    · rename_i hlt
      rw [if_neg hlt] at hi
      split at hi
      · cases hi; exact .inr (Nat.le_refl _)
      · cases hi
  · intro r hr _
    exact heap_alloc_old w _ r hr
theorem Rel.alloc {cs : List AV} {vs : List Value} {e : TypeId} (h : Rel ι m w) (hv : VL ι w cs vs) (hc : cs.all AV.isCell = true) (extra : List Value) :
    Rel (ι ++ [some (w.heap.size, 0)]) (newBlk m cs) (w.alloc (.cells (vs ++ extra).toArray e)) ∧
    Ext ι m w (ι ++ [some (w.heap.size, 0)]) (newBlk m cs) (w.alloc (.cells (vs ++ extra).toArray e)) :=
  h.allocF hv hc extra (fun _ _ => by simp)
end alloc

end Go.Proofs.Ytlcklonakjhoiaa.Slim

/- The slim machine: each operation that reads no memory does in the model what the slim one says. -/
namespace Go.Proofs.Ytlcklonakjhoiaa.Slim
open Go
set_option linter.unusedVariables false

theorem run_sizeT {P : Program} {t : TypeId} {n : Nat} (h : szT P t = some n) (w : World) : (sizeOf t).run P w = .ok n w := by
  unfold szT at h
  cases hi : P.info? t with
  | none => simp [hi] at h
  | some i => simp [hi] at h; subst h; simp [sizeOf, typeInfo, hi]

theorem run_aggT {P : Program} {t : TypeId} {b : Bool} (h : aggT P t = some b) (w : World) : (isAgg t).run P w = .ok b w := by
  unfold aggT at h
  cases hu : P.underlying t with
  | none => simp [hu] at h
  | some d =>
    simp only [hu] at h
    cases d <;> (simp at h; subst h; simp [isAgg, run_underlying hu])

theorem run_infoT {P : Program} {t : TypeId} {i : TypeInfo} (h : P.info? t = some i) (w : World) : (typeInfo t).run P w = .ok i w := by simp [typeInfo, h]

section
variable {ι : Emb} {w : World}

theorem V.ofCell : ∀ {v : Value} {a : AV}, Slim.ofCell v = some a → V ι w a v ∧ a.isCell = true := by
  intro v a h
  unfold Slim.ofCell at h
  split at h <;> first | (cases h; exact ⟨rfl, rfl⟩) | (cases h; exact ⟨⟨rfl, rfl⟩, rfl⟩) | cases h

theorem VL.ofCells : ∀ {v : List Value} {a : List AV}, Slim.ofCells v = some a → VL ι w a v ∧ a.all AV.isCell = true
  | [], a, h => by cases h; exact ⟨rfl, rfl⟩
  | v :: vs, a, h => by
    unfold Slim.ofCells at h
    split at h
    · rename_i a' az h1 h2
      cases h
      obtain ⟨p, q⟩ := V.ofCell (ι := ι) (w := w) h1
      obtain ⟨r, s⟩ := VL.ofCells h2
      exact ⟨⟨v, vs, rfl, p, r⟩, by simp [q]; simpa using s⟩
    · cases h

theorem V.ofConst {v : Value} {a : AV} (h : Slim.ofConst v = some a) : V ι w a v := by
  unfold Slim.ofConst at h
  split at h
  · rename_i cs
    simp only [Option.map_eq_some_iff] at h
    obtain ⟨l, h1, rfl⟩ := h
    obtain ⟨p, q⟩ := VL.ofCells (ι := ι) (w := w) h1
    exact ⟨cs.toList, by simp, p, q⟩
  · exact (V.ofCell h).1

theorem V.cells {a : AV} {v : Value} {cs : List AV} (h : V ι w a v) (hc : cellsOf a = some cs) : VL ι w cs v.cells.toList ∧ cs.all AV.isCell = true := by
  cases a with
  | undef => cases hc
  | tup => cases hc
  | agg l => cases hc; obtain ⟨xs, rfl, h1, h2⟩ := h; exact ⟨by simpa [Value.cells] using h1, h2⟩
  | bool => cases hc; cases h; exact ⟨⟨_, _, rfl, rfl, rfl⟩, rfl⟩
  | int => cases hc; cases h; exact ⟨⟨_, _, rfl, rfl, rfl⟩, rfl⟩
  | str => cases hc; cases h; exact ⟨⟨_, _, rfl, rfl, rfl⟩, rfl⟩
  | ptr p =>
    cases hc
    have h1 := V.oneCell (c := .ptr p) rfl h
    refine ⟨⟨v, [], ?_, h, rfl⟩, rfl⟩
    cases v <;> simp_all [Value.cells, Value.oneCell']
  | slice p =>
    cases hc
    rename_i sz n cap
    have h1 := V.oneCell (c := .slice p sz n cap) rfl h
    refine ⟨⟨v, [], ?_, h, rfl⟩, rfl⟩
    cases v <;> simp_all [Value.cells, Value.oneCell']
  | fn f x y =>
    cases hc
    have h1 := V.oneCell (c := .fn f x y) rfl h
    refine ⟨⟨v, [], ?_, h, rfl⟩, rfl⟩
    cases v <;> simp_all [Value.cells, Value.oneCell']
  | nilfn => cases hc; cases h; exact ⟨⟨_, _, rfl, rfl, rfl⟩, rfl⟩
  | map p =>
    cases hc
    have h1 := V.oneCell (c := .map p) rfl h
    refine ⟨⟨v, [], ?_, h, rfl⟩, rfl⟩
    cases v <;> simp_all [Value.cells, Value.oneCell']
  | nilif => cases hc; cases h; exact ⟨⟨_, _, rfl, rfl, rfl⟩, rfl⟩
  | someif =>
    cases hc
    have h1 := V.oneCell (c := .someif) rfl h
    refine ⟨⟨v, [], ?_, h, rfl⟩, rfl⟩
    cases v <;> simp_all [Value.cells, Value.oneCell']

theorem V.int_inv {k : IntKind} {n : Int} {v : Value} (h : V ι w (.int k n) v) : v = .int k n := h
theorem V.bool_inv {b : Bool} {v : Value} (h : V ι w (.bool b) v) : v = .bool b := h
theorem V.str_inv {s : ByteArray} {v : Value} (h : V ι w (.str s) v) : v = .string s := h

/-- the operands -/
def OkX (ι : Emb) (w : World) (cx : Look) (g : X → AV) (ρ : Operand → Value) : Prop := ∀ o x, cx o = some x → V ι w (g x) (ρ o)

theorem OkX.map {cx : Look} {g : X → AV} {ρ : Operand → Value} (h : OkX ι w cx g ρ) : ∀ {os : List Operand} {xs : List X}, mapX cx os = some xs → VL ι w (xs.map g) (os.map ρ)
  | [], xs, e => by cases e; rfl
  | o :: os, xs, e => by
    unfold mapX at e
    split at e
    · rename_i x xs' h1 h2
      cases e
      exact ⟨_, _, rfl, h _ _ h1, OkX.map h h2⟩
    · cases e

/-- the bounds of a slice expression -/
theorem natOf_inv {a : AV} {v : Value} {n : Nat} (h : V ι w a v) (hn : natOf a = some n) : ∃ k, v = .int k n := by
  unfold natOf at hn
  split at hn
  · rename_i k i
    split at hn
    · cases hn; cases h; exact ⟨k, by rw [Int.toNat_of_nonneg (by assumption)]⟩
    · cases hn
  · cases hn

theorem run_sliceBound {P : Program} {k : IntKind} {n y : Nat} (hy : n ≤ y) (code : BoundsCode) : (Instr.sliceBound (.int k n) y code).run P w = .ok n w := by
  simp [Instr.sliceBound, asIntOf, hy]

theorem run_sliceBounds {P : Program} {cx : Look} {g : X → AV} {ρ : Operand → Value} (hρ : OkX ι w cx g ρ) {lo hi mx : Option Operand} {lo' hi' mx' : Option X} {len cap l h m : Nat} (isS : Bool)
    (hlo : optX cx lo = some lo') (hhi : optX cx hi = some hi') (hmx : optX cx mx = some mx') (el : bound g lo' 0 = some l) (eh : bound g hi' len = some h)
    (em : bound g mx' cap = some m) (h1 : l ≤ h) (h2 : h ≤ m) (h3 : m ≤ cap) (h4 : mx' = none ∨ hi' ≠ none) :
    (Instr.sliceBounds isS len cap (lo.map ρ) (hi.map ρ) (mx.map ρ)).run P w = .ok (l, h, m) w := by
  have B : ∀ {x : Option Operand} {x' : Option X} {d n : Nat}, optX cx x = some x' → bound g x' d = some n → (x = none ∧ x' = none ∧ n = d) ∨ ∃ o k, x = some o ∧ ρ o = .int k n := by
    intro x x' d n hx hn
    cases x with
    | none => cases hx; cases hn; exact .inl ⟨rfl, rfl, rfl⟩
    | some o =>
      simp only [optX, Option.map_eq_some_iff] at hx
      obtain ⟨y, hy, rfl⟩ := hx
      obtain ⟨k, hk⟩ := natOf_inv (hρ _ _ hy) hn
      exact .inr ⟨o, k, rfl, hk⟩
  unfold Instr.sliceBounds
  have Bl := B hlo el
  have Bh := B hhi eh
  have Bm := B hmx em
  rcases Bm with ⟨rfl, rfl, rfl⟩ | ⟨om, km, rfl, hm⟩ <;> rcases Bh with ⟨rfl, rfl, rfl⟩ | ⟨oh, kh, rfl, hh⟩ <;> rcases Bl with ⟨rfl, rfl, rfl⟩ | ⟨ol, kl, rfl, hl⟩
  all_goals first
    | (exfalso; rcases h4 with h4 | h4 <;> simp_all [optX] <;> (simp only [optX, Option.map_eq_some_iff] at hmx; obtain ⟨_, _, e⟩ := hmx; cases e))
    | simp [*, run_sliceBound]

end
end Go.Proofs.Ytlcklonakjhoiaa.Slim

/- The slim machine: each operation that reads no memory does in the model what the slim one says (second part: composites, integers, indexes, slices). -/
namespace Go.Proofs.Ytlcklonakjhoiaa.Slim
open Go
set_option linter.unusedVariables false

theorem foldl_set (off : Nat) : ∀ (l : List Value) (k : Nat) (cells : Array Value), off + k + l.length ≤ cells.size →
    ((l.zipIdx k).foldl (fun cs (x : Value × Nat) => cs.setIfInBounds (off + x.2) x.1) cells).toList = cells.toList.take (off + k) ++ l ++ cells.toList.drop (off + k + l.length)
  | [], k, cells, h => by simp
  | v :: vs, k, cells, h => by
    rw [List.zipIdx_cons, List.foldl_cons, foldl_set off vs (k + 1) _ (by simp only [List.length_cons] at h; simp; omega)]
    simp only [List.length_cons] at h
    have hlt : off + k < cells.size := by omega
    simp only [Array.toList_setIfInBounds]
    rw [show off + (k + 1) = off + k + 1 by omega, List.take_succ_eq_append_getElem (by simpa using hlt), List.take_set_of_le (by omega), List.drop_set_of_lt (by omega)]
    simp
    omega

section
variable {ι : Emb} {w : World}

theorem fill_ok {P : Program} {cx : Look} {g : X → AV} {ρ : Operand → Value} (hρ : OkX ι w cx g ρ) {place : Nat → Option (Nat × Nat)} :
    ∀ {parts : List (Nat × Operand)} {ps : List (Nat × Nat × X)} {cs out : List AV} {cells : Array Value}, partsX cx place parts = some ps → fillParts g cs ps = some out →
      VL ι w cs cells.toList → cs.all AV.isCell = true →
      ∃ out', Instr.fill place cells (parts.map fun x => (x.1, ρ x.2)) = some out' ∧ VL ι w out out'.toList ∧ out.all AV.isCell = true ∧ out.length = cs.length
  | [], ps, cs, out, cells, h, hf, hv, hc => by cases h; cases hf; exact ⟨cells, rfl, hv, hc, rfl⟩
  | (i, o) :: rest, ps, cs, out, cells, h, hf, hv, hc => by
    unfold partsX at h
    split at h
    · rename_i off sz x xs h1 h2 h3
      cases h
      unfold fillParts at hf
      split at hf
      · cases hf
      · rename_i new hn
        split at hf
        · rename_i hlen
          obtain ⟨hl1, hl2⟩ := hlen
          obtain ⟨hv', hc'⟩ := (hρ _ _ h2).cells hn
          have hsz : (ρ o).cells.size = sz := by have := hv'.length; simp at this; omega
          have hcs : cells.size = cs.length := by have := hv.length; simpa using this
          have hset := hv.setRange off hv'
          have hfold := foldl_set off (ρ o).cells.toList 0 cells (by simp; omega)
          have hall : (Slim.setRange cs off new).all AV.isCell = true := by
            unfold Slim.setRange
            simp only [List.all_append, Bool.and_eq_true]
            refine ⟨⟨List.all_eq_true.mpr fun y hy => List.all_eq_true.mp hc y (List.mem_of_mem_take hy), hc'⟩, List.all_eq_true.mpr fun y hy => List.all_eq_true.mp hc y (List.mem_of_mem_drop hy)⟩
          obtain ⟨out', r1, r2, r3, r4⟩ := fill_ok (P := P) hρ (cells := (ρ o).cells.zipIdx.foldl (fun cs (c, j) => cs.setIfInBounds (off + j) c) cells) h3 hf (by
            rw [← Array.foldl_toList, Array.toList_zipIdx]
            have e : (fun (cs : Array Value) (x : Value × Nat) => match x with | (c, j) => cs.setIfInBounds (off + j) c) = fun cs x => cs.setIfInBounds (off + x.2) x.1 := rfl
            rw [e, hfold]
            simpa using hset) hall
          refine ⟨out', ?_, r2, r3, ?_⟩
          · simp only [List.map_cons, Instr.fill, h1]
            rw [if_neg (by simp; omega)]
            exact r1
          · rw [r4]; unfold Slim.setRange; simp; omega
        · cases hf
    · cases h

theorem run_fieldsPlaces {P : Program} : ∀ (fs : List Field), fs.all (fun f => (szT P f.type).isSome) = true →
    (fs.mapM fun f => (do pure (f.offset, ← sizeOf f.type) : Sem (Nat × Nat))).run P w = .ok (fs.map fun f => (f.offset, (szT P f.type).getD 0)) w
  | [], _ => by simp
  | f :: fs, h => by
    simp only [List.all_cons, Bool.and_eq_true] at h
    obtain ⟨n, hn⟩ := Option.isSome_iff_exists.mp h.1
    simp [List.mapM_cons, run_sizeT hn, hn]
    have := run_fieldsPlaces fs h.2
    simp at this
    simp [this]

theorem zeroT_ok {P : Program} {t : TypeId} {zs : List AV} (h : zeroT P t = some zs) : ∃ z : Value, (∀ w : World, (zeroValue t).run P w = .ok z w) ∧ VL ι w zs z.cells.toList ∧ zs.all AV.isCell = true := by
  unfold zeroT at h
  cases hi : P.info? t with
  | none => simp [hi] at h
  | some i =>
    simp only [hi, Option.map_some] at h
    cases hz : i.zero with
    | none => simp [hz] at h
    | some z =>
      simp only [hz] at h
      obtain ⟨p, q⟩ := VL.ofCells (ι := ι) (w := w) h
      exact ⟨z, fun w => by simp [zeroValue, typeInfo, hi, hz], p, q⟩

theorem build_ok {P : Program} {cx : Look} {g : X → AV} {ρ : Operand → Value} (hρ : OkX ι w cx g ρ) {t : TypeId} {parts : Array (Nat × Operand)} {ao : AO} {v : AV}
    (hc : compileOp P cx (.build t parts) = some ao) (hl : light g ao = some v) :
    ∃ v', (Instr.build t (parts.map fun (i, x) => (i, ρ x))).run P w = .ok v' w ∧ V ι w v v' := by
  have hpl : (parts.map fun (i, x) => (i, ρ x)).toList = parts.toList.map fun x => (x.1, ρ x.2) := by simp
  simp only [compileOp] at hc
  split at hc
  · rename_i fs hu
    simp only [Option.bind_eq_bind, Option.bind_eq_some_iff] at hc
    obtain ⟨zero, hz, hc⟩ := hc
    split at hc
    · rename_i hall
      simp only [Option.bind_eq_some_iff, Option.pure_def, Option.some.injEq] at hc
      obtain ⟨ps, hps, rfl⟩ := hc
      simp only [light, Option.map_eq_some_iff] at hl
      obtain ⟨out, ho, rfl⟩ := hl
      obtain ⟨z, hz1, hz2, hz3⟩ := zeroT_ok (ι := ι) (w := w) hz
      have hpl2 : (fun i => (fs.toList.map fun f => (f.offset, (szT P f.type).getD 0)).toArray[i]?) = fieldsPlace P fs := by
        funext i
        simp only [fieldsPlace, List.getElem?_toArray, List.getElem?_map, Array.getElem?_toList]
        cases hf : fs[i]? with
        | none => simp
        | some f =>
          have : f ∈ fs.toList := by simpa using Array.mem_of_getElem? hf
          obtain ⟨n, hn⟩ := Option.isSome_iff_exists.mp (List.all_eq_true.mp hall f this)
          simp [hn]
      obtain ⟨out', r1, r2, r3, _⟩ := fill_ok (P := P) hρ (cells := z.cells) hps ho hz2 hz3
      refine ⟨.agg out', ?_, ⟨out'.toList, by simp, r2, r3⟩⟩
      have hm := run_fieldsPlaces (P := P) (w := w) fs.toList hall
      simp only [Instr.build, Sem.run_bind, hz1, Result.andThen_ok, run_underlying hu, Array.mapM_eq_mapM_toList, Sem.run_map, hm]
      rw [hpl2, hpl, r1]
      rfl
    · cases hc
  · rename_i n e hu
    simp only [Option.bind_eq_bind, Option.bind_eq_some_iff, Option.pure_def, Option.some.injEq] at hc
    obtain ⟨zero, hz, sz, hs, ps, hps, rfl⟩ := hc
    simp only [light, Option.map_eq_some_iff] at hl
    obtain ⟨out, ho, rfl⟩ := hl
    obtain ⟨z, hz1, hz2, hz3⟩ := zeroT_ok (ι := ι) (w := w) hz
    obtain ⟨out', r1, r2, r3, _⟩ := fill_ok (P := P) hρ (cells := z.cells) hps ho hz2 hz3
    refine ⟨.agg out', ?_, ⟨out'.toList, by simp, r2, r3⟩⟩
    simp only [Instr.build, Sem.run_bind, hz1, Result.andThen_ok, run_underlying hu, run_sizeT hs]
    rw [hpl, r1]
    rfl
  · cases hc

/-- a part of a composite -/
theorem part_ok {P : Program} {t : TypeId} {agg : Bool} {sz off : Nat} (ha : aggT P t = some agg) (hs : szT P t = some sz) {cs : List AV} {v : AV} {xs : List Value}
    (hv : VL ι w cs xs) (hcell : cs.all AV.isCell = true) (h : Slim.part agg cs off sz = some v) :
    ∃ v', (Go.part t xs.toArray off).run P w = .ok v' w ∧ V ι w v v' := by
  unfold Slim.part at h
  cases agg with
  | true =>
    simp only [if_true] at h
    split at h
    · cases h
      refine ⟨.agg (xs.toArray.extract off (off + sz)), by simp [Go.part, run_aggT ha, run_sizeT hs], ?_⟩
      refine ⟨(xs.drop off).take sz, by simp, (hv.drop off).take sz, ?_⟩
      exact List.all_eq_true.mpr fun y hy => List.all_eq_true.mp hcell y (List.mem_of_mem_drop (List.mem_of_mem_take hy))
    · cases h
  | false =>
    simp only [Bool.false_eq_true, if_false] at h
    obtain ⟨y, h1, h2⟩ := hv.get off v h
    exact ⟨y, by simp [Go.part, run_aggT ha, h1], h2⟩

theorem intOp_ok {P : Program} {op : BinOp} {t : TypeId} {k k' : IntKind} {x y : Int} {v : AV} (hk : k = k' ∨ op = .shl ∨ op = .shr) (h : intOp op k x y = some v) :
    ∃ v', (binOp op t (.int k x) (.int k' y)).run P w = .ok v' w ∧ V ι w v v' := by
  by_cases e : k = k'
  · subst e
    cases op <;> simp only [intOp] at h <;> first
      | (cases h; exact ⟨_, by simp [binOp, Op.intArith, Op.intBits, Op.intCmp] <;> rfl, rfl⟩)
      | (split at h
         · cases h
         · rename_i hy
           cases h
           exact ⟨_, by simp [binOp, Op.intDiv, Op.shift, hy], rfl⟩)
  · rcases hk with h1 | h1 | h1
    · exact absurd h1 e
    · subst h1
      simp only [intOp] at h
      split at h
      · cases h
      · rename_i hy
        cases h
        exact ⟨_, by simp [binOp, Op.shift, hy], rfl⟩
    · subst h1
      simp only [intOp] at h
      split at h
      · cases h
      · rename_i hy
        cases h
        exact ⟨_, by simp [binOp, Op.shift, hy], rfl⟩
end
end Go.Proofs.Ytlcklonakjhoiaa.Slim

/- The slim machine: each operation that reads no memory does in the model what the slim one says (third part: all of them). -/
namespace Go.Proofs.Ytlcklonakjhoiaa.Slim
open Go
set_option linter.unusedVariables false

section
variable {ι : Emb} {w : World}

theorem eqGuard_plain {P : Program} (op : BinOp) (t : TypeId) (x y : Operand) (a b : Value) (h1 : a = .nilIface → b = .nilIface → ∃ c, y = .const c)
    (h2 : (∃ xs ys, a = .agg xs ∧ b = .agg ys) → P.eqGuardType P.depth t = false) : (eqGuard op t x y a b).run P w = .ok () w := by
  cases op <;> first
    | rfl
    | (cases a <;> cases b <;> first
        | rfl
        | (obtain ⟨c, rfl⟩ := h1 rfl rfl; cases x <;> rfl)
        | (have h3 := h2 ⟨_, _, rfl, rfl⟩; simp [eqGuard, h3]; done))

theorem dec_bytes (s r : ByteArray) : (s.toList == r.toList) = decide (s = r) := by
  by_cases h : s = r
  · subst h; simp
  · rw [decide_eq_false h]
    refine beq_eq_false_iff_ne.mpr fun e => h ?_
    rw [ByteArray.toList_eq, ByteArray.toList_eq] at e
    exact ByteArray.ext (Array.ext' e)

theorem binop_ok {P : Program} {cls : Nat} {op : BinOp} {t : TypeId} {x y : Operand} {a b v : AV} {a' b' : Value}
    (hb2 : cls = 2 → P.underlying t = some .bool) (hs2 : cls = 3 → ∃ e, P.underlying t = some (.slice e))
    (hi2 : cls = 4 → (∃ ms, P.underlying t = some (.interface ms)) ∧ ∃ c, y = .const c)
    (ha : V ι w a a') (hb : V ι w b b') (h : Slim.binop cls op a b = some v) :
    ∃ v', (do eqGuard op t x y a' b'; Go.binOp op t a' b' : Sem Value).run P w = .ok v' w ∧ V ι w v v' := by
  have G : ∀ (z : Value), (Go.binOp op t a' b').run P w = .ok z w → (eqGuard op t x y a' b').run P w = .ok () w →
      (do eqGuard op t x y a' b'; Go.binOp op t a' b' : Sem Value).run P w = .ok z w := by
    intro z h1 h2
    simp only [Sem.run_bind, h2, Result.andThen_ok, h1]
  unfold Slim.binop at h
  split at h
  · -- integers
    rename_i k i k' j
    cases ha; cases hb
    split at h
    · rename_i hk
      obtain ⟨v', h1, h2⟩ := intOp_ok (ι := ι) (w := w) (P := P) (t := t) hk h
      exact ⟨v', G _ h1 (eqGuard_plain _ _ _ _ _ _ (fun e => by cases e) (fun ⟨_, _, e, _⟩ => by cases e)), h2⟩
    · cases h
  · -- strings
    rename_i s r
    cases ha; cases hb
    have hg := eqGuard_plain (P := P) (w := w) op t x y (.string s) (.string r) (fun e => by cases e) (fun ⟨_, _, e, _⟩ => by cases e)
    have hd := dec_bytes s r
    cases op <;> dsimp only at h <;> first
      | (cases h; done)
      | (cases h; exact ⟨_, G _ (by simp [Go.binOp, Op.stringOp, hd]) hg, rfl⟩)
      | (split at h
         · cases h
           refine ⟨_, G _ ?_ hg, rfl⟩
           simp only [Go.binOp, Op.stringOp]
           rw [if_neg (by simp [IntKind.max, IntKind.signed, IntKind.bits]; omega)]
           rfl
         · cases h)
  · -- bools
    rename_i s r
    cases ha; cases hb
    have hg := eqGuard_plain (P := P) (w := w) op t x y (.bool s) (.bool r) (fun e => by cases e) (fun ⟨_, _, e, _⟩ => by cases e)
    have hq := run_equal_bool (P := P) w t s r (hb2 rfl)
    cases op <;> dsimp only at h <;> first
      | (cases h; done)
      | (cases h; exact ⟨_, G _ (by simp [Go.binOp, hq]) hg, rfl⟩)
  · -- a slice and nil
    rename_i p sz n cap sz' n' cap'
    obtain ⟨e, he⟩ := hs2 rfl
    obtain ⟨rfl, rfl⟩ := hb
    obtain ⟨q, l, c, rfl, hp⟩ : ∃ q l c, a' = .slice q l c ∧ q.isNone = p.isNone := by
      cases p with
      | none => obtain ⟨_, rfl⟩ := ha; exact ⟨_, _, _, rfl, rfl⟩
      | some p => obtain ⟨b, o⟩ := p; obtain ⟨_, _, _, _, _, _, _, rfl, _⟩ := ha; exact ⟨_, _, _, rfl, rfl⟩
    have hg := eqGuard_plain (P := P) (w := w) op t x y (.slice q l c) (.slice none 0 0) (fun e => by cases e) (fun ⟨_, _, e, _⟩ => by cases e)
    have hq := run_equal_slice_nil (P := P) w t e q l c he
    cases op <;> dsimp only at h <;> first
      | (cases h; done)
      | (cases h; exact ⟨_, G _ (by simp [Go.binOp, hq, hp]) hg, rfl⟩)
  · obtain ⟨⟨ms, hm⟩, c, rfl⟩ := hi2 rfl
    cases ha; cases hb
    have hg := eqGuard_plain (P := P) (w := w) op t x (.const c) .nilIface .nilIface (fun _ _ => ⟨c, rfl⟩) (fun ⟨_, _, e, _⟩ => by cases e)
    have hq : (Op.equal t .nilIface .nilIface).run P w = .ok true w := by
      have hd : ∀ d, (Op.equalIn (d + 1) t .nilIface .nilIface).run P w = .ok true w := fun d => by simp [Op.equalIn, run_underlying hm]
      exact hd 9999
    cases op <;> dsimp only at h <;> first
      | (cases h; done)
      | (cases h; exact ⟨_, G _ (by simp [Go.binOp, hq]) hg, rfl⟩)
  · obtain ⟨⟨ms, hm⟩, c, rfl⟩ := hi2 rfl
    obtain ⟨tt, z, rfl⟩ := ha
    cases hb
    have hg := eqGuard_plain (P := P) (w := w) op t x (.const c) (.iface tt z) .nilIface (fun e => by cases e) (fun ⟨_, _, e, _⟩ => by cases e)
    have hq : (Op.equal t (.iface tt z) .nilIface).run P w = .ok false w := by
      have hd : ∀ d, (Op.equalIn (d + 1) t (.iface tt z) .nilIface).run P w = .ok false w := fun d => by simp [Op.equalIn, run_underlying hm]
      exact hd 9999
    cases op <;> dsimp only at h <;> first
      | (cases h; done)
      | (cases h; exact ⟨_, G _ (by simp [Go.binOp, hq]) hg, rfl⟩)
  · cases h

/-- one plain cell against another -/
theorem eqCell_ok {P : Program} {t : TypeId} {k : Nat} (ht : scalarT P t = some k) {a b : AV} {r : Bool} {a' b' : Value} (ha : V ι w a a') (hb : V ι w b b') (h : eqCell k a b = some r) (d : Nat) :
    (Op.equalIn (d + 1) t a' b').run P w = .ok r w := by
  unfold scalarT at ht
  unfold eqCell at h
  split at ht <;> first
    | (cases ht; done)
    | (rename_i hu
       cases ht
       split at h <;> first
         | (cases h; done)
         | (rename_i e; cases e; done)
         | (cases ha; cases hb; cases h; exact run_equalIn_bool' w d t _ _ hu)
         | (cases ha; cases hb; cases h; rw [run_equalIn_string w d t _ _ hu, dec_bytes])
         | (cases ha; cases hb
            split at h
            · rename_i e; subst e; cases h
              rw [run_equalIn_int w d t _ _ _ _ hu]; congr 1
            · cases h))

theorem aggT_of_scalar {P : Program} {t : TypeId} {k : Nat} (h : scalarT P t = some k) : aggT P t = some false := by
  unfold scalarT at h
  unfold aggT
  split at h <;> first | (cases h; done) | (rename_i hu; rw [hu])

theorem eqFields_ok {P : Program} (d : Nat) : ∀ (fs : List (Field × Nat)) (ks : List Nat) (xs ys : List AV) (xs' ys' : Array Value) (r : Bool) (n : Nat), VL ι w xs xs'.toList → VL ι w ys ys'.toList →
    (∀ i f, fs[i]? = some f → f.2 = n + i) → fieldKinds P fs = some ks → eqList ks (xs.drop n) (ys.drop n) = some r → (Op.eqFields (d + 1) xs' ys' (fs.map (·.1))).run P w = .ok r w
  | [], ks, xs, ys, xs', ys', r, n, hx, hy, hn, hk, he => by
    cases hk
    unfold eqList at he
    split at he <;> first | (cases he; simp [Op.eqFields]; done) | (cases he; done) | skip
    all_goals (rename_i h1 h2; simp_all)
  | (f, i) :: fs, ks, xs, ys, xs', ys', r, n, hx, hy, hn, hk, he => by
    have hi : i = n := by simpa using hn 0 (f, i) rfl
    subst hi
    unfold fieldKinds at hk
    split at hk
    · rename_i k ks' h1 h2
      split at hk
      · rename_i hc
        cases hk
        obtain ⟨hc1, hc2⟩ := hc
        unfold eqList at he
        split at he
        · rename_i h3 h4 h5; cases h3
        · rename_i k' ks'' x xs1 y ys1 e1 e2 e3
          cases e1
          split at he
          · rename_i p q g1 g2
            cases he
            have gx : xs[i]? = some x := by rw [← List.head?_drop, e2]; rfl
            have gy : ys[i]? = some y := by rw [← List.head?_drop, e3]; rfl
            have dx : xs.drop (i + 1) = xs1 := by rw [← List.drop_drop, e2]; rfl
            have dy : ys.drop (i + 1) = ys1 := by rw [← List.drop_drop, e3]; rfl
            obtain ⟨x', x1, x2⟩ := hx.get i x gx
            obtain ⟨y', y1, y2⟩ := hy.get i y gy
            have ha := aggT_of_scalar h1
            have px : (Go.part f.type xs' f.offset).run P w = .ok x' w := by
              rw [hc1]; simp only [Go.part, Sem.run_bind, run_aggT ha, Result.andThen_ok, Bool.false_eq_true, if_false]
              rw [← Array.getElem?_toList, x1]; rfl
            have py : (Go.part f.type ys' f.offset).run P w = .ok y' w := by
              rw [hc1]; simp only [Go.part, Sem.run_bind, run_aggT ha, Result.andThen_ok, Bool.false_eq_true, if_false]
              rw [← Array.getElem?_toList, y1]; rfl
            have pe := eqCell_ok (P := P) h1 x2 y2 g1 d
            have ih := eqFields_ok (P := P) d fs ks' xs ys xs' ys' q (i + 1) hx hy (fun j g hj => by have := hn (j + 1) g (by simpa using hj); omega) h2 (by rw [dx, dy]; exact g2)
            simp only [List.map_cons, Op.eqFields, ne_eq, hc2, not_false_eq_true, if_true, Sem.run_bind, px, py, pe, Result.andThen_ok]
            cases p
            · simp
            · simp [ih]
          · cases he
        · cases he
      · cases hk
    · cases hk

theorem eqItems_ok {P : Program} {e : TypeId} {k : Nat} (d : Nat) (hk : scalarT P e = some k) : ∀ (n i : Nat) (xs ys : List AV) (xs' ys' : Array Value) (r : Bool), VL ι w xs xs'.toList → VL ι w ys ys'.toList →
    eqList (List.replicate n k) (xs.drop i) (ys.drop i) = some r → (Op.eqItems (d + 1) e 1 xs' ys' (List.range' i n)).run P w = .ok r w
  | 0, i, xs, ys, xs', ys', r, hx, hy, he => by
    rw [List.replicate_zero] at he
    unfold eqList at he
    split at he <;> first | (cases he; simp [Op.eqItems]; done) | (cases he; done) | skip
    all_goals (rename_i h1 h2; simp_all)
  | n + 1, i, xs, ys, xs', ys', r, hx, hy, he => by
    rw [List.replicate_succ] at he
    unfold eqList at he
    split at he
    · rename_i h3 h4 h5; cases h3
    · rename_i k' ks'' x xs1 y ys1 e1 e2 e3
      cases e1
      split at he
      · rename_i p q g1 g2
        cases he
        have gx : xs[i]? = some x := by rw [← List.head?_drop, e2]; rfl
        have gy : ys[i]? = some y := by rw [← List.head?_drop, e3]; rfl
        have dx : xs.drop (i + 1) = xs1 := by rw [← List.drop_drop, e2]; rfl
        have dy : ys.drop (i + 1) = ys1 := by rw [← List.drop_drop, e3]; rfl
        obtain ⟨x', x1, x2⟩ := hx.get i x gx
        obtain ⟨y', y1, y2⟩ := hy.get i y gy
        have ha := aggT_of_scalar hk
        have px : (Go.part e xs' (i * 1)).run P w = .ok x' w := by
          rw [Nat.mul_one]; simp only [Go.part, Sem.run_bind, run_aggT ha, Result.andThen_ok, Bool.false_eq_true, if_false]
          rw [← Array.getElem?_toList, x1]; rfl
        have py : (Go.part e ys' (i * 1)).run P w = .ok y' w := by
          rw [Nat.mul_one]; simp only [Go.part, Sem.run_bind, run_aggT ha, Result.andThen_ok, Bool.false_eq_true, if_false]
          rw [← Array.getElem?_toList, y1]; rfl
        have pe := eqCell_ok (P := P) hk x2 y2 g1 d
        have ih := eqItems_ok (P := P) d hk n (i + 1) xs ys xs' ys' q hx hy (by rw [dx, dy]; exact g2)
        simp only [List.range'_succ, Op.eqItems, Sem.run_bind, px, py, pe, Result.andThen_ok]
        cases p
        · simp
        · simp [ih]
      · cases he
    · cases he

theorem eqCells_ok {P : Program} {op : BinOp} {t : TypeId} {x y : Operand} {ks : List Nat} {xs ys : List AV} {a' b' : Value} {r : Bool} (hop : op = .eql ∨ op = .neq)
    (hk : flatT P t = some ks) (ha : V ι w (.agg xs) a') (hb : V ι w (.agg ys) b') (h : eqList ks xs ys = some r) :
    (do eqGuard op t x y a' b'; Go.binOp op t a' b' : Sem Value).run P w = .ok (.bool (if op == .neq then !r else r)) w := by
  obtain ⟨xs', rfl, hx, _⟩ := ha
  obtain ⟨ys', rfl, hy, _⟩ := hb
  unfold flatT at hk
  split at hk
  · cases hk
  · rename_i hg
    have hg' : P.eqGuardType P.depth t = false := by simpa using hg
    have hG := eqGuard_plain (P := P) (w := w) op t x y (.agg xs'.toArray) (.agg ys'.toArray) (fun e => by cases e) (fun _ => hg')
    have hq : (Op.equal t (.agg xs'.toArray) (.agg ys'.toArray)).run P w = .ok r w := by
      split at hk
      · rename_i fs hu
        split at hk
        · cases hk
        · rename_i hst
          have hst' : P.stoodInHeld t = false := by simpa using hst
          have hf : P.fieldsOf t = fs := by simp [Program.fieldsOf, hu]
          have h1 := run_equalIn_struct (P := P) w 9999 t xs'.toArray ys'.toArray (by rw [hf]; exact hu) hst'
          have h2 := eqFields_ok (P := P) (ι := ι) (w := w) 9998 fs.toList.zipIdx ks xs ys xs'.toArray ys'.toArray r 0 (by simpa using hx) (by simpa using hy) (fun i f hf => by
            rw [List.getElem?_zipIdx] at hf
            simp only [Option.map_eq_some_iff] at hf
            obtain ⟨g, _, rfl⟩ := hf
            simp) hk (by simpa using h)
          show (Op.equalIn 10000 t _ _).run P w = _
          rw [h1, hf]
          simpa using h2
      · rename_i n e hu
        split at hk
        · rename_i k hk1 hk2
          cases hk
          cases hi : P.info? e with
          | none => simp [szT, hi] at hk2
          | some i =>
            have hsz : P.cellsOf e = 1 := by unfold szT at hk2; unfold Program.cellsOf; rw [hk2]; rfl
            have h1 := run_equalIn_array (P := P) w 9999 xs'.toArray ys'.toArray hu hi
            have h2 := eqItems_ok (P := P) (ι := ι) (w := w) 9998 hk1 n 0 xs ys xs'.toArray ys'.toArray r (by simpa using hx) (by simpa using hy) (by simpa using h)
            show (Op.equalIn 10000 t _ _).run P w = _
            rw [h1, hsz, List.range_eq_range']
            exact h2
        · cases hk
      · cases hk
    simp only [Sem.run_bind, hG, Result.andThen_ok]
    rcases hop with rfl | rfl
    · simp [Go.binOp, hq]
    · simp [Go.binOp, hq]

end
end Go.Proofs.Ytlcklonakjhoiaa.Slim

/- The slim machine: every operation that reads no memory does in the model what the slim one says. -/
namespace Go.Proofs.Ytlcklonakjhoiaa.Slim
open Go
set_option linter.unusedVariables false
set_option linter.unusedSimpArgs false

section
variable {ι : Emb} {w : World}

/-- what an operation comes to, as a value -/
def Does (P : Program) (ι : Emb) (w : World) (ρ : Operand → Value) (o : Oper) (v : AV) : Prop := ∃ v', (execOp ρ o).run P w = .ok (.value v') w ∧ V ι w v v'

theorem doesV {P : Program} {ρ : Operand → Value} {o : Oper} {v : AV} (s : Sem Value) (he : execOp ρ o = (do pure (.value (← s)))) (h : ∃ v', s.run P w = .ok v' w ∧ V ι w v v') : Does P ι w ρ o v := by
  obtain ⟨v', h1, h2⟩ := h
  exact ⟨v', by rw [he]; simp [h1], h2⟩

theorem mapX_list {cx : Look} {g : X → AV} {ρ : Operand → Value} (hρ : OkX ι w cx g ρ) {os : Array Operand} {xs : List X} (h : mapX cx os.toList = some xs) :
    ∃ vs : List Value, os.map ρ = vs.toArray ∧ VL ι w (xs.map g) vs := by
  refine ⟨os.toList.map ρ, ?_, hρ.map h⟩
  apply Array.ext'
  simp

theorem un_ok {P : Program} {op : UnOp} {a v : AV} {a' : Value} (ha : V ι w a a') (h : unop op a = some v) : ∃ v', (Op.unary op a').run P w = .ok v' w ∧ V ι w v v' := by
  unfold unop at h
  split at h
  · cases ha; cases h; exact ⟨_, by simp [Op.unary, Op.intArith], rfl⟩
  · cases ha
    simp only [intOp, Option.some.injEq] at h
    subst h
    exact ⟨_, by simp [Op.unary, Op.intBits], rfl⟩
  · cases ha; cases h; exact ⟨_, by simp [Op.unary], rfl⟩
  · cases h

theorem optX_none {cx : Look} {x : Option Operand} {x' : Option X} (h : optX cx x = some x') : x' = none ↔ x = none := by
  cases x with
  | none => cases h; simp
  | some o =>
    simp only [optX, Option.map_eq_some_iff] at h
    obtain ⟨y, _, rfl⟩ := h
    simp

theorem optNat_inv {cx : Look} {g : X → AV} {mx : Option Operand} {mx' : Option X} {m : Option Nat} {k : Nat} (h : optNat g mx' = some m) : bound g mx' k = some (m.getD k) := by
  cases mx' with
  | none => cases h; rfl
  | some y =>
    simp only [optNat, Option.map_eq_some_iff] at h
    obtain ⟨n, hn, rfl⟩ := h
    exact hn

/-- a cut of a slice that lies in memory -/
theorem sliceVal_ok {sz sz' n k b o l h : Nat} {cap m : Option Nat} {v : AV} {c d xo e M : Nat} (hv : sliceVal sz (some (b, o)) sz' n cap l h m = some v) (hnk : n ≤ k)
    (g1 : ι[b]? = some (some (c, d))) (g4 : xo = d + o ∨ (n = 0 ∧ k = 0)) (g5 : w.shape? c = some (e, M)) (g6 : k = 0 ∨ xo + k * sz' ≤ M) (g7 : ∀ q, cap = some q → k = q) :
    V ι w v (.slice (if m.getD k = l then some ⟨c, xo, none⟩ else (some (⟨c, xo, none⟩ : Addr)).map (·.add (l * sz))) (h - l) (m.getD k - l)) ∧ l ≤ h ∧ h ≤ m.getD k ∧ m.getD k ≤ k := by
  simp only [sliceVal] at hv
  split at hv
  · rename_i hc
    obtain ⟨rfl, h1, h2, h3⟩ := hc
    cases hv
    have hm : h ≤ m.getD k ∧ m.getD k ≤ k := by
      cases m with
      | none => simp at h2 h3 ⊢; omega
      | some m => simp at h2 h3 ⊢; omega
    refine ⟨?_, h1, hm.1, hm.2⟩
    have hcap : ∀ q, (match m with | none => cap.map (· - l) | some m => some (m - l)) = some q → m.getD k - l = q := by
      intro q hq
      cases m with
      | none =>
        simp only [Option.map_eq_some_iff] at hq
        obtain ⟨r, hr, rfl⟩ := hq
        rw [g7 r hr]; rfl
      | some m => cases hq; rfl
    generalize m.getD k = mm at *
    by_cases hkl : mm = l
    · rw [if_pos hkl]
      refine ⟨c, d, xo, mm - l, e, M, g1, rfl, by omega, .inr ⟨by omega, by omega⟩, g5, ?_, hcap⟩
      left; omega
    · rw [if_neg hkl]
      have hne : xo = d + o := by
        rcases g4 with g4 | g4
        · exact g4
        · omega
      subst hne
      refine ⟨c, d, d + o + l * sz', mm - l, e, M, g1, ?_, by omega, .inl (by omega), g5, ?_, hcap⟩
      · simp only [Option.map_some, Addr.add]
        by_cases hz : l * sz' = 0
        · simp [hz]
        · simp [hz]
      · have h5 : l * sz' + (mm - l) * sz' = mm * sz' := by rw [← Nat.add_mul]; congr 1; omega
        have h6 : mm * sz' ≤ k * sz' := Nat.mul_le_mul_right _ hm.2
        rcases g6 with g6 | g6
        · left; omega
        · right; omega
  · cases hv

theorem slice_ok {P : Program} {cx : Look} {g : X → AV} {ρ : Operand → Value} (hρ : OkX ι w cx g ρ) {t : TypeId} {x : Operand} {lo hi mx : Option Operand} {ao : AO} {v : AV}
    (hc : compileOp P cx (.slice t x lo hi mx) = some ao) (hl : light g ao = some v) : ∃ v', (Instr.sliceAt t (ρ x) (lo.map ρ) (hi.map ρ) (mx.map ρ)).run P w = .ok v' w ∧ V ι w v v' := by
  simp only [compileOp] at hc
  split at hc
  · -- a string
    rename_i hu
    split at hc
    · simp only [Option.bind_eq_bind, Option.bind_eq_some_iff, Option.pure_def, Option.some.injEq] at hc
      obtain ⟨x', hx, lo', hlo, hi', hhi, rfl⟩ := hc
      simp only [light] at hl
      have hv := hρ _ _ hx
      split at hl
      · rename_i s e; rw [e] at hv
        split at hl
        · rename_i h l eh el
          split at hl
          · rename_i hb
            cases hl
            have hr := run_sliceBounds (P := P) (w := w) hρ (mx := none) (mx' := none) (len := s.size) (cap := s.size) (m := s.size) false hlo hhi rfl el eh rfl hb.1 hb.2 (Nat.le_refl _) (.inl rfl)
            refine ⟨.string (s.extract l h), ?_, rfl⟩
            rw [V.str_inv hv]
            simp only [Option.map_none] at hr ⊢
            simp only [Instr.sliceAt, Sem.run_bind, run_underlying hu, Result.andThen_ok, Instr.slice, Option.isSome_none, Bool.false_eq_true, if_false, Sem.run_pure, hr]
          · cases hl
        · cases hl
      · cases hl
    · cases hc
  · -- a slice
    rename_i e hu
    simp only [Option.bind_eq_bind, Option.bind_eq_some_iff] at hc
    obtain ⟨sz, hsz, hc⟩ := hc
    split at hc
    · rename_i hpos
      simp only [Option.bind_eq_some_iff, Option.pure_def, Option.some.injEq] at hc
      obtain ⟨x', hx, lo', hlo, hi', hhi, mx', hmx, rfl⟩ := hc
      simp only [light] at hl
      have hv := hρ _ _ hx
      -- what the model does at bounds l ≤ h ≤ m ≤ k
      have run : ∀ (a : Option Addr) (n k l h m : Nat), ρ x = .slice a n k → bound g lo' 0 = some l → bound g hi' n = some h → bound g mx' k = some m → l ≤ h → h ≤ m → m ≤ k → (mx' = none ∨ hi' ≠ none) →
          (Instr.sliceAt t (ρ x) (lo.map ρ) (hi.map ρ) (mx.map ρ)).run P w = .ok (.slice (if m = l then a else a.map (·.add (l * sz))) (h - l) (m - l)) w := by
        intro a n k l h m hx' el eh em h1 h2 h3 h4
        have hr := run_sliceBounds (P := P) (w := w) hρ (len := n) (cap := k) true hlo hhi hmx el eh em h1 h2 h3 h4
        rw [hx']
        simp only [Instr.sliceAt, Sem.run_bind, run_underlying hu, Result.andThen_ok, Instr.slice, hr, run_sizeT hsz, Sem.run_pure]
      split at hl
      · rename_i p sz' n cap ex
        rw [ex] at hv
        split at hl
        · rename_i h l m eh el em
          split at hl
          · rename_i hmh
            cases p with
            | none =>
              obtain ⟨rfl, hxa⟩ := hv
              simp only [sliceVal] at hl
              split at hl
              · rename_i hz
                obtain ⟨rfl, rfl, hm⟩ := hz
                cases hl
                have hm0 : m.getD 0 = 0 := by rcases hm with rfl | rfl <;> rfl
                have hrun := run none 0 0 0 0 (m.getD 0) hxa el eh (optNat_inv (cx := cx) (mx := mx) em) (Nat.le_refl _) (Nat.zero_le _) (by omega) hmh
                refine ⟨_, hrun, rfl, ?_⟩
                rw [hm0]; simp
              · cases hl
            | some p =>
              obtain ⟨b, o⟩ := p
              obtain ⟨c, d, xo, k, e, M, g1, hxa, g3, g4, g5, g6, g7⟩ := hv
              obtain ⟨r1, r2, r3, r4⟩ := sliceVal_ok hl g3 g1 g4 g5 g6 g7
              exact ⟨_, run _ n k l h (m.getD k) hxa el eh (optNat_inv (cx := cx) (mx := mx) em) r2 r3 r4 hmh, r1⟩
          · cases hl
        · cases hl
      · cases hl
    · cases hc
  · -- an array
    simp only [Option.bind_eq_bind, Option.bind_eq_some_iff] at hc
    obtain ⟨sz, hsz, hc⟩ := hc
    split at hc
    · simp only [Option.bind_eq_some_iff, Option.pure_def, Option.some.injEq] at hc
      obtain ⟨_, _, _, _, _, _, _, _, rfl⟩ := hc
      cases hl
    · cases hc
  · cases hc

theorem light_ok {P : Program} {cx : Look} {g : X → AV} {ρ : Operand → Value} (hρ : OkX ι w cx g ρ) (o : Oper) {ao : AO} {v : AV}
    (hc : compileOp P cx o.op = some ao) (hl : light g ao = some v) : Does P ι w ρ o v := by
  obtain ⟨dst, op, ty, pos, aft, gd⟩ := o
  cases op with
  | move x =>
    simp only [compileOp, Option.map_eq_some_iff] at hc
    obtain ⟨x', hx, rfl⟩ := hc
    cases hl
    exact ⟨ρ x, rfl, hρ _ _ hx⟩
  | assign x =>
    simp only [compileOp, Option.map_eq_some_iff] at hc
    obtain ⟨x', hx, rfl⟩ := hc
    cases hl
    exact ⟨ρ x, rfl, hρ _ _ hx⟩
  | pick c a b =>
    simp only [compileOp, Option.bind_eq_bind, Option.bind_eq_some_iff, Option.pure_def, Option.some.injEq] at hc
    obtain ⟨c', hc', a', ha', b', hb', rfl⟩ := hc
    simp only [light] at hl
    have h1 := hρ _ _ hc'
    split at hl
    · rename_i e; rw [e] at h1; cases hl
      exact ⟨ρ a, by simp [execOp, V.bool_inv h1, asBool], hρ _ _ ha'⟩
    · rename_i e; rw [e] at h1; cases hl
      exact ⟨ρ b, by simp [execOp, V.bool_inv h1, asBool], hρ _ _ hb'⟩
    · cases hl
  | alloc e =>
    simp only [compileOp, Option.map_eq_some_iff] at hc
    obtain ⟨_, _, rfl⟩ := hc
    cases hl
  | box e x =>
    simp only [compileOp, Option.map_eq_some_iff] at hc
    obtain ⟨_, _, rfl⟩ := hc
    cases hl
  | build t parts =>
    exact doesV (Instr.build t (parts.map fun (i, x) => (i, ρ x))) rfl (build_ok hρ hc hl)
  | buildSlice t len parts =>
    simp only [compileOp] at hc
    split at hc
    · simp only [Option.bind_eq_bind, Option.bind_eq_some_iff] at hc
      obtain ⟨_, _, _, _, hc⟩ := hc
      split at hc
      · simp only [Option.bind_eq_some_iff, Option.pure_def, Option.some.injEq] at hc
        obtain ⟨_, _, rfl⟩ := hc
        cases hl
      · cases hc
    · cases hc
  | insert => cases hc
  | load t a =>
    simp only [compileOp, Option.bind_eq_bind, Option.bind_eq_some_iff, Option.pure_def, Option.some.injEq] at hc
    obtain ⟨_, _, _, _, _, _, rfl⟩ := hc
    cases hl
  | store t a x =>
    simp only [compileOp, Option.bind_eq_bind, Option.bind_eq_some_iff, Option.pure_def, Option.some.injEq] at hc
    obtain ⟨_, _, _, _, _, _, rfl⟩ := hc
    cases hl
  | ready => cases hc
  | waits => cases hc
  | nilCheck x =>
    simp only [compileOp, Option.map_eq_some_iff] at hc
    obtain ⟨x', hx, rfl⟩ := hc
    simp only [light] at hl
    have h1 := hρ _ _ hx
    split at hl
    · rename_i p e; rw [e] at h1; cases hl
      obtain ⟨b, o⟩ := p
      obtain ⟨c, d, h2, h3⟩ := h1
      exact ⟨ρ x, by rw [h3]; simp [execOp, h3], ⟨c, d, h2, h3⟩⟩
    · rename_i f a b e; rw [e] at h1; cases hl
      obtain ⟨xs, ys, h2, h3, h4⟩ := h1
      exact ⟨ρ x, by rw [h2]; simp [execOp, h2], ⟨xs, ys, h2, h3, h4⟩⟩
    · cases hl
  | binOp bop t x y yt =>
    have hex : execOp ρ ⟨dst, .binOp bop t x y yt, ty, pos, aft, gd⟩ = (do pure (.value (← (do eqGuard bop t x y (ρ x) (ρ y); Go.binOp bop t (ρ x) (ρ y) : Sem Value)))) := rfl
    simp only [compileOp] at hc
    split at hc
    · split at hc
      · rename_i hop
        simp only [Option.bind_eq_bind, Option.bind_eq_some_iff, Option.pure_def, Option.some.injEq] at hc
        obtain ⟨ks, hks, x', hx, y', hy, rfl⟩ := hc
        simp only [light] at hl
        have h1 := hρ _ _ hx
        have h2 := hρ _ _ hy
        split at hl
        · rename_i xs ys e1 e2
          rw [e1] at h1; rw [e2] at h2
          simp only [Option.map_eq_some_iff] at hl
          obtain ⟨r, hr, rfl⟩ := hl
          exact doesV _ hex ⟨_, eqCells_ok (by simpa using hop) hks h1 h2 hr, rfl⟩
        · cases hl
      · cases hc
    · split at hc
      · rename_i hop
        simp only [Option.bind_eq_bind, Option.bind_eq_some_iff, Option.pure_def, Option.some.injEq] at hc
        obtain ⟨ks, hks, x', hx, y', hy, rfl⟩ := hc
        simp only [light] at hl
        have h1 := hρ _ _ hx
        have h2 := hρ _ _ hy
        split at hl
        · rename_i xs ys e1 e2
          rw [e1] at h1; rw [e2] at h2
          simp only [Option.map_eq_some_iff] at hl
          obtain ⟨r, hr, rfl⟩ := hl
          exact doesV _ hex ⟨_, eqCells_ok (by simpa using hop) hks h1 h2 hr, rfl⟩
        · cases hl
      · cases hc
    · simp only [Option.bind_eq_bind, Option.bind_eq_some_iff, Option.pure_def, Option.some.injEq] at hc
      obtain ⟨x', hx, y', hy, rfl⟩ := hc
      exact doesV _ hex (binop_ok (fun e => by cases e) (fun e => by cases e) (fun e => by cases e) (hρ _ _ hx) (hρ _ _ hy) hl)
    · simp only [Option.bind_eq_bind, Option.bind_eq_some_iff, Option.pure_def, Option.some.injEq] at hc
      obtain ⟨x', hx, y', hy, rfl⟩ := hc
      exact doesV _ hex (binop_ok (fun e => by cases e) (fun e => by cases e) (fun e => by cases e) (hρ _ _ hx) (hρ _ _ hy) hl)
    · rename_i hu
      simp only [Option.bind_eq_bind, Option.bind_eq_some_iff, Option.pure_def, Option.some.injEq] at hc
      obtain ⟨x', hx, y', hy, rfl⟩ := hc
      exact doesV _ hex (binop_ok (fun _ => hu) (fun e => by cases e) (fun e => by cases e) (hρ _ _ hx) (hρ _ _ hy) hl)
    · rename_i e hu
      simp only [Option.bind_eq_bind, Option.bind_eq_some_iff, Option.pure_def, Option.some.injEq] at hc
      obtain ⟨x', hx, y', hy, rfl⟩ := hc
      exact doesV _ hex (binop_ok (fun e => by cases e) (fun _ => ⟨e, hu⟩) (fun e => by cases e) (hρ _ _ hx) (hρ _ _ hy) hl)
    · rename_i ms hu
      split at hc
      · rename_i c
        simp only [Option.bind_eq_bind, Option.bind_eq_some_iff, Option.pure_def, Option.some.injEq] at hc
        obtain ⟨x', hx, y', hy, rfl⟩ := hc
        exact doesV _ hex (binop_ok (fun e => by cases e) (fun e => by cases e) (fun _ => ⟨⟨ms, hu⟩, ⟨c, rfl⟩⟩) (hρ _ _ hx) (hρ _ _ hy) hl)
      · cases hc
    · cases hc
  | unOp uop t x =>
    simp only [compileOp, Option.bind_eq_bind, Option.bind_eq_some_iff, Option.pure_def, Option.some.injEq] at hc
    obtain ⟨x', hx, rfl⟩ := hc
    exact doesV (Op.unary uop (ρ x)) rfl (un_ok (hρ _ _ hx) hl)
  | convert src dst x =>
    simp only [compileOp] at hc
    split at hc
    · rename_i k k' h1 h2
      simp only [Option.map_eq_some_iff] at hc
      obtain ⟨x', hx, rfl⟩ := hc
      simp only [light] at hl
      have hv := hρ _ _ hx
      split at hl
      · rename_i e; rw [e] at hv; cases hl
        exact doesV (convert src dst (ρ x)) rfl ⟨_, by rw [V.int_inv hv]; simp [convert, run_underlying h1, run_underlying h2, Conv.intToInt], rfl⟩
      · cases hl
    · rename_i h1 h2
      simp only [Option.map_eq_some_iff] at hc
      obtain ⟨x', hx, rfl⟩ := hc
      simp only [light] at hl
      have hv := hρ _ _ hx
      split at hl
      · rename_i e; rw [e] at hv; cases hl
        exact doesV (convert src dst (ρ x)) rfl ⟨_, by rw [V.str_inv hv]; simp [convert, run_underlying h1, run_underlying h2], rfl⟩
      · cases hl
    · split at hc
      · simp only [Option.map_eq_some_iff] at hc
        obtain ⟨_, _, rfl⟩ := hc
        cases hl
      · cases hc
    · split at hc
      · simp only [Option.map_eq_some_iff] at hc
        obtain ⟨_, _, rfl⟩ := hc
        cases hl
      · cases hc
    · cases hc
  | sliceToArrayPointer => cases hc
  | makeInterface => cases hc
  | makeFunc fn first captured =>
    cases fn with
    | func f =>
      simp only [compileOp, Option.bind_eq_bind, Option.bind_eq_some_iff, Option.pure_def, Option.some.injEq] at hc
      obtain ⟨xs, hxs, ys, hys, rfl⟩ := hc
      cases hl
      obtain ⟨vs, e1, h1⟩ := mapX_list hρ hxs
      obtain ⟨us, e2, h2⟩ := mapX_list hρ hys
      exact doesV (Instr.makeFunc (.func f) (first.map ρ) (captured.map ρ)) rfl ⟨_, rfl, ⟨vs, us, by rw [e1, e2], h1, h2⟩⟩
    | _ => cases hc
  | makeMap => cases hc
  | makeChan => cases hc
  | makeSlice t l c =>
    simp only [compileOp] at hc
    split at hc
    · simp only [Option.bind_eq_bind, Option.bind_eq_some_iff] at hc
      obtain ⟨_, _, _, _, _, _, hc⟩ := hc
      split at hc
      · simp only [Option.bind_eq_some_iff, Option.pure_def, Option.some.injEq] at hc
        obtain ⟨_, _, _, _, rfl⟩ := hc
        cases hl
      · cases hc
    · cases hc
  | slice t x lo hi mx => exact doesV (Instr.sliceAt t (ρ x) (lo.map ρ) (hi.map ρ) (mx.map ρ)) rfl (slice_ok hρ hc hl)
  | fieldAddr s x i =>
    simp only [compileOp] at hc
    split at hc
    · rename_i fs hu
      split at hc
      · rename_i f hf
        split at hc
        · rename_i n hn
          simp only [Option.map_eq_some_iff] at hc
          obtain ⟨x', hx, rfl⟩ := hc
          simp only [light] at hl
          have hv := hρ _ _ hx
          split at hl
          · rename_i b o e; rw [e] at hv; cases hl
            obtain ⟨c, d, h1, h2⟩ := hv
            refine doesV (Instr.fieldAt s (ρ x) i) rfl ⟨.pointer (some ⟨c, d + (o + f.offset), none⟩), ?_, ⟨c, d, h1, rfl⟩⟩
            rw [h2]
            simp only [Instr.fieldAt, Sem.run_bind, run_underlying hu, Result.andThen_ok, hf, Instr.sureAddr, Sem.run_pure, fieldPlace, run_sizeT hn]
            simp only [Nat.add_eq_zero_iff, Nat.add_one_ne_zero, and_false, if_false, Sem.run_pure, Result.andThen_ok, Addr.add]
            by_cases h0 : f.offset = 0
            · simp [h0]
            · simp [h0, Nat.add_assoc]
          · cases hl
        · cases hc
      · cases hc
    · cases hc
  | field t x i =>
    simp only [compileOp] at hc
    split at hc
    · rename_i fs hu
      split at hc
      · rename_i f hf
        simp only [Option.bind_eq_bind, Option.bind_eq_some_iff, Option.pure_def, Option.some.injEq] at hc
        obtain ⟨ag, ha, n, hn, x', hx, rfl⟩ := hc
        simp only [light] at hl
        have hv := hρ _ _ hx
        split at hl
        · rename_i cs e; rw [e] at hv
          obtain ⟨xs, h1, h2, h3⟩ := hv
          obtain ⟨v', r1, r2⟩ := part_ok (P := P) ha hn h2 h3 hl
          exact doesV (Instr.field t (ρ x) i) rfl ⟨v', by rw [h1]; simp only [Instr.field, Sem.run_bind, run_underlying hu, Result.andThen_ok, hf, asAgg, Sem.run_pure, r1], r2⟩
        · cases hl
      · cases hc
    · cases hc
  | indexAddr t x i =>
    simp only [compileOp] at hc
    split at hc
    · rename_i e hu
      simp only [Option.bind_eq_bind, Option.bind_eq_some_iff, Option.pure_def, Option.some.injEq] at hc
      obtain ⟨n, hn, x', hx, i', hi, rfl⟩ := hc
      simp only [light] at hl
      have hv := hρ _ _ hx
      have hw := hρ _ _ hi
      split at hl
      · rename_i b o sz' len cap k j e1 e2
        rw [e1] at hv; rw [e2] at hw
        split at hl
        · rename_i hc2
          obtain ⟨h0, h1, rfl⟩ := hc2
          cases hl
          obtain ⟨c, d, a, q, ee, m, g1, g2, g3, g4, g5, g6, g7⟩ := hv
          refine doesV (Instr.indexAt t (ρ x) (ρ i)) rfl ⟨.pointer (some ⟨c, d + (o + j.toNat * sz'), none⟩), ?_, ⟨c, d, g1, rfl⟩⟩
          have ha : a = d + o := by
            rcases g4 with g4 | g4
            · exact g4
            · omega
          subst ha
          rw [g2, V.int_inv hw]
          simp [Instr.indexAt, asIntOf, run_underlying hu, run_sizeT hn, h0, h1, Addr.add]
          by_cases hz : j.toNat * sz' = 0
          · simp [hz]
          · simp [hz, Nat.add_assoc]
        · cases hl
      · cases hl
    · rename_i n e hu
      simp only [Option.bind_eq_bind, Option.bind_eq_some_iff, Option.pure_def, Option.some.injEq] at hc
      obtain ⟨s, hs, x', hx, i', hi, rfl⟩ := hc
      simp only [light] at hl
      have hv := hρ _ _ hx
      have hw := hρ _ _ hi
      split at hl
      · rename_i b o k j e1 e2
        rw [e1] at hv; rw [e2] at hw
        split at hl
        · rename_i hc2
          obtain ⟨h0, h1⟩ := hc2
          cases hl
          obtain ⟨c, d, g1, g2⟩ := hv
          refine doesV (Instr.indexAt t (ρ x) (ρ i)) rfl ⟨.pointer (some ⟨c, d + (o + j.toNat * s), none⟩), ?_, ⟨c, d, g1, rfl⟩⟩
          rw [g2, V.int_inv hw]
          simp [Instr.indexAt, asIntOf, run_underlying hu, run_sizeT hs, h0, h1, Addr.add, Instr.sureAddr]
          by_cases hz : j.toNat * s = 0
          · simp [hz]
          · simp [hz, Nat.add_assoc]
        · cases hl
      · cases hl
    · cases hc
  | index t x i =>
    simp only [compileOp] at hc
    split at hc
    · rename_i n e hu
      simp only [Option.bind_eq_bind, Option.bind_eq_some_iff, Option.pure_def, Option.some.injEq] at hc
      obtain ⟨ag, ha, s, hs, x', hx, i', hi, rfl⟩ := hc
      simp only [light] at hl
      have hv := hρ _ _ hx
      have hw := hρ _ _ hi
      split at hl
      · rename_i cs k j e1 e2
        rw [e1] at hv; rw [e2] at hw
        split at hl
        · rename_i hc2
          obtain ⟨h0, h1⟩ := hc2
          obtain ⟨xs, g1, g2, g3⟩ := hv
          obtain ⟨v', r1, r2⟩ := part_ok (P := P) ha hs g2 g3 hl
          refine doesV (Instr.index t (ρ x) (ρ i)) rfl ⟨v', ?_, r2⟩
          rw [g1, V.int_inv hw]
          simp [Instr.index, asIntOf, run_underlying hu, run_sizeT hs, h0, h1, r1]
        · cases hl
      · cases hl
    · rename_i hu
      simp only [Option.bind_eq_bind, Option.bind_eq_some_iff, Option.pure_def, Option.some.injEq] at hc
      obtain ⟨x', hx, i', hi, rfl⟩ := hc
      simp only [light] at hl
      have hv := hρ _ _ hx
      have hw := hρ _ _ hi
      split at hl
      · rename_i sb k j e1 e2
        rw [e1] at hv; rw [e2] at hw
        split at hl
        · rename_i h0
          simp only [Option.map_eq_some_iff] at hl
          obtain ⟨bt, hb, rfl⟩ := hl
          refine doesV (Instr.index t (ρ x) (ρ i)) rfl ⟨_, ?_, rfl⟩
          rw [V.str_inv hv, V.int_inv hw]
          simp only [Instr.index, asIntOf, Sem.run_bind, Sem.run_pure, Result.andThen_ok, run_underlying hu]
          rw [if_pos h0, hb]
          rfl
        · cases hl
      · cases hl
    · cases hc
  | lookup => cases hc
  | mapUpdate => cases hc
  | mapEntry => cases hc
  | entryStore => cases hc
  | range => cases hc
  | next => cases hc
  | entry => cases hc
  | typeAssert => cases hc
  | extract x i =>
    simp only [compileOp, Option.map_eq_some_iff] at hc
    obtain ⟨x', hx, rfl⟩ := hc
    simp only [light] at hl
    have h1 := hρ _ _ hx
    split at hl
    · rename_i vs e; rw [e] at h1
      obtain ⟨xs, h2, h3⟩ := h1
      obtain ⟨y, h4, h5⟩ := h3.get i v hl
      exact doesV (Instr.extract (ρ x) i) rfl ⟨y, by rw [h2]; simp [Instr.extract, h4], h5⟩
    · cases hl
  | call c =>
    simp only [compileOp, compileCall] at hc
    split at hc
    · simp only [Option.bind_eq_bind, Option.bind_eq_some_iff, Option.pure_def, Option.some.injEq] at hc
      obtain ⟨_, _, _, _, rfl⟩ := hc
      cases hl
    · -- len
      rename_i hcal
      split at hc
      · rename_i t o ht ho
        have hex : execOp ρ ⟨dst, .call c, ty, pos, aft, gd⟩ = (do pure (.value (← Builtin.len_ c.argTypes ty (c.args.map ρ)))) := by
          simp only [execOp, resolve, hcal]; rfl
        have hr : ∀ r, ρ o = r → (c.args.map ρ)[0]? = some r := by intro r hr; simp [ho, hr]
        split at hc
        · rename_i hu
          simp only [Option.map_eq_some_iff] at hc
          obtain ⟨x', hx, rfl⟩ := hc
          simp only [light] at hl
          have hv := hρ _ _ hx
          split at hl
          · rename_i sb e; rw [e] at hv; cases hl
            exact doesV _ hex ⟨_, by simp only [Builtin.len_, ht, hr _ hv, Sem.run_bind, run_underlying hu, Result.andThen_ok, Sem.run_pure, goInt], rfl⟩
          · cases hl
        · rename_i e hu
          simp only [Option.map_eq_some_iff] at hc
          obtain ⟨x', hx, rfl⟩ := hc
          simp only [light] at hl
          have hv := hρ _ _ hx
          split at hl
          · rename_i p sz n cp e; rw [e] at hv; cases hl
            obtain ⟨q, k, hq⟩ : ∃ q k, ρ o = .slice q n k := by
              cases p with
              | none => obtain ⟨rfl, h⟩ := hv; exact ⟨_, _, h⟩
              | some p => obtain ⟨b, of⟩ := p; obtain ⟨_, _, _, _, _, _, _, h, _⟩ := hv; exact ⟨_, _, h⟩
            exact doesV _ hex ⟨_, by simp only [Builtin.len_, ht, hr _ hq, Sem.run_bind, run_underlying hu, Result.andThen_ok, Sem.run_pure, goInt], rfl⟩
          · cases hl
        · rename_i n e hu
          cases hc
          cases hl
          exact doesV _ hex ⟨_, by simp only [Builtin.len_, ht, hr _ rfl, Sem.run_bind, run_underlying hu, Result.andThen_ok, Sem.run_pure, goInt], rfl⟩
        · cases hc
      · cases hc
    · -- append
      split at hc
      · split at hc
        · simp only [Option.bind_eq_bind, Option.bind_eq_some_iff] at hc
          obtain ⟨_, _, _, _, _, _, _, _, hc⟩ := hc
          split at hc
          · cases hc; cases hl
          · cases hc
        · simp only [Option.bind_eq_bind, Option.bind_eq_some_iff] at hc
          obtain ⟨_, _, _, _, _, _, _, _, hc⟩ := hc
          split at hc
          · cases hc; cases hl
          · cases hc
        · cases hc
      · cases hc
    · -- max
      rename_i hcal
      have hex : execOp ρ ⟨dst, .call c, ty, pos, aft, gd⟩ = (do pure (.value (← Builtin.max_ c.argTypes ty (c.args.map ρ)))) := by
        simp only [execOp, resolve, hcal]; rfl
      split at hc
      · rename_i a b hab
        split at hc
        · rename_i x' y' hx hy
          cases hc
          have hargs : (c.args.map ρ).toList = [ρ a, ρ b] := by rw [Array.toList_map, hab]; rfl
          simp only [light] at hl
          have h1 := hρ _ _ hx
          have h2 := hρ _ _ hy
          split at hl
          · rename_i k i k' j e1 e2
            rw [e1] at h1; rw [e2] at h2
            split at hl
            · rename_i hk; subst hk; cases hl
              exact doesV _ hex ⟨_, by simp only [Builtin.max_, hargs, V.int_inv h1, V.int_inv h2]; simp [Builtin.max2], rfl⟩
            · cases hl
          · cases hl
        · cases hc
      · cases hc
    · -- min
      rename_i hcal
      have hex : execOp ρ ⟨dst, .call c, ty, pos, aft, gd⟩ = (do pure (.value (← Builtin.min_ c.argTypes ty (c.args.map ρ)))) := by
        simp only [execOp, resolve, hcal]; rfl
      split at hc
      · rename_i a b hab
        split at hc
        · rename_i x' y' hx hy
          cases hc
          have hargs : (c.args.map ρ).toList = [ρ a, ρ b] := by rw [Array.toList_map, hab]; rfl
          simp only [light] at hl
          have h1 := hρ _ _ hx
          have h2 := hρ _ _ hy
          split at hl
          · rename_i k i k' j e1 e2
            rw [e1] at h1; rw [e2] at h2
            split at hl
            · rename_i hk; subst hk; cases hl
              exact doesV _ hex ⟨_, by simp only [Builtin.min_, hargs, V.int_inv h1, V.int_inv h2]; simp [Builtin.min2], rfl⟩
            · cases hl
          · cases hl
        · cases hc
      · cases hc
    · cases hc
  | go => cases hc
  | defer => cases hc
  | panic => cases hc
  | send => cases hc
  | recv => cases hc
  | select => cases hc
end
end Go.Proofs.Ytlcklonakjhoiaa.Slim

/- The slim machine: the operations that read memory, those that make a block, and those that write. -/
namespace Go.Proofs.Ytlcklonakjhoiaa.Slim
open Go
set_option linter.unusedVariables false
set_option linter.unusedSimpArgs false

section
variable {ι : Emb} {m : Mem} {w : World}

theorem addr_add (c o j : Nat) : (⟨c, o, none⟩ : Addr).add j = ⟨c, o + j, none⟩ := by
  unfold Addr.add
  by_cases h : j = 0
  · simp [h]
  · simp [h]

theorem cellsAt_inv {H : List Blk} {b : Nat} {cs : List AV} (h : cellsAt H b = some cs) : ∃ wr, H[b]? = some (.cells cs wr) := by
  unfold cellsAt at h
  split at h
  · rename_i cs' wr e; cases h; exact ⟨wr, e⟩
  · cases h

/-- a stretch of a block, as the model reads it -/
theorem CellsAt.stretch {c d : Nat} {cs : List AV} {wr : Bool} (h : CellsAt ι w c d cs wr) (o n : Nat) (hn : o + n ≤ cs.length) :
    ∃ vs : List Value, vs.length = n ∧ VL ι w ((cs.drop o).take n) vs ∧ ∀ j v, vs[j]? = some v → w.cell? ((⟨c, d + o, none⟩ : Addr).add j) = some v := by
  obtain ⟨⟨vs, h1, h2⟩, _, _⟩ := h
  refine ⟨(vs.drop o).take n, ?_, (h1.drop o).take n, fun j v hj => ?_⟩
  · have := h1.length; simp; omega
  · rw [addr_add]
    have hj' : vs[o + j]? = some v := by
      rw [List.getElem?_take] at hj
      split at hj
      · rwa [List.getElem?_drop] at hj
      · cases hj
    have := h2 (o + j) v hj'
    rwa [← Nat.add_assoc] at this

theorem all_sub {cs : List AV} (h : cs.all AV.isCell = true) (o n : Nat) : ((cs.drop o).take n).all AV.isCell = true :=
  List.all_eq_true.mpr fun y hy => List.all_eq_true.mp h y (List.mem_of_mem_drop (List.mem_of_mem_take hy))

theorem loadAt_ok {P : Program} {t : TypeId} {agg : Bool} {sz : Nat} (R : Rel ι m w) (ha : aggT P t = some agg) (hs : szT P t = some sz) {a v : AV} {a' : Value} (hv : V ι w a a')
    (h : Slim.loadAt m.H agg sz a = some v) : ∃ v', (do loadVar t (← Instr.sureAddr a') : Sem Value).run P w = .ok v' w ∧ V ι w v v' := by
  unfold Slim.loadAt at h
  split at h
  · rename_i b o
    obtain ⟨c, d, g1, rfl⟩ := hv
    split at h
    · cases h
    · rename_i cs hcs
      obtain ⟨wr, hb⟩ := cellsAt_inv hcs
      obtain ⟨c', d', g2, hC⟩ := R.at' b cs wr hb
      rw [g1] at g2
      cases g2
      split at h
      · rename_i hag
        subst hag
        split at h
        · rename_i hle
          cases h
          obtain ⟨vs, l1, l2, l3⟩ := hC.stretch o sz hle
          have hr := run_loadCells_list (P := P) w ⟨c, d + o, none⟩ vs l3
          rw [l1] at hr
          exact ⟨.agg vs.toArray, by simp [Instr.sureAddr, loadVar, run_aggT ha, run_sizeT hs, hr], vs, rfl, l2, all_sub hC.cell _ _⟩
        · cases h
      · rename_i hag
        have hag' : agg = false := by simpa using hag
        subst hag'
        obtain ⟨⟨vs, h1, h2⟩, _, _⟩ := hC
        obtain ⟨y, h3, h4⟩ := h1.get o v h
        have hc := h2 o y h3
        exact ⟨y, by simp [Instr.sureAddr, loadVar, run_aggT ha, hc], h4⟩
  · cases h

theorem ofBytesL_inv : ∀ {cs : List AV} {bs : List UInt8} {vs : List Value}, ofBytesL cs = some bs → VL ι w cs vs → ∃ ns : List Int, vs = ns.map (Value.int .u8) ∧ bs = ns.map fun n => UInt8.ofNat n.toNat
  | [], bs, vs, h, hv => by cases h; cases hv; exact ⟨[], rfl, rfl⟩
  | c :: cs, bs, vs, h, hv => by
    unfold ofBytesL at h
    obtain ⟨y, ys, rfl, h1, h2⟩ := hv
    split at h
    · rename_i b bs' hb hbs
      cases h
      obtain ⟨ns, rfl, rfl⟩ := ofBytesL_inv hbs h2
      unfold byteOf at hb
      split at hb
      · rename_i n
        cases hb; cases h1
        exact ⟨n :: ns, rfl, rfl⟩
      · cases hb
    · cases h

theorem foldl_bytes : ∀ (ns : List Int) (s : ByteArray), ns.foldl (fun r n => r.push (UInt8.ofNat n.toNat)) s = ⟨(s.data.toList ++ ns.map fun n => UInt8.ofNat n.toNat).toArray⟩
  | [], s => by simp
  | n :: ns, s => by
    rw [List.foldl_cons, foldl_bytes ns]
    simp [ByteArray.push]

/-- which operations may read memory, make a block, or write -/
def AO.kind : AO → Nat
  | .load .. | .ofBytes _ | .sliceArr .. => 1
  | .alloc _ | .box _ | .buildSlice .. => 2
  | .store .. | .toBytes _ | .makeSlice .. | .append .. | .call .. => 3
  | _ => 0

def opKinds : Op → List Nat
  | .load .. => [1]
  | .convert .. => [0, 1, 3]
  | .slice .. => [0, 1]
  | .alloc _ | .box .. | .buildSlice .. => [2]
  | .store .. | .makeSlice .. => [3]
  | .call _ => [0, 3]
  | _ => [0]

theorem memop_none {g : X → AV} {H : List Blk} {ao : AO} (h : ao.kind ≠ 1) : memop g H ao = none := by
  cases ao <;> first | rfl | (exact absurd rfl h)

theorem call_kinds {P : Program} {cx : Look} {c : Call} {ao : AO} (hc : compileOp P cx (.call c) = some ao) : ao.kind ∈ opKinds (.call c) := by
  simp only [compileOp, compileCall] at hc
  split at hc
  · simp only [Option.bind_eq_bind, Option.bind_eq_some_iff, Option.pure_def, Option.some.injEq] at hc
    obtain ⟨_, _, _, _, rfl⟩ := hc
    simp [AO.kind, opKinds]
  · split at hc
    · split at hc
      · simp only [Option.map_eq_some_iff] at hc; obtain ⟨_, _, rfl⟩ := hc; simp [AO.kind, opKinds]
      · simp only [Option.map_eq_some_iff] at hc; obtain ⟨_, _, rfl⟩ := hc; simp [AO.kind, opKinds]
      · cases hc; simp [AO.kind, opKinds]
      · cases hc
    · cases hc
  · split at hc
    · split at hc
      · simp only [Option.bind_eq_bind, Option.bind_eq_some_iff] at hc
        obtain ⟨_, _, _, _, _, _, _, _, hc⟩ := hc
        split at hc
        · cases hc; simp [AO.kind, opKinds]
        · cases hc
      · simp only [Option.bind_eq_bind, Option.bind_eq_some_iff] at hc
        obtain ⟨_, _, _, _, _, _, _, _, hc⟩ := hc
        split at hc
        · cases hc; simp [AO.kind, opKinds]
        · cases hc
      · cases hc
    · cases hc
  · split at hc
    · split at hc
      · cases hc; simp [AO.kind, opKinds]
      · cases hc
    · cases hc
  · split at hc
    · split at hc
      · cases hc; simp [AO.kind, opKinds]
      · cases hc
    · cases hc
  · cases hc

theorem kinds_ok {P : Program} {cx : Look} {op : Op} {ao : AO} (hc : compileOp P cx op = some ao) : ao.kind ∈ opKinds op := by
  by_cases hca : ∃ c, op = .call c
  · obtain ⟨c, rfl⟩ := hca; exact call_kinds hc
  by_cases hmf : ∃ fn a b, op = .makeFunc fn a b
  · obtain ⟨fn, a, b, rfl⟩ := hmf
    cases fn <;> first
      | (cases hc; done)
      | (simp only [compileOp, Option.bind_eq_bind, Option.bind_eq_some_iff, Option.pure_def, Option.some.injEq] at hc
         obtain ⟨_, _, _, _, rfl⟩ := hc
         simp [AO.kind, opKinds])
  cases op <;> first
    | (cases hc; done)
    | (exact absurd ⟨_, _, _, rfl⟩ hmf)
    | (exact absurd ⟨_, rfl⟩ hca)
    | (simp only [compileOp] at hc
       repeat' (split at hc)
       all_goals first
         | (cases hc; done)
         | (simp only [Option.map_eq_some_iff] at hc; obtain ⟨_, _, rfl⟩ := hc; simp [AO.kind, opKinds]; done)
         | (simp only [Option.bind_eq_bind, Option.bind_eq_some_iff, Option.pure_def, Option.some.injEq] at hc
            first
              | (obtain ⟨_, _, rfl⟩ := hc; simp [AO.kind, opKinds]; done)
              | (obtain ⟨_, _, _, _, rfl⟩ := hc; simp [AO.kind, opKinds]; done)
              | (obtain ⟨_, _, _, _, _, _, rfl⟩ := hc; simp [AO.kind, opKinds]; done)
              | (obtain ⟨_, _, _, _, _, _, _, _, rfl⟩ := hc; simp [AO.kind, opKinds]; done)
              | (obtain ⟨_, _, hc⟩ := hc; split at hc
                 · simp only [Option.bind_eq_some_iff, Option.some.injEq] at hc
                   obtain ⟨_, _, rfl⟩ := hc; simp [AO.kind, opKinds]; done
                 · cases hc)
              | (obtain ⟨_, _, _, _, hc⟩ := hc; split at hc
                 · simp only [Option.bind_eq_some_iff, Option.some.injEq] at hc
                   obtain ⟨_, _, rfl⟩ := hc; simp [AO.kind, opKinds]; done
                 · cases hc)
              | (obtain ⟨_, _, _, _, _, _, hc⟩ := hc; split at hc
                 · simp only [Option.bind_eq_some_iff, Option.some.injEq] at hc
                   obtain ⟨_, _, _, _, rfl⟩ := hc; all_goals simp [AO.kind, opKinds]
                 · cases hc)
              | (obtain ⟨_, _, hc⟩ := hc; split at hc
                 · simp only [Option.bind_eq_some_iff, Option.some.injEq] at hc
                   obtain ⟨_, _, _, _, _, _, _, _, rfl⟩ := hc; simp [AO.kind, opKinds]; done
                 · cases hc)
              | (exfalso; simp at hc; done)
              | (obtain ⟨_, _, _, _, _, _, hc⟩ := hc; simp at hc; done)
              | (obtain ⟨_, _, _, _, hc⟩ := hc; simp at hc; done)))

theorem memop_ok {P : Program} {cx : Look} {g : X → AV} {ρ : Operand → Value} (hρ : OkX ι w cx g ρ) (R : Rel ι m w) (o : Oper) {ao : AO} {v : AV}
    (hc : compileOp P cx o.op = some ao) (hl : memop g m.H ao = some v) : Does P ι w ρ o v := by
  obtain ⟨dst, op, ty, pos, aft, gd⟩ := o
  cases op with
  | load t a =>
    simp only [compileOp, Option.bind_eq_bind, Option.bind_eq_some_iff, Option.pure_def, Option.some.injEq] at hc
    obtain ⟨ag, ha, n, hn, x', hx, rfl⟩ := hc
    exact doesV (Instr.loadAt t (ρ a)) rfl (loadAt_ok R ha hn (hρ _ _ hx) hl)
  | convert src dst x =>
    simp only [compileOp] at hc
    split at hc
    · simp only [Option.map_eq_some_iff] at hc
      obtain ⟨x', hx, rfl⟩ := hc
      cases hl
    · simp only [Option.map_eq_some_iff] at hc
      obtain ⟨x', hx, rfl⟩ := hc
      cases hl
    · split at hc
      · simp only [Option.map_eq_some_iff] at hc
        obtain ⟨_, _, rfl⟩ := hc
        cases hl
      · cases hc
    · rename_i e h1 h2
      split at hc
      · rename_i h3 h4
        simp only [Option.map_eq_some_iff] at hc
        obtain ⟨x', hx, rfl⟩ := hc
        simp only [memop] at hl
        have hv := hρ _ _ hx
        split at hl
        · rename_i p sz n cp ex
          rw [ex] at hv
          split at hl
          · rename_i k cs hsrc
            split at hl
            · rename_i hsz
              simp only [Option.map_eq_some_iff] at hl
              obtain ⟨bs, hbs, rfl⟩ := hl
              have hex : execOp ρ ⟨dst, .convert src dst x, ty, pos, aft, gd⟩ = (do pure (.value (← convert src dst (ρ x)))) := rfl
              cases p with
              | none =>
                obtain ⟨rfl, hxa⟩ := hv
                simp only [srcCells, Bool.false_eq_true, if_false, Option.some.injEq, Prod.mk.injEq] at hsrc
                obtain ⟨rfl, rfl⟩ := hsrc
                cases hbs
                exact doesV _ rfl ⟨.string ByteArray.empty, by rw [hxa]; simp [convert, run_underlying h1, run_underlying h2, run_underlying h3, Conv.bytesToString], rfl⟩
              | some p =>
                obtain ⟨b, o⟩ := p
                have hsz1 : sz = 1 := by
                  rcases hsz with h | h
                  · exact h
                  · cases h
                subst hsz1
                obtain ⟨c, d, xo, k', e', M, g1, hxa, g3, g4, g5, g6, g7⟩ := hv
                simp only [srcCells, Bool.false_eq_true, if_false] at hsrc
                split at hsrc
                · cases hsrc
                · rename_i cs' hcs
                  split at hsrc
                  · rename_i hle
                    simp only [Option.some.injEq, Prod.mk.injEq] at hsrc
                    obtain ⟨rfl, rfl⟩ := hsrc
                    obtain ⟨wr, hb⟩ := cellsAt_inv hcs
                    obtain ⟨c', d', g8, hC⟩ := R.at' b cs' wr hb
                    rw [g1] at g8
                    cases g8
                    obtain ⟨vs, l1, l2, l3⟩ := hC.stretch o (n * 1) hle
                    obtain ⟨ns, rfl, rfl⟩ := ofBytesL_inv hbs l2
                    have hload : (loadCells ⟨c, xo, none⟩ n).run P w = .ok (ns.map (Value.int .u8)).toArray w := by
                      rcases g4 with rfl | ⟨rfl, rfl⟩
                      · have hr := run_loadCells_list (P := P) w ⟨c, d + o, none⟩ _ l3
                        rwa [l1, Nat.mul_one] at hr
                      · have : ns = [] := by
                          have := l1; simp at this; exact this
                        subst this
                        simp [loadCells, loadCellsFrom]
                    have hbts := run_bytesToString (P := P) w ⟨c, xo, none⟩ n k' ns hload
                    refine doesV _ rfl ⟨_, ?_, rfl⟩
                    rw [hxa]
                    simp only [convert, Sem.run_bind, run_underlying h1, run_underlying h2, run_underlying h3, Result.andThen_ok, hbts, foldl_bytes]
                    rfl
                  · cases hsrc
            · cases hl
          · cases hl
        · cases hl
      · cases hc
    · cases hc
  | slice t x lo hi mx =>
    simp only [compileOp] at hc
    split at hc
    · split at hc
      · simp only [Option.bind_eq_bind, Option.bind_eq_some_iff, Option.pure_def, Option.some.injEq] at hc
        obtain ⟨_, _, _, _, _, _, rfl⟩ := hc
        cases hl
      · cases hc
    · simp only [Option.bind_eq_bind, Option.bind_eq_some_iff] at hc
      obtain ⟨_, _, hc⟩ := hc
      split at hc
      · simp only [Option.bind_eq_some_iff, Option.pure_def, Option.some.injEq] at hc
        obtain ⟨_, _, _, _, _, _, _, _, rfl⟩ := hc
        cases hl
      · cases hc
    · rename_i n e hu
      simp only [Option.bind_eq_bind, Option.bind_eq_some_iff] at hc
      obtain ⟨sz, hsz, hc⟩ := hc
      split at hc
      · rename_i hpos
        simp only [Option.bind_eq_some_iff, Option.pure_def, Option.some.injEq] at hc
        obtain ⟨x', hx, lo', hlo, hi', hhi, mx', hmx, rfl⟩ := hc
        simp only [memop] at hl
        have hv := hρ _ _ hx
        split at hl
        · rename_i b o ex
          rw [ex] at hv
          obtain ⟨c, d, g1, hxa⟩ := hv
          split at hl
          · rename_i cs h l mm hb eh el em
            split at hl
            · rename_i hcond
              obtain ⟨hmh, hne, hle⟩ := hcond
              obtain ⟨c', d', g2, hC⟩ := R.at' b cs true hb
              rw [g1] at g2
              cases g2
              obtain ⟨e', M, hsh, hfree⟩ := hC.free rfl
              have hM : d + cs.length ≤ M := by
                obtain ⟨⟨vs, h1, h2⟩, _, _⟩ := hC
                have hlen := h1.length
                obtain ⟨y, hy⟩ : ∃ y, vs[cs.length - 1]? = some y := ⟨vs[cs.length - 1]'(by omega), List.getElem?_eq_getElem (by omega)⟩
                have := h2 _ _ hy
                unfold World.cell? at this
                unfold World.shape? at hsh
                cases hh : w.heap[c]? with
                | none => simp [hh] at this
                | some ob =>
                  cases ob <;> simp [hh] at this hsh
                  rename_i cells el fz
                  obtain ⟨rfl, rfl⟩ := hsh
                  obtain ⟨this, _⟩ := Array.getElem?_eq_some_iff.mp this
                  omega
              obtain ⟨r1, r2, r3, r4⟩ := sliceVal_ok (k := n) (d := d) (xo := d + o) hl (Nat.le_refl _) g1 (.inl rfl) hsh (.inr (by omega)) (fun q hq => by cases hq; rfl)
              have hr := run_sliceBounds (P := P) (w := w) hρ (len := n) (cap := n) false hlo hhi hmx el eh (optNat_inv (cx := cx) (mx := mx) (k := n) em) r2 r3 r4 hmh
              refine doesV (Instr.sliceAt t (ρ x) (lo.map ρ) (hi.map ρ) (mx.map ρ)) rfl ⟨_, ?_, r1⟩
              rw [hxa]
              simp only [Instr.sliceAt, Sem.run_bind, run_underlying hu, Result.andThen_ok, Instr.sureAddr, Sem.run_pure, hr, run_sizeT hsz]
              congr 2
              split <;> simp
            · cases hl
          · cases hl
        · cases hl
      · cases hc
    · cases hc
  | _ => exact absurd hl (by rw [memop_none (fun e => by have h := kinds_ok hc; rw [e] at h; simp [opKinds] at h)]; simp)
end
end Go.Proofs.Ytlcklonakjhoiaa.Slim

/- The slim machine: the operations that make a block, and those that write. -/
namespace Go.Proofs.Ytlcklonakjhoiaa.Slim
open Go
set_option linter.unusedVariables false
set_option linter.unusedSimpArgs false

section
variable {ι : Emb} {m : Mem} {w : World}

theorem making_none {g : X → AV} {ao : AO} (h : ao.kind ≠ 2) : making g ao = none := by
  cases ao <;> first | rfl | (exact absurd rfl h)

/-- what an operation that makes a block comes to -/
def Makes (P : Program) (ι : Emb) (w : World) (ρ : Operand → Value) (o : Oper) (cs : List AV) (f : Nat → AV) : Prop :=
  ∃ (vs : List Value) (e : TypeId) (v' : Value), (execOp ρ o).run P w = .ok (.value v') (w.alloc (.cells vs.toArray e)) ∧ VL ι w cs vs ∧ cs.all AV.isCell = true ∧
    ∀ (ι' : Emb) (w' : World) (n : Nat), ι'[n]? = some (some (w.heap.size, 0)) → Shapes (w.alloc (.cells vs.toArray e)) w' → V ι' w' (f n) v'

theorem fillParts_length {g : X → AV} : ∀ {ps : List (Nat × Nat × X)} {cs out : List AV}, fillParts g cs ps = some out → out.length = cs.length
  | [], cs, out, h => by cases h; rfl
  | (off, sz, x) :: rest, cs, out, h => by
    unfold fillParts at h
    split at h
    · cases h
    · rename_i new hn
      split at h
      · rename_i hc
        rw [fillParts_length h]; unfold Slim.setRange; simp; omega
      · cases h

theorem zerosArr (z : List Value) : ∀ (n : Nat), ((Array.range (n * z.length)).map fun i => z.toArray[i % z.toArray.size]!).toList = (List.replicate n z).flatten := by
  intro n
  apply List.ext_getElem?
  intro i
  by_cases hz : z.length = 0
  · have : z = [] := by simpa using hz
    subst this
    simp
  · have hlen : ∀ n, (List.replicate n z).flatten.length = n * z.length := by intro n; simp
    by_cases hi : i < n * z.length
    · have hm : i % z.length < z.length := Nat.mod_lt _ (by omega)
      have h1 : ((Array.range (n * z.length)).map fun i => z.toArray[i % z.toArray.size]!).toList[i]? = some z[i % z.length] := by
        simp [hi, hm]
      rw [h1]
      clear h1
      induction n generalizing i with
      | zero => simp at hi
      | succ n ih =>
        simp only [List.replicate_succ, List.flatten_cons]
        by_cases hlt : i < z.length
        · rw [List.getElem?_append_left hlt]
          simp [Nat.mod_eq_of_lt hlt, hlt]
        · rw [List.getElem?_append_right (by omega)]
          have := ih (i - z.length) (by rw [Nat.add_mul] at hi; omega) (Nat.mod_lt _ (by omega))
          rw [← this]
          congr 1
          have : i % z.length = (i - z.length) % z.length := by rw [Nat.mod_eq_sub_mod (by omega)]
          simp only [this]
    · rw [List.getElem?_eq_none (by simp; omega), List.getElem?_eq_none (by rw [hlen]; omega)]

theorem alloc_shape (w : World) (vs : List Value) (e : TypeId) : (w.alloc (.cells vs.toArray e)).shape? w.heap.size = some (e, vs.length) := by
  unfold World.shape?
  rw [heap_alloc_new]
  simp

theorem making_ok {P : Program} {cx : Look} {g : X → AV} {ρ : Operand → Value} (hρ : OkX ι w cx g ρ) (o : Oper) {ao : AO} {cs : List AV} {f : Nat → AV}
    (hc : compileOp P cx o.op = some ao) (hm : making g ao = some (cs, f)) : Makes P ι w ρ o cs f := by
  obtain ⟨dst, op, ty, pos, aft, gd⟩ := o
  cases op with
  | alloc e =>
    simp only [compileOp, Option.map_eq_some_iff] at hc
    obtain ⟨zs, hz, rfl⟩ := hc
    cases hm
    obtain ⟨z, h1, h2, h3⟩ := zeroT_ok (ι := ι) (w := w) hz
    refine ⟨z.cells.toList, e, .pointer (some ⟨w.heap.size, 0, none⟩), ?_, h2, h3, fun ι' w' n hn _ => ⟨_, _, hn, rfl⟩⟩
    simp [execOp, Instr.alloc, h1, newVar, newRow]
  | box e x =>
    simp only [compileOp, Option.map_eq_some_iff] at hc
    obtain ⟨x', hx, rfl⟩ := hc
    simp only [making, Option.map_eq_some_iff] at hm
    obtain ⟨cs', hcs, he⟩ := hm
    cases he
    obtain ⟨h2, h3⟩ := (hρ _ _ hx).cells hcs
    refine ⟨(ρ x).cells.toList, e, .pointer (some ⟨w.heap.size, 0, none⟩), ?_, h2, h3, fun ι' w' n hn _ => ⟨_, _, hn, rfl⟩⟩
    simp [execOp, Instr.box, newVar, newRow]
  | buildSlice t len parts =>
    simp only [compileOp] at hc
    split at hc
    · rename_i e hu
      simp only [Option.bind_eq_bind, Option.bind_eq_some_iff] at hc
      obtain ⟨sz, hsz, zero, hz, hc⟩ := hc
      split at hc
      · rename_i hcond
        simp only [Bool.and_eq_true, decide_eq_true_eq, beq_iff_eq] at hcond
        obtain ⟨⟨hc1, hc2⟩, hc3⟩ := hcond
        simp only [Option.bind_eq_some_iff, Option.pure_def, Option.some.injEq] at hc
        obtain ⟨ps, hps, rfl⟩ := hc
        simp only [making, Option.map_eq_some_iff] at hm
        obtain ⟨out, ho, he⟩ := hm
        cases he
        obtain ⟨z, hz1, hz2, hz3⟩ := zeroT_ok (ι := ι) (w := w) hz
        have hzl : z.cells.toList.length = sz := by rw [hz2.length, hc3]
        have hzl' : z.cells.size = sz := by simpa using hzl
        have hzeros : ((Array.range (len * sz)).map fun i => z.cells[i % z.cells.size]!).toList = (List.replicate len z.cells.toList).flatten := by
          have := zerosArr z.cells.toList len
          rw [hzl] at this
          simpa using this
        obtain ⟨out', r1, r2, r3, r4⟩ := fill_ok (P := P) hρ (cells := (Array.range (len * sz)).map fun i => z.cells[i % z.cells.size]!) hps ho (by
          rw [hzeros]; exact VL.flatten hz2 len) (by
          unfold zeros
          rw [List.all_eq_true]
          intro y hy
          simp only [List.mem_flatten, List.mem_replicate] at hy
          obtain ⟨l, ⟨_, rfl⟩, hy⟩ := hy
          exact List.all_eq_true.mp hz3 y hy)
        have hlen : out'.size = len * sz := by
          have h1 := r2.length
          have h2 : (zeros len zero).length = len * sz := by unfold zeros; simp [hc3]
          simp at h1; omega
        refine ⟨out'.toList, e, .slice (some ⟨w.heap.size, 0, none⟩) len len, ?_, r2, r3, fun ι' w' n hn hs => ?_⟩
        · have hpl : (parts.map fun (i, x) => (i, ρ x)).toList = parts.toList.map fun x => (x.1, ρ x.2) := by simp
          have hex : execOp ρ ⟨dst, .buildSlice t len parts, ty, pos, aft, gd⟩ = (do pure (.value (← Instr.buildSlice t len (parts.map fun (i, x) => (i, ρ x))))) := rfl
          rw [hex]
          by_cases h0 : len * sz = 0
          · have e0 : ∀ z : Array Value, ((Array.range (len * sz)).map fun i => z[i % z.size]!) = (#[] : Array Value) := by
              intro z; rw [h0]; apply Array.ext'; simp
            rw [e0] at r1
            simp only [Instr.buildSlice, Sem.run_bind, run_underlying hu, Result.andThen_ok, run_sizeT hsz]
            rw [if_neg (by omega), if_pos h0]
            simp only [Sem.run_bind, Sem.run_pure, Result.andThen_ok, hpl, e0]
            rw [r1]
            simp [newRow]
          · simp only [Instr.buildSlice, Sem.run_bind, run_underlying hu, Result.andThen_ok, run_sizeT hsz]
            rw [if_neg (by omega), if_neg h0]
            simp only [Sem.run_bind, Sem.run_pure, Result.andThen_ok, hz1, hpl, r1]
            simp [newRow]
        · have hsh := hs _ _ (alloc_shape w out'.toList e)
          exact ⟨w.heap.size, 0, 0, len, e, _, hn, rfl, Nat.le_refl _, .inl rfl, hsh, by simp [hlen], fun q hq => by cases hq; rfl⟩
      · cases hc
    · cases hc
  | _ => exact absurd hm (by rw [making_none (fun e => by have h := kinds_ok hc; rw [e] at h; simp [opKinds] at h)]; simp)

theorem shape_cell {w : World} {c e M o : Nat} (h : w.shape? c = some (e, M)) (ho : o < M) : ∃ v, w.cell? ⟨c, o, none⟩ = some v := by
  unfold World.shape? at h
  unfold World.cell?
  split at h
  · rename_i cells el fz hh
    cases h
    rw [hh]
    exact ⟨cells[o], by simp [ho]⟩
  · cases h

theorem cell_shape {w : World} {c e M o : Nat} {v : Value} (h : w.shape? c = some (e, M)) (hv : w.cell? ⟨c, o, none⟩ = some v) : o < M := by
  unfold World.shape? at h
  unfold World.cell? at hv
  split at h
  · rename_i cells el fz hh
    cases h
    rw [hh] at hv
    simp at hv
    obtain ⟨h, _⟩ := Array.getElem?_eq_some_iff.mp hv
    exact h
  · cases h

theorem shapes_setCell (w : World) (a : Addr) (v : Value) : Shapes w (w.setCell a v) := by
  intro r s h
  unfold World.shape? at *
  unfold World.setCell
  simp only [Array.getElem?_modify]
  by_cases hr : a.block = r
  · rw [if_pos hr]
    cases hh : w.heap[r]? with
    | none => rw [hh] at h; cases h
    | some ob =>
      rw [hh] at h
      cases ob <;> simp at h ⊢
      rw [← h]
      simp
      split <;> simp
  · rw [if_neg hr]; exact h

theorem setCells_facts (c : Nat) : ∀ (vs : List Value) (x : Nat) (w : World), Shapes w (w.setCells c x vs) ∧ (∀ r, r ≠ c → (w.setCells c x vs).heap[r]? = w.heap[r]?) ∧
    (w.setCells c x vs).heap.size = w.heap.size ∧ (w.setCells c x vs).os = w.os ∧ (w.setCells c x vs).tape = w.tape ∧ (w.setCells c x vs).output = w.output
  | [], x, w => ⟨Shapes.refl w, fun _ _ => rfl, rfl, rfl, rfl, rfl⟩
  | v :: vs, x, w => by
    obtain ⟨h1, h2, h3, h4, h5, h6⟩ := setCells_facts c vs (x + 1) (w.setCell ⟨c, x, none⟩ v)
    refine ⟨(shapes_setCell w _ v).trans h1, fun r hr => ?_, ?_, h4, h5, h6⟩
    · show (((w.setCell ⟨c, x, none⟩ v).setCells c (x + 1) vs).heap[r]?) = _
      rw [h2 r hr]
      exact Go.RowKit.Below.heap_setCell w _ v r (by simpa using hr)
    · exact h3.trans (by simp)

/-- cells of a block that may be written are written -/
theorem write_ok {P : Program} {w : World} {c x e M : Nat} {vs : List Value} (hM : w.shape? c = some (e, M)) (hfree : ∀ o, o < M → w.frozen? ⟨c, o, none⟩ = false)
    (hx : vs.length = 0 ∨ x + vs.length ≤ M) (h1 : ∀ v ∈ vs, v.oneCell' = true) :
    (storeCells ⟨c, x, none⟩ vs).run P w = .ok () (w.setCells c x vs) ∧
    (∀ j v, vs[j]? = some v → (w.setCells c x vs).cell? ⟨c, x + j, none⟩ = some v) ∧
    (∀ o, o < x ∨ x + vs.length ≤ o → (w.setCells c x vs).cell? ⟨c, o, none⟩ = w.cell? ⟨c, o, none⟩) := by
  have hcell : ∀ j, j < vs.length → (w.cell? ⟨c, x + j, none⟩).isSome = true := fun j hj => by
    obtain ⟨v, hv⟩ := shape_cell hM (show x + j < M by omega)
    rw [hv]; rfl
  refine ⟨?_, fun j v hj => ?_, fun o ho => ?_⟩
  · have := run_storeCells_cells (P := P) c x vs 0 w (fun j hj => by simpa using hcell j hj) (fun j hj => by simpa using hfree (x + j) (by omega)) h1
    simpa using this
  · obtain ⟨hlt, rfl⟩ := List.getElem?_eq_some_iff.mp hj
    exact World.cell?_setCells_in c vs x w hcell j hlt
  · exact World.cell?_setCells_out c vs x w ⟨c, o, none⟩ (fun _ _ => ho)

theorem oneCells {vs : List Value} {cs : List AV} (hv : VL ι w cs vs) (hc : cs.all AV.isCell = true) : ∀ v ∈ vs, v.oneCell' = true := by
  intro v hm
  obtain ⟨j, hj⟩ := List.getElem?_of_mem hm
  obtain ⟨c, h1, h2⟩ := hv.getV j v hj
  exact V.oneCell (List.all_eq_true.mp hc c (List.mem_of_getElem? h1)) h2

/-- a store through an address -/
theorem Rel.store {P : Program} {b : Nat} {cs new : List AV} {c d o : Nat} {vs : List Value} (R : Rel ι m w) (hb : m.H[b]? = some (.cells cs true)) (hi : ι[b]? = some (some (c, d)))
    (hv : VL ι w new vs) (hc : new.all AV.isCell = true) (hpos : 0 < new.length) (hle : o + new.length ≤ cs.length) (esc : Option Nat) :
    (storeCells ⟨c, d + o, none⟩ vs).run P w = .ok () (w.setCells c (d + o) vs) ∧
    Rel ι { H := m.H.set b (.cells (Slim.setRange cs o new) true), esc } (w.setCells c (d + o) vs) ∧
    Ext ι m w ι { H := m.H.set b (.cells (Slim.setRange cs o new) true), esc } (w.setCells c (d + o) vs) := by
  obtain ⟨c', d', g, hC⟩ := R.at' b cs true hb
  rw [hi] at g
  cases g
  obtain ⟨e, M, hM, hfree⟩ := hC.free rfl
  obtain ⟨⟨us, u1, u2⟩, u3, _⟩ := hC
  have hlen := hv.length
  have hul := u1.length
  have hx : d + o + vs.length ≤ M := by
    obtain ⟨y, hy⟩ : ∃ y, us[o + vs.length - 1]? = some y := ⟨us[o + vs.length - 1]'(by omega), List.getElem?_eq_getElem (by omega)⟩
    have := cell_shape hM (u2 _ _ hy)
    omega
  obtain ⟨s1, s2, s3⟩ := write_ok (P := P) hM hfree (.inr hx) (oneCells hv hc)
  obtain ⟨f1, f2, f3, f4, f5, f6⟩ := setCells_facts c vs (d + o) w
  have hbl : b < m.H.length := (List.getElem?_eq_some_iff.mp hb).1
  have hset : ∀ b', (m.H.set b (.cells (Slim.setRange cs o new) true))[b']? = if b = b' then some (.cells (Slim.setRange cs o new) true) else m.H[b']? := by
    intro b'
    rw [List.getElem?_set]
    split
    · simp [hbl]
    · rfl
  have hothers : ∀ b' cs' wr c' d', b ≠ b' → m.H[b']? = some (.cells cs' wr) → ι[b']? = some (some (c', d')) → (w.setCells c (d + o) vs).heap[c']? = w.heap[c']? := by
    intro b' cs' wr c' d' hne h1 h2
    exact f2 c' (fun e => R.inj b b' cs cs' wr c d c' d' hne hb h1 hi h2 e.symm)
  have hall : (Slim.setRange cs o new).all AV.isCell = true := by
    unfold Slim.setRange
    simp only [List.all_append, Bool.and_eq_true]
    refine ⟨⟨List.all_eq_true.mpr fun y hy => List.all_eq_true.mp u3 y (List.mem_of_mem_take hy), hc⟩, List.all_eq_true.mpr fun y hy => List.all_eq_true.mp u3 y (List.mem_of_mem_drop hy)⟩
  refine ⟨s1, ⟨by simp [R.len], fun b' c' d' h => by rw [f3]; exact R.low b' c' d' h, fun b' cs' wr h => ?_, fun b1 b2 cs1 cs2 wr c1 d1 c2 d2 hne h1 h2 h3 h4 => ?_⟩,
    ⟨Emb.le_refl _, Nat.le_refl _, by rw [f3]; exact Nat.le_refl _, f1, fun r hr => ?_, fun r hr hn => ?_, f4, f5, f6⟩⟩
  · -- blocks
    rw [hset] at h
    split at h
    · rename_i hbb
      subst hbb
      cases h
      refine ⟨c, d, hi, ⟨us.take o ++ vs ++ us.drop (o + vs.length), VL.mono (Emb.le_refl _) f1 _ _ (u1.setRange o hv), fun j v hj => ?_⟩, hall, fun _ => ⟨e, M, f1 _ _ hM, fun q hq => ?_⟩⟩
      · by_cases hj1 : j < o
        · rw [List.append_assoc, List.getElem?_append_left (by simp; omega), List.getElem?_take, if_pos hj1] at hj
          rw [s3 (d + j) (by omega)]
          exact u2 j v hj
        · by_cases hj2 : j < o + vs.length
          · rw [List.append_assoc, List.getElem?_append_right (by simp; omega), List.getElem?_append_left (by simp; omega)] at hj
            have hto : (us.take o).length = o := by simp; omega
            rw [hto] at hj
            have := s2 (j - o) v hj
            rwa [show d + o + (j - o) = d + j by omega] at this
          · rw [List.getElem?_append_right (by simp; omega)] at hj
            have hto : (us.take o ++ vs).length = o + vs.length := by simp; omega
            rw [hto, List.getElem?_drop, show o + vs.length + (j - (o + vs.length)) = j by omega] at hj
            rw [s3 (d + j) (by omega)]
            exact u2 j v hj
      · have : ((w.setCells c (d + o) vs)).frozen? ⟨c, q, none⟩ = w.frozen? ⟨c, q, none⟩ := World.frozen?_setCells c vs (d + o) w _
        rw [this]
        exact hfree q hq
    · rename_i hne
      obtain ⟨c', d', h1, h2⟩ := R.at' b' cs' wr h
      exact ⟨c', d', h1, h2.mono (Emb.le_refl _) f1 (hothers b' cs' wr c' d' hne h h1)⟩
  · -- injectivity
    rw [hset] at h1 h2
    have back : ∀ bq csq wrq, (if b = bq then some (Blk.cells (Slim.setRange cs o new) true) else m.H[bq]?) = some (.cells csq wrq) → ∃ csq', m.H[bq]? = some (.cells csq' wrq) := by
      intro bq csq wrq hq
      split at hq
      · rename_i e; subst e; cases hq; exact ⟨cs, hb⟩
      · exact ⟨csq, hq⟩
    obtain ⟨a1, q1⟩ := back _ _ _ h1
    obtain ⟨a2, q2⟩ := back _ _ _ h2
    exact R.inj b1 b2 a1 a2 wr c1 d1 c2 d2 hne q1 q2 h3 h4
  · obtain ⟨b', cs', d', h1, h2⟩ := hr
    left
    rw [hset] at h1
    split at h1
    · rename_i e; subst e; exact ⟨b, cs, d', hb, h2⟩
    · exact ⟨b', cs', d', h1, h2⟩
  · exact f2 r (fun e => hn ⟨b, cs, d, hb, by rw [e]; exact hi⟩)

end
end Go.Proofs.Ytlcklonakjhoiaa.Slim

/- The slim machine: append, make, a string's bytes. -/
namespace Go.Proofs.Ytlcklonakjhoiaa.Slim
open Go
set_option linter.unusedVariables false
set_option linter.unusedSimpArgs false

section
variable {ι : Emb} {m : Mem} {w : World}

theorem Rel.kill (R : Rel ι m w) (b : Nat) : Rel ι { m with H := m.H.set b .dead } w ∧ Ext ι m w ι { m with H := m.H.set b .dead } w := by
  have hset : ∀ (b' : Nat) cs wr, (m.H.set b .dead)[b']? = some (Blk.cells cs wr) → m.H[b']? = some (Blk.cells cs wr) := by
    intro b' cs wr h
    rw [List.getElem?_set] at h
    split at h
    · split at h <;> cases h
    · exact h
  refine ⟨⟨by simp [R.len], R.low, fun b' cs wr h => R.at' b' cs wr (hset _ _ _ h), fun b1 b2 cs1 cs2 wr c d c' d' hne h1 h2 => R.inj b1 b2 cs1 cs2 wr c d c' d' hne (hset _ _ _ h1) (hset _ _ _ h2)⟩,
    ⟨Emb.le_refl _, Nat.le_refl _, Nat.le_refl _, Shapes.refl _, fun r hr => ?_, fun _ _ _ => rfl, rfl, rfl, rfl⟩⟩
  obtain ⟨b', cs', d', h1, h2⟩ := hr
  exact .inl ⟨b', cs', d', hset _ _ _ h1, h2⟩

/-- a block's end is written on: the block is given up, and a new one lies in its place -/
theorem Rel.inplace {P : Program} {b : Nat} {old cs : List AV} {new : List AV} {c d x e M : Nat} {us vs : List Value} (R : Rel ι m w) (hb : m.H[b]? = some (.cells old true))
    (hi : ι[b]? = some (some (c, d))) (hM : w.shape? c = some (e, M)) (hu : VL ι w cs us) (hcell : ∀ j v, us[j]? = some v → w.cell? ⟨c, x + j, none⟩ = some v) (hcs : cs.all AV.isCell = true)
    (hv : VL ι w new vs) (hc : new.all AV.isCell = true) (hx : vs.length = 0 ∨ x + us.length + vs.length ≤ M) :
    (storeCells ⟨c, x + us.length, none⟩ vs).run P w = .ok () (w.setCells c (x + us.length) vs) ∧
    Rel (ι ++ [some (c, x)]) { m with H := m.H.set b .dead ++ [.cells (cs ++ new) true] } (w.setCells c (x + us.length) vs) ∧
    Ext ι m w (ι ++ [some (c, x)]) { m with H := m.H.set b .dead ++ [.cells (cs ++ new) true] } (w.setCells c (x + us.length) vs) := by
  obtain ⟨c', d', g, hC⟩ := R.at' b old true hb
  rw [hi] at g
  cases g
  obtain ⟨e', M', hM', hfree⟩ := hC.free rfl
  rw [hM] at hM'
  cases hM'
  obtain ⟨s1, s2, s3⟩ := write_ok (P := P) hM hfree hx (oneCells hv hc)
  obtain ⟨f1, f2, f3, f4, f5, f6⟩ := setCells_facts c vs (x + us.length) w
  have hbl : b < m.H.length := (List.getElem?_eq_some_iff.mp hb).1
  have hle : Emb.le ι (ι ++ [some (c, x)]) := fun b p hb => by
    rw [List.getElem?_append_left]; exact hb
    exact (List.getElem?_eq_some_iff.mp hb).1
  have key : ∀ b' : Nat, (ι ++ [some (c, x)])[b']? = if b' < ι.length then ι[b']? else if b' = ι.length then some (some (c, x)) else none := by
    intro b'
    by_cases h1 : b' < ι.length
    · rw [if_pos h1, List.getElem?_append_left h1]
    · rw [if_neg h1, List.getElem?_append_right (by omega)]
      by_cases h2 : b' = ι.length
      · subst h2; simp
      · rw [if_neg h2]; rw [List.getElem?_eq_none]; simp; omega
  have keyH : ∀ b' : Nat, (m.H.set b .dead ++ [.cells (cs ++ new) true])[b']? = if b' < ι.length then (if b = b' then some .dead else m.H[b']?) else if b' = ι.length then some (.cells (cs ++ new) true) else none := by
    intro b'
    by_cases h1 : b' < ι.length
    · rw [if_pos h1, List.getElem?_append_left (by simp; rw [← R.len]; exact h1), List.getElem?_set]
      split
      · simp [hbl]
      · rfl
    · rw [if_neg h1, List.getElem?_append_right (by simp; rw [← R.len]; omega)]
      by_cases h2 : b' = ι.length
      · subst h2; simp [R.len]
      · rw [if_neg h2]; rw [List.getElem?_eq_none]; simp [← R.len]; omega
  have hclt : c < w.heap.size := R.low b c d hi
  refine ⟨s1, ⟨?_, ?_, ?_, ?_⟩, ⟨hle, ?_, ?_, f1, ?_, ?_, f4, f5, f6⟩⟩
  · simp [R.len]
  · intro b' c' d' hb'
    rw [key] at hb'
    rw [f3]
    split at hb'
    · exact R.low b' c' d' hb'
    · split at hb'
      · cases hb'; exact hclt
      · cases hb'
  · intro b' cs' wr hb'
    simp only [] at hb'
    rw [keyH] at hb'
    split at hb'
    · rename_i hlt
      split at hb'
      · cases hb'
      · rename_i hne
        obtain ⟨c', d', h1, h2⟩ := R.at' b' cs' wr hb'
        exact ⟨c', d', hle _ _ h1, h2.mono hle f1 (f2 c' (fun e => R.inj b b' old cs' wr c d c' d' hne hb hb' hi h1 e.symm))⟩
    · split at hb'
      · rename_i hlt heq
        cases hb'
        refine ⟨c, x, by rw [key, if_neg hlt, if_pos heq], ⟨us ++ vs, VL.mono hle f1 _ _ (hu.append hv), fun j v hj => ?_⟩, by rw [List.all_append, hcs, hc]; rfl, fun _ => ⟨e, M, f1 _ _ hM, fun q hq => ?_⟩⟩
        · by_cases hj1 : j < us.length
          · rw [List.getElem?_append_left hj1] at hj
            rw [s3 (x + j) (by omega)]
            exact hcell j v hj
          · rw [List.getElem?_append_right (by omega)] at hj
            have := s2 (j - us.length) v hj
            rwa [show x + us.length + (j - us.length) = x + j by omega] at this
        · rw [World.frozen?_setCells c vs (x + us.length) w _]
          exact hfree q hq
      · cases hb'
  · intro b1 b2 cs1 cs2 wr c1 d1 c2 d2 hne h1 h2 h3 h4
    simp only [] at h1 h2
    rw [keyH] at h1 h2
    rw [key] at h3 h4
    by_cases l1 : b1 < ι.length <;> by_cases l2 : b2 < ι.length
    · rw [if_pos l1] at h1 h3; rw [if_pos l2] at h2 h4
      split at h1
      · cases h1
      · split at h2
        · cases h2
        · exact R.inj b1 b2 cs1 cs2 wr c1 d1 c2 d2 hne h1 h2 h3 h4
    · rw [if_pos l1] at h1 h3; rw [if_neg l2] at h2 h4
      split at h1
      · cases h1
      · rename_i hbb
        split at h4
        · cases h4
          exact fun e => R.inj b b1 old cs1 true c d c1 d1 hbb hb h1 hi h3 e.symm
        · cases h4
    · rw [if_neg l1] at h1 h3; rw [if_pos l2] at h2 h4
      split at h3
      · split at h2
        · cases h2
        · rename_i hbb
          cases h3
          exact R.inj b b2 old cs2 wr c d c2 d2 hbb hb h2 hi h4
      · cases h3
    · rw [if_neg l1] at h3; rw [if_neg l2] at h4
      split at h3
      · split at h4
        · omega
        · cases h4
      · cases h3
  · simp
  · rw [f3]; exact Nat.le_refl _
  · rintro r ⟨b', cs', d', h1, h2⟩
    simp only [] at h1
    rw [keyH] at h1
    rw [key] at h2
    left
    split at h1
    · rename_i hlt
      rw [if_pos hlt] at h2
      split at h1
      · cases h1
      · exact ⟨b', cs', d', h1, h2⟩
    · rename_i hlt
      rw [if_neg hlt] at h2
      split at h2
      · cases h2; exact ⟨b, old, d, hb, hi⟩
      · cases h2
  · intro r hr hn
    exact f2 r (fun e => hn ⟨b, old, d, hb, by rw [e]; exact hi⟩)

theorem grownCap_ge (w : World) (need old : Nat) (e : TypeId) : need ≤ grownCap w need old e := by
  show need ≤ need + _
  omega

/-- what append comes to in the model -/
theorem run_append_gen {P : Program} {t u e : TypeId} {sz by' : Nat} {z : Value} (ty : TypeId) (ts : Array TypeId) (args : Array Value) (hts0 : ts[0]? = some t) (hts1 : ts[1]? = some u)
    (ht : P.underlying t = some (.slice e)) (hu : (∃ e', P.underlying u = some (.slice e')) ∨ P.underlying u = some .string) (hsz : szT P e = some sz) (hby : bytesT P e = some by') (hpos : 0 < by')
    (hz : ∀ w : World, (zeroValue e).run P w = .ok z w) (base : Option Addr) (sLen sCap : Nat) (x : Value) (k : Nat) (olds news : List Value) (ha0 : args[0]? = some (.slice base sLen sCap)) (ha1 : args[1]? = some x)
    (hlen : ∀ w : World, (Builtin.lenOf x).run P w = .ok k w) (hsrc : ∀ w' : World, w'.heap = w.heap → (Builtin.firstCells sz k x).run P w' = .ok news.toArray w')
    (hold : ∀ w' : World, w'.heap = w.heap → (Builtin.firstCells sz sLen (.slice base sLen sCap)).run P w' = .ok olds.toArray w') :
    (sLen + k ≤ sCap → (Builtin.append_ ts ty args).run P w = ((match base with | some a => storeCells (a.add (sLen * sz)) news | none => pure ()).run P w).andThen fun _ w' => .ok (.slice base (sLen + k) sCap) w') ∧
    (sCap < sLen + k → (sLen + k) * by' ≤ 140737488355328 → (Builtin.append_ ts ty args).run P w =
      .ok (.slice (some ⟨w.heap.size, 0, none⟩) (sLen + k) (grownCap w (sLen + k) sCap e))
        (w.drew.alloc (.cells (olds.toArray ++ news.toArray ++ Builtin.zeroCells z.cells (grownCap w (sLen + k) sCap e - (sLen + k))) e))) := by
  cases hi : P.info? e with
  | none => simp [szT, hi] at hsz
  | some i =>
    have hs : i.size = sz := by simpa [szT, hi] using hsz
    have hb : i.bytes = by' := by simpa [bytesT, hi] using hby
    have hzs : (do pure ((← underlying u) matches .int _) : Sem Bool).run P w = .ok false w := by
      rcases hu with ⟨e', hu⟩ | hu <;> simp [run_underlying hu]
    have hzs' : ∀ (w : World), ((underlying u).run P w).andThen (fun a w => (Sem.run P (pure (a matches .int _) : Sem Bool) w)) = .ok false w := by
      intro w
      rcases hu with ⟨e', hu⟩ | hu <;> simp [run_underlying hu]
    refine ⟨fun hc => ?_, fun hg hfit => ?_⟩
    · have h1 := hsrc w rfl
      rcases hu with ⟨e', hu⟩ | hu <;>
      · simp only [Builtin.append_, hts0, hts1, ha0, ha1, Sem.run_bind, run_underlying ht, run_underlying hu, Result.andThen_ok, run_sizeT hsz, Sem.run_pure, Bool.false_eq_true, if_false, hlen, hc, if_true, Bool.not_false, h1]
        cases base with
        | none => simp
        | some a => simp
    · have hg' : ¬ (sLen + k ≤ sCap) := by omega
      have h63' : ¬ (9223372036854775807 < ((sLen + k : Nat) : Int)) := by
        have : (sLen + k) * 1 ≤ (sLen + k) * by' := Nat.mul_le_mul_left _ hpos
        omega
      have h48' : ¬ (281474976710656 < Builtin.nextslicecap (sLen + k) sCap * i.bytes) := by
        have := growslice_fits (bytes := by') hg hfit
        rw [hb]; omega
      have h1 := hsrc w.drew rfl
      have h2 := hold w.drew rfl
      have hnf : (Question.appendCap (sLen + k) sCap e).forced = false := rfl
      rcases hu with ⟨e', hu⟩ | hu <;>
      · simp only [Builtin.append_, hts0, hts1, ha0, ha1, Sem.run_bind, run_underlying ht, run_underlying hu, Result.andThen_ok, run_sizeT hsz, Sem.run_pure, Bool.false_eq_true, if_false, hlen, hg', run_infoT hi, hz]
        have h0 : ¬ (i.bytes = 0) := by omega
        simp [h0, h48', Question.forced, h1, h2, newRow, grownCap, run_infoT hi, hz]
        try (congr 2; apply Array.ext'; simp)
end
end Go.Proofs.Ytlcklonakjhoiaa.Slim

/- The slim machine: the operations that write, all of them; an operation of whatever kind. -/
namespace Go.Proofs.Ytlcklonakjhoiaa.Slim
open Go
set_option linter.unusedVariables false
set_option linter.unusedSimpArgs false

section
variable {ι : Emb} {m : Mem} {w : World}

/-- an operation that is no call, carried out -/
def OpDone (P : Program) (ι : Emb) (m : Mem) (w : World) (ρ : Operand → Value) (o : Oper) (v : AV) (m' : Mem) : Prop :=
  ∃ (n : Next) (w' : World) (ι' : Emb) (v' : Value), (execOp ρ o).run P w = .ok n w' ∧ (n = .value v' ∨ (n = .skip ∧ v' = undef)) ∧ V ι' w' v v' ∧ Rel ι' m' w' ∧ Ext ι m w ι' m' w'

theorem OpDone.of_does {P : Program} {ρ : Operand → Value} {o : Oper} {v : AV} (R : Rel ι m w) (h : Does P ι w ρ o v) : OpDone P ι m w ρ o v m := by
  obtain ⟨v', h1, h2⟩ := h
  exact ⟨.value v', w, ι, v', h1, .inl rfl, h2, R, Ext.refl _ _ _⟩

theorem emb_last (ι : Emb) (p : Nat × Nat) : (ι ++ [some p])[ι.length]? = some (some p) := by simp

theorem OpDone.of_makes {P : Program} {ρ : Operand → Value} {o : Oper} {cs : List AV} {f : Nat → AV} (R : Rel ι m w) (h : Makes P ι w ρ o cs f) :
    OpDone P ι m w ρ o (f m.H.length) (newBlk m cs) := by
  obtain ⟨vs, e, v', h1, h2, h3, h4⟩ := h
  obtain ⟨r1, r2⟩ := R.alloc (e := e) h2 h3 []
  rw [List.append_nil] at r1 r2
  exact ⟨.value v', _, _, v', h1, .inl rfl, h4 _ _ _ (by rw [← R.len]; exact emb_last _ _) (Shapes.refl _), r1, r2⟩

theorem len_zeroCells (z : Array Value) (n : Nat) : (Builtin.zeroCells z n).size = n * z.size := by simp [Builtin.zeroCells]

/-- where the source of an append lies -/
theorem src_ok {P : Program} {str : Bool} {sz k : Nat} {a : AV} {x : Value} {cs : List AV} (R : Rel ι m w) (hv : V ι w a x) (h : srcCells str m.H a = some (k, cs)) (hsz : cs.length = k * sz) (hstr : str = true → sz = 1) :
    ∃ news : List Value, VL ι w cs news ∧ cs.all AV.isCell = true ∧ (∀ w : World, (Builtin.lenOf x).run P w = .ok k w) ∧
      (∀ w' : World, w'.heap = w.heap → (Builtin.firstCells sz k x).run P w' = .ok news.toArray w') := by
  unfold srcCells at h
  split at h
  · split at h
    · cases h
    cases h
    obtain ⟨_, rfl⟩ := hv
    exact ⟨[], rfl, rfl, fun w => by simp [Builtin.lenOf], fun w' _ => by simp [Builtin.firstCells]⟩
  · rename_i b o sz' n cp
    split at h
    · cases h
    split at h
    · cases h
    · rename_i old hcs
      split at h
      · rename_i hle
        simp only [Option.some.injEq, Prod.mk.injEq] at h
        obtain ⟨rfl, rfl⟩ := h
        obtain ⟨c, d, xo, k', e', M, g1, rfl, g3, g4, g5, g6, g7⟩ := hv
        obtain ⟨wr, hb⟩ := cellsAt_inv hcs
        obtain ⟨c', d', g8, hC⟩ := R.at' b old wr hb
        rw [g1] at g8
        cases g8
        obtain ⟨vs, l1, l2, l3⟩ := hC.stretch o (n * sz') hle
        have hl : n * sz' = n * sz := by rw [← hsz]; simp; omega
        refine ⟨vs, l2, all_sub hC.cell _ _, fun w => by simp [Builtin.lenOf], fun w' hw' => ?_⟩
        have hld : (loadCells ⟨c, xo, none⟩ (n * sz)).run P w' = .ok vs.toArray w' := by
          rcases g4 with rfl | ⟨rfl, rfl⟩
          · have := run_loadCells_list (P := P) w' ⟨c, d + o, none⟩ vs (fun j v hj => by rw [← l3 j v hj]; simp [World.cell?, hw'])
            rwa [l1, hl] at this
          · have : vs = [] := by simpa using l1
            subst this
            simp [loadCells, loadCellsFrom]
        simp [Builtin.firstCells, hld]
      · cases h
  · rename_i s
    split at h
    case isFalse => cases h
    rename_i hst
    cases h
    have h1 := hstr hst
    subst h1
    cases hv
    refine ⟨s.data.toList.map fun b => Value.int .u8 b.toNat, VL.map_of (f := fun b : UInt8 => AV.int .u8 b.toNat) (g := fun b : UInt8 => Value.int .u8 b.toNat) _ (fun b _ => rfl), ?_, fun w => by simp [Builtin.lenOf], fun w' _ => ?_⟩
    · rw [List.all_eq_true]; intro y hy; simp only [bytesOf, List.mem_map] at hy; obtain ⟨b, _, rfl⟩ := hy; rfl
    · have hx : s.extract 0 s.size = s := ByteArray.extract_zero_size
      simp only [Builtin.firstCells, hx, Sem.run_pure]
      congr 1
      apply Array.ext'
      simp
  · cases h

theorem append_ok {P : Program} {str : Bool} {t u e : TypeId} {sz by' : Nat} {zs : List AV} (ty : TypeId) (ts : Array TypeId) (args : Array Value) (hts0 : ts[0]? = some t) (hts1 : ts[1]? = some u)
    (ht : P.underlying t = some (.slice e)) (hu : (str = false ∧ ∃ e', P.underlying u = some (.slice e')) ∨ (P.underlying u = some .string ∧ sz = 1)) (hsz : szT P e = some sz) (hby : bytesT P e = some by') (hpos : 0 < by') (hsp : 0 < sz)
    (hz : zeroT P e = some zs) (hzl : zs.length = sz) {s x : AV} {s' x' : Value} (ha0 : args[0]? = some s') (ha1 : args[1]? = some x') (R : Rel ι m w) (hs : V ι w s s') (hx : V ι w x x')
    {f : FuncId → List AV → Mem → Option (AV × Mem)} {g : X → AV} {xs xx : X} (e1 : g xs = s) (e2 : g xx = x) {v : AV} {m' : Mem}
    (h : heavy f g m (.append str sz by' xs xx) = some (v, m')) :
    ∃ (w' : World) (ι' : Emb) (v' : Value), (Builtin.append_ ts ty args).run P w = .ok v' w' ∧ V ι' w' v v' ∧ Rel ι' m' w' ∧ Ext ι m w ι' m' w' := by
  obtain ⟨z, hz1, hz2, hz3⟩ := zeroT_ok (ι := ι) (w := w) hz
  have hzs : z.cells.size = sz := by have := hz2.length; simp at this; omega
  have hu' : (∃ e', P.underlying u = some (.slice e')) ∨ P.underlying u = some .string := hu.imp And.right And.left
  have hstr' : str = true → sz = 1 := fun hq => by
    rcases hu with ⟨hf, _⟩ | ⟨_, hu⟩
    · rw [hq] at hf; cases hf
    · exact hu
  simp only [heavy, e1, e2] at h
  split at h
  · -- nil
    rename_i sz0 n0 cp0
    obtain ⟨rfl, rfl⟩ := hs
    split at h
    · rename_i k cs hsrc
      split at h
      · rename_i hk
        subst hk
        cases h
        have hcs : cs.length = 0 * sz := by
          unfold srcCells at hsrc
          split at hsrc
          · split at hsrc
            · cases hsrc
            · cases hsrc; simp
          · split at hsrc
            · cases hsrc
            split at hsrc
            · cases hsrc
            · split at hsrc
              · simp only [Option.some.injEq, Prod.mk.injEq] at hsrc
                obtain ⟨rfl, rfl⟩ := hsrc
                simp
              · cases hsrc
          · split at hsrc
            case isFalse => cases hsrc
            simp only [Option.some.injEq, Prod.mk.injEq] at hsrc
            obtain ⟨h1, rfl⟩ := hsrc
            show (List.map _ _).length = _
            rw [List.length_map, Nat.zero_mul]
            exact h1
          · cases hsrc
        obtain ⟨news, s1, s2, s3, s4⟩ := src_ok (P := P) R hx hsrc hcs hstr'
        have hn : news = [] := by have := s1.length; simp at hcs; rw [hcs] at this; simpa using this
        subst hn
        obtain ⟨A, _⟩ := run_append_gen (P := P) (w := w) ty ts args hts0 hts1 ht hu' hsz hby hpos hz1 none 0 0 x' 0 [] [] ha0 ha1 s3 s4 (fun w' _ => by simp [Builtin.firstCells])
        exact ⟨w, ι, .slice none 0 0, by rw [A (Nat.le_refl _)]; simp, ⟨rfl, rfl⟩, R, Ext.refl _ _ _⟩
      · split at h
        · rename_i hk hc
          cases h
          obtain ⟨news, s1, s2, s3, s4⟩ := src_ok (P := P) R hx hsrc hc.2 hstr'
          obtain ⟨_, B⟩ := run_append_gen (P := P) (w := w) ty ts args hts0 hts1 ht hu' hsz hby hpos hz1 none 0 0 x' k [] news ha0 ha1 s3 s4 (fun w' _ => by simp [Builtin.firstCells])
          have hfit : (0 + k) * by' ≤ 140737488355328 := by have := hc.1; unfold maxBytes at this; rw [Nat.zero_add]; omega
          have hrun := B (by omega) hfit
          have hge := grownCap_ge w (0 + k) 0 e
          generalize hcap : grownCap w (0 + k) 0 e = cap at *
          have hR := R.drew
          obtain ⟨r1, r2⟩ := hR.alloc (e := e) (VL.mono (Emb.le_refl _) (w := w) (w' := w.drew) (fun _ _ h => h) _ _ s1) s2 (Builtin.zeroCells z.cells (cap - (0 + k))).toList
          refine ⟨_, _, .slice (some ⟨w.heap.size, 0, none⟩) (0 + k) cap, ?_, ?_, r1, (Ext.drew ι m w).trans r2⟩
          · rw [hrun]
            congr 2
            congr 1
            apply Array.ext'
            simp
          · have hnl := s1.length
            refine ⟨w.heap.size, 0, 0, cap, e, _, by rw [← R.len]; exact emb_last _ _, by rw [Nat.zero_add], by omega, .inl rfl, alloc_shape w.drew _ e, ?_, fun q hq => by cases hq⟩
            simp only [List.length_append, Array.length_toList, len_zeroCells, hzs, hnl, hc.2]
            rw [Nat.zero_add, ← Nat.add_mul]
            right
            apply Nat.mul_le_mul_right
            omega
        · cases h
    · cases h
  · -- a slice in memory
    rename_i b o sz' n cap
    obtain ⟨c, d, xo, kc, e', M, g1, rfl, g3, g4, g5, g6, g7⟩ := hs
    split at h
    · rename_i old wr k cs hb hsrc
      split at h
      · rename_i hcond
        obtain ⟨rfl, hmax, hcs, hle⟩ := hcond
        obtain ⟨c', d', g8, hC⟩ := R.at' b old wr hb
        rw [g1] at g8
        cases g8
        obtain ⟨news, s1, s2, s3, s4⟩ := src_ok (P := P) R hx hsrc hcs hstr'
        obtain ⟨olds, o1, o2, o3⟩ := hC.stretch o (n * sz') hle
        have hnl := s1.length
        have hold : ∀ w' : World, w'.heap = w.heap → (Builtin.firstCells sz' n (.slice (some ⟨c, xo, none⟩) n kc)).run P w' = .ok olds.toArray w' := by
          intro w' hw'
          have hld : (loadCells ⟨c, xo, none⟩ (n * sz')).run P w' = .ok olds.toArray w' := by
            rcases g4 with rfl | ⟨rfl, rfl⟩
            · have := run_loadCells_list (P := P) w' ⟨c, d + o, none⟩ olds (fun j v hj => by rw [← o3 j v hj]; simp [World.cell?, hw'])
              rwa [o1] at this
            · have : olds = [] := by simpa using o1
              subst this
              simp [loadCells, loadCellsFrom]
          simp [Builtin.firstCells, hld]
        obtain ⟨A, B⟩ := run_append_gen (P := P) (w := w) ty ts args hts0 hts1 ht hu' hsz hby hpos hz1 (some ⟨c, xo, none⟩) n kc x' k olds news ha0 ha1 s3 s4 hold
        have hfit : (n + k) * by' ≤ 140737488355328 := by unfold maxBytes at hmax; omega
        -- where it grows
        have grow : ∀ (m₁ : Mem) (cs₁ : List AV), Rel ι m₁ w → kc < n + k → VL ι w cs₁ (olds ++ news) → cs₁.all AV.isCell = true → m₁.H.length = m.H.length →
            ∃ (w' : World) (ι' : Emb) (v' : Value), (Builtin.append_ ts ty args).run P w = .ok v' w' ∧ V ι' w' (.slice (some (m.H.length, 0)) sz' (n + k) none) v' ∧ Rel ι' (newBlk m₁ cs₁) w' ∧ Ext ι m₁ w ι' (newBlk m₁ cs₁) w' := by
          intro m₁ cs₁ R₁ hlt hv₁ hc₁ hlen₁
          have hrun := B hlt hfit
          have hge := grownCap_ge w (n + k) kc e
          generalize hcapq : grownCap w (n + k) kc e = cp at *
          obtain ⟨r1, r2⟩ := R₁.drew.alloc (e := e) (VL.mono (Emb.le_refl _) (w := w) (w' := w.drew) (fun _ _ h => h) _ _ hv₁) hc₁ (Builtin.zeroCells z.cells (cp - (n + k))).toList
          refine ⟨_, _, .slice (some ⟨w.heap.size, 0, none⟩) (n + k) cp, ?_, ?_, r1, (Ext.drew ι m₁ w).trans r2⟩
          · rw [hrun]
            congr 2
            congr 1
            apply Array.ext'
            simp
          · refine ⟨w.heap.size, 0, 0, cp, e, _, by rw [← hlen₁, ← R₁.len]; exact emb_last _ _, rfl, by omega, .inl rfl, alloc_shape w.drew _ e, ?_, fun q hq => by cases hq⟩
            simp only [List.length_append, Array.length_toList, len_zeroCells, hzs, hnl, hcs, o1]
            rw [Nat.zero_add, ← Nat.add_mul, ← Nat.add_mul]
            right
            apply Nat.mul_le_mul_right
            omega
        split at h
        · rename_i hcap
          cases h
          have hk0 := g7 0 hcap.1
          have hn0 : n = 0 := by omega
          subst hn0
          have ho0 : olds = [] := by simpa using o1
          subst ho0
          exact grow m cs R (by omega) s1 s2 rfl
        · split at h
          · rename_i hw
            subst hw
            cases h
            by_cases hfitin : n + k ≤ kc
            · -- in place
              have hx0 : news.length = 0 ∨ xo + olds.length + news.length ≤ M := by
                rw [o1, hnl, hcs]
                rcases g6 with g6 | g6
                · left
                  have : k = 0 := by omega
                  rw [this, Nat.zero_mul]
                right
                have : n * sz' + k * sz' ≤ kc * sz' := by rw [← Nat.add_mul]; exact Nat.mul_le_mul_right _ hfitin
                omega
              have hcell : ∀ j v, olds[j]? = some v → w.cell? ⟨c, xo + j, none⟩ = some v := by
                intro j v hj
                rcases g4 with rfl | ⟨rfl, _⟩
                · have := o3 j v hj
                  rwa [addr_add] at this
                · have : olds = [] := by simpa using o1
                  subst this
                  simp at hj
              obtain ⟨r0, r1, r2⟩ := Rel.inplace (P := P) R hb g1 g5 o2 hcell (all_sub hC.cell _ _) s1 s2 hx0
              refine ⟨_, _, .slice (some ⟨c, xo, none⟩) (n + k) kc, ?_, ?_, r1, r2⟩
              · rw [A hfitin]
                show ((storeCells ((⟨c, xo, none⟩ : Addr).add (n * sz')) news).run P w).andThen _ = _
                rw [addr_add, ← o1, r0]
                rfl
              · exact ⟨c, xo, xo, kc, e', M, by rw [← R.len]; exact emb_last _ _, rfl, hfitin, .inl rfl, r2.shapes _ _ g5, g6, fun q hq => by cases hq⟩
            · obtain ⟨R₁, E₁⟩ := R.kill b
              obtain ⟨w', ι', v', q1, q2, q3, q4⟩ := grow { m with H := m.H.set b .dead } ((old.drop o).take (n * sz') ++ cs) R₁ (by omega) (o2.append s1) (by rw [List.all_append, all_sub hC.cell, s2]; rfl) (by simp)
              exact ⟨w', ι', v', q1, q2, q3, E₁.trans q4⟩
          · cases h
      · cases h
    · cases h
  · cases h

theorem freeze_end (w : World) (c : Array Value) (e : TypeId) (n : Nat) : (w.alloc (.cells c e)).freeze ⟨w.heap.size, n, none⟩ 1 = w.alloc (.cells c e (n, n + 1)) := by
  simp only [World.freeze, Nat.one_ne_zero, if_false, World.alloc]
  congr 1
  apply Array.ext_getElem?
  intro i
  rw [Array.getElem?_modify, Array.getElem?_push, Array.getElem?_push]
  by_cases h : w.heap.size = i
  · subst h; simp
  · rw [if_neg h, if_neg (fun e => h e.symm), if_neg (fun e => h e.symm)]

def byteVals (s : ByteArray) : List Value := s.data.toList.map fun b => .int .u8 b.toNat

theorem byteVals_length (s : ByteArray) : (byteVals s).length = s.size := by simp [byteVals]

theorem wrap_id {l : Int} (h0 : 0 ≤ l) (h1 : l ≤ 35184372088832) : IntKind.i64.wrap l = l := by
  unfold IntKind.wrap
  simp only [IntKind.bits, IntKind.signed]
  have : l % (2 ^ 64 : Int) = l := Int.emod_eq_of_lt h0 (by omega)
  simp only [this]
  rw [if_neg]
  simp
  omega

theorem heavy_none {f : FuncId → List AV → Mem → Option (AV × Mem)} {g : X → AV} {ao : AO} (h : ao.kind ≠ 3) : heavy f g m ao = none := by
  cases ao <;> first | rfl | (exact absurd rfl h)

/-- a call -/
def OpCall (P : Program) (ι : Emb) (w : World) (ρ : Operand → Value) (o : Oper) (f : FuncId) (args : List AV) : Prop :=
  ∃ vs : List Value, VL ι w args vs ∧ ∀ fn, P.funcs[f]? = some fn → fn.body.isSome = true → fn.name ≠ "runtime.NumGoroutine" → (execOp ρ o).run P w = .ok (.enter f vs.toArray) w

theorem heavy_ok {P : Program} {f : FuncId → List AV → Mem → Option (AV × Mem)} {cx : Look} {g : X → AV} {ρ : Operand → Value} (hρ : OkX ι w cx g ρ) (R : Rel ι m w) (o : Oper) {ao : AO} {v : AV} {m' : Mem}
    (hc : compileOp P cx o.op = some ao) (hl : heavy f g m ao = some (v, m')) :
    OpDone P ι m w ρ o v m' ∨ ∃ k args, f k args m = some (v, m') ∧ OpCall P ι w ρ o k args := by
  obtain ⟨dst, op, ty, pos, aft, gd⟩ := o
  cases op with
  | store t a x =>
    left
    simp only [compileOp, Option.bind_eq_bind, Option.bind_eq_some_iff, Option.pure_def, Option.some.injEq] at hc
    obtain ⟨sz, hsz, a', ha, x', hx, rfl⟩ := hc
    simp only [heavy] at hl
    have h1 := hρ _ _ ha
    have h2 := hρ _ _ hx
    split at hl
    · rename_i b o new e1 e2
      rw [e1] at h1
      obtain ⟨n1, n2⟩ := h2.cells e2
      split at hl
      · rename_i cs hb
        split at hl
        · rename_i hcond
          obtain ⟨k1, k2, k3⟩ := hcond
          cases hl
          obtain ⟨c, d, g1, g2⟩ := h1
          have hp : 0 < new.length := by omega
          have hle : o + new.length ≤ cs.length := by omega
          obtain ⟨s1, s2, s3⟩ := R.store (P := P) hb g1 n1 n2 hp hle (if (new.all fun v => v.under (b + 1)) then m.esc else minEsc m.esc b)
          have hl2 := n1.length
          refine ⟨.skip, _, ι, undef, ?_, .inr ⟨rfl, rfl⟩, ⟨[], rfl, rfl⟩, s2, s3⟩
          have hsize : (ρ x).cells.size = sz := by simp at hl2; omega
          simp only [execOp, Instr.storeAt, g2, Instr.sureAddr, Sem.run_bind, Sem.run_pure, Result.andThen_ok, storeVar, run_sizeT hsz, hsize, ne_eq, not_true_eq_false, if_false, s1]
        · cases hl
      · cases hl
    · cases hl
  | convert src dst x =>
    left
    simp only [compileOp] at hc
    split at hc
    · simp only [Option.map_eq_some_iff] at hc
      obtain ⟨x', hx, rfl⟩ := hc
      cases hl
    · simp only [Option.map_eq_some_iff] at hc
      obtain ⟨x', hx, rfl⟩ := hc
      cases hl
    · rename_i e h1 h2
      split at hc
      · rename_i h3 h4
        simp only [Option.map_eq_some_iff] at hc
        obtain ⟨x', hx, rfl⟩ := hc
        simp only [heavy] at hl
        have hv := hρ _ _ hx
        split at hl
        · rename_i s ee; rw [ee] at hv
          split at hl
          · rename_i hmax
            cases hl
            have hcap := grownCap_ge w s.size 0 e
            generalize hcp : grownCap w s.size 0 e = cp at *
            have hnl := byteVals_length s
            have hcell : ((bytesOf s).all AV.isCell) = true := by
              rw [List.all_eq_true]; intro y hy; simp only [bytesOf, List.mem_map] at hy; obtain ⟨b, _, rfl⟩ := hy; rfl
            have hbv : VL ι w.drew (bytesOf s) (byteVals s) := VL.map_of (f := fun b : UInt8 => AV.int .u8 b.toNat) (g := fun b : UInt8 => Value.int .u8 b.toNat) _ (fun b _ => rfl)
            have hlen : (byteVals s ++ List.replicate (cp - s.size) (Value.int .u8 0)).length = cp := by
              rw [List.length_append, hnl, List.length_replicate]; omega
            obtain ⟨r1, r2⟩ := R.drew.allocF (e := e) (fz := (cp, cp + 1)) hbv hcell (List.replicate (cp - s.size) (Value.int .u8 0)) (fun o ho => by rw [hlen] at ho; simp; omega)
            refine ⟨_, _, _, .slice (some ⟨w.heap.size, 0, none⟩) s.size cp, ?_, .inl rfl, ?_, r1, (Ext.drew ι m w).trans r2⟩
            · have hnf : (Question.appendCap s.size 0 e).forced = false := rfl
              have hsh := alloc_shape w.drew (byteVals s ++ List.replicate (cp - s.size) (Value.int .u8 0)) e
              have harr : (s.data.map fun b => Value.int .u8 b.toNat) ++ Array.replicate (cp - s.size) (Value.int .u8 0) = (byteVals s ++ List.replicate (cp - s.size) (Value.int .u8 0)).toArray := by
                apply Array.ext'; simp [byteVals]
              rw [hlen] at hsh
              have hfe := freeze_end w.drew (byteVals s ++ List.replicate (cp - s.size) (Value.int .u8 0)).toArray e cp
              unfold grownCap at hcp
              simp only [execOp, V.str_inv hv, convert, Sem.run_bind, run_underlying h1, run_underlying h2, run_underlying h3, Result.andThen_ok, Conv.stringToBytes, run_choose, hnf, Bool.false_eq_true, if_false]
              simp only [World.drew_eq, newRow, Sem.run_bind, run_newObj, Result.andThen_ok, Sem.run_pure, World.alloc_eq, markStringish, run_shape]
              simp only [hcp, harr]
              simp only [World.size_drew] at hsh hfe ⊢
              rw [hsh]
              simp only [run_freeze, hfe, Result.andThen_ok, Sem.run_pure]
            · refine ⟨w.heap.size, 0, 0, cp, e, cp, by rw [← R.len]; exact emb_last _ _, rfl, hcap, .inl rfl, ?_, by omega, fun q hq => by cases hq⟩
              unfold World.shape?
              rw [show w.heap.size = w.drew.heap.size from rfl, heap_alloc_new]
              simp only [List.size_toArray, hlen]
          · cases hl
        · cases hl
      · cases hc
    · split at hc
      · simp only [Option.map_eq_some_iff] at hc
        obtain ⟨_, _, rfl⟩ := hc
        cases hl
      · cases hc
    · cases hc
  | makeSlice t l c =>
    left
    simp only [compileOp] at hc
    split at hc
    · rename_i e hu
      simp only [Option.bind_eq_bind, Option.bind_eq_some_iff] at hc
      obtain ⟨sz, hsz, by', hby, zero, hz, hc⟩ := hc
      split at hc
      · rename_i hcond
        simp only [Bool.and_eq_true, decide_eq_true_eq, beq_iff_eq] at hcond
        simp only [Option.bind_eq_some_iff, Option.pure_def, Option.some.injEq] at hc
        obtain ⟨l', hl', c', hc', rfl⟩ := hc
        simp only [heavy] at hl
        have h1 := hρ _ _ hl'
        have h2 := hρ _ _ hc'
        split at hl
        · rename_i i j e1 e2
          rw [e1] at h1; rw [e2] at h2
          split at hl
          · rename_i hb
            obtain ⟨b1, rfl, b3⟩ := hb
            cases hl
            obtain ⟨⟨c0, c1⟩, c2⟩ := hcond
            obtain ⟨z, hz1, hz2, hz3⟩ := zeroT_ok (ι := ι) (w := w) hz
            have hzl : z.cells.toList.length = sz := by rw [hz2.length, c2]
            have hb3 : i ≤ 35184372088832 := by
              unfold maxBytes at b3
              have : i * 1 ≤ i * (by' : Int) := Int.mul_le_mul_of_nonneg_left (by omega) b1
              omega
            have hwr := wrap_id b1 hb3
            cases hi : P.info? e with
            | none => simp [szT, hi] at hsz
            | some inf =>
              have hbb : inf.bytes = by' := by simpa [bytesT, hi] using hby
              have hall : (zeros i.toNat zero).all AV.isCell = true := by
                unfold zeros
                rw [List.all_eq_true]
                intro y hy
                simp only [List.mem_flatten, List.mem_replicate] at hy
                obtain ⟨l, ⟨_, rfl⟩, hy⟩ := hy
                exact List.all_eq_true.mp hz3 y hy
              obtain ⟨r1, r2⟩ := R.alloc (e := e) (VL.flatten hz2 i.toNat) hall []
              rw [List.append_nil] at r1 r2
              have hzeros := zerosArr z.cells.toList i.toNat
              rw [hzl] at hzeros
              have harr : (Array.range (i.toNat * sz)).map (fun j => z.cells[j % z.cells.size]!) = (List.replicate i.toNat z.cells.toList).flatten.toArray := by
                apply Array.ext'
                rw [← hzeros]
              refine ⟨_, _, _, .slice (some ⟨w.heap.size, 0, none⟩) i.toNat i.toNat, ?_, .inl rfl, ?_, r1, r2⟩
              · have hex : execOp ρ ⟨dst, .makeSlice t l c, ty, pos, aft, gd⟩ = (do pure (.value (← Instr.makeSlice t (ρ l) (ρ c)))) := rfl
                have ht : ¬ (i < 0 ∨ (inf.bytes : Int) * i > 2 ^ 48) := by
                  rw [hbb, Int.mul_comm]
                  unfold maxBytes at b3
                  omega
                rw [hex]
                simp only [Instr.makeSlice, Sem.run_bind, run_underlying hu, Result.andThen_ok, V.int_inv h1, V.int_inv h2, asInt, asIntOf, Sem.run_pure, run_infoT hi, hwr]
                rw [if_neg (by simp; omega)]
                simp only [Sem.run_bind, run_askRoom, Result.andThen_ok, run_sizeT hsz]
                by_cases h0 : i.toNat * sz = 0
                · rw [if_pos h0]
                  have e0 : (List.replicate i.toNat z.cells.toList).flatten = [] := by
                    apply List.eq_nil_of_length_eq_zero
                    simp only [List.length_flatten, List.map_replicate, List.sum_replicate_nat, hzl]
                    exact h0
                  have e1 : ∀ q : Array Value, (Array.range (i.toNat * sz)).map (fun j => q[j % q.size]!) = #[] := by
                    intro q; rw [h0]; apply Array.ext'; simp
                  simp only [Sem.run_bind, Sem.run_pure, Result.andThen_ok, newRow, run_newObj, e1, e0, World.alloc_eq]
                · rw [if_neg h0]
                  simp only [Sem.run_bind, hz1, Sem.run_pure, Result.andThen_ok, newRow, run_newObj, harr, World.alloc_eq]
              · refine ⟨w.heap.size, 0, 0, i.toNat, e, _, by rw [← R.len]; exact emb_last _ _, rfl, Nat.le_refl _, .inl rfl, alloc_shape w _ e, ?_, fun q hq => by cases hq; rfl⟩
                simp [hzl]
          · cases hl
        · cases hl
      · cases hc
    · cases hc
  | call c =>
    simp only [compileOp, compileCall] at hc
    split at hc
    · rename_i fo hcal
      right
      simp only [Option.bind_eq_bind, Option.bind_eq_some_iff, Option.pure_def, Option.some.injEq] at hc
      obtain ⟨x, hx, xs, hxs, rfl⟩ := hc
      simp only [heavy] at hl
      have hv := hρ _ _ hx
      split at hl
      · rename_i k first cap e
        rw [e] at hv
        obtain ⟨us, vs, q1, q2, q3⟩ := hv
        obtain ⟨ws, e1, q4⟩ := mapX_list hρ hxs
        refine ⟨k, _, hl, us ++ ws ++ vs, (q2.append q4).append q3, fun fn hf hb hn => ?_⟩
        obtain ⟨bd, hbd⟩ := Option.isSome_iff_exists.mp hb
        simp only [execOp, resolve, hcal, q1, Deferred.ofValue, pure_bind, invoke, callFunc]
        simp [hf, hbd, hn, e1]
      · cases hl
    · -- len
      split at hc
      · split at hc
        · simp only [Option.map_eq_some_iff] at hc; obtain ⟨_, _, rfl⟩ := hc; cases hl
        · simp only [Option.map_eq_some_iff] at hc; obtain ⟨_, _, rfl⟩ := hc; cases hl
        · cases hc; cases hl
        · cases hc
      · cases hc
    · -- append
      rename_i hcal
      left
      have hex : execOp ρ ⟨dst, .call c, ty, pos, aft, gd⟩ = (do pure (.value (← Builtin.append_ c.argTypes ty (c.args.map ρ)))) := by
        simp only [execOp, resolve, hcal]; rfl
      split at hc
      · rename_i t u s x ht hu hs hx
        have a0 : (c.args.map ρ)[0]? = some (ρ s) := by simp [hs]
        have a1 : (c.args.map ρ)[1]? = some (ρ x) := by simp [hx]
        split at hc
        · rename_i e e' hut huu
          simp only [Option.bind_eq_bind, Option.bind_eq_some_iff] at hc
          obtain ⟨sz, hsz, by', hby, s', hs', x', hx', hc⟩ := hc
          split at hc
          · rename_i hcond
            simp only [Bool.and_eq_true, decide_eq_true_eq, beq_iff_eq, Option.map_eq_some_iff] at hcond
            obtain ⟨⟨c1, c2⟩, zs, c3, c4⟩ := hcond
            cases hc
            obtain ⟨w', ι', v', r1, r2, r3, r4⟩ := append_ok (P := P) (u := u) ty c.argTypes (c.args.map ρ) ht hu hut (.inl ⟨rfl, e', huu⟩) hsz hby c1 c2 c3 c4 a0 a1 R (hρ _ _ hs') (hρ _ _ hx') rfl rfl hl
            exact ⟨_, w', ι', v', by rw [hex]; simp [r1], .inl rfl, r2, r3, r4⟩
          · cases hc
        · rename_i e hut huu
          simp only [Option.bind_eq_bind, Option.bind_eq_some_iff] at hc
          obtain ⟨sz, hsz, by', hby, s', hs', x', hx', hc⟩ := hc
          split at hc
          · rename_i hcond
            simp only [Bool.and_eq_true, decide_eq_true_eq, beq_iff_eq, Option.map_eq_some_iff] at hcond
            obtain ⟨⟨c1, c2⟩, zs, c3, c4⟩ := hcond
            cases hc
            subst c1; subst c2
            obtain ⟨w', ι', v', r1, r2, r3, r4⟩ := append_ok (P := P) (u := u) ty c.argTypes (c.args.map ρ) ht hu hut (.inr ⟨huu, rfl⟩) hsz hby (by omega) (by omega) c3 c4 a0 a1 R (hρ _ _ hs') (hρ _ _ hx') rfl rfl hl
            exact ⟨_, w', ι', v', by rw [hex]; simp [r1], .inl rfl, r2, r3, r4⟩
          · cases hc
        · cases hc
      · cases hc
    · split at hc
      · split at hc
        · cases hc; cases hl
        · cases hc
      · cases hc
    · split at hc
      · split at hc
        · cases hc; cases hl
        · cases hc
      · cases hc
    · cases hc
  | _ => exact absurd hl (by rw [heavy_none (fun e => by have h := kinds_ok hc; rw [e] at h; simp [opKinds] at h)]; simp)

end
end Go.Proofs.Ytlcklonakjhoiaa.Slim

/- The slim machine: the evaluator of code and calls; what a step keeps of the old blocks. -/
namespace Go.Proofs.Ytlcklonakjhoiaa.Slim
open Go
set_option linter.unusedVariables false
set_option linter.unusedSimpArgs false

structure St where
  tm : List AV
  m : Mem

open Classical in
/-- what is told anew behind an operation -/
noncomputable def toldAnew (g : X → AV) (loc : List AV) (H : List Blk) : List (Nat × AOper) → Bool
  | [] => true
  | q :: qs => (decide (wanted g q.2.guard = some false) || decide (memop g H q.2.op = some ((loc[q.1]?).getD .undef))) && toldAnew g loc H qs

/-- a region that draws its order, told in an order of our choice -/
noncomputable def dops (call : FuncId → List AV → Mem → Option (AV × Mem)) (tm : List AV) : List DE → List AV → Mem → Option (List AV × Mem)
  | [], loc, m => some (loc, m)
  | e :: rest, loc, m =>
    match wanted (get tm loc) e.guard with
    | none => none
    | some false => if toldAnew (get tm (loc ++ [.tup []])) loc m.H e.again = true then dops call tm rest (loc ++ [.tup []]) m else none
    | some true =>
      match aop call (get tm loc) m e.op with
      | none => none
      | some (v, m') => if toldAnew (get tm (loc ++ [v])) loc m'.H e.again = true then dops call tm rest (loc ++ [v]) m' else none

def resultOf (tm : List AV) (H : List Blk) : AR → Option AV
  | .tmp s => some ((tm[s]?).getD .undef)
  | .cell s agg sz => loadAt H agg sz ((tm[s]?).getD .undef)

def resultList (tm : List AV) (H : List Blk) : List AR → Option (List AV)
  | [] => some []
  | r :: rs => match resultOf tm H r, resultList tm H rs with
    | some v, some vs => some (v :: vs)
    | _, _ => none

def tupled : List AV → AV
  | [v] => v
  | vs => .tup vs

def clean (lim : Nat) : Option Nat → Bool
  | none => true
  | some e => lim ≤ e

/-- the new blocks that a value names, in its order -/
def AV.roots (lim : Nat) : AV → List Nat
  | .ptr (some (b, _)) => if b < lim then [] else [b]
  | .slice (some (b, _)) _ _ _ => if b < lim then [] else [b]
  | .map (some b) => if b < lim then [] else [b]
  | .agg cs => go cs
  | .tup vs => go vs
  | .fn _ a b => go a ++ go b
  | _ => []
where go : List AV → List Nat
  | [] => []
  | v :: vs => v.roots lim ++ go vs

def AV.rename (f : Nat → Nat) : AV → AV
  | .ptr (some (b, o)) => .ptr (some (f b, o))
  | .slice (some (b, o)) sz n c => .slice (some (f b, o)) sz n c
  | .map (some b) => .map (some (f b))
  | .agg cs => .agg (go cs)
  | .tup vs => .tup (go vs)
  | .fn k a b => .fn k (go a) (go b)
  | v => v
where go : List AV → List AV
  | [] => []
  | v :: vs => v.rename f :: go vs

def dedup : List Nat → List Nat
  | [] => []
  | b :: bs => b :: (dedup bs).filter (· ≠ b)

def flatBlk (lim : Nat) : Option Blk → Bool
  | some (.cells cs _) => cs.all fun c => c.under lim
  | _ => false

def renum (lim : Nat) (rs : List Nat) (b : Nat) : Nat := if b < lim then b else lim + rs.idxOf b

/-- what is kept of a call's memory: 0 all; 1 nothing new; 2 the blocks that the result names, renumbered -/
def finish (mode lim : Nat) (esc0 : Option Nat) (v : AV) (m : Mem) : Option (AV × Mem) :=
  match mode with
  | 0 => some (v, { m with esc := joinEsc esc0 m.esc })
  | 1 => if v.under lim = true ∧ clean lim m.esc = true then some (v, { H := m.H.take lim, esc := esc0 }) else none
  | _ =>
    let rs := dedup (v.roots lim)
    if clean lim m.esc = true ∧ (rs.all fun b => flatBlk lim m.H[b]?) = true then
      some (v.rename (renum lim rs), { H := m.H.take lim ++ rs.map (fun b => (m.H[b]?).getD .dead), esc := esc0 })
    else none

def entry (F : AFun) (args : List AV) : List AV := F.keep.map fun t => (args[t]?).getD .undef

/-- a call, given what code comes to -/
def callWith (T : FuncId → Option AFun) (pr : FuncId → List AV → Mem → Option (AV × Mem)) (R : ACode → St → Option (Ex × St)) (f : FuncId) (args : List AV) (m : Mem) : Option (AV × Mem) :=
  match T f with
  | none => pr f args m
  | some F =>
    match R F.code ⟨entry F args, { m with esc := none }⟩ with
    | some (.exit _, _) => none
    | some (_, st) => match resultList st.tm st.m.H F.results with
      | some vs => finish F.mode m.H.length m.esc (tupled vs) st.m
      | none => none
    | none => none

def loopN (R : ACode → St → Option (Ex × St)) (body : ACode) : Nat → St → Option (Ex × St)
  | 0, _ => none
  | n + 1, st => match R body st with
    | some (.normal, st') => loopN R body n st'
    | r => r

/-- one level of code -/
noncomputable def astep (n : Nat) (call : FuncId → List AV → Mem → Option (AV × Mem)) (R : ACode → St → Option (Ex × St)) (c : ACode) (st : St) : Option (Ex × St) :=
  match c with
  | .skip => some (.normal, st)
  | .region ops outs => match aops call st.tm ops [] st.m with
    | none => none
    | some (loc, m) => some (.normal, ⟨setOuts st.tm loc outs, m⟩)
  | .draw es outs => match dops call st.tm es [] st.m with
    | none => none
    | some (loc, m) => some (.normal, ⟨setOuts st.tm loc outs, m⟩)
  | .seq a b => match R a st with
    | some (.normal, st') => R b st'
    | r => r
  | .cond x a b => match get st.tm [] x with
    | .bool true => R a st
    | .bool false => R b st
    | _ => none
  | .block id body => match R body st with
    | some (.exit k, st') => if k = id then some (.normal, st') else some (.exit k, st')
    | r => r
  | .loop body => loopN R body n st
  | .exit id => some (.exit id, st)
  | .ret => some (.ret, st)

noncomputable def arun (T : FuncId → Option AFun) (pr : FuncId → List AV → Mem → Option (AV × Mem)) : Nat → ACode → St → Option (Ex × St)
  | 0, _, _ => none
  | n + 1, c, st => astep n (callWith T pr (arun T pr n)) (arun T pr n) c st

/-! what a step keeps of the old blocks -/

def belowEsc (b : Nat) (e : Option Nat) : Prop := ∀ k, e = some k → b < k

/-- each cell of block b is an old one, or names no block behind b -/
def OldOr (m m' : Mem) (b : Nat) : Prop := ∀ cs' wr', m'.H[b]? = some (.cells cs' wr') → ∃ cs wr, m.H[b]? = some (.cells cs wr) ∧ ∀ c ∈ cs', c ∈ cs ∨ c.under (b + 1) = true

structure Grow (m m' : Mem) : Prop where
  size : m.H.length ≤ m'.H.length
  esc : ∀ b, belowEsc b m'.esc → belowEsc b m.esc
  old : ∀ b, b < m.H.length → belowEsc b m'.esc → OldOr m m' b
  ro : ∀ (b : Nat) cs, m'.H[b]? = some (.cells cs false) → m.H[b]? = some (.cells cs false)

theorem OldOr.refl (m : Mem) (b : Nat) : OldOr m m b := fun cs wr h => ⟨cs, wr, h, fun c hc => .inl hc⟩
theorem Grow.refl (m : Mem) : Grow m m := ⟨Nat.le_refl _, fun _ h => h, fun b _ _ => OldOr.refl m b, fun _ _ h => h⟩
theorem Grow.trans {a b c : Mem} (h : Grow a b) (k : Grow b c) : Grow a c where
  size := Nat.le_trans h.size k.size
  esc := fun x hx => h.esc x (k.esc x hx)
  old := fun x hx he cs wr hc => by
    obtain ⟨cs1, wr1, h1, h2⟩ := k.old x (Nat.lt_of_lt_of_le hx h.size) he cs wr hc
    obtain ⟨cs2, wr2, h3, h4⟩ := h.old x hx (k.esc x he) cs1 wr1 h1
    refine ⟨cs2, wr2, h3, fun y hy => ?_⟩
    rcases h2 y hy with h5 | h5
    · exact h4 y h5
    · exact .inr h5
  ro := fun x cs hx => h.ro x cs (k.ro x cs hx)

theorem Grow.newBlk (m : Mem) (cs : List AV) : Grow m (newBlk m cs) where
  size := by simp [Slim.newBlk]
  esc := fun _ h => h
  old := fun b hb _ => by
    intro cs' wr' h
    simp only [Slim.newBlk] at h
    rw [List.getElem?_append_left hb] at h
    exact ⟨cs', wr', h, fun c hc => .inl hc⟩
  ro := fun b cs' h => by
    simp only [Slim.newBlk] at h
    rcases Nat.lt_or_ge b m.H.length with hb | hb
    · rw [List.getElem?_append_left hb] at h; exact h
    · rw [List.getElem?_append_right hb] at h
      have h1 := (List.getElem?_eq_some_iff.mp h).1
      simp at h1
      rw [show b - m.H.length = 0 by omega] at h
      simp at h

theorem Grow.kill (m : Mem) (b : Nat) : Grow m { m with H := m.H.set b .dead } where
  size := by simp
  esc := fun _ h => h
  old := fun x hx _ => by
    intro cs' wr' h
    simp only [List.getElem?_set] at h
    split at h
    · split at h <;> cases h
    · exact ⟨cs', wr', h, fun c hc => .inl hc⟩
  ro := fun x cs h => by
    simp only [List.getElem?_set] at h
    split at h
    · split at h <;> cases h
    · exact h

theorem belowEsc_min {b x : Nat} {e : Option Nat} (h : belowEsc x (minEsc e b)) : belowEsc x e ∧ x < b := by
  cases e with
  | none => exact ⟨fun k hk => (by cases hk), h b rfl⟩
  | some e =>
    have := h (min e b) rfl
    exact ⟨fun k hk => (by cases hk; omega), by omega⟩

theorem mem_setRange {cs new : List AV} {o : Nat} {c : AV} (h : c ∈ setRange cs o new) : c ∈ cs ∨ c ∈ new := by
  unfold setRange at h
  simp only [List.mem_append] at h
  rcases h with (h | h) | h
  · exact .inl (List.mem_of_mem_take h)
  · exact .inr h
  · exact .inl (List.mem_of_mem_drop h)

theorem Grow.heavy {call : FuncId → List AV → Mem → Option (AV × Mem)} (hcall : ∀ f args m v m', call f args m = some (v, m') → Grow m m') {g : X → AV} {m m' : Mem} {ao : AO} {v : AV}
    (h : Slim.heavy call g m ao = some (v, m')) : Grow m m' := by
  unfold Slim.heavy at h
  split at h
  · split at h
    · rename_i b o new e1 e2
      split at h
      · rename_i cs hb
        split at h
        · cases h
          refine ⟨by simp, fun x hx => ?_, fun x hx he => ?_, fun x cs' hx => ?_⟩
          · split at hx
            · exact hx
            · exact (belowEsc_min hx).1
          · intro cs' wr' hc
            simp only [List.getElem?_set] at hc
            split at hc
            · rename_i hbx
              subst hbx
              split at hc
              · cases hc
                refine ⟨cs, true, hb, fun c hc => ?_⟩
                rcases mem_setRange hc with h1 | h1
                · exact .inl h1
                · right
                  simp only [] at he
                  split at he
                  · rename_i hall
                    exact List.all_eq_true.mp hall c h1
                  · have := (belowEsc_min he).2
                    omega
              · exact absurd hx (by assumption)
            · exact ⟨cs', wr', hc, fun c hc => .inl hc⟩
          · simp only [List.getElem?_set] at hx
            split at hx
            · split at hx <;> cases hx
            · exact hx
        · cases h
      · cases h
    · cases h
  · split at h
    · split at h
      · cases h; exact Grow.newBlk _ _
      · cases h
    · cases h
  · split at h
    · split at h
      · cases h; exact Grow.newBlk _ _
      · cases h
    · cases h
  · split at h
    · split at h
      · split at h
        · cases h; exact Grow.refl _
        · split at h
          · cases h; exact Grow.newBlk _ _
          · cases h
      · cases h
    · split at h
      · split at h
        · split at h
          · cases h; exact Grow.newBlk _ _
          · split at h
            · cases h
              exact (Grow.kill m _).trans (Grow.newBlk { m with H := m.H.set _ .dead } _)
            · cases h
        · cases h
      · cases h
    · cases h
  · split at h
    · exact hcall _ _ _ _ _ h
    · cases h
  · cases h

theorem Grow.aop {call : FuncId → List AV → Mem → Option (AV × Mem)} (hcall : ∀ f args m v m', call f args m = some (v, m') → Grow m m') {g : X → AV} {m m' : Mem} {ao : AO} {v : AV}
    (h : Slim.aop call g m ao = some (v, m')) : Grow m m' := by
  unfold Slim.aop at h
  split at h
  · cases h; exact Grow.refl _
  · split at h
    · cases h; exact Grow.refl _
    · split at h
      · cases h; exact Grow.newBlk _ _
      · exact Grow.heavy hcall h

theorem Grow.aops {call : FuncId → List AV → Mem → Option (AV × Mem)} (hcall : ∀ f args m v m', call f args m = some (v, m') → Grow m m') {tm : List AV} :
    ∀ {ops : List AOper} {loc loc' : List AV} {m m' : Mem}, Slim.aops call tm ops loc m = some (loc', m') → Grow m m'
  | [], loc, loc', m, m', h => by cases h; exact Grow.refl _
  | o :: rest, loc, loc', m, m', h => by
    unfold Slim.aops at h
    split at h
    · cases h
    · exact Grow.aops hcall h
    · split at h
      · cases h
      · rename_i h1
        exact (Grow.aop hcall h1).trans (Grow.aops hcall h)

theorem Grow.dops {call : FuncId → List AV → Mem → Option (AV × Mem)} (hcall : ∀ f args m v m', call f args m = some (v, m') → Grow m m') {tm : List AV} :
    ∀ {es : List DE} {loc loc' : List AV} {m m' : Mem}, Slim.dops call tm es loc m = some (loc', m') → Grow m m'
  | [], loc, loc', m, m', h => by cases h; exact Grow.refl _
  | e :: rest, loc, loc', m, m', h => by
    unfold Slim.dops at h
    split at h
    · cases h
    · split at h
      · exact Grow.dops hcall h
      · cases h
    · split at h
      · cases h
      · rename_i h1
        split at h
        · exact (Grow.aop hcall h1).trans (Grow.dops hcall h)
        · cases h

end Go.Proofs.Ytlcklonakjhoiaa.Slim

/- The slim machine: a region told in the text's order. -/
namespace Go.Proofs.Ytlcklonakjhoiaa.Slim
open Go
set_option linter.unusedVariables false
set_option linter.unusedSimpArgs false

section
variable {P : Program}

/-- what a call comes to in the model -/
def CallOk (P : Program) (call : FuncId → List AV → Mem → Option (AV × Mem)) : Prop :=
  ∀ f args m v m' (ι : Emb) (w : World) (vs : List Value), call f args m = some (v, m') → Rel ι m w → VL ι w args vs →
    (∃ fn, P.funcs[f]? = some fn ∧ fn.body.isSome = true ∧ fn.name ≠ "runtime.NumGoroutine") ∧
    Calls P f vs.toArray w fun e w' => ∃ (ι' : Emb) (v' : Value), e = .returned v' ∧ V ι' w' v v' ∧ Rel ι' m' w' ∧ Ext ι m w ι' m' w'

/-- what the slots hold within a region -/
structure Inv (ι : Emb) (w : World) (nt : Nat) (keep : List Nat) (tm : List AV) (env : List (Nat × Nat)) (loc : List AV) (a : Act) : Prop where
  made : ∀ t j, env.lookup t = some j → j < loc.length ∧ V ι w ((loc[j]?).getD .undef) (a.eval (.tmp t))
  kept : ∀ t s, env.lookup t = none → keep.idxOf? t = some s → V ι w ((tm[s]?).getD .undef) (a.eval (.tmp t))
  size : nt ≤ a.tmps.size
  defers : a.defers = []
  len : tm.length = keep.length

theorem Inv.mono {ι ι' : Emb} {w w' : World} {nt : Nat} {keep : List Nat} {tm : List AV} {env : List (Nat × Nat)} {loc : List AV} {a : Act} (h : Inv ι w nt keep tm env loc a) (hι : Emb.le ι ι') (hw : Shapes w w') :
    Inv ι' w' nt keep tm env loc a :=
  ⟨fun t j e => ⟨(h.made t j e).1, V.mono hι hw _ _ (h.made t j e).2⟩, fun t s e k => V.mono hι hw _ _ (h.kept t s e k), h.size, h.defers, h.len⟩

theorem Inv.ok {ι : Emb} {w : World} {nt : Nat} {keep : List Nat} {tm : List AV} {env : List (Nat × Nat)} {loc : List AV} {a : Act} (h : Inv ι w nt keep tm env loc a) : OkX ι w (cxOf keep env) (get tm loc) a.eval := by
  intro o x hx
  cases o with
  | tmp t =>
    simp only [cxOf] at hx
    split at hx
    · rename_i j hj
      cases hx
      exact (h.made t j hj).2
    · rename_i hn
      split at hx
      · rename_i s hs
        cases hx
        exact h.kept t s hn hs
      · cases hx; trivial
  | const v =>
    simp only [cxOf, Option.map_eq_some_iff] at hx
    obtain ⟨a', ha, rfl⟩ := hx
    exact V.ofConst ha
  | func f => cases hx; exact ⟨[], [], rfl, rfl, rfl⟩
  | global g => cases hx

theorem eval_put_self (a : Act) (d : Tmp) (v : Value) (h : d < a.tmps.size) : (a.put (some d) v).eval (.tmp d) = v := by
  simp [Act.eval, Act.put, h]

theorem eval_put_other (a : Act) (d t : Tmp) (v : Value) (h : d ≠ t) : (a.put (some d) v).eval (.tmp t) = a.eval (.tmp t) := by
  simp [Act.eval, Act.put, Array.getElem?_setIfInBounds_ne h]

theorem Inv.put {ι : Emb} {w : World} {nt : Nat} {keep : List Nat} {tm : List AV} {env : List (Nat × Nat)} {loc : List AV} {a : Act} (h : Inv ι w nt keep tm env loc a) {dst : Option Tmp} (hd : dstOk nt dst = true) {v : AV} {v' : Value}
    (hv : V ι w v v') : Inv ι w nt keep tm (envPut env dst loc.length) (loc ++ [v]) (a.put dst v') := by
  have old : ∀ t j, env.lookup t = some j → j < (loc ++ [v]).length ∧ ((loc ++ [v])[j]?).getD .undef = (loc[j]?).getD .undef := by
    intro t j e
    have := (h.made t j e).1
    exact ⟨by simp; omega, by rw [List.getElem?_append_left this]⟩
  cases dst with
  | none => exact ⟨fun t j e => ⟨(old t j e).1, by rw [(old t j e).2]; exact (h.made t j e).2⟩, h.kept, h.size, h.defers, h.len⟩
  | some d =>
    have hlt : d < a.tmps.size := by simp [dstOk] at hd; exact Nat.lt_of_lt_of_le hd h.size
    refine ⟨fun t j e => ?_, fun t s e k => ?_, ?_, ?_, h.len⟩
    · simp only [envPut, List.lookup_cons] at e
      by_cases htd : t = d
      · subst htd
        simp at e
        subst e
        refine ⟨by simp, ?_⟩
        rw [eval_put_self a t v' hlt]
        simpa using hv
      · have : (t == d) = false := by simpa using htd
        simp only [this] at e
        rw [eval_put_other a d t v' (fun e => htd e.symm), (old t j e).2]
        exact ⟨(old t j e).1, (h.made t j e).2⟩
    · simp only [envPut, List.lookup_cons] at e
      by_cases htd : t = d
      · subst htd
        simp at e
      · have : (t == d) = false := by simpa using htd
        simp only [this] at e
        rw [eval_put_other a d t v' (fun e => htd e.symm)]
        exact h.kept t s e k
    · simp [Act.put]; exact h.size
    · exact h.defers

theorem wanted_ok {ι : Emb} {w : World} {cx : Look} {g : X → AV} {a : Act} (hρ : OkX ι w cx g a.eval) {ops : Array Oper} {o : Oper} {gd : Option (X × Bool)} {b : Bool} (hg : guardX ops cx o.guard = some gd)
    (hw : Slim.wanted g gd = some b) : Region.wanted o (yielded ops a.tmps) = b := by
  unfold Region.wanted
  cases hgd : o.guard with
  | none =>
    rw [hgd] at hg
    cases hg
    simpa [Slim.wanted] using hw
  | some q =>
    obtain ⟨j, want⟩ := q
    rw [hgd] at hg
    simp only [guardX] at hg
    split at hg
    · rename_i d hd
      simp only [Option.map_eq_some_iff] at hg
      obtain ⟨x, hx, rfl⟩ := hg
      have hv := hρ _ _ hx
      simp only [Slim.wanted] at hw
      have hy : yielded ops a.tmps j = match a.tmps[d]? with | some (.bool c) => some c | _ => none := by
        unfold yielded
        rw [hd]
        rfl
      simp only [hy]
      have hev : a.eval (.tmp d) = (a.tmps[d]?).getD undef := by simp [Act.eval]
      rw [hev] at hv
      split at hw
      · rename_i c e
        rw [e] at hv
        cases hw
        cases hq : a.tmps[d]? with
        | none => rw [hq] at hv; exact absurd hv (by simp [V, undef])
        | some z =>
          rw [hq] at hv
          have hz : z = .bool c := hv
          subst hz
          simp
      · rename_i e
        rw [e] at hv
        cases hw
        obtain ⟨xs, h1, h2⟩ := hv
        cases h2
        cases hq : a.tmps[d]? with
        | none => simp
        | some z =>
          rw [hq] at h1
          have hz : z = .tuple #[] := h1
          subst hz
          simp
      · cases hw
    · cases hg

/-- one operation, and whatever follows -/
theorem step_ok {ι : Emb} {m m' : Mem} {w : World} {call : FuncId → List AV → Mem → Option (AV × Mem)} (hcall : CallOk P call) {cx : Look} {g : X → AV} {a : Act} (hρ : OkX ι w cx g a.eval) (R : Rel ι m w) (o : Oper)
    {next : Act → World → Prop} {Q : Exit → Act → World → Prop} {v : AV}
    (hdone : OpDone P ι m w a.eval o v m' ∨ ∃ k args, call k args m = some (v, m') ∧ OpCall P ι w a.eval o k args)
    (hnext : ∀ ι' w' v', V ι' w' v v' → Rel ι' m' w' → Ext ι m w ι' m' w' → next (a.put o.dst v') w') : o.wp P a w next Q := by
  unfold Oper.wp
  rcases hdone with ⟨n, w', ι', v', h1, h2, h3, h4, h5⟩ | ⟨k, args, hc, hoc⟩
  · rw [h1]
    rcases h2 with rfl | ⟨rfl, rfl⟩
    · exact hnext _ _ _ h3 h4 h5
    · exact hnext _ _ _ h3 h4 h5
  · obtain ⟨vs, hvs, hrun⟩ := hoc
    obtain ⟨⟨fn, q1, q2, q3⟩, hC⟩ := hcall k args m v m' ι w vs hc R hvs
    rw [hrun fn q1 q2 q3, Oper.upon_enter]
    refine hC.mono ?_
    rintro e w' ⟨ι', v', rfl, h1, h2, h3⟩
    exact hnext _ _ _ h1 h2 h3

/-- an operation, as the evaluator takes it -/
theorem aop_ok {ι : Emb} {m m' : Mem} {w : World} {call : FuncId → List AV → Mem → Option (AV × Mem)} {cx : Look} {g : X → AV} {ρ : Operand → Value} (hρ : OkX ι w cx g ρ) (R : Rel ι m w) (o : Oper) {ao : AO} {v : AV}
    (hc : compileOp P cx o.op = some ao) (h : aop call g m ao = some (v, m')) : OpDone P ι m w ρ o v m' ∨ ∃ k args, call k args m = some (v, m') ∧ OpCall P ι w ρ o k args := by
  unfold aop at h
  split at h
  · rename_i hl
    cases h
    exact .inl (OpDone.of_does R (light_ok hρ o hc hl))
  · split at h
    · rename_i hl
      cases h
      exact .inl (OpDone.of_does R (memop_ok hρ R o hc hl))
    · split at h
      · rename_i cs f hl
        cases h
        exact .inl (OpDone.of_makes R (making_ok hρ o hc hl))
      · exact heavy_ok hρ R o hc h

theorem aops_ok {call : FuncId → List AV → Mem → Option (AV × Mem)} (hcall : CallOk P call) {nt : Nat} {keep : List Nat} {all : Array Oper} {tm : List AV} {Q : Exit → Act → World → Prop} :
    ∀ (rest : List Oper) (i : Nat) (env env' : List (Nat × Nat)) (az : List AOper) (loc loc' : List AV) (m m' : Mem) (ι : Emb) (w : World) (a : Act),
      (∀ j o, rest[j]? = some o → all[i + j]? = some o) → compileOps P nt keep all rest i env = some (az, env') → aops call tm az loc m = some (loc', m') →
      Rel ι m w → Inv ι w nt keep tm env loc a → loc.length = i →
      (∀ ι' w' a', Rel ι' m' w' → Ext ι m w ι' m' w' → Inv ι' w' nt keep tm env' loc' a' → Q .normal a' w') →
      wpOps P all Q (List.range' i rest.length) a w
  | [], i, env, env', az, loc, loc', m, m', ι, w, a, hall, hc, he, R, I, hl, hQ => by
    cases hc; cases he
    exact hQ ι w a R (Ext.refl _ _ _) I
  | o :: rest, i, env, env', az, loc, loc', m, m', ι, w, a, hall, hc, he, R, I, hl, hQ => by
    unfold compileOps at hc
    split at hc
    · rename_i ao gd az' env'' hc1 hc2 hc3
      split at hc
      · rename_i hd
        cases hc
        have ho : all[i]? = some o := by simpa using hall 0 o rfl
        have hrest : ∀ j o', rest[j]? = some o' → all[i + 1 + j]? = some o' := by
          intro j o' hj
          have := hall (j + 1) o' (by simpa using hj)
          rwa [show i + 1 + j = i + (j + 1) by omega]
        rw [List.length_cons, List.range'_succ]
        simp only [wpOps, ho]
        unfold aops at he
        split at he
        · cases he
        · rename_i hw
          have hW := wanted_ok I.ok hc2 hw
          rw [if_neg (by rw [hW]; simp)]
          have I' := I.put hd (v := .tup []) (v' := undef) ⟨[], rfl, rfl⟩
          rw [hl] at I'
          exact aops_ok hcall rest (i + 1) _ env' az' _ loc' m m' ι w _ hrest hc3 he R I' (by simp [hl]) hQ
        · rename_i hw
          have hW := wanted_ok I.ok hc2 hw
          rw [if_pos hW]
          split at he
          · cases he
          · rename_i v m₁ hop
            left
            refine step_ok hcall I.ok R o (aop_ok I.ok R o hc1 hop) fun ι' w' v' hv R' E => ?_
            have I' := (I.mono E.le E.shapes).put hd hv
            rw [hl] at I'
            exact aops_ok hcall rest (i + 1) _ env' az' _ loc' m₁ m' ι' w' _ hrest hc3 he R' I' (by simp [hl]) (fun ι'' w'' a'' R'' E'' I'' => hQ ι'' w'' a'' R'' (E.trans E'') I'')
      · cases hc
    · cases hc

end
end Go.Proofs.Ytlcklonakjhoiaa.Slim

/- The slim machine: what is kept of a call's memory. -/
namespace Go.Proofs.Ytlcklonakjhoiaa.Slim
open Go
set_option linter.unusedVariables false
set_option linter.unusedSimpArgs false

mutual
theorem V.under {ι : Emb} {w : World} : ∀ (a : AV) (v : Value), V ι w a v → a.under ι.length = true
  | .undef, _, _ => rfl
  | .bool _, _, _ => rfl
  | .int _ _, _, _ => rfl
  | .str _, _, _ => rfl
  | .agg cs, v, ⟨xs, _, h, _⟩ => VL.under cs xs h
  | .tup vs, v, ⟨xs, _, h⟩ => VL.under vs xs h
  | .ptr none, _, _ => rfl
  | .ptr (some (b, o)), v, ⟨c, d, h, _⟩ => by simp [AV.under]; exact (List.getElem?_eq_some_iff.mp h).1
  | .slice none _ _ _, _, _ => rfl
  | .slice (some (b, o)) sz n cap, v, ⟨c, d, x, k, e, m, h1, _⟩ => by simp [AV.under]; exact (List.getElem?_eq_some_iff.mp h1).1
  | .fn f a b, v, ⟨xs, ys, _, h, k⟩ => by simp only [AV.under, Bool.and_eq_true]; exact ⟨VL.under a xs h, VL.under b ys k⟩
  | .nilfn, _, _ => rfl
  | .map none, _, _ => rfl
  | .map (some b), v, ⟨c, d, h, _⟩ => by simp [AV.under]; exact (List.getElem?_eq_some_iff.mp h).1
  | .nilif, _, _ => rfl
  | .someif, _, _ => rfl
theorem VL.under {ι : Emb} {w : World} : ∀ (a : List AV) (v : List Value), VL ι w a v → AV.under.go ι.length a = true
  | [], _, _ => rfl
  | c :: cs, xs, ⟨y, ys, _, h, k⟩ => by simp only [AV.under.go, Bool.and_eq_true]; exact ⟨V.under c y h, VL.under cs ys k⟩
end

mutual
/-- a value that names low blocks alone needs no more than their places; and its blocks may be numbered anew -/
theorem V.sub {ι ι' : Emb} {w : World} {n : Nat} (hi : ∀ (b : Nat) p, b < n → ι[b]? = some (some p) → ι'[b]? = some (some p)) : ∀ (a : AV) (v : Value), a.under n = true → V ι w a v → V ι' w a v
  | .undef, _, _, _ => trivial
  | .bool _, _, _, h => h
  | .int _ _, _, _, h => h
  | .str _, _, _, h => h
  | .agg cs, v, u, ⟨xs, e, h, c⟩ => ⟨xs, e, VL.sub hi cs xs u h, c⟩
  | .tup vs, v, u, ⟨xs, e, h⟩ => ⟨xs, e, VL.sub hi vs xs u h⟩
  | .ptr none, _, _, h => h
  | .ptr (some (b, o)), v, u, ⟨c, d, h, e⟩ => ⟨c, d, hi b _ (by simpa [AV.under] using u) h, e⟩
  | .slice none _ _ _, _, _, h => h
  | .slice (some (b, o)) sz k cap, v, u, ⟨c, d, x, q, e, m, h1, h2⟩ => ⟨c, d, x, q, e, m, hi b _ (by simpa [AV.under] using u) h1, h2⟩
  | .fn f a b, v, u, ⟨xs, ys, e, h, k⟩ => by
    simp only [AV.under, Bool.and_eq_true] at u
    exact ⟨xs, ys, e, VL.sub hi a xs u.1 h, VL.sub hi b ys u.2 k⟩
  | .nilfn, _, _, h => h
  | .map none, _, _, h => h
  | .map (some b), v, u, ⟨c, d, h, e⟩ => ⟨c, d, hi b _ (by simpa [AV.under] using u) h, e⟩
  | .nilif, _, _, h => h
  | .someif, _, _, h => h
theorem VL.sub {ι ι' : Emb} {w : World} {n : Nat} (hi : ∀ (b : Nat) p, b < n → ι[b]? = some (some p) → ι'[b]? = some (some p)) : ∀ (a : List AV) (v : List Value), AV.under.go n a = true → VL ι w a v → VL ι' w a v
  | [], _, _, h => h
  | c :: cs, xs, u, ⟨y, ys, e, h, k⟩ => by
    simp only [AV.under.go, Bool.and_eq_true] at u
    exact ⟨y, ys, e, V.sub hi c y u.1 h, VL.sub hi cs ys u.2 k⟩
end

mutual
theorem V.rename {ι ι' : Emb} {w : World} {lim : Nat} {f : Nat → Nat} {rs : List Nat} (h1 : ∀ (b : Nat) p, b < lim → ι[b]? = some (some p) → ι'[f b]? = some (some p))
    (h2 : ∀ (b : Nat) p, b ∈ rs → ι[b]? = some (some p) → ι'[f b]? = some (some p)) : ∀ (a : AV) (v : Value), (∀ b ∈ a.roots lim, b ∈ rs) → V ι w a v → V ι' w (a.rename f) v
  | .undef, _, _, _ => trivial
  | .bool _, _, _, h => h
  | .int _ _, _, _, h => h
  | .str _, _, _, h => h
  | .agg cs, v, u, ⟨xs, e, h, c⟩ => by
    refine ⟨xs, e, VL.rename h1 h2 cs xs u h, ?_⟩
    have : ∀ l : List AV, l.all AV.isCell = true → (AV.rename.go f l).all AV.isCell = true := by
      intro l
      induction l with
      | nil => intro h; rfl
      | cons x l ih =>
        intro h
        simp only [List.all_cons, Bool.and_eq_true] at h
        simp only [AV.rename.go, List.all_cons, Bool.and_eq_true]
        refine ⟨?_, ih h.2⟩
        cases x with
        | ptr p => cases p <;> rfl
        | slice p => cases p <;> rfl
        | map p => cases p <;> rfl
        | _ => first | rfl | exact h.1
    exact this cs c
  | .tup vs, v, u, ⟨xs, e, h⟩ => ⟨xs, e, VL.rename h1 h2 vs xs u h⟩
  | .ptr none, _, _, h => h
  | .ptr (some (b, o)), v, u, ⟨c, d, h, e⟩ => by
    by_cases hb : b < lim
    · exact ⟨c, d, h1 b _ hb h, e⟩
    · exact ⟨c, d, h2 b _ (u b (by simp [AV.roots, hb])) h, e⟩
  | .slice none _ _ _, _, _, h => h
  | .slice (some (b, o)) sz k cap, v, u, ⟨c, d, x, q, e, m, g1, g2⟩ => by
    by_cases hb : b < lim
    · exact ⟨c, d, x, q, e, m, h1 b _ hb g1, g2⟩
    · exact ⟨c, d, x, q, e, m, h2 b _ (u b (by simp [AV.roots, hb])) g1, g2⟩
  | .fn k a b, v, u, ⟨xs, ys, e, h, q⟩ =>
    ⟨xs, ys, e, VL.rename h1 h2 a xs (fun x hx => u x (by simp only [AV.roots, List.mem_append]; exact .inl hx)) h, VL.rename h1 h2 b ys (fun x hx => u x (by simp only [AV.roots, List.mem_append]; exact .inr hx)) q⟩
  | .nilfn, _, _, h => h
  | .map none, _, _, h => h
  | .map (some b), v, u, ⟨c, d, h, e⟩ => by
    by_cases hb : b < lim
    · exact ⟨c, d, h1 b _ hb h, e⟩
    · exact ⟨c, d, h2 b _ (u b (by simp [AV.roots, hb])) h, e⟩
  | .nilif, _, _, h => h
  | .someif, _, _, h => h
theorem VL.rename {ι ι' : Emb} {w : World} {lim : Nat} {f : Nat → Nat} {rs : List Nat} (h1 : ∀ (b : Nat) p, b < lim → ι[b]? = some (some p) → ι'[f b]? = some (some p))
    (h2 : ∀ (b : Nat) p, b ∈ rs → ι[b]? = some (some p) → ι'[f b]? = some (some p)) : ∀ (a : List AV) (v : List Value), (∀ b ∈ AV.roots.go lim a, b ∈ rs) → VL ι w a v → VL ι' w (AV.rename.go f a) v
  | [], _, _, h => h
  | c :: cs, xs, u, ⟨y, ys, e, h, k⟩ => by
    simp only [AV.roots.go, List.mem_append] at u
    exact ⟨y, ys, e, V.rename h1 h2 c y (fun b hb => u b (.inl hb)) h, VL.rename h1 h2 cs ys (fun b hb => u b (.inr hb)) k⟩
end

theorem go_under {n : Nat} : ∀ {cs : List AV}, AV.under.go n cs = true ↔ cs.all (fun c => c.under n) = true
  | [] => by simp [AV.under.go]
  | c :: cs => by simp only [AV.under.go, List.all_cons, Bool.and_eq_true]; rw [go_under (cs := cs)]

mutual
theorem AV.under_le {n k : Nat} (h : n ≤ k) : ∀ (a : AV), a.under n = true → a.under k = true
  | .undef, _ => rfl
  | .bool _, _ => rfl
  | .int _ _, _ => rfl
  | .str _, _ => rfl
  | .agg cs, u => AV.go_le h cs u
  | .tup vs, u => AV.go_le h vs u
  | .ptr none, _ => rfl
  | .ptr (some (b, o)), u => by simp [AV.under] at *; omega
  | .slice none _ _ _, _ => rfl
  | .slice (some (b, o)) sz q cap, u => by simp [AV.under] at *; omega
  | .fn f a b, u => by simp only [AV.under, Bool.and_eq_true] at *; exact ⟨AV.go_le h a u.1, AV.go_le h b u.2⟩
  | .nilfn, _ => rfl
  | .map none, _ => rfl
  | .map (some b), u => by simp [AV.under] at *; omega
  | .nilif, _ => rfl
  | .someif, _ => rfl
theorem AV.go_le {n k : Nat} (h : n ≤ k) : ∀ (a : List AV), AV.under.go n a = true → AV.under.go k a = true
  | [], _ => rfl
  | c :: cs, u => by simp only [AV.under.go, Bool.and_eq_true] at *; exact ⟨AV.under_le h c u.1, AV.go_le h cs u.2⟩
end

theorem mem_dedup : ∀ {l : List Nat} {b : Nat}, b ∈ dedup l ↔ b ∈ l
  | [], b => by simp [dedup]
  | x :: xs, b => by
    simp only [dedup, List.mem_cons, List.mem_filter, ne_eq, decide_eq_true_eq, decide_not, Bool.not_eq_true', decide_eq_false_iff_not]
    rw [mem_dedup (l := xs)]
    by_cases h : b = x
    · simp [h]
    · simp [h]

theorem nodup_dedup : ∀ (l : List Nat), (dedup l).Nodup
  | [] => by simp [dedup]
  | x :: xs => by
    simp only [dedup, List.nodup_cons, List.mem_filter]
    refine ⟨by simp, ?_⟩
    exact (nodup_dedup xs).filter _

theorem roots_ge {lim : Nat} : ∀ (a : AV), ∀ b ∈ a.roots lim, lim ≤ b := by
  intro a
  induction a using AV.rec (motive_2 := fun l => ∀ b ∈ AV.roots.go lim l, lim ≤ b) with
  | ptr p =>
    intro b hb
    cases p with
    | none => cases hb
    | some p => obtain ⟨c, o⟩ := p; simp only [AV.roots] at hb; split at hb <;> simp_all
  | slice p =>
    intro b hb
    cases p with
    | none => cases hb
    | some p => obtain ⟨c, o⟩ := p; simp only [AV.roots] at hb; split at hb <;> simp_all
  | map p =>
    intro b hb
    cases p with
    | none => cases hb
    | some p => simp only [AV.roots] at hb; split at hb <;> simp_all
  | agg cs ih => exact ih
  | tup cs ih => exact ih
  | fn f a b ih1 ih2 =>
    intro x hx
    simp only [AV.roots, List.mem_append] at hx
    rcases hx with h | h
    · exact ih1 x h
    · exact ih2 x h
  | nil => rename_i b hb; cases hb
  | cons c cs ih1 ih2 =>
    rename_i b hb
    simp only [AV.roots.go, List.mem_append] at hb
    rcases hb with h | h
    · exact ih1 b h
    · exact ih2 b h
  | _ => intro b hb; cases hb

theorem clean_below {lim : Nat} {e : Option Nat} (h : clean lim e = true) {b : Nat} (hb : b < lim) : belowEsc b e := by
  intro k hk
  subst hk
  simp [clean] at h
  omega

theorem nodup_inj : ∀ {l : List Nat}, l.Nodup → ∀ {i j : Nat} (hi : i < l.length) (hj : j < l.length), l[i] = l[j] → i = j
  | [], _, i, j, hi, _, _ => by simp at hi
  | x :: xs, h, 0, 0, _, _, _ => rfl
  | x :: xs, h, 0, j + 1, _, hj, e => by
    simp at e
    exact absurd (e ▸ List.getElem_mem _) (List.nodup_cons.mp h).1
  | x :: xs, h, i + 1, 0, hi, _, e => by
    simp at e
    exact absurd (e ▸ List.getElem_mem _) (List.nodup_cons.mp h).1
  | x :: xs, h, i + 1, j + 1, hi, hj, e => by
    simp at e
    rw [nodup_inj (List.nodup_cons.mp h).2 (by simpa using hi) (by simpa using hj) e]

/-- cutting the memory back to what was there, with blocks of our choice behind it -/
theorem Rel.cut {ι ι₁ : Emb} {m m₁ : Mem} {w w₁ : World} (R : Rel ι m w) (R₁ : Rel ι₁ m₁ w₁) (E : Ext ι m w ι₁ m₁ w₁) (G : Grow { m with esc := none } m₁) (hcl : clean m.H.length m₁.esc = true)
    (rs : List Nat) (hrs : ∀ b ∈ rs, m.H.length ≤ b) (hnd : rs.Nodup) (hfl : ∀ b ∈ rs, flatBlk m.H.length m₁.H[b]? = true) (esc : Option Nat) :
    Rel (ι₁.take m.H.length ++ rs.map fun b => (ι₁[b]?).getD none) { H := m₁.H.take m.H.length ++ rs.map (fun b => (m₁.H[b]?).getD .dead), esc } w₁ ∧
    Ext ι m w (ι₁.take m.H.length ++ rs.map fun b => (ι₁[b]?).getD none) { H := m₁.H.take m.H.length ++ rs.map (fun b => (m₁.H[b]?).getD .dead), esc } w₁ := by
  have hsz : m.H.length ≤ m₁.H.length := G.size
  have hl1 : ι₁.length = m₁.H.length := R₁.len
  have htl : (ι₁.take m.H.length).length = m.H.length := by simp; omega
  have htH : (m₁.H.take m.H.length).length = m.H.length := by simp; omega
  -- the new numbers
  have keyι : ∀ b : Nat, (ι₁.take m.H.length ++ rs.map fun b => (ι₁[b]?).getD none)[b]? = if b < m.H.length then ι₁[b]? else (rs[b - m.H.length]?).map fun b => (ι₁[b]?).getD none := by
    intro b
    by_cases h : b < m.H.length
    · rw [if_pos h, List.getElem?_append_left (by omega), List.getElem?_take, if_pos h]
    · rw [if_neg h, List.getElem?_append_right (by omega), htl, List.getElem?_map]
  have keyH : ∀ b : Nat, (m₁.H.take m.H.length ++ rs.map fun b => (m₁.H[b]?).getD .dead)[b]? = if b < m.H.length then m₁.H[b]? else (rs[b - m.H.length]?).map fun b => (m₁.H[b]?).getD .dead := by
    intro b
    by_cases h : b < m.H.length
    · rw [if_pos h, List.getElem?_append_left (by omega), List.getElem?_take, if_pos h]
    · rw [if_neg h, List.getElem?_append_right (by omega), htH, List.getElem?_map]
  -- where a block comes from
  have src : ∀ (b : Nat) cs wr, (m₁.H.take m.H.length ++ rs.map fun b => (m₁.H[b]?).getD .dead)[b]? = some (Blk.cells cs wr) → ∃ b', (b' = b ∧ b < m.H.length ∨ m.H.length ≤ b ∧ rs[b - m.H.length]? = some b') ∧ m₁.H[b']? = some (.cells cs wr) ∧
      (ι₁.take m.H.length ++ rs.map fun b => (ι₁[b]?).getD none)[b]? = some ((ι₁[b']?).getD none) ∧ cs.all (fun c => c.under m.H.length) = true := by
    intro b cs wr h
    rw [keyH] at h
    split at h
    · rename_i hlt
      refine ⟨b, .inl ⟨rfl, hlt⟩, h, ?_, ?_⟩
      · rw [keyι, if_pos hlt]
        have : b < ι₁.length := by omega
        rw [List.getElem?_eq_getElem this]; rfl
      · rw [List.all_eq_true]
        intro c hc
        obtain ⟨cs0, wr0, h0, h1⟩ := G.old b hlt (clean_below hcl hlt) cs wr h
        rcases h1 c hc with h2 | h2
        · obtain ⟨c', d', _, hC⟩ := R.at' b cs0 wr0 h0
          obtain ⟨vs, hv, _⟩ := hC.vals
          obtain ⟨j, hj⟩ := List.getElem?_of_mem h2
          obtain ⟨y, _, hy⟩ := hv.get j c hj
          have := V.under c y hy
          rwa [R.len] at this
        · exact AV.under_le (by omega) c h2
    · rename_i hge
      simp only [Option.map_eq_some_iff] at h
      obtain ⟨b', hb', he⟩ := h
      have hm := List.mem_of_getElem? hb'
      have hf := hfl b' hm
      cases hq : m₁.H[b']? with
      | none => rw [hq] at he; cases he
      | some bk =>
        rw [hq] at he hf
        simp at he
        subst he
        refine ⟨b', .inr ⟨by omega, hb'⟩, hq, ?_, hf⟩
        rw [keyι, if_neg hge, hb']
        rfl
  have hle : ∀ (b : Nat) p, b < m.H.length → ι₁[b]? = some (some p) → (ι₁.take m.H.length ++ rs.map fun b => (ι₁[b]?).getD none)[b]? = some (some p) := by
    intro b p hb h
    rw [keyι, if_pos hb]; exact h
  refine ⟨⟨?_, ?_, ?_, ?_⟩, ⟨?_, ?_, E.size, E.shapes, ?_, E.frame, E.os, E.tape, E.output⟩⟩
  · simp; omega
  · intro b c d h
    rw [keyι] at h
    split at h
    · exact R₁.low b c d h
    · simp only [Option.map_eq_some_iff] at h
      obtain ⟨b', _, h⟩ := h
      cases hq : ι₁[b']? with
      | none => rw [hq] at h; cases h
      | some q => rw [hq] at h; simp at h; subst h; exact R₁.low b' c d hq
  · intro b cs wr h
    obtain ⟨b', h1, h2, h3, h4⟩ := src b cs wr h
    obtain ⟨c, d, h5, hC⟩ := R₁.at' b' cs wr h2
    rw [h5] at h3
    refine ⟨c, d, h3, ?_⟩
    obtain ⟨⟨vs, v1, v2⟩, v3, v4⟩ := hC
    exact ⟨⟨vs, VL.sub hle cs vs (go_under.mpr h4) v1, v2⟩, v3, v4⟩
  · intro b1 b2 cs1 cs2 wr c1 d1 c2 d2 hne h1 h2 h3 h4
    obtain ⟨e1, p1, p2, p3, _⟩ := src b1 cs1 true h1
    obtain ⟨e2, q1, q2, q3, _⟩ := src b2 cs2 wr h2
    have hee : e1 ≠ e2 := by
      intro e
      subst e
      rcases p1 with ⟨rfl, l1⟩ | ⟨l1, r1⟩ <;> rcases q1 with ⟨h, l2⟩ | ⟨l2, r2⟩
      · exact hne h
      · have := hrs _ (List.mem_of_getElem? r2); omega
      · have := hrs _ (List.mem_of_getElem? r1); omega
      · have h5 := (List.getElem?_eq_some_iff.mp r1)
        have h6 := (List.getElem?_eq_some_iff.mp r2)
        obtain ⟨i1, e1'⟩ := h5
        obtain ⟨i2, e2'⟩ := h6
        have := nodup_inj hnd i1 i2 (by rw [e1', e2'])
        omega
    rw [h3] at p3
    rw [h4] at q3
    have g1 : ι₁[e1]? = some (some (c1, d1)) := by
      cases hq : ι₁[e1]? with
      | none => rw [hq] at p3; cases p3
      | some x => rw [hq] at p3; simpa using p3.symm
    have g2 : ι₁[e2]? = some (some (c2, d2)) := by
      cases hq : ι₁[e2]? with
      | none => rw [hq] at q3; cases q3
      | some x => rw [hq] at q3; simpa using q3.symm
    exact R₁.inj e1 e2 cs1 cs2 wr c1 d1 c2 d2 hee p2 q2 g1 g2
  · intro b p h
    have hb : b < m.H.length := by rw [← R.len]; exact (List.getElem?_eq_some_iff.mp h).1
    exact hle b p hb (E.le b p h)
  · simp; rw [R.len]; omega
  · rintro r ⟨b, cs, d, h1, h2⟩
    obtain ⟨b', _, p2, p3, _⟩ := src b cs true h1
    apply E.img
    refine ⟨b', cs, d, p2, ?_⟩
    rw [h2] at p3
    cases hq : ι₁[b']? with
    | none => rw [hq] at p3; cases p3
    | some x => rw [hq] at p3; simpa using p3.symm

theorem idxOf_get : ∀ (rs : List Nat) (b : Nat), b ∈ rs → rs[rs.idxOf b]? = some b := by
  intro rs b h
  have := List.idxOf_lt_length_of_mem h
  rw [List.getElem?_eq_getElem this]
  simp

theorem finish_ok {ι ι₁ : Emb} {m m₁ : Mem} {w w₁ : World} (R : Rel ι m w) (R₁ : Rel ι₁ m₁ w₁) (E : Ext ι m w ι₁ m₁ w₁) (G : Grow { m with esc := none } m₁) {mode : Nat} {v v₂ : AV} {m₂ : Mem} {v' : Value}
    (hv : V ι₁ w₁ v v') (h : finish mode m.H.length m.esc v m₁ = some (v₂, m₂)) : ∃ ι₂, V ι₂ w₁ v₂ v' ∧ Rel ι₂ m₂ w₁ ∧ Ext ι m w ι₂ m₂ w₁ := by
  unfold finish at h
  split at h
  · cases h
    exact ⟨ι₁, hv, ⟨R₁.len, R₁.low, R₁.at', R₁.inj⟩, ⟨E.le, E.grow, E.size, E.shapes, E.img, E.frame, E.os, E.tape, E.output⟩⟩
  · split at h
    · rename_i hc
      cases h
      obtain ⟨c1, c2⟩ := R.cut R₁ E G hc.2 [] (fun b hb => by cases hb) List.nodup_nil (fun b hb => by cases hb) m.esc
      simp only [List.map_nil, List.append_nil] at c1 c2
      refine ⟨_, V.sub (fun b p hb h => ?_) v v' hc.1 hv, c1, c2⟩
      rw [List.getElem?_take, if_pos hb]; exact h
    · cases h
  · simp only [] at h
    split at h
    · rename_i hc
      cases h
      have hrs : ∀ b ∈ dedup (v.roots m.H.length), m.H.length ≤ b := fun b hb => roots_ge v b (mem_dedup.mp hb)
      obtain ⟨c1, c2⟩ := R.cut R₁ E G hc.1 (dedup (v.roots m.H.length)) hrs (nodup_dedup _) (fun b hb => List.all_eq_true.mp hc.2 b hb) m.esc
      have hsz : m.H.length ≤ m₁.H.length := G.size
      have hl1 : ι₁.length = m₁.H.length := R₁.len
      refine ⟨_, V.rename (lim := m.H.length) (rs := dedup (v.roots m.H.length)) (fun b p hb h => ?_) (fun b p hb h => ?_) v v' (fun b hb => mem_dedup.mpr hb) hv, c1, c2⟩
      · rw [renum, if_pos hb, List.getElem?_append_left (by simp; omega), List.getElem?_take, if_pos hb]; exact h
      · have hge := hrs b hb
        rw [renum, if_neg (by omega), List.getElem?_append_right (by simp; omega)]
        have : (ι₁.take m.H.length).length = m.H.length := by simp; omega
        rw [this, Nat.add_sub_cancel_left, List.getElem?_map, idxOf_get _ _ hb]
        simp [h]
    · cases h

theorem Grow.finish {m m₁ m₂ : Mem} (G : Grow { m with esc := none } m₁) {mode : Nat} {v v₂ : AV} (h : Slim.finish mode m.H.length m.esc v m₁ = some (v₂, m₂)) : Grow m m₂ := by
  have hsz : m.H.length ≤ m₁.H.length := G.size
  have cut : ∀ (more : List Blk), (∀ (b : Nat) cs, more[b]? ≠ some (.cells cs false)) → clean m.H.length m₁.esc = true → Grow m { H := m₁.H.take m.H.length ++ more, esc := m.esc } := by
    intro more hmore hcl
    refine ⟨by simp; omega, fun b hb => hb, fun b hb _ => ?_, fun b cs hb => ?_⟩
    rotate_left
    · simp only [] at hb
      rcases Nat.lt_or_ge b m.H.length with h1 | h1
      · rw [List.getElem?_append_left (by simp; omega), List.getElem?_take, if_pos h1] at hb
        exact G.ro b cs hb
      · rw [List.getElem?_append_right (by simp; omega)] at hb
        exact absurd hb (hmore _ _)
    intro cs' wr' hc
    simp only [] at hc
    rw [List.getElem?_append_left (by simp; omega), List.getElem?_take, if_pos hb] at hc
    exact G.old b hb (clean_below hcl hb) cs' wr' hc
  unfold Slim.finish at h
  split at h
  · cases h
    refine ⟨hsz, fun b hb => ?_, fun b hb he => ?_, fun b cs hb => G.ro b cs hb⟩
    · cases h2 : m₁.esc with
      | none => rw [h2] at hb; exact hb
      | some e => rw [h2] at hb; exact (belowEsc_min hb).1
    · have : belowEsc b m₁.esc := by
        cases h2 : m₁.esc with
        | none => intro k hk; cases hk
        | some e =>
          simp only [h2] at he
          intro k hk
          cases hk
          exact (belowEsc_min he).2
      exact G.old b hb this
  · split at h
    · rename_i hc
      cases h
      have := cut [] (fun b cs h => by simp at h) hc.2
      rwa [List.append_nil] at this
    · cases h
  · simp only [] at h
    split at h
    · rename_i hc
      cases h
      refine cut _ (fun b cs hb => ?_) hc.1
      rw [List.getElem?_map, Option.map_eq_some_iff] at hb
      obtain ⟨x, hx, h2⟩ := hb
      have hge := roots_ge v x (mem_dedup.mp (List.mem_of_getElem? hx))
      cases h3 : m₁.H[x]? with
      | none => rw [h3] at h2; cases h2
      | some B =>
        rw [h3] at h2
        have h4 := G.ro x cs (by rw [h3]; exact congrArg some h2)
        have := (List.getElem?_eq_some_iff.mp h4).1
        simp only [] at this
        omega
    · cases h

end Go.Proofs.Ytlcklonakjhoiaa.Slim

/- The slim machine: a region that draws its order. -/
namespace Go.Proofs.Ytlcklonakjhoiaa.Slim
open Go
set_option linter.unusedVariables false
set_option linter.unusedSimpArgs false

/-- for the regions that draw: the order in which they are told -/
abbrev Plans := List (Nat × List Nat)

/-- an operation of a region that draws: its number; whom it waits for; what it writes and reads -/
structure DItem where
  idx : Nat
  anc : List Nat
  dst : Option Tmp
  reads : List Tmp
  ao : AO
  gd : Option (X × Bool)
  again : List (Nat × AOper)
  late : Bool

def isAlloc : AO → Bool
  | .alloc _ => true
  | _ => false

def findD (t : Tmp) : List DItem → Nat → Option (Nat × DItem)
  | [], _ => none
  | it :: rest, p => if it.dst = some t then some (p, it) else findD t rest (p + 1)

def cxD (keep : List Nat) (dn : List DItem) (A : List Nat) (reads : List Tmp) : Look
  | .tmp t => if reads.contains t then
      match findD t dn 0 with
      | some (p, it) => if A.contains it.idx then some (.l p) else none
      | none => match keep.idxOf? t with
        | some s => some (.t s)
        | none => some (.c .undef)
    else none
  | .const v => (ofConst v).map .c
  | .func f => some (.c (.fn f [] []))
  | .global _ => none

def waitsFor (o : Oper) : List Nat := (o.after.toList.filter (Region.binds .any ·)).map (·.on)

def ancOf (dn : List DItem) : List Nat → Option (List Nat)
  | [] => some []
  | i :: is => match dn.find? (·.idx == i), ancOf dn is with
    | some it, some r => some ((i :: it.anc).filter (fun x => !r.contains x) ++ r)
    | _, _ => none

def readsOf (ops : Array Oper) (o : Oper) : List Tmp :=
  (match o.guard with
    | some (j, _) => ((ops[j]?).bind (·.dst)).toList
    | none => []) ++ o.op.operands.toList.filterMap fun | .tmp t => some t | _ => none

/-- the readers among those told that do not come before all that wait as this one does -/
def agains (A : List Nat) : List DItem → Nat → List (Nat × AOper)
  | [], _ => []
  | it :: rest, p => if it.ao.kind = 1 ∧ !A.contains it.idx then (p, ⟨it.ao, it.gd⟩) :: agains A rest (p + 1) else agains A rest (p + 1)

/-- all that make or write are waited for -/
def chained (A : List Nat) (dn : List DItem) : Bool := dn.all fun it => decide (it.ao.kind < 2) || A.contains it.idx

def dstFree (A : List Nat) (dn : List DItem) : Option Tmp → Bool
  | none => true
  | some d => dn.all fun it => it.dst != some d && (!it.reads.contains d || A.contains it.idx)

/-- an operation that waits for a late one waits for all that make or write before it -/
def lateFree (A : List Nat) (dn : List DItem) : Bool := chained A dn || dn.all fun it => !it.late || !A.contains it.idx

def compileDraw (P : Program) (nt : Nat) (keep : List Nat) (ops : Array Oper) : List Nat → List DItem → Option (List DItem)
  | [], dn => some dn
  | j :: js, dn =>
    match ops[j]? with
    | none => none
    | some o => match ancOf dn (waitsFor o) with
      | none => none
      | some A => match compileOp P (cxD keep dn A (readsOf ops o)) o.op, guardX ops (cxD keep dn A (readsOf ops o)) o.guard with
        | some ao, some gd =>
          if !dn.any (·.idx == j) && dstOk nt o.dst && dstFree A dn o.dst && (ao.kind == 0 || chained A dn || (isAlloc ao && gd.isNone)) && lateFree A dn then
            compileDraw P nt keep ops js (dn ++ [⟨j, A, o.dst, readsOf ops o, ao, gd, if 2 ≤ ao.kind then agains A dn 0 else [], isAlloc ao && gd.isNone && !chained A dn⟩])
          else none
        | _, _ => none

def envD : List DItem → Nat → List (Nat × Nat)
  | [], _ => []
  | it :: rest, p => match it.dst with
    | some d => (d, p) :: envD rest (p + 1)
    | none => envD rest (p + 1)


section
variable {P : Program}

structure ItemOk (P : Program) (nt : Nat) (keep : List Nat) (ops : Array Oper) (dn : List DItem) (it : DItem) (o : Oper) : Prop where
  op : ops[it.idx]? = some o
  guard : guardX ops (cxD keep dn it.anc it.reads) o.guard = some it.gd
  comp : compileOp P (cxD keep dn it.anc it.reads) o.op = some it.ao
  dst : it.dst = o.dst
  again : it.again = if 2 ≤ it.ao.kind then agains it.anc dn 0 else []
  anc : ancOf dn (waitsFor o) = some it.anc
  new : ∀ x ∈ dn, x.idx ≠ it.idx
  dok : dstOk nt o.dst = true
  free : dstFree it.anc dn it.dst = true
  chain : it.ao.kind = 0 ∨ chained it.anc dn = true ∨ it.late = true
  late : it.late = true → isAlloc it.ao = true ∧ it.gd = none
  lfree : lateFree it.anc dn = true

theorem compileDraw_ok {nt : Nat} {keep : List Nat} {ops : Array Oper} : ∀ (js : List Nat) (dn items : List DItem), compileDraw P nt keep ops js dn = some items →
    (∀ p it, dn[p]? = some it → ∃ o, ItemOk P nt keep ops (dn.take p) it o) → ∀ p it, items[p]? = some it → ∃ o, ItemOk P nt keep ops (items.take p) it o
  | [], dn, items, h, hd => by cases h; exact hd
  | j :: js, dn, items, h, hd => by
    unfold compileDraw at h
    split at h
    · cases h
    · rename_i o ho
      split at h
      · cases h
      · rename_i A hA
        split at h
        · rename_i ao gd hao hgd
          split at h
          · rename_i hok
            refine compileDraw_ok js _ items h ?_
            intro p it hp
            rw [Bool.and_eq_true, Bool.and_eq_true, Bool.and_eq_true, Bool.and_eq_true] at hok
            obtain ⟨⟨⟨⟨h2, h3⟩, h4⟩, h5⟩, h6⟩ := hok
            have h2 : dn.any (·.idx == j) = false := by simpa using h2
            by_cases hlt : p < dn.length
            · rw [List.getElem?_append_left hlt] at hp
              rw [List.take_append_of_le_length (Nat.le_of_lt hlt)]
              exact hd p it hp
            · have hpe : p = dn.length := by
                have := (List.getElem?_eq_some_iff.mp hp).1
                simp at this; omega
              subst hpe
              simp at hp
              subst hp
              refine ⟨o, ⟨ho, by simpa using hgd, by simpa using hao, rfl, ?_, ?_, ?_, h3, ?_, ?_, ?_, ?_⟩⟩
              · simp
              · simpa using hA
              · intro x hx
                simp only [List.take_left', List.take_append_of_le_length (Nat.le_refl _), List.take_length] at hx
                intro e
                have := List.any_eq_false.mp h2 x hx
                simp [e] at this
              · simpa using h4
              · simp only [List.take_left', List.take_append_of_le_length (Nat.le_refl _), List.take_length]
                rw [Bool.or_eq_true, Bool.or_eq_true] at h5
                rcases h5 with (h5 | h5) | h5
                · left; simpa using h5
                · right; left; exact h5
                · cases hch : chained A dn with
                  | true => right; left; rfl
                  | false => right; right; rw [h5]; rfl
              · simp only []
                intro hl
                rw [Bool.and_eq_true, Bool.and_eq_true] at hl
                exact ⟨hl.1.1, by simpa using hl.1.2⟩
              · simpa using h6
          · cases h
        · cases h

theorem ancOf_mem {dn : List DItem} : ∀ {is A : List Nat}, ancOf dn is = some A → ∀ i ∈ is, i ∈ A
  | [], A, h => fun x hx => by cases hx
  | i :: is, A, h => by
    unfold ancOf at h
    split at h
    · rename_i it r h1 h2
      cases h
      intro x hx
      simp only [List.mem_append, List.mem_filter, List.mem_cons]
      by_cases hr : x ∈ r
      · exact .inr hr
      · rcases List.mem_cons.mp hx with rfl | hx
        · left; exact ⟨.inl rfl, by simpa using hr⟩
        · exact .inr (ancOf_mem h2 x hx)
    · cases h

theorem ancOf_in {dn : List DItem} : ∀ {is A : List Nat}, ancOf dn is = some A → ∀ i ∈ is, ∃ it ∈ dn, it.idx = i
  | [], A, h => fun x hx => by cases hx
  | i :: is, A, h => by
    unfold ancOf at h
    split at h
    · rename_i it r h1 h2
      intro x hx
      rcases List.mem_cons.mp hx with rfl | hx
      · have := List.find?_some h1
        simp at this
        exact ⟨it, List.mem_of_find?_eq_some h1, this⟩
      · exact ancOf_in h2 x hx
    · cases h

theorem ancOf_inv {dn : List DItem} : ∀ {is A : List Nat}, ancOf dn is = some A → ∀ x ∈ A, x ∈ is ∨ ∃ it ∈ dn, it.idx ∈ is ∧ x ∈ it.anc
  | [], A, h => by cases h; intro x hx; cases hx
  | i :: is, A, h => by
    unfold ancOf at h
    split at h
    · rename_i it r h1 h2
      cases h
      intro x hx
      simp only [List.mem_append, List.mem_filter, List.mem_cons] at hx
      rcases hx with ⟨hx | hx, _⟩ | hx
      · left; simp [hx]
      · right
        refine ⟨it, List.mem_of_find?_eq_some h1, ?_, hx⟩
        have := List.find?_some h1
        simp at this
        simp [this]
      · rcases ancOf_inv h2 x hx with h3 | ⟨it', h3, h4, h5⟩
        · left; simp [h3]
        · right; exact ⟨it', h3, by simp [h4], h5⟩
    · cases h

theorem toldAnew_mem {g : X → AV} {loc : List AV} {H : List Blk} : ∀ {qs : List (Nat × AOper)}, toldAnew g loc H qs = true → ∀ q ∈ qs, Slim.wanted g q.2.guard = some false ∨ memop g H q.2.op = some ((loc[q.1]?).getD .undef)
  | [], h, q, hq => by cases hq
  | q0 :: qs, h, q, hq => by
    unfold toldAnew at h
    simp only [Bool.and_eq_true, Bool.or_eq_true, decide_eq_true_eq] at h
    rcases List.mem_cons.mp hq with rfl | hq
    · exact h.1
    · exact toldAnew_mem h.2 q hq

/-- an operation told at its place -/
def Told (call : FuncId → List AV → Mem → Option (AV × Mem)) (tm L : List AV) (mm : Nat → Mem) (p : Nat) (ao : AO) (gd : Option (X × Bool)) (again : List (Nat × AOper)) : Prop :=
  ∃ v, L[p]? = some v ∧
    ((Slim.wanted (get tm (L.take p)) gd = some true ∧ aop call (get tm (L.take p)) (mm p) ao = some (v, mm (p + 1))) ∨
     (Slim.wanted (get tm (L.take p)) gd = some false ∧ v = .tup [] ∧ mm (p + 1) = mm p)) ∧
    ∀ q ∈ again, Slim.wanted (get tm (L.take (p + 1))) q.2.guard = some false ∨ memop (get tm (L.take (p + 1))) (mm (p + 1)).H q.2.op = some (((L.take p)[q.1]?).getD .undef)

theorem dops_trace {call : FuncId → List AV → Mem → Option (AV × Mem)} {tm : List AV} : ∀ (es : List DE) (loc loc' : List AV) (m m' : Mem), dops call tm es loc m = some (loc', m') →
    ∃ mm : Nat → Mem, mm loc.length = m ∧ mm (loc.length + es.length) = m' ∧ loc'.length = loc.length + es.length ∧ loc'.take loc.length = loc ∧
      ∀ p e, es[p]? = some e → Told call tm loc' mm (loc.length + p) e.op e.guard e.again
  | [], loc, loc', m, m', h => by
    cases h
    exact ⟨fun _ => m, rfl, rfl, by simp, by simp, fun p e he => by simp at he⟩
  | e :: rest, loc, loc', m, m', h => by
    have key : ∀ (v : AV) (m1 : Mem), dops call tm rest (loc ++ [v]) m1 = some (loc', m') → toldAnew (get tm (loc ++ [v])) loc m1.H e.again = true →
        ((Slim.wanted (get tm loc) e.guard = some true ∧ aop call (get tm loc) m e.op = some (v, m1)) ∨ (Slim.wanted (get tm loc) e.guard = some false ∧ v = .tup [] ∧ m1 = m)) →
        ∃ mm : Nat → Mem, mm loc.length = m ∧ mm (loc.length + (e :: rest).length) = m' ∧ loc'.length = loc.length + (e :: rest).length ∧ loc'.take loc.length = loc ∧
          ∀ p e', (e :: rest)[p]? = some e' → Told call tm loc' mm (loc.length + p) e'.op e'.guard e'.again := by
      intro v m1 h h2 h1
      obtain ⟨mm, a1, a2, a3, a4, a5⟩ := dops_trace rest _ loc' m1 m' h
      have hlen : (loc ++ [v]).length = loc.length + 1 := by simp
      rw [hlen] at a1 a2 a3 a4 a5
      have hv : loc'[loc.length]? = some v := by
        have : (loc'.take (loc.length + 1))[loc.length]? = some v := by rw [a4]; simp
        rwa [List.getElem?_take_of_lt (by omega)] at this
      have ht : loc'.take loc.length = loc := by
        have : (loc'.take (loc.length + 1)).take loc.length = loc := by rw [a4]; simp
        rwa [List.take_take, Nat.min_eq_left (by omega)] at this
      have hne : ∀ i, loc.length + 1 ≤ i → (if i = loc.length then m else mm i) = mm i := fun i hi => by rw [if_neg (by omega)]
      refine ⟨fun i => if i = loc.length then m else mm i, by simp, ?_, by simp; omega, ht, ?_⟩
      · rw [List.length_cons]
        show (if loc.length + (rest.length + 1) = loc.length then m else mm (loc.length + (rest.length + 1))) = m'
        rw [hne _ (by omega), ← a2]
        congr 1; omega
      · intro p e' he
        cases p with
        | zero =>
          simp at he
          subst he
          unfold Told
          simp only [Nat.add_zero, if_true]
          rw [hne _ (Nat.le_refl _), a1, ht, a4]
          refine ⟨v, hv, ?_, fun q hq => toldAnew_mem h2 q hq⟩
          rcases h1 with h1 | h1
          · exact .inl h1
          · exact .inr h1
        | succ p =>
          have h5 := a5 p e' (by simpa using he)
          unfold Told at h5 ⊢
          rw [show loc.length + (p + 1) = loc.length + 1 + p by omega]
          simp only []
          rw [hne _ (by omega), hne _ (by omega)]
          exact h5
    unfold dops at h
    split at h
    · cases h
    · rename_i hw
      split at h
      · rename_i h2
        exact key _ _ h h2 (.inr ⟨hw, rfl, rfl⟩)
      · cases h
    · rename_i hw
      split at h
      · cases h
      · rename_i v m1 h1
        split at h
        · rename_i h2
          exact key v m1 h h2 (.inl ⟨hw, h1⟩)
        · cases h

theorem aop_light {call : FuncId → List AV → Mem → Option (AV × Mem)} {g : X → AV} {m m' : Mem} {ao : AO} {v : AV} (hk : ao.kind = 0) (h : aop call g m ao = some (v, m')) :
    m' = m ∧ ∀ m2, aop call g m2 ao = some (v, m2) := by
  unfold aop at *
  cases e : light g ao with
  | some u => simp only [e] at h ⊢; cases h; exact ⟨rfl, fun _ => rfl⟩
  | none =>
    simp only [e] at h
    rw [memop_none (by omega), making_none (by omega), heavy_none (by omega)] at h
    cases h

theorem light_none {g : X → AV} {ao : AO} (h : ao.kind ≠ 0) : light g ao = none := by
  cases ao <;> first | rfl | (exact absurd rfl h)

theorem aop_reader {call : FuncId → List AV → Mem → Option (AV × Mem)} {g : X → AV} {m m' : Mem} {ao : AO} {v : AV} (hk : ao.kind = 1) (h : aop call g m ao = some (v, m')) :
    m' = m ∧ memop g m.H ao = some v := by
  unfold aop at *
  rw [light_none (by omega)] at h
  cases e : memop g m.H ao with
  | some u => simp only [e] at h; cases h; exact ⟨rfl, rfl⟩
  | none =>
    simp only [e] at h
    rw [making_none (by omega), heavy_none (by omega)] at h
    cases h

theorem reader_aop {call : FuncId → List AV → Mem → Option (AV × Mem)} {g : X → AV} {m : Mem} {ao : AO} {v : AV} (hk : ao.kind = 1) (h : memop g m.H ao = some v) :
    aop call g m ao = some (v, m) := by
  unfold aop
  rw [light_none (by omega)]
  simp only [h]

theorem findD_some {t : Tmp} (dn : List DItem) : ∀ {p0 p : Nat} {it : DItem}, findD t dn p0 = some (p, it) → p0 ≤ p ∧ dn[p - p0]? = some it ∧ it.dst = some t := by
  induction dn with
  | nil => intro p0 p it h; cases h
  | cons it0 rest ih =>
    intro p0 p it h
    rw [findD] at h
    by_cases e : it0.dst = some t
    · rw [if_pos e] at h
      have h1 := Option.some.inj h
      have h2 : p0 = p := congrArg Prod.fst h1
      have h3 : it0 = it := congrArg Prod.snd h1
      subst h2 h3
      exact ⟨Nat.le_refl _, by rw [Nat.sub_self]; rfl, e⟩
    · rw [if_neg e] at h
      obtain ⟨h1, h2, h3⟩ := ih h
      refine ⟨by omega, ?_, h3⟩
      rw [show p - p0 = (p - (p0 + 1)) + 1 by omega, List.getElem?_cons_succ]
      exact h2

theorem findD_none {t : Tmp} : ∀ {dn : List DItem} {p0 : Nat}, findD t dn p0 = none → ∀ it ∈ dn, it.dst ≠ some t
  | [], p0, h, it, hi => by cases hi
  | it0 :: rest, p0, h, it, hi => by
    unfold findD at h
    split at h
    · cases h
    · rename_i e
      rcases List.mem_cons.mp hi with rfl | hi
      · exact e
      · exact findD_none h it hi

theorem agains_mem {A : List Nat} (dn : List DItem) : ∀ {p0 p : Nat} {it : DItem}, dn[p]? = some it → it.ao.kind = 1 → it.idx ∉ A → (p0 + p, ⟨it.ao, it.gd⟩) ∈ agains A dn p0 := by
  induction dn with
  | nil => intro p0 p it h; rw [List.getElem?_nil] at h; cases h
  | cons it0 rest ih =>
    intro p0 p it h hk hA
    cases p with
    | zero =>
      rw [List.getElem?_cons_zero] at h
      have h1 := Option.some.inj h
      subst h1
      rw [agains, if_pos ⟨hk, by simpa using hA⟩]
      exact List.mem_cons_self
    | succ p =>
      rw [List.getElem?_cons_succ] at h
      have := ih (p0 := p0 + 1) h hk hA
      rw [show p0 + 1 + p = p0 + (p + 1) by omega] at this
      rw [agains]
      split
      · exact List.mem_cons_of_mem _ this
      · exact this

/-- a block that is made already, though the memory does not tell of it yet -/
structure Pend (ι : Emb) (m : Mem) (w : World) (c : Nat) (zero : List AV) : Prop where
  low : c < w.heap.size
  out : ∀ (b : Nat) cs wr d, m.H[b]? = some (Blk.cells cs wr) → ι[b]? ≠ some (some (c, d))
  cells : CellsAt ι w c 0 zero true

theorem Pend.notImg {ι : Emb} {m : Mem} {w : World} {c : Nat} {zero : List AV} (h : Pend ι m w c zero) : ¬ Img ι m c := by
  rintro ⟨b, cs, d, h1, h2⟩
  exact h.out b cs true d h1 h2

theorem Pend.ext {ι ι' : Emb} {m m' : Mem} {w w' : World} {c : Nat} {zero : List AV} (R : Rel ι m w) (E : Ext ι m w ι' m' w') (G : Grow m m') (h : Pend ι m w c zero) : Pend ι' m' w' c zero := by
  refine ⟨Nat.lt_of_lt_of_le h.low E.size, ?_, h.cells.mono E.le E.shapes (E.frame c h.low h.notImg)⟩
  intro b cs wr d hb hi
  cases wr with
  | true =>
    rcases E.img c ⟨b, cs, d, hb, hi⟩ with h1 | h1
    · exact h.notImg h1
    · have := h.low; omega
  | false =>
    have h1 := G.ro b cs hb
    obtain ⟨c0, d0, h2, _⟩ := R.at' b cs false h1
    have h3 := E.le b _ h2
    rw [hi] at h3
    cases h3
    exact h.out b cs false d h1 h2

theorem Rel.more {ι : Emb} {m : Mem} {w : World} (h : Rel ι m w) (o : Obj) : Rel ι m (w.alloc o) ∧ Ext ι m w ι m (w.alloc o) := by
  have hsh := shapes_alloc w o
  refine ⟨⟨h.len, fun b c d hb => ?_, fun b cs wr hb => ?_, h.inj⟩, ⟨Emb.le_refl _, Nat.le_refl _, ?_, hsh, fun r hr => .inl hr, fun r hr _ => heap_alloc_old w o r hr, rfl, rfl, rfl⟩⟩
  · have := h.low b c d hb
    rw [World.size_alloc]; omega
  · obtain ⟨c, d, h1, h2⟩ := h.at' b cs wr hb
    exact ⟨c, d, h1, h2.mono (Emb.le_refl _) hsh (heap_alloc_old w o c (h.low b c d h1))⟩
  · rw [World.size_alloc]; omega

theorem Pend.commit {ι : Emb} {m : Mem} {w : World} {c : Nat} {zero : List AV} (R : Rel ι m w) (h : Pend ι m w c zero) :
    Emb.le ι (ι ++ [some (c, 0)]) ∧ Rel (ι ++ [some (c, 0)]) (newBlk m zero) w ∧
    (∀ {ι0 : Emb} {m0 : Mem} {w0 : World}, Ext ι0 m0 w0 ι m w → w0.heap.size ≤ c → Ext ι0 m0 w0 (ι ++ [some (c, 0)]) (newBlk m zero) w) ∧
    (∀ {c' : Nat} {zero' : List AV}, Pend ι m w c' zero' → c ≠ c' → Pend (ι ++ [some (c, 0)]) (newBlk m zero) w c' zero') := by
  have hle : Emb.le ι (ι ++ [some (c, 0)]) := fun b p hb => by
    rw [List.getElem?_append_left]; exact hb
    exact (List.getElem?_eq_some_iff.mp hb).1
  have key : ∀ b : Nat, (ι ++ [some (c, 0)])[b]? = if b < ι.length then ι[b]? else if b = ι.length then some (some (c, 0)) else none := by
    intro b
    by_cases h1 : b < ι.length
    · rw [if_pos h1, List.getElem?_append_left h1]
    · rw [if_neg h1, List.getElem?_append_right (by omega)]
      by_cases h2 : b = ι.length
      · subst h2; simp
      · rw [if_neg h2]; rw [List.getElem?_eq_none]; simp; omega
  have keyH : ∀ b : Nat, (newBlk m zero).H[b]? = if b < ι.length then m.H[b]? else if b = ι.length then some (.cells zero true) else none := by
    intro b
    simp only [newBlk]
    by_cases h1 : b < ι.length
    · rw [if_pos h1, List.getElem?_append_left (by rw [← R.len]; exact h1)]
    · rw [if_neg h1, List.getElem?_append_right (by rw [← R.len]; omega)]
      by_cases h2 : b = ι.length
      · subst h2; simp [R.len]
      · rw [if_neg h2]; rw [List.getElem?_eq_none]; simp [← R.len]; omega
  refine ⟨hle, ⟨by simp [newBlk, R.len], ?_, ?_, ?_⟩, ?_, ?_⟩
  · intro b c1 d hb
    rw [key] at hb
    split at hb
    · exact R.low b c1 d hb
    · split at hb
      · cases hb; exact h.low
      · cases hb
  · intro b cs' wr hb
    rw [keyH] at hb
    split at hb
    · obtain ⟨c1, d, h1, h2⟩ := R.at' b cs' wr hb
      exact ⟨c1, d, hle _ _ h1, h2.mono hle (Shapes.refl _) rfl⟩
    · split at hb
      · rename_i hlt heq
        cases hb
        exact ⟨c, 0, by rw [key, if_neg hlt, if_pos heq], h.cells.mono hle (Shapes.refl _) rfl⟩
      · cases hb
  · intro b b' cs₁ cs₂ wr c1 d c' d' hne hb hb' hi hi'
    rw [keyH] at hb hb'
    rw [key] at hi hi'
    by_cases h1 : b < ι.length <;> by_cases h2 : b' < ι.length
    · rw [if_pos h1] at hb hi; rw [if_pos h2] at hb' hi'
      exact R.inj b b' cs₁ cs₂ wr c1 d c' d' hne hb hb' hi hi'
    · rw [if_pos h1] at hb hi; rw [if_neg h2] at hb' hi'
      split at hi'
      · cases hi'
        intro e
        subst e
        exact h.out b cs₁ true d hb hi
      · cases hi'
    · rw [if_neg h1] at hb hi; rw [if_pos h2] at hb' hi'
      split at hi
      · cases hi
        intro e
        subst e
        exact h.out b' cs₂ wr d' hb' hi'
      · cases hi
    · rw [if_neg h1] at hb hi; rw [if_neg h2] at hb' hi'
      split at hi
      · split at hi'
        · omega
        · cases hi'
      · cases hi
  · intro ι0 m0 w0 E hc
    refine ⟨Emb.le_trans E.le hle, by simp; have := E.grow; omega, E.size, E.shapes, ?_, E.frame, E.os, E.tape, E.output⟩
    rintro r ⟨b, cs', d, hb, hi⟩
    rw [keyH] at hb
    rw [key] at hi
    split at hb
    · rename_i hlt
      rw [if_pos hlt] at hi
      exact E.img r ⟨b, cs', d, hb, hi⟩
    · rename_i hlt
      rw [if_neg hlt] at hi
      split at hi
      · cases hi; exact .inr hc
      · cases hi
  · intro c' zero' h' hne
    refine ⟨h'.low, ?_, h'.cells.mono hle (Shapes.refl _) rfl⟩
    intro b cs wr d hb hi
    rw [keyH] at hb
    rw [key] at hi
    split at hb
    · rename_i hlt
      rw [if_pos hlt] at hi
      exact h'.out b cs wr d hb hi
    · rename_i hlt
      rw [if_neg hlt] at hi
      split at hi
      · cases hi; exact hne rfl
      · cases hi

/-- the state of a region on its way -/
structure DInv (nt : Nat) (keep : List Nat) (tm : List AV) (items : List DItem) (L : List AV) (mm : Nat → Mem) (ι0 : Emb) (w0 : World) (n : Nat)
    (listed : Array Bool) (s : Nat) (pend : List (Nat × Nat)) (ι : Emb) (w : World) (a : Act) : Prop where
  size : listed.size = n
  rel : Rel ι (mm s) w
  ext : Ext ι0 (mm 0) w0 ι (mm s) w
  closed : ∀ (p : Nat) it, items[p]? = some it → listed.getD it.idx false = true → ∀ x ∈ it.anc, listed.getD x false = true
  before : ∀ (p : Nat) it, items[p]? = some it → 2 ≤ it.ao.kind → (listed.getD it.idx false = true ↔ (p < s ∨ ∃ c, (p, c) ∈ pend))
  behind : s = 0 ∨ ∃ it, items[s - 1]? = some it ∧ 2 ≤ it.ao.kind
  vals : ∀ (p : Nat) it d, items[p]? = some it → listed.getD it.idx false = true → (∀ c, (p, c) ∉ pend) → it.dst = some d → V ι w ((L[p]?).getD .undef) (a.eval (.tmp d))
  kept : ∀ t k, keep.idxOf? t = some k → (∀ (p : Nat) it, items[p]? = some it → it.dst = some t → listed.getD it.idx false = false) → V ι w ((tm[k]?).getD .undef) (a.eval (.tmp t))
  nts : nt ≤ a.tmps.size
  defers : a.defers = []
  pok : ∀ (p c : Nat), (p, c) ∈ pend → s ≤ p ∧ w0.heap.size ≤ c ∧ ∃ it zero, items[p]? = some it ∧ it.late = true ∧ it.ao = .alloc zero ∧ listed.getD it.idx false = true ∧ Pend ι (mm s) w c zero ∧
    ∀ d, it.dst = some d → a.eval (.tmp d) = .pointer (some ⟨c, 0, none⟩)
  pdis : ∀ (p c p' c' : Nat), (p, c) ∈ pend → (p', c') ∈ pend → (p = p' ↔ c = c')

theorem getD_set_self {listed : Array Bool} {i : Nat} (h : i < listed.size) : (listed.setIfInBounds i true).getD i false = true := by simp [h]

section
variable {nt : Nat} {keep : List Nat} {ops : Array Oper} {tm : List AV} {items : List DItem} {L : List AV} {mm : Nat → Mem} {ι0 : Emb} {w0 : World}
  (hok : ∀ p it, items[p]? = some it → ∃ o, ItemOk P nt keep ops (items.take p) it o)
include hok

theorem idx_inj {p q : Nat} {it it' : DItem} (hp : items[p]? = some it) (hq : items[q]? = some it') (he : it.idx = it'.idx) : p = q := by
  rcases Nat.lt_trichotomy p q with h | h | h
  · obtain ⟨o, k⟩ := hok q it' hq
    refine absurd he (k.new it ?_)
    exact List.mem_of_getElem? (i := p) (by rw [List.getElem?_take_of_lt h]; exact hp)
  · exact h
  · obtain ⟨o, k⟩ := hok p it hp
    refine absurd he.symm (k.new it' ?_)
    exact List.mem_of_getElem? (i := q) (by rw [List.getElem?_take_of_lt h]; exact hq)

theorem dst_inj {p q : Nat} {it it' : DItem} {d : Tmp} (hp : items[p]? = some it) (hq : items[q]? = some it') (h1 : it.dst = some d) (h2 : it'.dst = some d) : p = q := by
  have key : ∀ {p q : Nat} {it it' : DItem}, items[p]? = some it → items[q]? = some it' → it.dst = some d → it'.dst = some d → p < q → False := by
    intro p q it it' hp hq h1 h2 h
    obtain ⟨o, k⟩ := hok q it' hq
    have hf := k.free
    rw [h2] at hf
    simp only [dstFree, List.all_eq_true, Bool.and_eq_true, bne_iff_ne] at hf
    exact (hf it (List.mem_of_getElem? (i := p) (by rw [List.getElem?_take_of_lt h]; exact hp))).1 h1
  rcases Nat.lt_trichotomy p q with h | h | h
  · exact (key hp hq h1 h2 h).elim
  · exact h
  · exact (key hq hp h2 h1 h).elim

omit hok in
/-- whom an operation waits for is listed -/
theorem DInv.anc {listed : Array Bool} {s : Nat} {pend : List (Nat × Nat)} {ι : Emb} {w : World} {a : Act} (D : DInv nt keep tm items L mm ι0 w0 ops.size listed s pend ι w a) {p : Nat} {it : DItem} {o : Oper}
    (hp : items[p]? = some it) (k : ItemOk P nt keep ops (items.take p) it o) (hw : ∀ x ∈ waitsFor o, listed.getD x false = true) : ∀ x ∈ it.anc, listed.getD x false = true := by
  intro x hx
  rcases ancOf_inv k.anc x hx with h | ⟨it', h1, h2, h3⟩
  · exact hw x h
  · obtain ⟨q, hq⟩ := List.getElem?_of_mem h1
    have hlt : q < p := by
      have := (List.getElem?_eq_some_iff.mp hq).1
      simp at this; omega
    rw [List.getElem?_take_of_lt hlt] at hq
    exact D.closed q it' hq (hw _ h2) x h3

/-- what an operation that may come up looks at -/
theorem DInv.looks {listed : Array Bool} {s : Nat} {pend : List (Nat × Nat)} {ι : Emb} {w : World} {a : Act} (D : DInv nt keep tm items L mm ι0 w0 ops.size listed s pend ι w a) {p : Nat} {it : DItem} {o : Oper}
    (hp : items[p]? = some it) (k : ItemOk P nt keep ops (items.take p) it o) (hanc : ∀ x ∈ it.anc, listed.getD x false = true) (hun : listed.getD it.idx false = false)
    (hnp : ∀ (i : Nat) it', i < p → items[i]? = some it' → it'.idx ∈ it.anc → ∀ c, (i, c) ∉ pend) {q : Nat} (hq : p ≤ q) :
    OkX ι w (cxD keep (items.take p) it.anc it.reads) (get tm (L.take q)) a.eval := by
  intro x y hx
  cases x with
  | tmp t =>
    simp only [cxD] at hx
    split at hx
    · rename_i hr
      split at hx
      · rename_i i it' hf
        obtain ⟨_, h2, h3⟩ := findD_some _ hf
        rw [Nat.sub_zero] at h2
        have hlt : i < p := by
          have := (List.getElem?_eq_some_iff.mp h2).1
          simp at this; omega
        rw [List.getElem?_take_of_lt hlt] at h2
        split at hx
        · rename_i hA
          cases hx
          have := D.vals i it' t h2 (hanc _ (by simpa using hA)) (hnp i it' hlt h2 (by simpa using hA)) h3
          simp only [get]
          rw [List.getElem?_take_of_lt (by omega)]
          exact this
        · cases hx
      · rename_i hf
        have hnone := findD_none hf
        split at hx
        · rename_i s' hs
          cases hx
          refine D.kept t s' hs fun i it' hi hd => ?_
          rcases Nat.lt_trichotomy i p with h | h | h
          · exact absurd hd (hnone it' (List.mem_of_getElem? (i := i) (by rw [List.getElem?_take_of_lt h]; exact hi)))
          · subst h
            rw [hp] at hi
            cases hi
            exact hun
          · obtain ⟨o', k'⟩ := hok i it' hi
            have hfr := k'.free
            rw [hd] at hfr
            simp only [dstFree, List.all_eq_true, Bool.and_eq_true, Bool.or_eq_true, Bool.not_eq_true'] at hfr
            have h4 := (hfr it (List.mem_of_getElem? (i := p) (by rw [List.getElem?_take_of_lt h]; exact hp))).2
            have h5 : it.idx ∈ it'.anc := by
              rcases h4 with h4 | h4
              · rw [hr] at h4; cases h4
              · simpa using h4
            cases hl : listed.getD it'.idx false with
            | false => rfl
            | true =>
              have := D.closed i it' hi hl _ h5
              rw [hun] at this
              cases this
        · cases hx; trivial
    · cases hx
  | const v =>
    simp only [cxD, Option.map_eq_some_iff] at hx
    obtain ⟨a', ha, rfl⟩ := hx
    exact V.ofConst ha
  | func f => cases hx; exact ⟨[], [], rfl, rfl, rfl⟩
  | global g => cases hx

/-- behind an operation -/
theorem DInv.next {listed : Array Bool} {s s' : Nat} {pend : List (Nat × Nat)} {ι ι' : Emb} {w w' : World} {a : Act} (D : DInv nt keep tm items L mm ι0 w0 ops.size listed s pend ι w a) {p : Nat} {it : DItem} {o : Oper}
    (hp : items[p]? = some it) (k : ItemOk P nt keep ops (items.take p) it o) (hanc : ∀ x ∈ it.anc, listed.getD x false = true) (hun : listed.getD it.idx false = false)
    {v' : Value} (hv : V ι' w' ((L[p]?).getD .undef) v') (R : Rel ι' (mm s') w') (E : Ext ι (mm s) w ι' (mm s') w') (G : Grow (mm s) (mm s'))
    (hs : (it.ao.kind < 2 ∧ s' = s) ∨ (2 ≤ it.ao.kind ∧ s' = p + 1 ∧ s ≤ p ∧ ∀ (q : Nat) it', items[q]? = some it' → 2 ≤ it'.ao.kind → s ≤ q → p ≤ q)) :
    DInv nt keep tm items L mm ι0 w0 ops.size (listed.setIfInBounds it.idx true) s' pend ι' w' (a.put o.dst v') := by
  have hlt : it.idx < listed.size := by
    rw [D.size]
    exact (Array.getElem?_eq_some_iff.mp k.op).1
  have hput : ∀ t, o.dst ≠ some t → (a.put o.dst v').eval (.tmp t) = a.eval (.tmp t) := by
    intro t ht
    cases hd : o.dst with
    | none => rfl
    | some d => exact eval_put_other a d t v' (fun e => ht (by rw [hd, e]))
  have hlisted : ∀ x, (listed.setIfInBounds it.idx true).getD x false = true → x = it.idx ∨ listed.getD x false = true := by
    intro x hx
    by_cases h : x = it.idx
    · exact .inl h
    · rw [getD_set_ne false (fun e => h e.symm)] at hx; exact .inr hx
  have hnot : ∀ q c, (q, c) ∈ pend → q ≠ p := by
    intro q c hq e
    obtain ⟨_, _, it', zero, h1, _, _, h2, _⟩ := D.pok q c hq
    rw [e, hp] at h1
    cases h1
    rw [hun] at h2
    cases h2
  refine ⟨by simpa using D.size, R, D.ext.trans E, ?_, ?_, ?_, ?_, ?_, ?_, ?_, ?_, D.pdis⟩
  · intro q it' hq hl x hx
    rcases hlisted _ hl with h | h
    · have := idx_inj hok hq hp h
      subst this
      rw [hp] at hq; cases hq
      exact getD_set_true (hanc x hx)
    · exact getD_set_true (D.closed q it' hq h x hx)
  · intro q it' hq hk
    by_cases hqp : q = p
    · subst hqp
      rw [hp] at hq; cases hq
      rw [getD_set_self hlt]
      rcases hs with ⟨h1, _⟩ | ⟨_, h2, _⟩
      · omega
      · simp [h2]
    · have hne : it'.idx ≠ it.idx := fun e => hqp (idx_inj hok hq hp e)
      rw [getD_set_ne false (fun e => hne e.symm), D.before q it' hq hk]
      rcases hs with ⟨_, h2⟩ | ⟨h1, h2, h3, h4⟩
      · rw [h2]
      · subst h2
        constructor
        · rintro (h | h)
          · left; omega
          · exact .inr h
        · rintro (h | h)
          · left
            rcases Nat.lt_or_ge q s with h5 | h5
            · exact h5
            · have := h4 q it' hq hk h5; omega
          · exact .inr h
  · rcases hs with ⟨_, h2⟩ | ⟨h1, h2, _⟩
    · rw [h2]; exact D.behind
    · right
      subst h2
      exact ⟨it, by simpa using hp, h1⟩
  · intro q it' d hq hl hnp hd
    by_cases hqp : q = p
    · subst hqp
      rw [hp] at hq; cases hq
      have hod : o.dst = some d := by rw [← k.dst]; exact hd
      rw [hod, eval_put_self a d v' (by have := k.dok; rw [hod] at this; simp [dstOk] at this; exact Nat.lt_of_lt_of_le this D.nts)]
      exact hv
    · rcases hlisted _ hl with h | h
      · exact absurd (idx_inj hok hq hp h) hqp
      · rw [hput d (fun e => hqp (dst_inj hok hq hp hd (by rw [k.dst]; exact e)))]
        exact V.mono E.le E.shapes _ _ (D.vals q it' d hq h hnp hd)
  · intro t i hi hall
    have hnot : o.dst ≠ some t := by
      intro e
      have := hall p it hp (by rw [k.dst]; exact e)
      rw [getD_set_self hlt] at this
      cases this
    rw [hput t hnot]
    refine V.mono E.le E.shapes _ _ (D.kept t i hi fun q it' hq hd => ?_)
    cases hl : listed.getD it'.idx false with
    | false => rfl
    | true =>
      have := hall q it' hq hd
      rw [getD_set_true hl] at this
      cases this
  · have : (a.put o.dst v').tmps.size = a.tmps.size := by
      cases o.dst <;> simp [Act.put]
    rw [this]; exact D.nts
  · have : (a.put o.dst v').defers = a.defers := by
      cases o.dst <;> rfl
    rw [this]; exact D.defers
  · intro q c hq
    obtain ⟨h1, h2, it', zero, h3, h4, h5, h6, h7, h8⟩ := D.pok q c hq
    have hqp := hnot q c hq
    refine ⟨?_, h2, it', zero, h3, h4, h5, getD_set_true h6, h7.ext D.rel E G, fun d hd => ?_⟩
    · rcases hs with ⟨_, h⟩ | ⟨_, h, _, h'⟩
      · rw [h]; exact h1
      · have := h' q it' h3 (by rw [h5]; exact Nat.le_refl _) h1
        omega
    · rw [hput d (fun e => hqp (dst_inj hok h3 hp hd (by rw [k.dst]; exact e)))]
      exact h8 d hd

/-- a block made ahead of its place -/
theorem DInv.ahead {listed : Array Bool} {s : Nat} {pend : List (Nat × Nat)} {ι : Emb} {w : World} {a : Act} (D : DInv nt keep tm items L mm ι0 w0 ops.size listed s pend ι w a) {p : Nat} {it : DItem} {o : Oper}
    (hp : items[p]? = some it) (k : ItemOk P nt keep ops (items.take p) it o) (hanc : ∀ x ∈ it.anc, listed.getD x false = true) (hun : listed.getD it.idx false = false)
    {zero : List AV} (hl : it.late = true) (hz : it.ao = .alloc zero) (hsp : s ≤ p) {vs : List Value} {e : TypeId} (hvs : VL ι w zero vs) (hcell : zero.all AV.isCell = true) {v' : Value} (hv' : v' = .pointer (some ⟨w.heap.size, 0, none⟩)) :
    DInv nt keep tm items L mm ι0 w0 ops.size (listed.setIfInBounds it.idx true) s ((p, w.heap.size) :: pend) ι (w.alloc (.cells vs.toArray e)) (a.put o.dst v') := by
  obtain ⟨hr, hE⟩ := D.rel.more (.cells vs.toArray e)
  have hlt : it.idx < listed.size := by
    rw [D.size]
    exact (Array.getElem?_eq_some_iff.mp k.op).1
  have hput : ∀ t, o.dst ≠ some t → (a.put o.dst v').eval (.tmp t) = a.eval (.tmp t) := by
    intro t ht
    cases hd : o.dst with
    | none => rfl
    | some d => exact eval_put_other a d t v' (fun e => ht (by rw [hd, e]))
  have hlisted : ∀ x, (listed.setIfInBounds it.idx true).getD x false = true → x = it.idx ∨ listed.getD x false = true := by
    intro x hx
    by_cases h : x = it.idx
    · exact .inl h
    · rw [getD_set_ne false (fun e => h e.symm)] at hx; exact .inr hx
  have hnot : ∀ q c, (q, c) ∈ pend → q ≠ p := by
    intro q c hq e
    obtain ⟨_, _, it', zero, h1, _, _, h2, _⟩ := D.pok q c hq
    rw [e, hp] at h1
    cases h1
    rw [hun] at h2
    cases h2
  refine ⟨by simpa using D.size, hr, D.ext.trans hE, ?_, ?_, D.behind, ?_, ?_, ?_, ?_, ?_, ?_⟩
  · intro q it' hq hl x hx
    rcases hlisted _ hl with h | h
    · have := idx_inj hok hq hp h
      subst this
      rw [hp] at hq; cases hq
      exact getD_set_true (hanc x hx)
    · exact getD_set_true (D.closed q it' hq h x hx)
  · intro q it' hq hk
    by_cases hqp : q = p
    · subst hqp
      rw [hp] at hq; cases hq
      rw [getD_set_self hlt]
      simp
    · have hne : it'.idx ≠ it.idx := fun e => hqp (idx_inj hok hq hp e)
      rw [getD_set_ne false (fun e => hne e.symm), D.before q it' hq hk]
      constructor
      · rintro (h | ⟨c, h⟩)
        · exact .inl h
        · exact .inr ⟨c, List.mem_cons_of_mem _ h⟩
      · rintro (h | ⟨c, h⟩)
        · exact .inl h
        · rcases List.mem_cons.mp h with h | h
          · cases h; exact absurd rfl hqp
          · exact .inr ⟨c, h⟩
  · intro q it' d hq hl hnp hd
    by_cases hqp : q = p
    · subst hqp
      exact absurd List.mem_cons_self (hnp w.heap.size)
    · rcases hlisted _ hl with h | h
      · exact absurd (idx_inj hok hq hp h) hqp
      · rw [hput d (fun e => hqp (dst_inj hok hq hp hd (by rw [k.dst]; exact e)))]
        exact V.mono hE.le hE.shapes _ _ (D.vals q it' d hq h (fun c hc => hnp c (List.mem_cons_of_mem _ hc)) hd)
  · intro t i hi hall
    have hnot : o.dst ≠ some t := by
      intro e
      have := hall p it hp (by rw [k.dst]; exact e)
      rw [getD_set_self hlt] at this
      cases this
    rw [hput t hnot]
    refine V.mono hE.le hE.shapes _ _ (D.kept t i hi fun q it' hq hd => ?_)
    cases hl : listed.getD it'.idx false with
    | false => rfl
    | true =>
      have := hall q it' hq hd
      rw [getD_set_true hl] at this
      cases this
  · have : (a.put o.dst v').tmps.size = a.tmps.size := by
      cases o.dst <;> simp [Act.put]
    rw [this]; exact D.nts
  · have : (a.put o.dst v').defers = a.defers := by
      cases o.dst <;> rfl
    rw [this]; exact D.defers
  · intro q c hq
    rcases List.mem_cons.mp hq with h | hq
    · cases h
      have hnew : (w.alloc (.cells vs.toArray e)).heap[w.heap.size]? = some (.cells vs.toArray e) := heap_alloc_new _ _
      refine ⟨hsp, D.ext.size, it, zero, hp, hl, hz, getD_set_self hlt, ⟨by rw [World.size_alloc]; omega, ?_, ⟨vs, VL.mono (Emb.le_refl _) hE.shapes _ _ hvs, fun j v hj => ?_⟩, hcell, fun _ => ⟨e, vs.length, ?_, fun o ho => ?_⟩⟩, fun d hd => ?_⟩
      · intro b cs wr d hb hi
        have := D.rel.low b _ d hi
        omega
      · rw [Nat.zero_add]
        simp only [World.cell?, hnew, Option.isSome_none, Bool.false_eq_true, if_false]
        rw [List.getElem?_toArray]
        exact hj
      · unfold World.shape?; rw [hnew]; simp
      · unfold World.frozen?; simp only [hnew]
        simp
      · have hod : o.dst = some d := by rw [← k.dst]; exact hd
        rw [hod, eval_put_self a d v' (by have := k.dok; rw [hod] at this; simp [dstOk] at this; exact Nat.lt_of_lt_of_le this D.nts)]
        exact hv'
    · obtain ⟨h1, h2, it', zero', h3, h4, h5, h6, h7, h8⟩ := D.pok q c hq
      have hqp := hnot q c hq
      refine ⟨h1, h2, it', zero', h3, h4, h5, getD_set_true h6, h7.ext D.rel hE (Grow.refl _), fun d hd => ?_⟩
      rw [hput d (fun e => hqp (dst_inj hok h3 hp hd (by rw [k.dst]; exact e)))]
      exact h8 d hd
  · intro q c q' c' hq hq'
    rcases List.mem_cons.mp hq with h | hq <;> rcases List.mem_cons.mp hq' with h' | hq'
    · cases h; cases h'; simp
    · cases h
      have h1 := hnot q' c' hq'
      obtain ⟨_, _, _, _, _, _, _, _, h2, _⟩ := D.pok q' c' hq'
      have h3 := h2.low
      constructor
      · intro e; exact absurd e.symm h1
      · intro e; omega
    · cases h'
      have h1 := hnot q c hq
      obtain ⟨_, _, _, _, _, _, _, _, h2, _⟩ := D.pok q c hq
      have h3 := h2.low
      constructor
      · intro e; exact absurd e h1
      · intro e; omega
    · exact D.pdis q c q' c' hq hq'

section
variable {call : FuncId → List AV → Mem → Option (AV × Mem)}
  (htr : ∀ (p : Nat) it, items[p]? = some it → Told call tm L mm p it.ao it.gd it.again)
include htr

omit hok in
theorem mm_same {s : Nat} : ∀ {q : Nat}, s ≤ q → q ≤ items.length → (∀ (i : Nat) it, items[i]? = some it → 2 ≤ it.ao.kind → s ≤ i → q ≤ i) → mm q = mm s := by
  intro q hsq
  induction hsq with
  | refl => intros; rfl
  | @step q hsq ih =>
    intro hl hno
    have hlt : q < items.length := by omega
    obtain ⟨v, _, h2, _⟩ := htr q items[q] (List.getElem?_eq_getElem hlt)
    have hk : ¬ 2 ≤ items[q].ao.kind := fun h => by
      have := hno q items[q] (List.getElem?_eq_getElem hlt) h hsq; omega
    have h3 : mm (q + 1) = mm q := by
      rcases h2 with ⟨_, h2⟩ | ⟨_, _, h2⟩
      · by_cases h0 : items[q].ao.kind = 0
        · exact (aop_light h0 h2).1
        · exact (aop_reader (by omega) h2).1
      · exact h2
    rw [h3]
    refine ih (by omega) fun i it hi hk' hsi => ?_
    have := hno i it hi hk' hsi
    omega

/-- the memory comes to tell of a block made ahead -/
theorem DInv.commit {listed : Array Bool} {s : Nat} {pend : List (Nat × Nat)} {ι : Emb} {w : World} {a : Act} (D : DInv nt keep tm items L mm ι0 w0 ops.size listed s pend ι w a) {p c : Nat} (hpc : (p, c) ∈ pend)
    (hmin : ∀ (q : Nat) it', items[q]? = some it' → 2 ≤ it'.ao.kind → s ≤ q → p ≤ q) : ∃ ι' pend', DInv nt keep tm items L mm ι0 w0 ops.size listed (p + 1) pend' ι' w a := by
  obtain ⟨hsp, hc0, it, zero, hp, hl, hz, hli, hP, hval⟩ := D.pok p c hpc
  obtain ⟨o, k⟩ := hok p it hp
  have hple : p < items.length := (List.getElem?_eq_some_iff.mp hp).1
  have hsame : mm p = mm s := mm_same htr hsp (Nat.le_of_lt hple) hmin
  obtain ⟨v, hv, hop, _⟩ := htr p it hp
  have hgd := (k.late hl).2
  have hk2 : 2 ≤ it.ao.kind := by rw [hz]; exact Nat.le_refl _
  have hmake : v = .ptr (some ((mm s).H.length, 0)) ∧ mm (p + 1) = newBlk (mm s) zero := by
    rcases hop with ⟨_, hop⟩ | ⟨hop, _⟩
    · rw [hz, hsame] at hop
      have h2 : aop call (get tm (L.take p)) (mm s) (.alloc zero) = some (.ptr (some ((mm s).H.length, 0)), newBlk (mm s) zero) := rfl
      rw [h2] at hop
      have e := Option.some.inj hop
      exact ⟨(congrArg Prod.fst e).symm, (congrArg Prod.snd e).symm⟩
    · rw [hgd] at hop
      cases hop
  obtain ⟨rfl, hmm⟩ := hmake
  obtain ⟨c1, c2, c3, c4⟩ := hP.commit D.rel
  refine ⟨ι ++ [some (c, 0)], pend.filter (fun x => x.1 ≠ p), ⟨D.size, by rw [hmm]; exact c2, by rw [hmm]; exact c3 D.ext hc0, D.closed, ?_, ?_, ?_, ?_, D.nts, D.defers, ?_, ?_⟩⟩
  · intro q it' hq hk
    rw [D.before q it' hq hk]
    constructor
    · rintro (h | ⟨c', h⟩)
      · left; omega
      · by_cases hqp : q = p
        · left; omega
        · right; exact ⟨c', List.mem_filter.mpr ⟨h, by simpa using hqp⟩⟩
    · rintro (h | ⟨c', h⟩)
      · rcases Nat.lt_or_ge q s with h5 | h5
        · exact .inl h5
        · have h6 := hmin q it' hq hk h5
          have h7 : q = p := by omega
          subst h7
          exact .inr ⟨c, hpc⟩
      · exact .inr ⟨c', (List.mem_filter.mp h).1⟩
  · right
    exact ⟨it, by simpa using hp, hk2⟩
  · intro q it' d hq hl' hnp hd
    by_cases hqp : q = p
    · subst hqp
      rw [hp] at hq; cases hq
      rw [hv, hval d hd]
      refine ⟨c, 0, ?_, rfl⟩
      rw [← D.rel.len]
      exact emb_last _ _
    · refine V.mono c1 (Shapes.refl _) _ _ (D.vals q it' d hq hl' (fun c' hc' => hnp c' ?_) hd)
      exact List.mem_filter.mpr ⟨hc', by simpa using hqp⟩
  · intro t i hi hall
    exact V.mono c1 (Shapes.refl _) _ _ (D.kept t i hi hall)
  · intro q c' hq
    obtain ⟨h0, hne⟩ := List.mem_filter.mp hq
    have hqp : q ≠ p := by simpa using hne
    obtain ⟨h1, h2, it', zero', h3, h4, h5, h6, h7, h8⟩ := D.pok q c' h0
    have h9 := hmin q it' h3 (by rw [h5]; exact Nat.le_refl _) h1
    refine ⟨by omega, h2, it', zero', h3, h4, h5, h6, ?_, h8⟩
    rw [hmm]
    exact c4 h7 (fun e => hqp ((D.pdis p c q c' hpc h0).mpr e).symm)
  · intro q c1 q' c1' hq hq'
    exact D.pdis q c1 q' c1' (List.mem_filter.mp hq).1 (List.mem_filter.mp hq').1

/-- the memory comes to tell of all blocks made ahead, as far as all others before them are made -/
theorem DInv.catch {listed : Array Bool} {w : World} {a : Act} : ∀ (q : Nat) {s : Nat} {pend : List (Nat × Nat)} {ι : Emb}, DInv nt keep tm items L mm ι0 w0 ops.size listed s pend ι w a →
    (∀ (i : Nat) it, items[i]? = some it → 2 ≤ it.ao.kind → i < q → listed.getD it.idx false = true) →
    ∃ s' pend' ι', DInv nt keep tm items L mm ι0 w0 ops.size listed s' pend' ι' w a ∧ ∀ (i : Nat) it, items[i]? = some it → 2 ≤ it.ao.kind → i < q → i < s'
  | 0, s, pend, ι, D, _ => ⟨s, pend, ι, D, fun i it _ _ h => by omega⟩
  | q + 1, s, pend, ι, D, hall => by
    obtain ⟨s1, pend1, ι1, D1, h1⟩ := DInv.catch q D (fun i it hi hk hlt => hall i it hi hk (by omega))
    cases hq : items[q]? with
    | none =>
      refine ⟨s1, pend1, ι1, D1, fun i it hi hk hlt => ?_⟩
      rcases Nat.lt_or_ge i q with h | h
      · exact h1 i it hi hk h
      · have : i = q := by omega
        subst this
        rw [hq] at hi; cases hi
    | some it =>
      by_cases hk : 2 ≤ it.ao.kind
      · rcases (D1.before q it hq hk).mp (hall q it hq hk (by omega)) with h | ⟨c, hc⟩
        · refine ⟨s1, pend1, ι1, D1, fun i it' hi hk' hlt => ?_⟩
          rcases Nat.lt_or_ge i q with h' | h'
          · exact h1 i it' hi hk' h'
          · have : i = q := by omega
            rw [this]; exact h
        · obtain ⟨ι2, pend2, D2⟩ := DInv.commit hok htr D1 hc (fun i it' hi hk' hsi => by
            rcases Nat.lt_or_ge i q with h' | h'
            · have := h1 i it' hi hk' h'; omega
            · exact h')
          exact ⟨q + 1, pend2, ι2, D2, fun i it' _ _ hlt => hlt⟩
      · refine ⟨s1, pend1, ι1, D1, fun i it' hi hk' hlt => ?_⟩
        rcases Nat.lt_or_ge i q with h | h
        · exact h1 i it' hi hk' h
        · have : i = q := by omega
          subst this
          rw [hq] at hi; cases hi
          exact absurd hk' hk

/-- an operation that may come up -/
theorem DInv.run {Q : Exit → Act → World → Prop} (hcall : CallOk P call) (hgrow : ∀ f args m v m', call f args m = some (v, m') → Grow m m') {listed : Array Bool} {s : Nat} {pend : List (Nat × Nat)} {ι : Emb} {w : World} {a : Act} (D : DInv nt keep tm items L mm ι0 w0 ops.size listed s pend ι w a) {p : Nat} {it : DItem} {o : Oper}
    (hp : items[p]? = some it) (k : ItemOk P nt keep ops (items.take p) it o) (hw : ∀ x ∈ waitsFor o, listed.getD x false = true) (hun : listed.getD it.idx false = false)
    {K : Act → World → Prop} (hK : ∀ s' pend' ι' w' a', DInv nt keep tm items L mm ι0 w0 ops.size (listed.setIfInBounds it.idx true) s' pend' ι' w' a' → K a' w') : wpOp P ops Q it.idx K a w := by
  have hanc := D.anc hp k hw
  obtain ⟨v, hv, hop, _⟩ := htr p it hp
  have hget : (L[p]?).getD .undef = v := by rw [hv]; rfl
  have hple : p < items.length := (List.getElem?_eq_some_iff.mp hp).1
  have hchain : chained it.anc (items.take p) = true → ∀ (i : Nat) it', items[i]? = some it' → 2 ≤ it'.ao.kind → i < p → listed.getD it'.idx false = true := by
    intro h i it' hi hk' hip
    simp only [chained, List.all_eq_true, Bool.or_eq_true, decide_eq_true_eq] at h
    rcases h it' (List.mem_of_getElem? (i := i) (by rw [List.getElem?_take_of_lt hip]; exact hi)) with h1 | h1
    · omega
    · exact hanc _ (by simpa using h1)
  by_cases hall : ∀ (i : Nat) it', items[i]? = some it' → 2 ≤ it'.ao.kind → i < p → listed.getD it'.idx false = true
  · obtain ⟨s, pend, ι, D, heavies⟩ := DInv.catch hok htr p D hall
    have hnp : ∀ (i : Nat) it', i < p → items[i]? = some it' → it'.idx ∈ it.anc → ∀ c, (i, c) ∉ pend := by
      intro i it' hip hi _ c hc
      obtain ⟨h1, _, it2, zero, h2, _, h3, _⟩ := D.pok i c hc
      have := heavies i it2 h2 (by rw [h3]; exact Nat.le_refl _) hip
      omega
    have hX := D.looks hok hp k hanc hun hnp (q := p) (Nat.le_refl _)
    have behindIt : 2 ≤ it.ao.kind → s ≤ p := fun h2 => by
      rcases Nat.lt_or_ge p s with h | h
      · have := (D.before p it hp h2).mpr (.inl h)
        rw [hun] at this
        cases this
      · exact h
    have noneThere : ∀ (i : Nat) it', items[i]? = some it' → 2 ≤ it'.ao.kind → s ≤ i → p ≤ i := fun i it' hi hk' hsi => by
      rcases Nat.lt_or_ge i p with h | h
      · have := heavies i it' hi hk' h; omega
      · exact h
    unfold wpOp
    rw [k.op]
    rcases hop with ⟨hwt, hop⟩ | ⟨hwt, hvt, hmm⟩
    · have hwant : Region.wanted o (yielded ops a.tmps) = true := wanted_ok hX k.guard hwt
      simp only [hwant, if_true]
      left
      by_cases h0 : it.ao.kind = 0
      · obtain ⟨_, h2⟩ := aop_light h0 hop
        refine step_ok hcall hX D.rel o (aop_ok hX D.rel o k.comp (h2 (mm s))) fun ι' w' v' hv' R' E => ?_
        exact hK s pend ι' w' _ (D.next hok hp k hanc hun (by rw [hget]; exact hv') R' E (Grow.refl _) (.inl ⟨by omega, rfl⟩))
      · by_cases h1 : it.ao.kind = 1
        · obtain ⟨hm1, hm2⟩ := aop_reader h1 hop
          by_cases hps : s ≤ p
          · have hsame : mm p = mm s := mm_same htr hps (Nat.le_of_lt hple) noneThere
            rw [hsame] at hm2
            refine step_ok hcall hX D.rel o (aop_ok hX D.rel o k.comp (reader_aop h1 hm2)) fun ι' w' v' hv' R' E => ?_
            exact hK s pend ι' w' _ (D.next hok hp k hanc hun (by rw [hget]; exact hv') R' E (Grow.refl _) (.inl ⟨by omega, rfl⟩))
          · have hps' : p < s := by omega
            rcases D.behind with h | ⟨hit, hh, hhk⟩
            · omega
            · obtain ⟨ho, kh⟩ := hok _ _ hh
              have hne : p ≠ s - 1 := by
                intro e
                rw [← e, hp] at hh
                cases hh
                omega
              have hlh : listed.getD hit.idx false = true := (D.before _ _ hh hhk).mpr (.inl (by omega))
              have hnot : it.idx ∉ hit.anc := by
                intro e
                have := D.closed _ _ hh hlh _ e
                rw [hun] at this
                cases this
              have hin := agains_mem (A := hit.anc) (items.take (s - 1)) (p0 := 0) (p := p) (it := it) (by rw [List.getElem?_take_of_lt (by omega)]; exact hp) h1 hnot
              rw [Nat.zero_add] at hin
              obtain ⟨_, _, _, hag⟩ := htr _ _ hh
              have hag' := hag (p, ⟨it.ao, it.gd⟩) (by rw [kh.again, if_pos hhk]; exact hin)
              rw [show s - 1 + 1 = s by omega, List.getElem?_take_of_lt (by omega), hget] at hag'
              have hX2 := D.looks hok hp k hanc hun hnp (q := s) (by omega)
              rcases hag' with hag' | hag'
              · have := wanted_ok hX2 k.guard hag'
                rw [hwant] at this
                cases this
              · refine step_ok hcall hX2 D.rel o (aop_ok hX2 D.rel o k.comp (reader_aop h1 hag')) fun ι' w' v' hv' R' E => ?_
                exact hK s pend ι' w' _ (D.next hok hp k hanc hun (by rw [hget]; exact hv') R' E (Grow.refl _) (.inl ⟨by omega, rfl⟩))
        · have h2 : 2 ≤ it.ao.kind := by omega
          have hps := behindIt h2
          have hsame : mm p = mm s := mm_same htr hps (Nat.le_of_lt hple) noneThere
          rw [hsame] at hop
          have hG := Grow.aop hgrow hop
          refine step_ok hcall hX D.rel o (aop_ok hX D.rel o k.comp hop) fun ι' w' v' hv' R' E => ?_
          exact hK (p + 1) pend ι' w' _ (D.next hok hp k hanc hun (by rw [hget]; exact hv') R' E hG (.inr ⟨h2, rfl, hps, noneThere⟩))
    · have hwant : Region.wanted o (yielded ops a.tmps) = false := wanted_ok hX k.guard hwt
      simp only [hwant, Bool.false_eq_true, if_false]
      have hvu : V ι w ((L[p]?).getD .undef) undef := by rw [hget, hvt]; exact ⟨[], rfl, rfl⟩
      by_cases h2 : 2 ≤ it.ao.kind
      · have hps := behindIt h2
        have hsame : mm p = mm s := mm_same htr hps (Nat.le_of_lt hple) noneThere
        have he : mm (p + 1) = mm s := by rw [hmm, hsame]
        exact hK (p + 1) pend ι w _ (D.next hok hp k hanc hun hvu (by rw [he]; exact D.rel) (by rw [he]; exact Ext.refl _ _ _) (by rw [he]; exact Grow.refl _) (.inr ⟨h2, rfl, hps, noneThere⟩))
      · exact hK s pend ι w _ (D.next hok hp k hanc hun hvu D.rel (Ext.refl _ _ _) (Grow.refl _) (.inl ⟨by omega, rfl⟩))
  · have hnc : chained it.anc (items.take p) = false := by
      cases h : chained it.anc (items.take p) with
      | false => rfl
      | true => exact absurd (hchain h) hall
    have hnp : ∀ (i : Nat) it', i < p → items[i]? = some it' → it'.idx ∈ it.anc → ∀ c, (i, c) ∉ pend := by
      intro i it' hip hi hin c hc
      obtain ⟨_, _, it2, zero, h2, h3, _⟩ := D.pok i c hc
      rw [hi] at h2
      cases h2
      have hf := k.lfree
      unfold lateFree at hf
      rw [hnc, Bool.false_or, List.all_eq_true] at hf
      have := hf it' (List.mem_of_getElem? (i := i) (by rw [List.getElem?_take_of_lt hip]; exact hi))
      rw [h3] at this
      simp [hin] at this
    have hX := D.looks hok hp k hanc hun hnp (q := p) (Nat.le_refl _)
    unfold wpOp
    rw [k.op]
    by_cases h0 : it.ao.kind = 0
    · rcases hop with ⟨hwt, hop⟩ | ⟨hwt, hvt, hmm⟩
      · have hwant : Region.wanted o (yielded ops a.tmps) = true := wanted_ok hX k.guard hwt
        simp only [hwant, if_true]
        left
        obtain ⟨_, h2⟩ := aop_light h0 hop
        refine step_ok hcall hX D.rel o (aop_ok hX D.rel o k.comp (h2 (mm s))) fun ι' w' v' hv' R' E => ?_
        exact hK s pend ι' w' _ (D.next hok hp k hanc hun (by rw [hget]; exact hv') R' E (Grow.refl _) (.inl ⟨by omega, rfl⟩))
      · have hwant : Region.wanted o (yielded ops a.tmps) = false := wanted_ok hX k.guard hwt
        simp only [hwant, Bool.false_eq_true, if_false]
        have hvu : V ι w ((L[p]?).getD .undef) undef := by rw [hget, hvt]; exact ⟨[], rfl, rfl⟩
        exact hK s pend ι w _ (D.next hok hp k hanc hun hvu D.rel (Ext.refl _ _ _) (Grow.refl _) (.inl ⟨by omega, rfl⟩))
    · have hl : it.late = true := by
        rcases k.chain with h | h | h
        · exact absurd h h0
        · rw [hnc] at h; cases h
        · exact h
      obtain ⟨hia, hgd⟩ := k.late hl
      obtain ⟨zero, hz⟩ : ∃ zero, it.ao = .alloc zero := by
        cases hao : it.ao with
        | alloc z => exact ⟨z, rfl⟩
        | _ => rw [hao] at hia; cases hia
      have hwant : Region.wanted o (yielded ops a.tmps) = true := wanted_ok hX k.guard (b := true) (by rw [hgd]; rfl)
      simp only [hwant, if_true]
      left
      have hsp : s ≤ p := by
        rcases Nat.lt_or_ge p s with h | h
        · exfalso
          apply hall
          intro i it' hi hk' hip
          exact (D.before i it' hi hk').mpr (.inl (by omega))
        · exact h
      obtain ⟨vs, e, v', m1, m2, m3, m4⟩ := making_ok (w := w) hX o k.comp (cs := zero) (f := fun b => .ptr (some (b, 0))) (by rw [hz]; rfl)
      have hv' : v' = .pointer (some ⟨w.heap.size, 0, none⟩) := by
        obtain ⟨c, d, h1, h2⟩ := m4 [some (w.heap.size, 0)] _ 0 rfl (Shapes.refl _)
        simp at h1
        obtain ⟨rfl, rfl⟩ := h1
        exact h2
      unfold Oper.wp
      rw [m1]
      exact hK s ((p, w.heap.size) :: pend) ι _ _ (D.ahead hok hp k hanc hun hl hz hsp m2 m3 hv')

/-- whatever order is drawn -/
theorem DInv.any {Q : Exit → Act → World → Prop} (hcall : CallOk P call) (hgrow : ∀ f args m v m', call f args m = some (v, m') → Grow m m') (hcover : ∀ i, i < ops.size → ∃ it ∈ items, it.idx = i)
    (hQ : ∀ s pend ι' w' a', Rel ι' (mm items.length) w' → Ext ι0 (mm 0) w0 ι' (mm items.length) w' → (∀ p c, (p, c) ∉ pend) → DInv nt keep tm items L mm ι0 w0 ops.size (Array.replicate ops.size true) s pend ι' w' a' → Q .normal a' w') :
    ∀ (fuel : Nat) (listed : Array Bool) (s : Nat) (pend : List (Nat × Nat)) (ι : Emb) (w : World) (a : Act), listed.toList.count false ≤ fuel → DInv nt keep tm items L mm ι0 w0 ops.size listed s pend ι w a → wpAny P .any ops Q fuel listed a w := by
  have done : ∀ (listed : Array Bool) (s : Nat) (pend : List (Nat × Nat)) (ι : Emb) (w : World) (a : Act), DInv nt keep tm items L mm ι0 w0 ops.size listed s pend ι w a → Region.ready .any ops listed = [] → Q .normal a w := by
    intro listed s pend ι w a D hr
    have hall : ∀ (n : Nat) (p : Nat) it, p < n → items[p]? = some it → listed.getD it.idx false = true := by
      intro n
      induction n with
      | zero => intro p it h; omega
      | succ n ih =>
        intro p it hlt hp
        cases hl : listed.getD it.idx false with
        | true => rfl
        | false =>
          obtain ⟨o, k⟩ := hok p it hp
          have hsz : it.idx < listed.size := by rw [D.size]; exact (Array.getElem?_eq_some_iff.mp k.op).1
          have hmem : it.idx ∈ Region.ready .any ops listed := by
            rw [mem_ready]
            refine ⟨by simpa [hsz] using hl, o, k.op, fun e he hb => ?_⟩
            have hw : e.on ∈ waitsFor o := by
              unfold waitsFor
              rw [List.mem_map]
              exact ⟨e, by rw [List.mem_filter]; exact ⟨by simpa using he, hb⟩, rfl⟩
            have := ancOf_mem k.anc _ hw
            have h2 : ∃ it' ∈ items.take p, it'.idx = e.on := ancOf_in k.anc _ hw
            obtain ⟨it', h3, h4⟩ := h2
            obtain ⟨q, hq⟩ := List.getElem?_of_mem h3
            have hqp : q < p := by
              have := (List.getElem?_eq_some_iff.mp hq).1
              simp at this; omega
            rw [List.getElem?_take_of_lt hqp] at hq
            rw [← h4]
            exact ih q it' (by omega) hq
          rw [hr] at hmem
          cases hmem
    have hlisted : listed = Array.replicate ops.size true := by
      apply Array.ext
      · rw [D.size]; simp
      · intro i h1 h2
        obtain ⟨it, h3, h4⟩ := hcover i (by rw [← D.size]; exact h1)
        obtain ⟨p, hp⟩ := List.getElem?_of_mem h3
        have := hall (p + 1) p it (by omega) hp
        rw [h4] at this
        simpa [h1] using this
    obtain ⟨s, pend, ι, D, hdone⟩ := DInv.catch hok htr items.length D (fun i it hi _ _ => hall (i + 1) i it (by omega) hi)
    have hs : s ≤ items.length := by
      rcases D.behind with h | ⟨it, h, _⟩
      · omega
      · have := (List.getElem?_eq_some_iff.mp h).1; omega
    have hnone : ∀ p c, (p, c) ∉ pend := by
      intro p c hpc
      obtain ⟨h1, _, it, zero, h2, _, h3, _⟩ := D.pok p c hpc
      have := hdone p it h2 (by rw [h3]; exact Nat.le_refl _) (List.getElem?_eq_some_iff.mp h2).1
      omega
    have hsame : mm items.length = mm s := mm_same htr hs (Nat.le_refl _) fun i it hi hk hsi => by
      have h1 := hdone i it hi hk (List.getElem?_eq_some_iff.mp hi).1
      omega
    refine hQ s pend ι w a (by rw [hsame]; exact D.rel) (by rw [hsame]; exact D.ext) hnone ?_
    rw [← hlisted]
    exact D
  intro fuel
  induction fuel with
  | zero =>
    intro listed s pend ι w a hc D
    have hr : Region.ready .any ops listed = [] := by
      rw [List.eq_nil_iff_forall_not_mem]
      intro j hj
      obtain ⟨h1, o, ho, _⟩ := mem_ready.1 hj
      have hlt : j < listed.size := by rw [D.size]; exact (Array.getElem?_eq_some_iff.mp ho).1
      have : false ∈ listed.toList := by
        have h2 : listed.toList[j]? = some false := by simpa [hlt] using h1
        exact List.mem_of_getElem? h2
      have := List.count_pos_iff.mpr this
      omega
    exact ⟨hr, done listed s pend ι w a D hr⟩
  | succ fuel ih =>
    intro listed s pend ι w a hc D
    refine ⟨done listed s pend ι w a D, fun j hj => ?_⟩
    obtain ⟨h1, o, ho, hwait⟩ := mem_ready.1 hj
    have hjlt : j < ops.size := (Array.getElem?_eq_some_iff.mp ho).1
    have hlt : j < listed.size := by rw [D.size]; exact hjlt
    obtain ⟨it, h3, h4⟩ := hcover j hjlt
    obtain ⟨p, hp⟩ := List.getElem?_of_mem h3
    obtain ⟨o', k⟩ := hok p it hp
    have hoo : o' = o := by
      have := k.op
      rw [h4, ho] at this
      cases this; rfl
    subst hoo
    have hw : ∀ x ∈ waitsFor o', listed.getD x false = true := by
      intro x hx
      unfold waitsFor at hx
      rw [List.mem_map] at hx
      obtain ⟨e, he, rfl⟩ := hx
      rw [List.mem_filter] at he
      exact hwait e (by simpa using he.1) he.2
    have hun : listed.getD it.idx false = false := by rw [h4]; simpa [hlt] using h1
    have hcount : (listed.setIfInBounds j true).toList.count false ≤ fuel := by
      have h2 : listed.toList[j]? = some false := by simpa [hlt] using h1
      have hlt' : j < listed.toList.length := by simpa using hlt
      have hg : listed.toList[j] = false := by
        rw [List.getElem?_eq_getElem hlt'] at h2
        exact Option.some.inj h2
      rw [Array.toList_setIfInBounds, List.count_set hlt', hg, if_pos (by decide), if_neg (by decide)]
      omega
    have := D.run hok htr (Q := Q) hcall hgrow hp k hw hun (K := wpAny P .any ops Q fuel (listed.setIfInBounds j true)) fun s' pend' ι' w' a' D' => ih _ s' pend' ι' w' a' hcount (by rw [← h4]; exact D')
    rw [h4] at this
    exact this

end
end

theorem envD_lookup {t : Tmp} : ∀ {items : List DItem} {p0 : Nat}, (envD items p0).lookup t = (findD t items p0).map (·.1)
  | [], p0 => rfl
  | it :: rest, p0 => by
    unfold envD findD
    split
    · rename_i d e
      rw [List.lookup_cons]
      by_cases h : t = d
      · subst h
        rw [if_pos e]
        simp
      · have h1 : (t == d) = false := by simpa using h
        rw [h1, if_neg (by rw [e]; intro h2; cases h2; exact h rfl)]
        exact envD_lookup
    · rename_i e
      rw [if_neg (by rw [e]; simp)]
      exact envD_lookup

theorem draw_ok {call : FuncId → List AV → Mem → Option (AV × Mem)} (hm : P.follows .mixedOrders = true) (hcall : CallOk P call) (hgrow : ∀ f args m v m', call f args m = some (v, m') → Grow m m') {nt : Nat} {keep : List Nat} {ops : Array Oper} {order : List Nat} {items : List DItem}
    (hc : compileDraw P nt keep ops order [] = some items) (hcov : (List.range ops.size).all (fun i => items.any (·.idx == i)) = true) {tm loc : List AV} {m m' : Mem}
    (he : dops call tm (items.map fun it => ⟨it.ao, it.gd, it.again⟩) [] m = some (loc, m')) {ι : Emb} {w : World} {a : Act} (R : Rel ι m w) (I : Inv ι w nt keep tm [] [] a) {id : Nat} {Q : Exit → Act → World → Prop}
    (hQ : ∀ ι' w' a', Rel ι' m' w' → Ext ι m w ι' m' w' → Inv ι' w' nt keep tm (envD items 0) loc a' → Q .normal a' w') : (Code.region id ops true).wp P Q a w := by
  refine wp_region_any hm ?_
  obtain ⟨mm, a1, a2, a3, _, a5⟩ := dops_trace _ _ _ _ _ he
  simp only [List.length_map, List.length_nil, Nat.zero_add] at a1 a2 a3 a5
  have hok := compileDraw_ok order [] items hc (fun p it h => by simp at h)
  have htr : ∀ (p : Nat) it, items[p]? = some it → Told call tm loc mm p it.ao it.gd it.again := by
    intro p it hp
    exact a5 p ⟨it.ao, it.gd, it.again⟩ (by rw [List.getElem?_map, hp]; rfl)
  have hcover : ∀ i, i < ops.size → ∃ it ∈ items, it.idx = i := by
    intro i hi
    have := List.all_eq_true.mp hcov i (by simpa using hi)
    obtain ⟨it, h1, h2⟩ := List.any_eq_true.mp this
    exact ⟨it, h1, by simpa using h2⟩
  have hrep : ∀ i, (Array.replicate ops.size false).getD i false = false := by
    intro i
    simp [Array.getElem?_replicate]
    split <;> rfl
  refine DInv.any (call := call) (nt := nt) (keep := keep) (tm := tm) (items := items) (L := loc) (mm := mm) (ι0 := ι) (w0 := w) hok htr hcall hgrow hcover ?_ ops.size _ 0 [] ι w.drew a (by simp [List.count_replicate]) ?_
  · intro s pend ι' w' a' R' E' hnone D
    rw [a2] at R' E'
    rw [a1] at E'
    refine hQ ι' w' a' R' E' ⟨?_, ?_, D.nts, D.defers, I.len⟩
    · intro t j hl
      rw [envD_lookup, Option.map_eq_some_iff] at hl
      obtain ⟨⟨p, it⟩, hf, rfl⟩ := hl
      obtain ⟨_, h2, h3⟩ := findD_some _ hf
      rw [Nat.sub_zero] at h2
      refine ⟨by rw [a3]; exact (List.getElem?_eq_some_iff.mp h2).1, D.vals p it t h2 ?_ (fun c => hnone p c) h3⟩
      obtain ⟨o, k⟩ := hok p it h2
      have hlt := (Array.getElem?_eq_some_iff.mp k.op).1
      simp [hlt]
    · intro t s hl hs
      rw [envD_lookup, Option.map_eq_none_iff] at hl
      refine D.kept t s hs fun p it hp hd => ?_
      exact absurd hd (findD_none hl it (List.mem_of_getElem? hp))
  · refine ⟨by simp, by rw [a1]; exact R.drew, by rw [a1]; exact Ext.drew _ _ _, ?_, ?_, .inl rfl, ?_, ?_, I.size, I.defers, fun p c h => by simp at h, fun p c p' c' h => by simp at h⟩
    · intro p it _ h; rw [hrep] at h; cases h
    · intro p it _ _; rw [hrep]; simp
    · intro p it d _ h; rw [hrep] at h; cases h
    · intro t k hk _
      exact V.mono (Emb.le_refl _) (w := w) (w' := w.drew) (fun _ _ h => h) _ _ (I.kept t k rfl hk)

end
end Go.Proofs.Ytlcklonakjhoiaa.Slim
