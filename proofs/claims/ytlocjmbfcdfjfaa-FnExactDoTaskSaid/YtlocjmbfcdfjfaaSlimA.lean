/- The slim machine: its values, memory, operations, code, and the evaluator. -/
import Derived.Calls
import Derived.LoopN
import Derived.Orders
import Derived.Below
namespace Go.Proofs.Ytlocjmbfcdfjfaa.Slim
open Go

/-- A value of the slim machine. Addresses are numbers of slim blocks. 'undef' tells nothing. -/
inductive AV where
  | undef
  | bool (b : Bool)
  | int (k : IntKind) (n : Int)
  | str (s : ByteArray)
  | agg (cs : List AV)
  | tup (vs : List AV)
  | ptr (p : Option (Nat × Nat))
  | slice (p : Option (Nat × Nat)) (sz len : Nat) (cap : Option Nat)
  | fn (f : FuncId) (first captured : List AV)
  | nilfn
  | map (m : Option Nat)
  | nilif
  | someif
  deriving Inhabited

abbrev nilSlice : AV := .slice none 0 0 none

/-- Can stand in one cell of memory. -/
def AV.isCell : AV → Bool
  | .undef | .agg _ | .tup _ => false
  | _ => true

inductive Blk where
  | dead
  | cells (cs : List AV) (wr : Bool)
  deriving Inhabited

structure Mem where
  H : List Blk
  esc : Option Nat

/-- operands: a kept slot, the result of an operation of this region, a constant. -/
inductive X where
  | t (s : Nat)
  | l (j : Nat)
  | c (v : AV)
  deriving Inhabited

inductive AO where
  | mv (x : X)
  | pick (c a b : X)
  | alloc (zero : List AV)
  | box (x : X)
  | build (zero : List AV) (parts : List (Nat × Nat × X))
  | buildSlice (sz len : Nat) (zero : List AV) (parts : List (Nat × Nat × X))
  | load (agg : Bool) (sz : Nat) (x : X)
  | store (sz : Nat) (a x : X)
  | nilCheck (x : X)
  | bin (cls : Nat) (op : BinOp) (x y : X)
  | eqCells (ks : List Nat) (neg : Bool) (x y : X)
  | un (op : UnOp) (x : X)
  | conv (k : IntKind) (x : X)
  | same (x : X)
  | toBytes (x : X)
  | ofBytes (x : X)
  | makeFunc (f : FuncId) (first captured : List X)
  | makeSlice (sz bytes : Nat) (zero : List AV) (len cap : X)
  | sliceStr (x : X) (lo hi : Option X)
  | sliceSl (sz : Nat) (x : X) (lo hi mx : Option X)
  | sliceArr (n sz : Nat) (x : X) (lo hi mx : Option X)
  | fieldAddr (off : Nat) (x : X)
  | field (agg : Bool) (off sz : Nat) (x : X)
  | indexAddrS (sz : Nat) (x i : X)
  | indexAddrA (n sz : Nat) (x i : X)
  | indexA (agg : Bool) (n sz : Nat) (x i : X)
  | indexS (x i : X)
  | extract (i : Nat) (x : X)
  | len (x : X)
  | lenStr (x : X)
  | lenA (n : Nat)
  | append (str : Bool) (sz bytes : Nat) (s x : X)
  | max2 (x y : X)
  | min2 (x y : X)
  | call (f : X) (args : List X)
  deriving Inhabited

structure AOper where
  op : AO
  guard : Option (X × Bool)
  deriving Inhabited

/-- An operation of a region that draws its order, and what it is told anew behind it: the operations that read memory and may come later. -/
structure DE where
  op : AO
  guard : Option (X × Bool)
  again : List (Nat × AOper)
  deriving Inhabited

inductive ACode where
  | skip
  | region (ops : List AOper) (outs : List (Nat × Nat))
  | draw (es : List DE) (outs : List (Nat × Nat))
  | seq (a b : ACode)
  | cond (c : X) (thn els : ACode)
  | block (id : Nat) (body : ACode)
  | loop (body : ACode)
  | exit (id : Nat)
  | ret
  deriving Inhabited

inductive AR where
  | tmp (s : Nat)
  | cell (s : Nat) (agg : Bool) (sz : Nat)

structure AFun where
  keep : List Nat
  ntmps : Nat
  code : ACode
  results : List AR
  mode : Nat

inductive Ex where
  | normal | exit (id : Nat) | ret
  deriving DecidableEq

def get (tm loc : List AV) : X → AV
  | .t s => (tm[s]?).getD .undef
  | .l j => (loc[j]?).getD .undef
  | .c v => v

/-- The cells that a value takes in memory. -/
def cellsOf : AV → Option (List AV)
  | .undef | .tup _ => none
  | .agg cs => some cs
  | v => some [v]

def setRange (cs : List AV) (off : Nat) (new : List AV) : List AV := cs.take off ++ new ++ cs.drop (off + new.length)

def fillParts (g : X → AV) : List AV → List (Nat × Nat × X) → Option (List AV)
  | cs, [] => some cs
  | cs, (off, sz, x) :: rest =>
    match cellsOf (g x) with
    | none => none
    | some new => if new.length = sz ∧ off + sz ≤ cs.length then fillParts g (setRange cs off new) rest else none

/-- the numbers of blocks that a value names are below n -/
def AV.under (n : Nat) : AV → Bool
  | .ptr (some (b, _)) => b < n
  | .slice (some (b, _)) _ _ _ => b < n
  | .map (some b) => b < n
  | .agg cs => go cs
  | .tup vs => go vs
  | .fn _ a b => go a && go b
  | _ => true
where go : List AV → Bool
  | [] => true
  | v :: vs => v.under n && go vs

def minEsc : Option Nat → Nat → Option Nat
  | none, b => some b
  | some e, b => some (min e b)

def joinEsc : Option Nat → Option Nat → Option Nat
  | e, none => e
  | e, some b => minEsc e b

def cellsAt (H : List Blk) (b : Nat) : Option (List AV) :=
  match H[b]? with
  | some (.cells cs _) => some cs
  | _ => none

def loadAt (H : List Blk) (agg : Bool) (sz : Nat) : AV → Option AV
  | .ptr (some (b, o)) =>
    match cellsAt H b with
    | none => none
    | some cs =>
      if agg then (if o + sz ≤ cs.length then some (.agg ((cs.drop o).take sz)) else none)
      else cs[o]?
  | _ => none

def part (agg : Bool) (cs : List AV) (off sz : Nat) : Option AV :=
  if agg then (if off + sz ≤ cs.length then some (.agg ((cs.drop off).take sz)) else none) else cs[off]?

def intOp (op : BinOp) (k : IntKind) (x y : Int) : Option AV :=
  match op with
  | .add => some (.int k (k.wrap (x + y)))
  | .sub => some (.int k (k.wrap (x - y)))
  | .mul => some (.int k (k.wrap (x * y)))
  | .quo => if y = 0 then none else some (.int k (k.wrap (x.tdiv y)))
  | .rem => if y = 0 then none else some (.int k (x.tmod y))
  | .and => some (.int k (k.wrap (BitVec.ofInt k.bits x &&& BitVec.ofInt k.bits y).toNat))
  | .or => some (.int k (k.wrap (BitVec.ofInt k.bits x ||| BitVec.ofInt k.bits y).toNat))
  | .xor => some (.int k (k.wrap (BitVec.ofInt k.bits x ^^^ BitVec.ofInt k.bits y).toNat))
  | .andNot => some (.int k (k.wrap (BitVec.ofInt k.bits x &&& ~~~BitVec.ofInt k.bits y).toNat))
  | .eql => some (.bool (decide (x = y)))
  | .neq => some (.bool (!decide (x = y)))
  | .lss => some (.bool (decide (x < y)))
  | .leq => some (.bool (decide (x ≤ y)))
  | .gtr => some (.bool (decide (y < x)))
  | .geq => some (.bool (decide (y ≤ x)))
  | .shl => if y < 0 then none else some (.int k (k.wrap (x * 2 ^ (min y.toNat k.bits))))
  | .shr => if y < 0 then none else some (.int k (x.fdiv (2 ^ (min y.toNat k.bits))))

/-- cls: what the operands' type is: 0 a number, 1 a string, 2 a bool, 3 a slice (against nil), 4 an interface (against nil) -/
def binop (cls : Nat) (op : BinOp) (a b : AV) : Option AV :=
  match cls, a, b with
  | 0, .int k x, .int k' y => if k = k' ∨ op = .shl ∨ op = .shr then intOp op k x y else none
  | 1, .str a, .str b =>
    match op with
    | .add => if a.size + b.size ≤ 140737488355328 then some (.str (a ++ b)) else none
    | .eql => some (.bool (decide (a = b)))
    | .neq => some (.bool (!decide (a = b)))
    | .lss => some (.bool (Op.bytesLess a.toList b.toList))
    | _ => none
  | 2, .bool a, .bool b =>
    match op with
    | .eql => some (.bool (a == b))
    | .neq => some (.bool (!(a == b)))
    | _ => none
  | 3, .slice p _ _ _, .slice none _ _ _ =>
    match op with
    | .eql => some (.bool p.isNone)
    | .neq => some (.bool (!p.isNone))
    | _ => none
  | 4, .nilif, .nilif =>
    match op with
    | .eql => some (.bool true)
    | .neq => some (.bool false)
    | _ => none
  | 4, .someif, .nilif =>
    match op with
    | .eql => some (.bool false)
    | .neq => some (.bool true)
    | _ => none
  | _, _, _ => none

def unop (op : UnOp) (a : AV) : Option AV :=
  match op, a with
  | .neg, .int k n => some (.int k (k.wrap (0 - n)))
  | .xor, .int k n => intOp .xor k (if k.signed then -1 else k.max) n
  | .not, .bool b => some (.bool !b)
  | _, _ => none

def eqCell (k : Nat) (a b : AV) : Option Bool :=
  match k, a, b with
  | 0, .int k x, .int k' y => if k = k' then some (decide (x = y)) else none
  | 1, .bool a, .bool b => some (a == b)
  | 2, .str a, .str b => some (decide (a = b))
  | _, _, _ => none

def eqList : List Nat → List AV → List AV → Option Bool
  | [], [], [] => some true
  | k :: ks, x :: xs, y :: ys =>
    match eqCell k x y, eqList ks xs ys with
    | some a, some b => some (a && b)
    | _, _ => none
  | _, _, _ => none

def natOf : AV → Option Nat
  | .int _ n => if 0 ≤ n then some n.toNat else none
  | _ => none

/-- the bound of a slice expression; what is not told is d -/
def bound (g : X → AV) (x : Option X) (d : Nat) : Option Nat :=
  match x with
  | none => some d
  | some x => natOf (g x)

def bytesOf (s : ByteArray) : List AV := s.data.toList.map fun b => .int .u8 b.toNat

def byteOf : AV → Option UInt8
  | .int .u8 n => some (UInt8.ofNat n.toNat)
  | _ => none

def ofBytesL : List AV → Option (List UInt8)
  | [] => some []
  | v :: vs => match byteOf v, ofBytesL vs with
    | some b, some bs => some (b :: bs)
    | _, _ => none

/-- the elements of a slice, or the bytes of a string, as cells; what is not in memory is none -/
def srcCells (str : Bool) (H : List Blk) : AV → Option (Nat × List AV)
  | .slice none _ _ _ => if str then none else some (0, [])
  | .slice (some (b, o)) sz n _ =>
    if str then none else
    match cellsAt H b with
    | none => none
    | some cs => if o + n * sz ≤ cs.length then some (n, (cs.drop o).take (n * sz)) else none
  | .str s => if str then some (s.size, bytesOf s) else none
  | _ => none

def zeros (n : Nat) (zero : List AV) : List AV := (List.replicate n zero).flatten

def newBlk (m : Mem) (cs : List AV) : Mem := { m with H := m.H ++ [.cells cs true] }

def maxBytes : Nat := 35184372088832

def optNat (g : X → AV) : Option X → Option (Option Nat)
  | none => some none
  | some x => (natOf (g x)).map some

def sliceVal (sz : Nat) (p : Option (Nat × Nat)) (sz' n : Nat) (cap : Option Nat) (l h : Nat) (m : Option Nat) : Option AV :=
  match p with
  | none => if l = 0 ∧ h = 0 ∧ (m = none ∨ m = some 0) then some nilSlice else none
  | some (b, o) =>
    if sz' = sz ∧ l ≤ h ∧ h ≤ m.getD n ∧ m.getD n ≤ n then
      some (.slice (some (b, o + l * sz)) sz (h - l) (match m with | none => cap.map (· - l) | some m => some (m - l)))
    else none

/-- the operations that read no memory -/
def light (g : X → AV) : AO → Option AV
  | .mv x => some (g x)
  | .pick c a b => match g c with
    | .bool true => some (g a)
    | .bool false => some (g b)
    | _ => none
  | .build zero parts => (fillParts g zero parts).map .agg
  | .nilCheck x => match g x with
    | .ptr (some p) => some (.ptr (some p))
    | .fn f a b => some (.fn f a b)
    | _ => none
  | .bin cls op x y => binop cls op (g x) (g y)
  | .eqCells ks neg x y => match g x, g y with
    | .agg xs, .agg ys => (eqList ks xs ys).map fun b => .bool (if neg then !b else b)
    | _, _ => none
  | .un op x => unop op (g x)
  | .conv k x => match g x with
    | .int _ n => some (.int k (k.wrap n))
    | _ => none
  | .same x => match g x with
    | .str s => some (.str s)
    | _ => none
  | .makeFunc f first captured => some (.fn f (first.map g) (captured.map g))
  | .sliceStr x lo hi => match g x with
    | .str s => match bound g hi s.size, bound g lo 0 with
      | some h, some l => if l ≤ h ∧ h ≤ s.size then some (.str (s.extract l h)) else none
      | _, _ => none
    | _ => none
  | .sliceSl sz x lo hi mx => match g x with
    | .slice p sz' n cap => match bound g hi n, bound g lo 0, optNat g mx with
      | some h, some l, some m => if mx = none ∨ hi ≠ none then sliceVal sz p sz' n cap l h m else none
      | _, _, _ => none
    | _ => none
  | .fieldAddr off x => match g x with
    | .ptr (some (b, o)) => some (.ptr (some (b, o + off)))
    | _ => none
  | .field agg off sz x => match g x with
    | .agg cs => part agg cs off sz
    | _ => none
  | .indexAddrS sz x i => match g x, g i with
    | .slice (some (b, o)) sz' n _, .int _ i => if 0 ≤ i ∧ i < n ∧ sz' = sz then some (.ptr (some (b, o + i.toNat * sz))) else none
    | _, _ => none
  | .indexAddrA n sz x i => match g x, g i with
    | .ptr (some (b, o)), .int _ i => if 0 ≤ i ∧ i < n then some (.ptr (some (b, o + i.toNat * sz))) else none
    | _, _ => none
  | .indexA agg n sz x i => match g x, g i with
    | .agg cs, .int _ i => if 0 ≤ i ∧ i < n then part agg cs (i.toNat * sz) sz else none
    | _, _ => none
  | .indexS x i => match g x, g i with
    | .str s, .int _ i => if 0 ≤ i then (s[i.toNat]?).map fun b => .int .u8 b.toNat else none
    | _, _ => none
  | .extract i x => match g x with
    | .tup vs => vs[i]?
    | _ => none
  | .len x => match g x with
    | .slice _ _ n _ => some (.int .i64 n)
    | _ => none
  | .lenStr x => match g x with
    | .str s => some (.int .i64 s.size)
    | _ => none
  | .lenA n => some (.int .i64 n)
  | .max2 x y => match g x, g y with
    | .int k a, .int k' b => if k = k' then some (.int k (if b > a then b else a)) else none
    | _, _ => none
  | .min2 x y => match g x, g y with
    | .int k a, .int k' b => if k = k' then some (.int k (if b < a then b else a)) else none
    | _, _ => none
  | _ => none

/-- the operations that read memory and leave it alone -/
def memop (g : X → AV) (H : List Blk) : AO → Option AV
  | .load agg sz x => loadAt H agg sz (g x)
  | .ofBytes x => match g x with
    | .slice p sz n c => match srcCells false H (.slice p sz n c) with
      | some (_, cs) => if sz = 1 ∨ p = none then (ofBytesL cs).map fun bs => .str ⟨bs.toArray⟩ else none
      | none => none
    | _ => none
  | .sliceArr n sz x lo hi mx => match g x with
    | .ptr (some (b, o)) => match H[b]?, bound g hi n, bound g lo 0, optNat g mx with
      | some (.cells cs true), some h, some l, some m =>
        if (mx = none ∨ hi ≠ none) ∧ 0 < cs.length ∧ o + n * sz ≤ cs.length then sliceVal sz (some (b, o)) sz n (some n) l h m else none
      | _, _, _, _ => none
    | _ => none
  | _ => none

/-- the operations that make one block: its cells, and the value as a function of the block's number -/
def making (g : X → AV) : AO → Option (List AV × (Nat → AV))
  | .alloc zero => some (zero, fun b => .ptr (some (b, 0)))
  | .box x => (cellsOf (g x)).map fun cs => (cs, fun b => .ptr (some (b, 0)))
  | .buildSlice sz len zero parts => (fillParts g zero parts).map fun cs => (cs, fun b => .slice (some (b, 0)) sz len (some len))
  | _ => none

/-- the operations that write -/
def heavy (call : FuncId → List AV → Mem → Option (AV × Mem)) (g : X → AV) (m : Mem) : AO → Option (AV × Mem)
  | .store sz a x => match g a, cellsOf (g x) with
    | .ptr (some (b, o)), some new => match m.H[b]? with
      | some (.cells cs true) =>
        if new.length = sz ∧ 0 < sz ∧ o + sz ≤ cs.length then
          some (.tup [], { H := m.H.set b (.cells (setRange cs o new) true), esc := if (new.all fun v => v.under (b + 1)) then m.esc else minEsc m.esc b })
        else none
      | _ => none
    | _, _ => none
  | .toBytes x => match g x with
    | .str s => if s.size ≤ maxBytes then some (.slice (some (m.H.length, 0)) 1 s.size none, newBlk m (bytesOf s)) else none
    | _ => none
  | .makeSlice sz bytes zero len cap => match g len, g cap with
    | .int .i64 l, .int .i64 c => if 0 ≤ l ∧ l = c ∧ l * bytes ≤ maxBytes then
        some (.slice (some (m.H.length, 0)) sz l.toNat (some l.toNat), newBlk m (zeros l.toNat zero)) else none
    | _, _ => none
  | .append str sz bytes s x => match g s with
    | .slice none _ _ _ => match srcCells str m.H (g x) with
      | some (n, cs) => if n = 0 then some (nilSlice, m)
          else if n * bytes ≤ maxBytes ∧ cs.length = n * sz then some (.slice (some (m.H.length, 0)) sz n none, newBlk m cs) else none
      | none => none
    | .slice (some (b, o)) sz' n cap => match m.H[b]?, srcCells str m.H (g x) with
      | some (.cells old wr), some (k, cs) =>
        if sz' = sz ∧ (n + k) * bytes ≤ maxBytes ∧ cs.length = k * sz ∧ o + n * sz ≤ old.length then
          if cap = some 0 ∧ 0 < k then some (.slice (some (m.H.length, 0)) sz (n + k) none, newBlk m cs)
          else if wr then some (.slice (some (m.H.length, 0)) sz (n + k) none, { m with H := m.H.set b .dead ++ [.cells ((old.drop o).take (n * sz) ++ cs) true] })
          else none
        else none
      | _, _ => none
    | _ => none
  | .call f args => match g f with
    | .fn f first captured => call f (first ++ args.map g ++ captured) m
    | _ => none
  | _ => none

def aop (call : FuncId → List AV → Mem → Option (AV × Mem)) (g : X → AV) (m : Mem) (op : AO) : Option (AV × Mem) :=
  match light g op with
  | some v => some (v, m)
  | none => match memop g m.H op with
    | some v => some (v, m)
    | none => match making g op with
      | some (cs, v) => some (v m.H.length, newBlk m cs)
      | none => heavy call g m op

/-- is the operation to be carried out? none: cannot be told -/
def wanted (g : X → AV) : Option (X × Bool) → Option Bool
  | none => some true
  | some (x, b) => match g x with
    | .bool c => some (c == b)
    | .tup [] => some false
    | _ => none

def aops (call : FuncId → List AV → Mem → Option (AV × Mem)) (tm : List AV) : List AOper → List AV → Mem → Option (List AV × Mem)
  | [], loc, m => some (loc, m)
  | o :: rest, loc, m =>
    match wanted (get tm loc) o.guard with
    | none => none
    | some false => aops call tm rest (loc ++ [.tup []]) m
    | some true => match aop call (get tm loc) m o.op with
      | none => none
      | some (v, m) => aops call tm rest (loc ++ [v]) m

def setOuts (tm loc : List AV) : List (Nat × Nat) → List AV
  | [] => tm
  | (s, j) :: rest => setOuts (tm.set s ((loc[j]?).getD .undef)) loc rest

end Go.Proofs.Ytlocjmbfcdfjfaa.Slim
