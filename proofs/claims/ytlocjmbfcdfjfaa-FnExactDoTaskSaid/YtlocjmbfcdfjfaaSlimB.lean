/- The slim machine: how the model's code becomes slim code (checked by the kernel, a function at a time), and the evaluator of code. -/
import Derived.Test.YtlocjmbfcdfjfaaSlimA
namespace Go.Proofs.Ytlocjmbfcdfjfaa.Slim
open Go

def ofCell : Value → Option AV
  | .bool b => some (.bool b)
  | .int k n => some (.int k n)
  | .string s => some (.str s)
  | .pointer none => some (.ptr none)
  | .slice none 0 0 => some nilSlice
  | .nilFunc => some .nilfn
  | .nilIface => some .nilif
  | .map none => some (.map none)
  | _ => none

def ofCells : List Value → Option (List AV)
  | [] => some []
  | v :: vs => match ofCell v, ofCells vs with
    | some a, some as => some (a :: as)
    | _, _ => none

def ofConst : Value → Option AV
  | .agg cs => (ofCells cs.toList).map .agg
  | v => ofCell v

def aggT (P : Program) (t : TypeId) : Option Bool :=
  match P.underlying t with
  | some (.struct _) => some true
  | some (.array _ _) => some true
  | some _ => some false
  | none => none

def szT (P : Program) (t : TypeId) : Option Nat := (P.info? t).map (·.size)
def bytesT (P : Program) (t : TypeId) : Option Nat := (P.info? t).map (·.bytes)
def zeroT (P : Program) (t : TypeId) : Option (List AV) :=
  match (P.info? t).map (·.zero) with
  | some (some v) => ofCells v.cells.toList
  | _ => none

/-- the kind of a plain cell: 0 a number, 1 a bool, 2 a string -/
def scalarT (P : Program) (t : TypeId) : Option Nat :=
  match P.underlying t with
  | some (.int _) => some 0
  | some .bool => some 1
  | some .string => some 2
  | _ => none

def fieldKinds (P : Program) : List (Field × Nat) → Option (List Nat)
  | [] => some []
  | (f, i) :: fs => match scalarT P f.type, fieldKinds P fs with
    | some k, some ks => if f.offset = i ∧ f.name ≠ "_" then some (k :: ks) else none
    | _, _ => none

/-- a struct or an array of plain cells: equal exactly if its cells are -/
def flatT (P : Program) (t : TypeId) : Option (List Nat) :=
  if P.eqGuardType P.depth t then none else
  match P.underlying t with
  | some (.struct fs) => if P.stoodInHeld t then none else fieldKinds P fs.toList.zipIdx
  | some (.array n e) => match scalarT P e, szT P e with
    | some k, some 1 => some (List.replicate n k)
    | _, _ => none
  | _ => none

abbrev Look := Operand → Option X

def mapX (cx : Look) : List Operand → Option (List X)
  | [] => some []
  | o :: os => match cx o, mapX cx os with
    | some x, some xs => some (x :: xs)
    | _, _ => none

def optX (cx : Look) : Option Operand → Option (Option X)
  | none => some none
  | some o => (cx o).map some

/-- the parts of a composite: where each lies, and its size -/
def partsX (cx : Look) (place : Nat → Option (Nat × Nat)) : List (Nat × Operand) → Option (List (Nat × Nat × X))
  | [] => some []
  | (i, o) :: rest => match place i, cx o, partsX cx place rest with
    | some (off, sz), some x, some xs => some ((off, sz, x) :: xs)
    | _, _, _ => none

def fieldsPlace (P : Program) (fs : Array Field) (i : Nat) : Option (Nat × Nat) :=
  match fs[i]? with
  | some f => (szT P f.type).map fun s => (f.offset, s)
  | none => none

def zerosOf (n : Nat) (zero : List AV) : List AV := zeros n zero

def compileCall (P : Program) (cx : Look) (c : Call) : Option AO :=
  match c.callee with
  | .value f => do
    let x ← cx f
    let xs ← mapX cx c.args.toList
    pure (.call x xs)
  | .builtin .len => match c.argTypes[0]?, c.args[0]? with
    | some t, some o => match P.underlying t with
      | some .string => (cx o).map .lenStr
      | some (.slice _) => (cx o).map .len
      | some (.array n _) => some (.lenA n)
      | _ => none
    | _, _ => none
  | .builtin .append => match c.argTypes[0]?, c.argTypes[1]?, c.args[0]?, c.args[1]? with
    | some t, some u, some s, some x => match P.underlying t, P.underlying u with
      | some (.slice e), some (.slice _) => do
        let sz ← szT P e
        let by' ← bytesT P e
        let a ← cx s
        let b ← cx x
        if 0 < by' && 0 < sz && (zeroT P e).map (·.length) == some sz then pure (.append false sz by' a b) else none
      | some (.slice e), some .string => do
        let sz ← szT P e
        let by' ← bytesT P e
        let a ← cx s
        let b ← cx x
        if by' == 1 && sz == 1 && (zeroT P e).map (·.length) == some sz then pure (.append true sz by' a b) else none
      | _, _ => none
    | _, _, _, _ => none
  | .builtin .max => match c.args.toList with
    | [a, b] => match cx a, cx b with
      | some x, some y => some (.max2 x y)
      | _, _ => none
    | _ => none
  | .builtin .min => match c.args.toList with
    | [a, b] => match cx a, cx b with
      | some x, some y => some (.min2 x y)
      | _, _ => none
    | _ => none
  | _ => none

def compileOp (P : Program) (cx : Look) (o : Op) : Option AO :=
  match o with
  | .move x => (cx x).map .mv
  | .assign x => (cx x).map .mv
  | .pick c a b => do pure (.pick (← cx c) (← cx a) (← cx b))
  | .alloc e => (zeroT P e).map .alloc
  | .box _ x => (cx x).map .box
  | .build t parts => match P.underlying t with
    | some (.struct fs) => do
      let zero ← zeroT P t
      if fs.toList.all (fun f => (szT P f.type).isSome) then pure (.build zero (← partsX cx (fieldsPlace P fs) parts.toList)) else none
    | some (.array _ e) => do
      let zero ← zeroT P t
      let sz ← szT P e
      pure (.build zero (← partsX cx (fun i => some (i * sz, sz)) parts.toList))
    | _ => none
  | .buildSlice t len parts => match P.underlying t with
    | some (.slice e) => do
      let sz ← szT P e
      let zero ← zeroT P e
      if len * sz ≤ 16777216 && 0 < sz && zero.length == sz then pure (.buildSlice sz len (zeros len zero) (← partsX cx (fun i => some (i * sz, sz)) parts.toList)) else none
    | _ => none
  | .load t a => do pure (.load (← aggT P t) (← szT P t) (← cx a))
  | .store t a x => do pure (.store (← szT P t) (← cx a) (← cx x))
  | .nilCheck x => (cx x).map .nilCheck
  | .binOp op t x y _ =>
    match P.underlying t with
      | some (.struct _) | some (.array _ _) =>
        if op == .eql || op == .neq then do pure (.eqCells (← flatT P t) (op == .neq) (← cx x) (← cx y)) else none
      | some (.int _) => do pure (.bin 0 op (← cx x) (← cx y))
      | some .string => do pure (.bin 1 op (← cx x) (← cx y))
      | some .bool => do pure (.bin 2 op (← cx x) (← cx y))
      | some (.slice _) => do pure (.bin 3 op (← cx x) (← cx y))
      | some (.interface _) => match y with
        | .const _ => do pure (.bin 4 op (← cx x) (← cx y))
        | _ => none
      | _ => none
  | .unOp op _ x => do pure (.un op (← cx x))
  | .convert src dst x => match P.underlying src, P.underlying dst with
    | some (.int _), some (.int k) => (cx x).map (.conv k)
    | some .string, some .string => (cx x).map .same
    | some .string, some (.slice e) => match P.underlying e, szT P e with
      | some (.int .u8), some 1 => (cx x).map .toBytes
      | _, _ => none
    | some (.slice e), some .string => match P.underlying e, szT P e with
      | some (.int .u8), some 1 => (cx x).map .ofBytes
      | _, _ => none
    | _, _ => none
  | .makeFunc (.func f) first captured => do pure (.makeFunc f (← mapX cx first.toList) (← mapX cx captured.toList))
  | .makeSlice t l c => match P.underlying t with
    | some (.slice e) => do
      let sz ← szT P e
      let by' ← bytesT P e
      let zero ← zeroT P e
      if 0 < sz && 0 < by' && zero.length == sz then pure (.makeSlice sz by' zero (← cx l) (← cx c)) else none
    | _ => none
  | .slice t x lo hi mx => match P.underlying t with
    | some .string => match mx with
      | none => do pure (.sliceStr (← cx x) (← optX cx lo) (← optX cx hi))
      | some _ => none
    | some (.slice e) => do
      let sz ← szT P e
      if 0 < sz then pure (.sliceSl sz (← cx x) (← optX cx lo) (← optX cx hi) (← optX cx mx)) else none
    | some (.array n e) => do
      let sz ← szT P e
      if 0 < sz then pure (.sliceArr n sz (← cx x) (← optX cx lo) (← optX cx hi) (← optX cx mx)) else none
    | _ => none
  | .fieldAddr s x i => match P.underlying s with
    | some (.struct fs) => match fs[i]? with
      | some f => match szT P f.type with
        | some (_ + 1) => (cx x).map (.fieldAddr f.offset)
        | _ => none
      | none => none
    | _ => none
  | .field t x i => match P.underlying t with
    | some (.struct fs) => match fs[i]? with
      | some f => do pure (.field (← aggT P f.type) f.offset (← szT P f.type) (← cx x))
      | none => none
    | _ => none
  | .indexAddr t x i => match P.underlying t with
    | some (.slice e) => do pure (.indexAddrS (← szT P e) (← cx x) (← cx i))
    | some (.array n e) => do pure (.indexAddrA n (← szT P e) (← cx x) (← cx i))
    | _ => none
  | .index t x i => match P.underlying t with
    | some (.array n e) => do pure (.indexA (← aggT P e) n (← szT P e) (← cx x) (← cx i))
    | some .string => do pure (.indexS (← cx x) (← cx i))
    | _ => none
  | .extract x i => (cx x).map (.extract i)
  | .call c => compileCall P cx c
  | _ => none

/-- operands: what this region has made so far, a kept slot, or nothing known -/
def cxOf (keep : List Nat) (env : List (Nat × Nat)) : Look
  | .tmp t => match env.lookup t with
    | some j => some (.l j)
    | none => match keep.idxOf? t with
      | some s => some (.t s)
      | none => some (.c .undef)
  | .const v => (ofConst v).map .c
  | .func f => some (.c (.fn f [] []))
  | .global _ => none

/-- the guard's operation lies ahead: its slot is read -/
def guardX (ops : Array Oper) (cx : Look) : Option (Nat × Bool) → Option (Option (X × Bool))
  | none => some none
  | some (j, b) => match (ops[j]?).bind (·.dst) with
    | some d => (cx (.tmp d)).map fun x => some (x, b)
    | none => none

def envPut (env : List (Nat × Nat)) (dst : Option Tmp) (i : Nat) : List (Nat × Nat) :=
  match dst with
  | some d => (d, i) :: env
  | none => env

def dstOk (nt : Nat) : Option Tmp → Bool
  | some d => d < nt
  | none => true

def compileOps (P : Program) (nt : Nat) (keep : List Nat) (all : Array Oper) : List Oper → Nat → List (Nat × Nat) → Option (List AOper × List (Nat × Nat))
  | [], _, env => some ([], env)
  | o :: rest, i, env =>
    match compileOp P (cxOf keep env) o.op, guardX all (cxOf keep env) o.guard,
      compileOps P nt keep all rest (i + 1) (envPut env o.dst i) with
    | some a, some g, some (as, env') => if dstOk nt o.dst then some (⟨a, g⟩ :: as, env') else none
    | _, _, _ => none

/-- the kept slots that a region writes: from slot s on -/
def outsFrom (env : List (Nat × Nat)) : List Nat → Nat → List (Nat × Nat)
  | [], _ => []
  | t :: ks, s => match env.lookup t with
    | some j => (s, j) :: outsFrom env ks (s + 1)
    | none => outsFrom env ks (s + 1)

end Go.Proofs.Ytlocjmbfcdfjfaa.Slim
