/- Parts of the proof. -/
import Derived.Calls
import Derived.LoopN
import Derived.Orders
import Derived.Below
set_option linter.unusedSimpArgs false
set_option linter.unusedVariables false
namespace Go.Proofs.YtemcdiajejekoaaGreatDoor.Slim
open Go
inductive AV where
 | undef
 | bool (b:Bool)
 | int (k:IntKind) (n:Int)
 | str (s:ByteArray)
 | agg (cs:List AV)
 | tup (vs:List AV)
 | ptr (p:Option (Nat×Nat))
 | slice (p:Option (Nat×Nat)) (sz len:Nat) (cap:Option Nat)
 | fn (f:FuncId) (first captured:List AV)
 | nilfn
 | map (m:Option Nat)
 | nilif
 | someif
 deriving Inhabited
abbrev Kp:AV:=.slice none 0 0 none
def AV.isCell:AV→Bool
 | .undef | .agg _ | .tup _=>false
 | _=>true
inductive Blk where
 | dead
 | cells (cs:List AV) (wr:Bool)
 | mp (es:List (List Int×Int))
 deriving Inhabited
def Blk.wrt:Blk→Prop
 | .dead=>False
 | .cells _ wr=>wr=true
 | .mp _=>True
def Blk.live:Blk→Prop
 | .dead=>False
 | _=>True
structure Mem where
 H:List Blk
 esc:Option Nat
inductive X where
 | t (s:Nat)
 | l (j:Nat)
 | c (v:AV)
 deriving Inhabited
inductive AO where
 | mv (x:X)
 | pick (c a b:X)
 | alloc (zero:List AV)
 | box (x:X)
 | build (zero:List AV) (parts:List (Nat×Nat×X))
 | buildSlice (sz len:Nat) (zero:List AV) (parts:List (Nat×Nat×X))
 | load (agg:Bool) (sz:Nat) (x:X)
 | store (sz:Nat) (a x:X)
 | nilCheck (x:X)
 | bin (cls:Nat) (op:BinOp) (x y:X)
 | eqCells (ks:List Nat) (neg:Bool) (x y:X)
 | un (op:UnOp) (x:X)
 | conv (k:IntKind) (x:X)
 | same (x:X)
 | toBytes (x:X)
 | ofBytes (x:X)
 | makeFunc (f:FuncId) (first captured:List X)
 | makeSlice (sz bytes:Nat) (zero:List AV) (len cap:X)
 | sliceStr (x:X) (lo hi:Option X)
 | sliceSl (sz:Nat) (x:X) (lo hi mx:Option X)
 | sliceArr (n sz:Nat) (x:X) (lo hi mx:Option X)
 | fieldAddr (off:Nat) (x:X)
 | field (agg:Bool) (off sz:Nat) (x:X)
 | indexAddrS (sz:Nat) (x i:X)
 | indexAddrA (n sz:Nat) (x i:X)
 | indexA (agg:Bool) (n sz:Nat) (x i:X)
 | indexS (x i:X)
 | extract (i:Nat) (x:X)
 | len (x:X)
 | lenStr (x:X)
 | lenA (n:Nat)
 | append (str:Bool) (sz bytes:Nat) (s x:X)
 | max2 (x y:X)
 | min2 (x y:X)
 | newMap
 | putMap (m k v:X)
 | getMap (ok:Bool) (m k:X)
 | lenMap (m:X)
 | mkit (m:X)
 | itNext (x:X)
 | itEntry (x:X)
 | call (f:X) (args:List X)
 deriving Inhabited
structure YS where
 op:AO
 guard:Option (X×Bool)
 deriving Inhabited
structure DE where
 op:AO
 guard:Option (X×Bool)
 again:List (Nat×YS)
 deriving Inhabited
inductive Zg where
 | skip
 | region (ops:List YS) (outs:List (Nat×Nat))
 | draw (es:List DE) (outs:List (Nat×Nat))
 | seq (a b:Zg)
 | cond (c:X) (thn els:Zg)
 | block (id:Nat) (body:Zg)
 | loop (body:Zg)
 | exit (id:Nat)
 | ret
 | mloop (pre:List DE) (outs0:List (Nat×Nat)) (mx it it' c:X) (outs2:List (Nat×Nat)) (az:List YS) (outs3:List (Nat×Nat)) (nxt:Nat) (body:Zg)
 deriving Inhabited
inductive AR where
 | tmp (s:Nat)
 | cell (s:Nat) (agg:Bool) (sz:Nat)
structure ZZ where
 keep:List Nat
 ntmps:Nat
 code:Zg
 results:List AR
 mode:Nat
inductive Ex where
 | normal | exit (id:Nat) | ret
 deriving DecidableEq
def get (tm loc:List AV):X→AV
 | .t s=>(tm[s]?).getD .undef
 | .l j=>(loc[j]?).getD .undef
 | .c v=>v
def JB:AV→Option (List AV)
 | .undef | .tup _=>none
 | .agg cs=>some cs
 | v=>some [v]
def Yz (cs:List AV) (off:Nat) (new:List AV):List AV:=cs.take off++new++cs.drop (off+new.length)
def Zb (g:X→AV):List AV→List (Nat×Nat×X)→Option (List AV)
 | cs,[]=>some cs
 | cs,(off,sz,x)::rest=>
  match JB (g x) with
  | none=>none
  | some new=>if new.length=sz∧off+sz≤cs.length then Zb g (Yz cs off new) rest else none
def AV.under (n:Nat):AV→Bool
 | .ptr (some (b,_))=>b<n
 | .slice (some (b,_)) _ _ _=>b<n
 | .map (some b)=>b<n
 | .agg cs=>go cs
 | .tup vs=>go vs
 | .fn _ a b=>go a&&go b
 | _=>true
where go:List AV→Bool
 | []=>true
 | v::vs=>v.under n&&go vs
def Z6:Option Nat→Nat→Option Nat
 | none,b=>some b
 | some e,b=>some (min e b)
def joinEsc:Option Nat→Option Nat→Option Nat
 | e,none=>e
 | e,some b=>Z6 e b
def Za (H:List Blk) (b:Nat):Option (List AV) :=
 match H[b]? with
 | some (.cells cs _)=>some cs
 | _=>none
def ZhX (H:List Blk) (agg:Bool) (sz:Nat):AV→Option AV
 | .ptr (some (b,o))=>
  match Za H b with
  | none=>none
  | some cs=>
   if agg then (if o+sz≤cs.length then some (.agg ((cs.drop o).take sz)) else none)
   else cs[o]?
 | _=>none
def ZdV (agg:Bool) (cs:List AV) (off sz:Nat):Option AV :=
 if agg then (if off+sz≤cs.length then some (.agg ((cs.drop off).take sz)) else none) else cs[off]?
def Zau (op:BinOp) (k:IntKind) (x y:Int):Option AV :=
 match op with
 | .add=>some (.int k (k.wrap (x+y)))
 | .sub=>some (.int k (k.wrap (x - y)))
 | .mul=>some (.int k (k.wrap (x*y)))
 | .quo=>if y=0 then none else some (.int k (k.wrap (x.tdiv y)))
 | .rem=>if y=0 then none else some (.int k (x.tmod y))
 | .and=>some (.int k (k.wrap (BitVec.ofInt k.bits x &&& BitVec.ofInt k.bits y).toNat))
 | .or=>some (.int k (k.wrap (BitVec.ofInt k.bits x ||| BitVec.ofInt k.bits y).toNat))
 | .xor=>some (.int k (k.wrap (BitVec.ofInt k.bits x ^^^ BitVec.ofInt k.bits y).toNat))
 | .andNot=>some (.int k (k.wrap (BitVec.ofInt k.bits x &&& ~~~BitVec.ofInt k.bits y).toNat))
 | .eql=>some (.bool (decide (x=y)))
 | .neq=>some (.bool (!decide (x=y)))
 | .lss=>some (.bool (decide (x<y)))
 | .leq=>some (.bool (decide (x≤y)))
 | .gtr=>some (.bool (decide (y<x)))
 | .geq=>some (.bool (decide (y≤x)))
 | .shl=>if y<0 then none else some (.int k (k.wrap (x*2 ^ (min y.toNat k.bits))))
 | .shr=>if y<0 then none else some (.int k (x.fdiv (2 ^ (min y.toNat k.bits))))
def Xg (cls:Nat) (op:BinOp) (a b:AV):Option AV :=
 match cls,a,b with
 | 0,.int k x,.int k' y=>if k=k'∨op=.shl∨op=.shr then Zau op k x y else none
 | 1,.str a,.str b=>
  match op with
  | .add=>if a.size+b.size≤140737488355328 then some (.str (a++b)) else none
  | .eql=>some (.bool (decide (a=b)))
  | .neq=>some (.bool (!decide (a=b)))
  | .lss=>some (.bool (Op.bytesLess a.toList b.toList))
  | _=>none
 | 2,.bool a,.bool b=>
  match op with
  | .eql=>some (.bool (a==b))
  | .neq=>some (.bool (!(a==b)))
  | _=>none
 | 3,.slice p _ _ _,.slice none _ _ _=>
  match op with
  | .eql=>some (.bool p.isNone)
  | .neq=>some (.bool (!p.isNone))
  | _=>none
 | 4,.nilif,.nilif=>
  match op with
  | .eql=>some (.bool true)
  | .neq=>some (.bool false)
  | _=>none
 | 4,.someif,.nilif=>
  match op with
  | .eql=>some (.bool false)
  | .neq=>some (.bool true)
  | _=>none
 | _,_,_=>none
def ZAI (op:UnOp) (a:AV):Option AV :=
 match op,a with
 | .neg,.int k n=>some (.int k (k.wrap (0 - n)))
 | .xor,.int k n=>Zau .xor k (if k.signed then -1 else k.max) n
 | .not,.bool b=>some (.bool !b)
 | _,_=>none
def ZuT (k:Nat) (a b:AV):Option Bool :=
 match k,a,b with
 | 0,.int k x,.int k' y=>if k=k' then some (decide (x=y)) else none
 | 1,.bool a,.bool b=>some (a==b)
 | 2,.str a,.str b=>some (decide (a=b))
 | _,_,_=>none
def ZdW:List Nat→List AV→List AV→Option Bool
 | [],[],[]=>some true
 | k::ks,x::xs,y::ys=>
  match ZuT k x y,ZdW ks xs ys with
  | some a,some b=>some (a&&b)
  | _,_=>none
 | _,_,_=>none
def natOf:AV→Option Nat
 | .int _ n=>if 0≤n then some n.toNat else none
 | _=>none
def ZcN (g:X→AV) (x:Option X) (d:Nat):Option Nat :=
 match x with
 | none=>some d
 | some x=>natOf (g x)
def Zhd (s:ByteArray):List AV:=s.data.toList.map fun b=>.int .u8 b.toNat
def Zzd:AV→Option UInt8
 | .int .u8 n=>some (UInt8.ofNat n.toNat)
 | _=>none
def Zi6:List AV→Option (List UInt8)
 | []=>some []
 | v::vs=>match Zzd v,Zi6 vs with
  | some b,some bs=>some (b::bs)
  | _,_=>none
def YK (str:Bool) (H:List Blk):AV→Option (Nat×List AV)
 | .slice none _ _ _=>if str then none else some (0,[])
 | .slice (some (b,o)) sz n _=>
  if str then none else
  match Za H b with
  | none=>none
  | some cs=>if o+n*sz≤cs.length then some (n,(cs.drop o).take (n*sz)) else none
 | .str s=>if str then some (s.size,Zhd s) else none
 | _=>none
def Zjl (n:Nat) (zero:List AV):List AV:=(List.replicate n zero).flatten
def newBlk (m:Mem) (cs:List AV):Mem:={ m with H:=m.H++[.cells cs true] }
def maxBytes:Nat:=35184372088832
def Zjm (g:X→AV):Option X→Option (Option Nat)
 | none=>some none
 | some x=>(natOf (g x)).map some
def KV (sz:Nat) (p:Option (Nat×Nat)) (sz' n:Nat) (cap:Option Nat) (l h:Nat) (m:Option Nat):Option AV :=
 match p with
 | none=>if l=0∧h=0∧(m=none∨m=some 0) then some Kp else none
 | some (b,o)=>
  if sz'=sz∧l≤h∧h≤m.getD n∧m.getD n≤n then
   some (.slice (some (b,o+l*sz)) sz (h - l) (match m with | none=>cap.map (·- l) | some m=>some (m - l)))
  else none
def Ji (g:X→AV):AO→Option AV
 | .mv x=>some (g x)
 | .pick c a b=>match g c with
  | .bool true=>some (g a)
  | .bool false=>some (g b)
  | _=>none
 | .build zero parts=>(Zb g zero parts).map .agg
 | .nilCheck x=>match g x with
  | .ptr (some p)=>some (.ptr (some p))
  | .fn f a b=>some (.fn f a b)
  | _=>none
 | .bin cls op x y=>Xg cls op (g x) (g y)
 | .eqCells ks neg x y=>match g x,g y with
  | .agg xs,.agg ys=>(ZdW ks xs ys).map fun b=>.bool (if neg then !b else b)
  | _,_=>none
 | .un op x=>ZAI op (g x)
 | .conv k x=>match g x with
  | .int _ n=>some (.int k (k.wrap n))
  | _=>none
 | .same x=>match g x with
  | .str s=>some (.str s)
  | _=>none
 | .makeFunc f first captured=>some (.fn f (first.map g) (captured.map g))
 | .sliceStr x lo hi=>match g x with
  | .str s=>match ZcN g hi s.size,ZcN g lo 0 with
   | some h,some l=>if l≤h∧h≤s.size then some (.str (s.extract l h)) else none
   | _,_=>none
  | _=>none
 | .sliceSl sz x lo hi mx=>match g x with
  | .slice p sz' n cap=>match ZcN g hi n,ZcN g lo 0,Zjm g mx with
   | some h,some l,some m=>if mx=none∨hi≠none then KV sz p sz' n cap l h m else none
   | _,_,_=>none
  | _=>none
 | .fieldAddr off x=>match g x with
  | .ptr (some (b,o))=>some (.ptr (some (b,o+off)))
  | _=>none
 | .field agg off sz x=>match g x with
  | .agg cs=>ZdV agg cs off sz
  | _=>none
 | .indexAddrS sz x i=>match g x,g i with
  | .slice (some (b,o)) sz' n _,.int _ i=>if 0≤i∧i<n∧sz'=sz then some (.ptr (some (b,o+i.toNat*sz))) else none
  | _,_=>none
 | .indexAddrA n sz x i=>match g x,g i with
  | .ptr (some (b,o)),.int _ i=>if 0≤i∧i<n then some (.ptr (some (b,o+i.toNat*sz))) else none
  | _,_=>none
 | .indexA agg n sz x i=>match g x,g i with
  | .agg cs,.int _ i=>if 0≤i∧i<n then ZdV agg cs (i.toNat*sz) sz else none
  | _,_=>none
 | .indexS x i=>match g x,g i with
  | .str s,.int _ i=>if 0≤i then (s[i.toNat]?).map fun b=>.int .u8 b.toNat else none
  | _,_=>none
 | .extract i x=>match g x with
  | .tup vs=>vs[i]?
  | _=>none
 | .len x=>match g x with
  | .slice _ _ n _=>some (.int .i64 n)
  | _=>none
 | .lenStr x=>match g x with
  | .str s=>some (.int .i64 s.size)
  | _=>none
 | .lenA n=>some (.int .i64 n)
 | .max2 x y=>match g x,g y with
  | .int k a,.int k' b=>if k=k' then some (.int k (if b>a then b else a)) else none
  | _,_=>none
 | .min2 x y=>match g x,g y with
  | .int k a,.int k' b=>if k=k' then some (.int k (if b<a then b else a)) else none
  | _,_=>none
 | _=>none
def ZrZ (n:Int):Bool:=decide (-9223372036854775808≤n)&&decide (n≤9223372036854775807)
def Zql:List AV→Option (List Int)
 | []=>some []
 | .int .i64 n::r=>match Zql r with
  | some l=>if ZrZ n then some (n::l) else none
  | none=>none
 | _=>none
def ZuQ:AV→Option (List Int)
 | .agg cs=>match Zql cs with
  | some l=>if l.length=3 then some l else none
  | none=>none
 | _=>none
def Zoe (es:List (List Int×Int)) (z:List Int):Option Int :=
 match es with
 | []=>none
 | p::es=>if p.1=z then some p.2 else Zoe es z
def mput (es:List (List Int×Int)) (z:List Int) (v:Int):List (List Int×Int) :=
 match es with
 | []=>[(z,v)]
 | p::es=>if p.1=z then (z,v)::es else p::mput es z v
def Zao (g:X→AV) (H:List Blk):AO→Option AV
 | .load agg sz x=>ZhX H agg sz (g x)
 | .ofBytes x=>match g x with
  | .slice p sz n c=>match YK false H (.slice p sz n c) with
   | some (_,cs)=>if sz=1∨p=none then (Zi6 cs).map fun bs=>.str ⟨bs.toArray⟩ else none
   | none=>none
  | _=>none
 | .sliceArr n sz x lo hi mx=>match g x with
  | .ptr (some (b,o))=>match H[b]?,ZcN g hi n,ZcN g lo 0,Zjm g mx with
   | some (.cells cs true),some h,some l,some m=>
    if (mx=none∨hi≠none)∧0<cs.length∧o+n*sz≤cs.length then KV sz (some (b,o)) sz n (some n) l h m else none
   | _,_,_,_=>none
  | _=>none
 | .getMap ok m k=>match g m,ZuQ (g k) with
  | .map (some b),some z=>match H[b]? with
   | some (.mp es)=>some (if ok then .tup [.int .i64 ((Zoe es z).getD 0),.bool (Zoe es z).isSome] else .int .i64 ((Zoe es z).getD 0))
   | _=>none
  | _,_=>none
 | .lenMap m=>match g m with
  | .map (some b)=>match H[b]? with
   | some (.mp es)=>some (.int .i64 es.length)
   | _=>none
  | _=>none
 | _=>none
def Ka (g:X→AV):AO→Option (List AV×(Nat→AV))
 | .alloc zero=>some (zero,fun b=>.ptr (some (b,0)))
 | .box x=>(JB (g x)).map fun cs=>(cs,fun b=>.ptr (some (b,0)))
 | .buildSlice sz len zero parts=>(Zb g zero parts).map fun cs=>(cs,fun b=>.slice (some (b,0)) sz len (some len))
 | _=>none
def ZbY (call:FuncId→List AV→Mem→Option (AV×Mem)) (g:X→AV) (m:Mem):AO→Option (AV×Mem)
 | .store sz a x=>match g a,JB (g x) with
  | .ptr (some (b,o)),some new=>match m.H[b]? with
   | some (.cells cs true)=>
    if new.length=sz∧0<sz∧o+sz≤cs.length then
     some (.tup [],{ H:=m.H.set b (.cells (Yz cs o new) true),esc:=if (new.all fun v=>v.under (b+1)) then m.esc else Z6 m.esc b })
    else none
   | _=>none
  | _,_=>none
 | .toBytes x=>match g x with
  | .str s=>if s.size≤maxBytes then some (.slice (some (m.H.length,0)) 1 s.size none,newBlk m (Zhd s)) else none
  | _=>none
 | .makeSlice sz bytes zero len cap=>match g len,g cap with
  | .int .i64 l,.int .i64 c=>if 0≤l∧l=c∧l*bytes≤maxBytes then
    some (.slice (some (m.H.length,0)) sz l.toNat (some l.toNat),newBlk m (Zjl l.toNat zero)) else none
  | _,_=>none
 | .append str sz bytes s x=>match g s with
  | .slice none _ _ _=>match YK str m.H (g x) with
   | some (n,cs)=>if n=0 then some (Kp,m)
     else if n*bytes≤maxBytes∧cs.length=n*sz then some (.slice (some (m.H.length,0)) sz n none,newBlk m cs) else none
   | none=>none
  | .slice (some (b,o)) sz' n cap=>match m.H[b]?,YK str m.H (g x) with
   | some (.cells old wr),some (k,cs)=>
    if sz'=sz∧(n+k)*bytes≤maxBytes∧cs.length=k*sz∧o+n*sz≤old.length then
     if cap=some 0∧0<k then some (.slice (some (m.H.length,0)) sz (n+k) none,newBlk m cs)
     else if wr then some (.slice (some (m.H.length,0)) sz (n+k) none,{ m with H:=m.H.set b .dead++[.cells ((old.drop o).take (n*sz)++cs) true] })
     else none
    else none
   | _,_=>none
  | _=>none
 | .newMap=>some (.map (some m.H.length),{ m with H:=m.H++[.mp []] })
 | .putMap x k v=>match g x,ZuQ (g k),g v with
  | .map (some b),some z,.int .i64 n=>match m.H[b]? with
   | some (.mp es)=>some (.tup [],{ m with H:=m.H.set b (.mp (mput es z n)) })
   | _=>none
  | _,_,_=>none
 | .call f args=>match g f with
  | .fn f first captured=>call f (first++args.map g++captured) m
  | _=>none
 | _=>none
def aop (call:FuncId→List AV→Mem→Option (AV×Mem)) (g:X→AV) (m:Mem) (op:AO):Option (AV×Mem) :=
 match Ji g op with
 | some v=>some (v,m)
 | none=>match Zao g m.H op with
  | some v=>some (v,m)
  | none=>match Ka g op with
   | some (cs,v)=>some (v m.H.length,newBlk m cs)
   | none=>ZbY call g m op
def Zbp (g:X→AV):Option (X×Bool)→Option Bool
 | none=>some true
 | some (x,b)=>match g x with
  | .bool c=>some (c==b)
  | .tup []=>some false
  | _=>none
def Zhe (call:FuncId→List AV→Mem→Option (AV×Mem)) (tm:List AV):List YS→List AV→Mem→Option (List AV×Mem)
 | [],loc,m=>some (loc,m)
 | o::rest,loc,m=>
  match Zbp (get tm loc) o.guard with
  | none=>none
  | some false=>Zhe call tm rest (loc++[.tup []]) m
  | some true=>match aop call (get tm loc) m o.op with
   | none=>none
   | some (v,m)=>Zhe call tm rest (loc++[v]) m
def setOuts (tm loc:List AV):List (Nat×Nat)→List AV
 | []=>tm
 | (s,j)::rest=>setOuts (tm.set s ((loc[j]?).getD .undef)) loc rest
end Go.Proofs.YtemcdiajejekoaaGreatDoor.Slim
namespace Go.Proofs.YtemcdiajejekoaaGreatDoor.Slim
open Go
def Zze:Value→Option AV
 | .bool b=>some (.bool b)
 | .int k n=>some (.int k n)
 | .string s=>some (.str s)
 | .pointer none=>some (.ptr none)
 | .slice none 0 0=>some Kp
 | .nilFunc=>some .nilfn
 | .nilIface=>some .nilif
 | .map none=>some (.map none)
 | _=>none
def Zqm:List Value→Option (List AV)
 | []=>some []
 | v::vs=>match Zze v,Zqm vs with
  | some a,some az=>some (a::az)
  | _,_=>none
def ZuU:Value→Option AV
 | .agg cs=>(Zqm cs.toList).map .agg
 | v=>Zze v
def ZxF (P:Program) (t:TypeId):Option Bool :=
 match P.underlying t with
 | some (.struct _)=>some true
 | some (.array _ _)=>some true
 | some _=>some false
 | none=>none
def szT (P:Program) (t:TypeId):Option Nat:=(P.info? t).map (·.size)
def Zjn (P:Program) (t:TypeId):Option Nat:=(P.info? t).map (·.bytes)
def Zli (P:Program) (t:TypeId):Option (List AV) :=
 match (P.info? t).map (·.zero) with
 | some (some v)=>Zqm v.cells.toList
 | _=>none
def Zfr (P:Program) (t:TypeId):Option Nat :=
 match P.underlying t with
 | some (.int _)=>some 0
 | some .bool=>some 1
 | some .string=>some 2
 | _=>none
def Zew (P:Program):List (Field×Nat)→Option (List Nat)
 | []=>some []
 | (f,i)::fs=>match Zfr P f.type,Zew P fs with
  | some k, some ks => if f.offset = i ∧ f.name ≠ "_" then some (k :: ks) else none
  | _,_=>none
def ZzE (P:Program) (t:TypeId):Option (List Nat) :=
 if P.eqGuardType P.depth t then none else
 match P.underlying t with
 | some (.struct fs)=>if P.stoodInHeld t then none else Zew P fs.toList.zipIdx
 | some (.array n e)=>match Zfr P e,szT P e with
  | some k,some 1=>some (List.replicate n k)
  | _,_=>none
 | _=>none
abbrev Zf1:=Operand→Option X
def ZzF (cx:Zf1):List Operand→Option (List X)
 | []=>some []
 | o::os=>match cx o,ZzF cx os with
  | some x,some xs=>some (x::xs)
  | _,_=>none
def optX (cx:Zf1):Option Operand→Option (Option X)
 | none=>some none
 | some o=>(cx o).map some
def Zl1 (cx:Zf1) (place:Nat→Option (Nat×Nat)):List (Nat×Operand)→Option (List (Nat×Nat×X))
 | []=>some []
 | (i,o)::rest=>match place i,cx o,Zl1 cx place rest with
  | some (off,sz),some x,some xs=>some ((off,sz,x)::xs)
  | _,_,_=>none
def Zfs (P:Program) (fs:Array Field) (i:Nat):Option (Nat×Nat) :=
 match fs[i]? with
 | some f=>(szT P f.type).map fun s=>(f.offset,s)
 | none=>none
def ZzG (P:Program) (t:TypeId):Bool :=
 match P.info? t with
 | some i=>match i.zero with
  | some (.int .i64 n)=>n==0
  | _=>false
 | none=>false
def ZxG (P:Program) (t:TypeId):Bool :=
 match P.underlying t with
 | some (.map k e)=>match P.underlying k,P.underlying e with
  | some (.array n x),some (.int .i64)=>match P.underlying x with
   | some (.int .i64)=>n==3&&P.cellsOf x==1&&P.cellsOf k==3&&P.types.size != 0&&ZzG P e
   | _=>false
  | _,_=>false
 | _=>false
def ZcO (P:Program) (cx:Zf1) (c:Call):Option AO :=
 match c.callee with
 | .value f=>do
  let x ←cx f
  let xs ←ZzF cx c.args.toList
  pure (.call x xs)
 | .builtin .len=>match c.argTypes[0]?,c.args[0]? with
  | some t,some o=>match P.underlying t with
   | some .string=>(cx o).map .lenStr
   | some (.slice _)=>(cx o).map .len
   | some (.array n _)=>some (.lenA n)
   | some (.map _ _)=>if ZxG P t then (cx o).map .lenMap else none
   | _=>none
  | _,_=>none
 | .builtin .append=>match c.argTypes[0]?,c.argTypes[1]?,c.args[0]?,c.args[1]? with
  | some t,some u,some s,some x=>match P.underlying t,P.underlying u with
   | some (.slice e),some (.slice _)=>do
    let sz ←szT P e
    let by' ←Zjn P e
    let a ←cx s
    let b ←cx x
    if 0<by'&&0<sz&&(Zli P e).map (·.length)==some sz then pure (.append false sz by' a b) else none
   | some (.slice e),some .string=>do
    let sz ←szT P e
    let by' ←Zjn P e
    let a ←cx s
    let b ←cx x
    if by'==1&&sz==1&&(Zli P e).map (·.length)==some sz then pure (.append true sz by' a b) else none
   | _,_=>none
  | _,_,_,_=>none
 | .builtin .max=>match c.args.toList with
  | [a,b]=>match cx a,cx b with
   | some x,some y=>some (.max2 x y)
   | _,_=>none
  | _=>none
 | .builtin .min=>match c.args.toList with
  | [a,b]=>match cx a,cx b with
   | some x,some y=>some (.min2 x y)
   | _,_=>none
  | _=>none
 | _=>none
def Zi (P:Program) (cx:Zf1) (o:Op):Option AO :=
 match o with
 | .move x=>(cx x).map .mv
 | .assign x=>(cx x).map .mv
 | .pick c a b=>do pure (.pick (←cx c) (←cx a) (←cx b))
 | .alloc e=>(Zli P e).map .alloc
 | .box _ x=>(cx x).map .box
 | .build t parts=>match P.underlying t with
  | some (.struct fs)=>do
   let zero ←Zli P t
   if fs.toList.all (fun f=>(szT P f.type).isSome) then pure (.build zero (←Zl1 cx (Zfs P fs) parts.toList)) else none
  | some (.array _ e)=>do
   let zero ←Zli P t
   let sz ←szT P e
   pure (.build zero (←Zl1 cx (fun i=>some (i*sz,sz)) parts.toList))
  | _=>none
 | .buildSlice t len parts=>match P.underlying t with
  | some (.slice e)=>do
   let sz ←szT P e
   let zero ←Zli P e
   if len*sz≤16777216&&0<sz&&zero.length==sz then pure (.buildSlice sz len (Zjl len zero) (←Zl1 cx (fun i=>some (i*sz,sz)) parts.toList)) else none
  | _=>none
 | .load t a=>do pure (.load (←ZxF P t) (←szT P t) (←cx a))
 | .store t a x=>do pure (.store (←szT P t) (←cx a) (←cx x))
 | .nilCheck x=>(cx x).map .nilCheck
 | .binOp op t x y _=>
  match P.underlying t with
   | some (.struct _) | some (.array _ _)=>
    if op==.eql||op==.neq then do pure (.eqCells (←ZzE P t) (op==.neq) (←cx x) (←cx y)) else none
   | some (.int _)=>do pure (.bin 0 op (←cx x) (←cx y))
   | some .string=>do pure (.bin 1 op (←cx x) (←cx y))
   | some .bool=>do pure (.bin 2 op (←cx x) (←cx y))
   | some (.slice _)=>do pure (.bin 3 op (←cx x) (←cx y))
   | some (.interface _)=>match y with
    | .const _=>do pure (.bin 4 op (←cx x) (←cx y))
    | _=>none
   | _=>none
 | .unOp op _ x=>do pure (.un op (←cx x))
 | .convert src dst x=>match P.underlying src,P.underlying dst with
  | some (.int _),some (.int k)=>(cx x).map (.conv k)
  | some .string,some .string=>(cx x).map .same
  | some .string,some (.slice e)=>match P.underlying e,szT P e with
   | some (.int .u8),some 1=>(cx x).map .toBytes
   | _,_=>none
  | some (.slice e),some .string=>match P.underlying e,szT P e with
   | some (.int .u8),some 1=>(cx x).map .ofBytes
   | _,_=>none
  | _,_=>none
 | .makeFunc (.func f) first captured=>do pure (.makeFunc f (←ZzF cx first.toList) (←ZzF cx captured.toList))
 | .makeSlice t l c=>match P.underlying t with
  | some (.slice e)=>do
   let sz ←szT P e
   let by' ←Zjn P e
   let zero ←Zli P e
   if 0<sz&&0<by'&&zero.length==sz then pure (.makeSlice sz by' zero (←cx l) (←cx c)) else none
  | _=>none
 | .slice t x lo hi mx=>match P.underlying t with
  | some .string=>match mx with
   | none=>do pure (.sliceStr (←cx x) (←optX cx lo) (←optX cx hi))
   | some _=>none
  | some (.slice e)=>do
   let sz ←szT P e
   if 0<sz then pure (.sliceSl sz (←cx x) (←optX cx lo) (←optX cx hi) (←optX cx mx)) else none
  | some (.array n e)=>do
   let sz ←szT P e
   if 0<sz then pure (.sliceArr n sz (←cx x) (←optX cx lo) (←optX cx hi) (←optX cx mx)) else none
  | _=>none
 | .fieldAddr s x i=>match P.underlying s with
  | some (.struct fs)=>match fs[i]? with
   | some f=>match szT P f.type with
    | some (_+1)=>(cx x).map (.fieldAddr f.offset)
    | _=>none
   | none=>none
  | _=>none
 | .field t x i=>match P.underlying t with
  | some (.struct fs)=>match fs[i]? with
   | some f=>do pure (.field (←ZxF P f.type) f.offset (←szT P f.type) (←cx x))
   | none=>none
  | _=>none
 | .indexAddr t x i=>match P.underlying t with
  | some (.slice e)=>do pure (.indexAddrS (←szT P e) (←cx x) (←cx i))
  | some (.array n e)=>do pure (.indexAddrA n (←szT P e) (←cx x) (←cx i))
  | _=>none
 | .index t x i=>match P.underlying t with
  | some (.array n e)=>do pure (.indexA (←ZxF P e) n (←szT P e) (←cx x) (←cx i))
  | some .string=>do pure (.indexS (←cx x) (←cx i))
  | _=>none
 | .extract x i=>(cx x).map (.extract i)
 | .makeMap t none=>if ZxG P t then some .newMap else none
 | .mapUpdate t x k v=>if ZxG P t then do pure (.putMap (←cx x) (←cx k) (←cx v)) else none
 | .insert t x k v=>if ZxG P t then do pure (.putMap (←cx x) (←cx k) (←cx v)) else none
 | .lookup t x k ok=>if ZxG P t then do pure (.getMap ok (←cx x) (←cx k)) else none
 | .range t x=>if ZxG P t then (cx x).map .mkit else none
 | .next x s=>if s then none else (cx x).map .itNext
 | .entry x=>(cx x).map .itEntry
 | .call c=>ZcO P cx c
 | _=>none
def ZxH (keep:List Nat) (env:List (Nat×Nat)):Zf1
 | .tmp t=>match env.lookup t with
  | some j=>some (.l j)
  | none=>match keep.idxOf? t with
   | some s=>some (.t s)
   | none=>some (.c .undef)
 | .const v=>(ZuU v).map .c
 | .func f=>some (.c (.fn f [] []))
 | .global _=>none
def Zjo (ops:Array Oper) (cx:Zf1):Option (Nat×Bool)→Option (Option (X×Bool))
 | none=>some none
 | some (j,b)=>match (ops[j]?).bind (·.dst) with
  | some d=>(cx (.tmp d)).map fun x=>some (x,b)
  | none=>none
def Zl2 (env:List (Nat×Nat)) (dst:Option Tmp) (i:Nat):List (Nat×Nat) :=
 match dst with
 | some d=>(d,i)::env
 | none=>env
def Zqn (nt:Nat):Option Tmp→Bool
 | some d=>d<nt
 | none=>true
def Xs (P:Program) (nt:Nat) (keep:List Nat) (all:Array Oper):List Oper→Nat→List (Nat×Nat)→Option (List YS×List (Nat×Nat))
 | [],_,env=>some ([],env)
 | o::rest,i,env=>
  match Zi P (ZxH keep env) o.op,Zjo all (ZxH keep env) o.guard,
   Xs P nt keep all rest (i+1) (Zl2 env o.dst i) with
  | some a,some g,some (az,env')=>if Zqn nt o.dst then some (⟨a,g⟩::az,env') else none
  | _,_,_=>none
def Kq (env:List (Nat×Nat)):List Nat→Nat→List (Nat×Nat)
 | [],_=>[]
 | t::ks,s=>match env.lookup t with
  | some j=>(s,j)::Kq env ks (s+1)
  | none=>Kq env ks (s+1)
end Go.Proofs.YtemcdiajejekoaaGreatDoor.Slim
namespace Go.Proofs.YtemcdiajejekoaaGreatDoor.Slim
open Go
def ZcP:List (Nat×(Array Value→Prop)):=[(5,fun cs=>cs = #[.int .u64 1,.int .u64 10,.int .u64 100,.int .u64 1000,.int .u64 10000,.int .u64 100000,.int .u64 1000000,.int .u64 10000000,.int .u64 100000000,.int .u64 1000000000,.int .u64 10000000000,.int .u64 100000000000,.int .u64 1000000000000,.int .u64 10000000000000,.int .u64 100000000000000,.int .u64 1000000000000000,.int .u64 10000000000000000,.int .u64 100000000000000000,.int .u64 1000000000000000000,.int .u64 10000000000000000000]),(3,fun cs=>∃ te pe,cs = #[.iface te pe]),(4,fun cs=>∃ te pe,cs = #[.iface te pe])]
end Go.Proofs.YtemcdiajejekoaaGreatDoor.Slim
