/- Parts of the proof. -/
import Derived.Test.YtemcdiajejekoaaGreatDoorSlimZw13
import Derived.Lib.Itoa
import Derived.Lib.ItoaNum
import Derived.Lib.Bytealg
set_option linter.unusedSimpArgs false
set_option linter.unusedVariables false
namespace Go.Proofs.YtemcdiajejekoaaGreatDoor.Slim
open Go
open Nat renaming reduceAdd → Ra, reduceLeDiff → Rb, reduceLT → Rc, reduceEqDiff → Rd
variable {pr : Zq} {H : List Blk} {e : Option Nat}
abbrev By:=List UInt8
abbrev bs (l:By):ByteArray:=⟨l.toArray⟩
abbrev sV (l:By):AV:=.str (bs l)
theorem Zam (l:By):(bs l).data.toList=l:=rfl
theorem J9 (l:By):(bs l).size=l.length:=rfl
theorem Zwp (a b:By):bs a++bs b=bs (a++b):=by
 have h:=ByteArray.data_append (l:=bs a) (l':=bs b)
 cases hx:bs a++bs b with
 | mk d=>
  rw [hx] at h
  simp only at h
  rw [h]
  simp
theorem ZmJ (l:By) (i j:Nat):(bs l).extract i j=bs ((l.take j).drop i):=by
 have h:=ByteArray.data_extract (a:=bs l) (b:=i) (e:=j)
 cases hx:(bs l).extract i j with
 | mk d=>
  rw [hx] at h
  simp only at h
  rw [h]
  simp [List.extract_eq_take_drop,List.drop_take]
theorem Zzr {a b:By}:bs a=bs b↔a=b:=by
 constructor
 ·intro h
  have:=congrArg (fun s=>s.data.toList) h
  simpa using this
 ·rintro rfl;rfl
theorem ZkP (a b:By):decide (bs a=bs b)=decide (a=b):=decide_eq_decide.mpr Zzr
theorem ZA8 {l:By} {i:Nat} {b:UInt8} (h:l[i]?=some b):(bs l)[i]?=some b:=by
 have hi:=(List.getElem?_eq_some_iff.mp h).1
 have h1:i<(bs l).size:=hi
 rw [getElem?_pos (bs l) i h1]
 rw [List.getElem?_eq_getElem hi] at h
 exact h
section
variable {C : FuncId → List AV → Mem → Option (AV × Mem)} {g : X → AV} {m : Mem}
theorem X0 (a b:By):Xg 1 .add (sV a) (sV b)=if a.length+b.length≤140737488355328 then some (sV (a++b)) else none:=by
 have:Xg 1 .add (sV a) (sV b)=if (bs a).size+(bs b).size≤140737488355328 then some (.str (bs a++bs b)) else none:=rfl
 rw [this,Zwp]
 rfl
def Zzs (v:AV) (lo hi:Option AV):Option AV:=match v with
 | .str s=>(match (match hi with | none=>some s.size | some h=>natOf h),(match lo with | none=>some 0 | some l=>natOf l) with
  | some h,some l=>if l≤h∧h≤s.size then some (.str (s.extract l h)) else none
  | _,_=>none)
 | _=>none
theorem Zji (x l:X):aop C g m (.sliceStr x (some l) none)=J8 m (Zzs (g x) (some (g l)) none):=by
 rw [ZF rfl]
 simp only [Ji,Zzs,ZcN]
 generalize g x=v
 generalize natOf (g l)=p
 cases v <;> cases p <;> rfl
theorem ZyB (x h:X):aop C g m (.sliceStr x none (some h))=J8 m (Zzs (g x) none (some (g h))):=by
 rw [ZF rfl]
 simp only [Ji,Zzs,ZcN]
 generalize g x=v
 generalize natOf (g h)=o
 cases v <;> cases o <;> rfl
end
theorem Zsh (l:By) (i:Nat):Zzs (sV l) (some (.int .i64 i)) none=if i≤l.length then some (sV (l.drop i)) else none:=by
 have h2:natOf (.int .i64 (i:Int))=some i:=by simp [natOf]
 simp only [Zzs,h2,ZmJ,J9,List.take_length]
 by_cases h:i≤l.length
 ·rw [if_pos ⟨h,Nat.le_refl _⟩,if_pos h]
 ·rw [if_neg (fun h'=>h h'.1),if_neg h]
theorem ZA9 (l:By) (j:Nat):Zzs (sV l) none (some (.int .i64 j))=if j≤l.length then some (sV (l.take j)) else none:=by
 have h1:natOf (.int .i64 (j:Int))=some j:=by simp [natOf]
 simp only [Zzs,h1,ZmJ,J9,List.drop_zero]
 by_cases h:j≤l.length
 ·rw [if_pos ⟨Nat.zero_le _,h⟩,if_pos h]
 ·rw [if_neg (fun h'=>h h'.2),if_neg h]
def QC (pr:Zq):Prop:=∀ (s:By) (c:UInt8) (m:Mem),call T pr Yo [sV s,sV [c]] m=some (.int .i64 (Lib.indexByte s c),m)
def Jg (pr:Zq):Prop:=∀ (n:Int) (m:Mem),-9223372036854775808≤n→n≤9223372036854775807→call T pr YL [.int .i64 n] m=some (sV (Lib.itoa n),m)
def Zar (l:By) (c:UInt8):By:=l.takeWhile (· != c)
def Zfn (l:By) (c:UInt8):By:=(l.dropWhile (· != c)).drop 1
theorem Zej (l:By) (c:UInt8):(Lib.indexByte l c = -1∧l.contains c=false∧Zar l c=l∧Zfn l c=[])∨(∃ i:Nat,Lib.indexByte l c=i∧i<l.length∧l.contains c=true∧Zar l c=l.take i∧Zfn l c=l.drop (i+1)):=by
 induction l with
 | nil=>left;simp [Lib.indexByte,Zar,Zfn]
 | cons b l ih=>
  rw [Lib.indexByte]
  by_cases hb:b=c
  ·subst hb
   right
   exact ⟨0,by simp,by simp,by simp,by simp [Zar],by simp [Zfn]⟩
  ·have h1:(b==c)=false:=by simpa using hb
   have h2:(b != c)=true:=by simpa using hb
   have h3:(c==b)=false:=by simpa using fun h=>hb h.symm
   rcases ih with ⟨e1,e2,e3,e4⟩|⟨i,e1,e2,e3,e4,e5⟩
   ·left
    refine ⟨by simp [h1,e1],by rw [List.contains_cons,h3,e2];rfl,?_,?_⟩
    ·unfold Zar at *;simp [h2,e3]
    ·unfold Zfn at *;simp [h2,e4]
   ·right
    refine ⟨i+1,?_,by simp;omega,by rw [List.contains_cons,e3,Bool.or_true],?_,?_⟩
    ·rw [h1,e1]
     have:((i:Int) == -1)=false:=by simp
     simp [this]
    ·unfold Zar at *;simp [h2,e4]
    ·unfold Zfn at *;simp [h2,e5]
theorem ZhP (hx:QC pr) (l:By) (c:UInt8) (hn:l.length≤1073741824):call T pr YC [sV l,sV [c]] ⟨H,e⟩=some (.tup [sV (Zar l c),sV (Zfn l c),.bool (l.contains c)],⟨H,e⟩):=by
 rw [Zl Zbl]
 have hx':=fun L=>hx l c ⟨L,none⟩
 rcases Zej l c with ⟨e1,e2,e3,e4⟩|⟨i,e1,e2,e3,e4,e5⟩
 ·rw [e1] at hx'
  rw [e2,e3,e4]
  simp +contextual only [Z8,Xp,hx',show ¬ ((0:Int) ≤ -1) by omega,decide_false,go_sem,reduceIte,Ra,Rb,Rc,Rd]
 ·rw [e1] at hx'
  rw [e3,e4,e5]
  have hi:i≤l.length:=by omega
  have hi1:i+1≤l.length:=by omega
  simp +contextual only [Z8,Xp,hx',ZyB,Zji,ZA9,Zsh,hi,hi1,J9,List.size_toArray,Int.cast_ofNat_Int,Int.natCast_one,Zw (show i<9223372036854775807 by omega),Int.natCast_nonneg,decide_true,go_sem,reduceIte,Ra,Rb,Rc,Rd]
theorem ZaJ (hx:QC pr) (l:By) (c:UInt8) (hn:l.length≤1073741824):call T pr Jb [sV l,sV [c]] ⟨H,e⟩=some (.tup [sV (Zar l c),sV (Zfn l c),.bool (l.contains c)],⟨H,e⟩):=by
 rw [Zl Zne]
 simp +contextual only [ZaD,Zgh,ZhP hx l c hn,go_sem,reduceIte,Ra,Rb,Rc,Rd]
theorem ZbT (u:Nat) (h:u≤9223372036854775807):(Lib.decDigits u).length≤20:=by
 have:∀ (k u:Nat),u<10 ^ k→(Lib.decDigits u).length≤max k 1:=by
  intro k
  induction k with
  | zero=>
   intro u hu
   have:u=0:=by omega
   subst this;rw [Lib.decDigits];simp
  | succ k ih=>
   intro u hu
   rw [Lib.decDigits]
   split
   ·simp
   ·have:=ih (u / 10) (by rw [Nat.pow_succ] at hu;omega)
    rw [List.length_append,List.length_singleton]
    have h1:1≤k:=by
     rcases Nat.eq_zero_or_pos k with h0 | h0
     ·subst h0;omega
     ·exact h0
    omega
 have:=this 20 u (by omega)
 omega
end Go.Proofs.YtemcdiajejekoaaGreatDoor.Slim
