/- Parts of the proof. -/
import Derived.Test.YtemcdiajejekoaaGreatDoorSlimZr13
import Derived.Lib.Itoa
import Derived.Lib.ItoaNum
import Derived.Lib.Bytealg
set_option linter.unusedSimpArgs false
set_option linter.unusedVariables false
namespace Go.Proofs.YtemcdiajejekoaaGreatDoor.Slim
open Go
open Nat renaming reduceAdd → Ra, reduceLeDiff → Rb, reduceLT → Rc, reduceEqDiff → Rd
variable {pr : Zt} {H : List Blk} {e : Option Nat}
abbrev By:=List UInt8
abbrev bs (l:By):ByteArray:=⟨l.toArray⟩
abbrev sV (l:By):AV:=.str (bs l)
theorem Jc (l:By):(bs l).data.toList=l:=rfl
theorem ZJd (s:ByteArray):∃ l,s=bs l:=⟨s.data.toList,by cases s;rfl⟩
theorem Z1 (l:By):(bs l).size=l.length:=rfl
theorem ZER (a b:By):bs a++bs b=bs (a++b):=by
 have h:=ByteArray.data_append (l:=bs a) (l':=bs b)
 cases hx:bs a++bs b with
 | mk d=>
  rw [hx] at h
  simp only at h
  rw [h]
  simp
theorem Zms (l:By) (i j:Nat):(bs l).extract i j=bs ((l.take j).drop i):=by
 have h:=ByteArray.data_extract (a:=bs l) (b:=i) (e:=j)
 cases hx:(bs l).extract i j with
 | mk d=>
  rw [hx] at h
  simp only at h
  rw [h]
  simp [List.extract_eq_take_drop,List.drop_take]
theorem Zln {a b:By}:bs a=bs b↔a=b:=by
 constructor
 ·intro h
  have:=congrArg (fun s=>s.data.toList) h
  simpa using this
 ·rintro rfl;rfl
theorem Zff (a b:By):decide (bs a=bs b)=decide (a=b):=decide_eq_decide.mpr Zln
theorem Zsj {l:By} {i:Nat} {b:UInt8} (h:l[i]?=some b):(bs l)[i]?=some b:=by
 have hi:=(List.getElem?_eq_some_iff.mp h).1
 have h1:i<(bs l).size:=hi
 rw [getElem?_pos (bs l) i h1]
 rw [List.getElem?_eq_getElem hi] at h
 exact h
section
variable {C : FuncId → List AV → Mem → Option (AV × Mem)} {g : X → AV} {m : Mem}
theorem ZD (a b:By):Xz 1 .add (sV a) (sV b)=if a.length+b.length≤140737488355328 then some (sV (a++b)) else none:=by
 have:Xz 1 .add (sV a) (sV b)=if (bs a).size+(bs b).size≤140737488355328 then some (.str (bs a++bs b)) else none:=rfl
 rw [this,ZER]
 rfl
def ZCy (v:AV) (lo hi:Option AV):Option AV:=match v with
 | .str s=>(match (match hi with | none=>some s.size | some h=>natOf h),(match lo with | none=>some 0 | some l=>natOf l) with
  | some h,some l=>if l≤h∧h≤s.size then some (.str (s.extract l h)) else none
  | _,_=>none)
 | _=>none
theorem ZpO (x l h:X):aop C g m (.sliceStr x (some l) (some h))=K7 m (ZCy (g x) (some (g l)) (some (g h))):=by
 rw [ZI rfl]
 simp only [JO,ZCy,ZeN]
 generalize g x=v
 generalize natOf (g h)=o
 generalize natOf (g l)=p
 cases v <;> cases o <;> cases p <;> rfl
theorem ZaT (x l:X):aop C g m (.sliceStr x (some l) none)=K7 m (ZCy (g x) (some (g l)) none):=by
 rw [ZI rfl]
 simp only [JO,ZCy,ZeN]
 generalize g x=v
 generalize natOf (g l)=p
 cases v <;> cases p <;> rfl
theorem Zn1 (x h:X):aop C g m (.sliceStr x none (some h))=K7 m (ZCy (g x) none (some (g h))):=by
 rw [ZI rfl]
 simp only [JO,ZCy,ZeN]
 generalize g x=v
 generalize natOf (g h)=o
 cases v <;> cases o <;> rfl
end
theorem Zzo (l:By) (i j:Nat):ZCy (sV l) (some (.int .i64 i)) (some (.int .i64 j))=if i≤j∧j≤l.length then some (sV ((l.take j).drop i)) else none:=by
 have h1:natOf (.int .i64 (j:Int))=some j:=by simp [natOf]
 have h2:natOf (.int .i64 (i:Int))=some i:=by simp [natOf]
 simp only [ZCy,h1,h2,Zms]
 rfl
theorem ZhQ (l:By) (i:Nat):ZCy (sV l) (some (.int .i64 i)) none=if i≤l.length then some (sV (l.drop i)) else none:=by
 have h2:natOf (.int .i64 (i:Int))=some i:=by simp [natOf]
 simp only [ZCy,h2,Zms,Z1,List.take_length]
 by_cases h:i≤l.length
 ·rw [if_pos ⟨h,Nat.le_refl _⟩,if_pos h]
 ·rw [if_neg (fun h'=>h h'.1),if_neg h]
theorem ZAb (l:By) (j:Nat):ZCy (sV l) none (some (.int .i64 j))=if j≤l.length then some (sV (l.take j)) else none:=by
 have h1:natOf (.int .i64 (j:Int))=some j:=by simp [natOf]
 simp only [ZCy,h1,Zms,Z1,List.drop_zero]
 by_cases h:j≤l.length
 ·rw [if_pos ⟨Nat.zero_le _,h⟩,if_pos h]
 ·rw [if_neg (fun h'=>h h'.2),if_neg h]
theorem XU (l:By):ZyQ (sV l)=some (.int .i64 l.length):=rfl
def QW (pr:Zt):Prop:=∀ (s:By) (c:UInt8) (m:Mem),call T pr Yt [sV s,sV [c]] m=some (.int .i64 (Lib.indexByte s c),m)
def Ko (pr:Zt):Prop:=∀ (n:Int) (m:Mem),-9223372036854775808≤n→n≤9223372036854775807→call T pr Xn [.int .i64 n] m=some (sV (Lib.itoa n),m)
def Y4 (l:By) (c:UInt8):By:=l.takeWhile (· != c)
def Zg1 (l:By) (c:UInt8):By:=(l.dropWhile (· != c)).drop 1
theorem Zdv (l:By) (c:UInt8):(Lib.indexByte l c = -1∧l.contains c=false∧Y4 l c=l∧Zg1 l c=[])∨(∃ i:Nat,Lib.indexByte l c=i∧i<l.length∧l.contains c=true∧Y4 l c=l.take i∧Zg1 l c=l.drop (i+1)):=by
 induction l with
 | nil=>left;simp [Lib.indexByte,Y4,Zg1]
 | cons b l ih=>
  rw [Lib.indexByte]
  by_cases hb:b=c
  ·subst hb
   right
   exact ⟨0,by simp,by simp,by simp,by simp [Y4],by simp [Zg1]⟩
  ·have h1:(b==c)=false:=by simpa using hb
   have h2:(b != c)=true:=by simpa using hb
   have h3:(c==b)=false:=by simpa using fun h=>hb h.symm
   rcases ih with ⟨e1,e2,e3,e4⟩|⟨i,e1,e2,e3,e4,e5⟩
   ·left
    refine ⟨by simp [h1,e1],by rw [List.contains_cons,h3,e2];rfl,?_,?_⟩
    ·unfold Y4 at *;simp [h2,e3]
    ·unfold Zg1 at *;simp [h2,e4]
   ·right
    refine ⟨i+1,?_,by simp;omega,by rw [List.contains_cons,e3,Bool.or_true],?_,?_⟩
    ·rw [h1,e1]
     have:((i:Int) == -1)=false:=by simp
     simp [this]
    ·unfold Y4 at *;simp [h2,e4]
    ·unfold Zg1 at *;simp [h2,e5]
theorem Zmt (hx:QW pr) (l:By) (c:UInt8) (hn:l.length≤1073741824):call T pr YO [sV l,sV [c]] ⟨H,e⟩=some (.tup [sV (Y4 l c),sV (Zg1 l c),.bool (l.contains c)],⟨H,e⟩):=by
 rw [Zh ZdC]
 have hx':=fun L=>hx l c ⟨L,none⟩
 rcases Zdv l c with ⟨e1,e2,e3,e4⟩|⟨i,e1,e2,e3,e4,e5⟩
 ·rw [e1] at hx'
  rw [e2,e3,e4]
  simp +contextual only [Yh,XN,hx',show ¬ ((0:Int) ≤ -1) by omega,decide_false,go_sem,reduceIte,Ra,Rb,Rc,Rd]
 ·rw [e1] at hx'
  rw [e3,e4,e5]
  have hi:i≤l.length:=by omega
  have hi1:i+1≤l.length:=by omega
  simp +contextual only [Yh,XN,hx',Zn1,ZaT,ZAb,ZhQ,hi,hi1,Z1,List.size_toArray,Int.cast_ofNat_Int,Int.natCast_one,Zi (show i<9223372036854775807 by omega),Int.natCast_nonneg,decide_true,go_sem,reduceIte,Ra,Rb,Rc,Rd]
theorem ZcK (hx:QW pr) (l:By) (c:UInt8) (hn:l.length≤1073741824):call T pr JS [sV l,sV [c]] ⟨H,e⟩=some (.tup [sV (Y4 l c),sV (Zg1 l c),.bool (l.contains c)],⟨H,e⟩):=by
 rw [Zh ZsQ]
 simp +contextual only [ZcC,ZkI,Zmt hx l c hn,go_sem,reduceIte,Ra,Rb,Rc,Rd]
theorem ZAc (u:Nat) (h:u<10):((48:UInt8)::([49,50,51,52,53,54,55,56,57]:By).take u).drop u=[UInt8.ofNat (48+u)]:=by
 have:∀ i:Fin 10,((48:UInt8)::([49,50,51,52,53,54,55,56,57]:By).take i.val).drop i.val=[UInt8.ofNat (48+i.val)]:=by decide +kernel
 exact this ⟨u,h⟩
theorem Zal (u:Nat) (h:u≤9223372036854775807):(Lib.decDigits u).length≤20:=by
 have:∀ (k u:Nat),u<10 ^ k→(Lib.decDigits u).length≤max k 1:=by
  intro k
  induction k with
  | zero=>
   intro u hu
   have:u=0:=by omega
   subst this;rw [Lib.decDigits];simp
  | succ k ih=>
   intro u hu
   rw [Lib.decDigits]
   split
   ·simp
   ·have:=ih (u / 10) (by rw [Nat.pow_succ] at hu;omega)
    rw [List.length_append,List.length_singleton]
    have h1:1≤k:=by
     rcases Nat.eq_zero_or_pos k with h0 | h0
     ·subst h0;omega
     ·exact h0
    omega
 have:=this 20 u (by omega)
 omega
theorem Zlo:∀ (k u:Nat),u<10 ^ (k+1)→u≤9223372036854775807→∀ (H:List Blk) (e:Option Nat),call T pr Ym [.int .i64 u] ⟨H,e⟩=some (sV (Lib.decDigits u),⟨H,e⟩):=by
 have small:∀ u:Nat,u<10→∀ (H:List Blk) (e:Option Nat),call T pr Ym [.int .i64 u] ⟨H,e⟩=some (sV (Lib.decDigits u),⟨H,e⟩):=by
  intro u hu H e
  have h1:¬ ((u:Int)<0):=by omega
  have h2:(u:Int)<10:=by omega
  have h3:u≤u+1:=by omega
  have h4:u+1≤10:=by omega
  rw [Zh Zpa,Lib.decDigits_one hu]
  simp +contextual only [Ze0,ZkD,h1,h2,h3,h4,ZpO,Zzo,ZAc u hu,Zi (show u<9223372036854775807 by omega),decide_true,decide_false,go_sem,reduceIte,Ra,Rb,Rc,Rd]
 intro k
 induction k with
 | zero=>intro u hu _;exact small u (by omega)
 | succ k ih=>
  intro u hu hm H e
  by_cases h10:u<10
  ·exact small u h10 H e
  ·have h1:¬ ((u:Int)<0):=by omega
   have h2:¬ ((u:Int)<10):=by omega
   have hq:IntKind.i64.wrap ((u:Int).tdiv 10)=((u / 10:Nat):Int):=by
    rw [Int.tdiv_eq_ediv_of_nonneg (by omega)]
    rw [show (u:Int) / 10=((u / 10:Nat):Int) by omega]
    exact ZN (by omega) (by omega)
   have hr:(u:Int).tmod 10=((u % 10:Nat):Int):=by
    rw [Int.tmod_eq_emod_of_nonneg (by omega)];omega
   have hr2:u % 10<10:=Nat.mod_lt _ (by omega)
   have h3:u % 10≤u % 10+1:=by omega
   have h4:u % 10+1≤10:=by omega
   have ih':=fun L=>ih (u / 10) (by rw [Nat.pow_succ] at hu;omega) (by omega) L none
   have hlen:(Lib.decDigits (u / 10)).length+1≤140737488355328:=by
    have:=Zal (u / 10) (by omega);omega
   have hd:Lib.decDigits u=Lib.decDigits (u / 10)++[UInt8.ofNat (48+u % 10)]:=by rw [Lib.decDigits,dif_neg h10]
   rw [Zh Zpa,hd]
   simp +contextual only [Ze0,ZkD,h1,h2,h3,h4,hq,hr,ih',hlen,show ¬ ((10:Int)=0) by omega,ZD,ZpO,Zzo,ZAc _ hr2,Zi (show u % 10<9223372036854775807 by omega),decide_true,decide_false,go_sem,reduceIte,Ra,Rb,Rc,Rd]
theorem XD (n:Int) (h1 : -9223372036854775807≤n) (h2:n≤9223372036854775807):call T pr Ym [.int .i64 n] ⟨H,e⟩=some (sV (Lib.itoa n),⟨H,e⟩):=by
 by_cases h:n<0
 ·obtain ⟨u,rfl⟩:∃ u:Nat,n = -(u:Int):=⟨n.natAbs,by omega⟩
  have hi:Lib.itoa (-(u:Int))=45::Lib.decDigits u:=by
   unfold Lib.itoa
   rw [if_pos h,Int.natAbs_neg,Int.natAbs_natCast]
  have hw:IntKind.i64.wrap (0 - -(u:Int))=(u:Int):=by
   rw [show 0 - -(u:Int)=(u:Int) by omega];exact ZN (by omega) (by omega)
  have hc:=fun L=>Zlo (pr:=pr) 18 u (by omega) (by omega) L none
  have hlen:1+(Lib.decDigits u).length≤140737488355328:=by
   have:=Zal u (by omega);omega
  rw [Zh Zpa,hi]
  simp +contextual only [Ze0,ZkD,h,hw,hc,hlen,ZD,decide_true,go_sem,reduceIte,Ra,Rb,Rc,Rd]
 ·obtain ⟨u,rfl⟩:∃ u:Nat,n=u:=⟨n.toNat,by omega⟩
  have hi:Lib.itoa (u:Int)=Lib.decDigits u:=by
   unfold Lib.itoa
   rw [if_neg h,Int.toNat_natCast]
  rw [hi]
  exact Zlo 18 u (by omega) (by omega) H e
end Go.Proofs.YtemcdiajejekoaaGreatDoor.Slim
