/- Parts of the proof. -/
import Derived.Test.YtemcdiajejekoaaGreatDoorSlimZw11
import Derived.Lib.Bytealg
set_option linter.unusedSimpArgs false
set_option linter.unusedVariables false
namespace Go.Proofs.YtemcdiajejekoaaGreatDoor.Slim
open Go
open Nat renaming reduceAdd → Ra, reduceLeDiff → Rb, reduceLT → Rc, reduceEqDiff → Rd
variable {pr : Zq} {H : List Blk} {e : Option Nat}
def okB (b:UInt8):Bool := !((decide ((b.toNat:Int)<32)||decide (126<(b.toNat:Int)))||decide ((b.toNat:Int)=35))
def Zfi (s:ByteArray):Bool:=s.data.toList.all okB
def ZBR (s:ByteArray) (c:Int):Bool:=s.data.toList.any fun b=>decide ((b.toNat:Int)=c)
theorem ZzX {s:ByteArray} {i:Nat} (h:i<s.data.toList.length):s[i]?=some s.data.toList[i]:=by
 have h1:i<s.size:=h
 rw [getElem?_pos s i h1]
 rfl
theorem ZzY (s:ByteArray):s.data.toList.length=s.size:=rfl
theorem ZgG {s:ByteArray} (hn:s.data.toList.length≤9223372036854775806) :
  ∀ (k i:Nat) (y2 y5 y6:AV),k+i=s.data.toList.length→∃ (z2 z4 z5 z6:AV),run T pr (.loop XC) ⟨[.str s,.bool false,y2,.int .i64 s.data.toList.length,.int .i64 i,y5,y6],⟨H,e⟩⟩ =
   some (if (s.data.toList.drop i).all okB=true then Ex.exit 0 else Ex.ret,⟨[.str s,.bool false,z2,.int .i64 s.data.toList.length,z4,z5,z6],⟨H,e⟩⟩)
 | 0,i,y2,y5,y6,hk=>by
  have hi:i=s.data.toList.length:=by omega
  subst hi
  refine ⟨y2,.int .i64 s.data.toList.length,.bool false,y6,?_⟩
  rw [YA,List.drop_length]
  generalize run T pr (.loop XC)=R
  simp +contextual only [XC,Nat.lt_irrefl,decide_false,List.all_nil,go_sem,reduceIte,Ra,Rb,Rc,Rd]
 | k+1,i,y2,y5,y6,hk=>by
  have hi:i<s.data.toList.length:=by omega
  have hb:=ZzX hi
  rw [YA,List.drop_eq_getElem_cons hi,List.all_cons]
  obtain ⟨z2,z4,z5,z6,ih⟩:=ZgG hn k (i+1) (.int .i64 i) (.bool true) (.bool false) (by omega)
  generalize s.data.toList[i]=b at hb ⊢
  generalize run T pr (.loop XC)=R at ih ⊢
  unfold okB
  cases h1:decide ((b.toNat:Int)<32) with
  | true=>
   refine ⟨.int .i64 i,.int .i64 i,.bool true,.bool true,?_⟩
   simp +contextual only [XC,hi,hb,h1,decide_true,go_sem,reduceIte,Ra,Rb,Rc,Rd]
  | false=>
   cases h2:decide (126<(b.toNat:Int)) with
   | true=>
    refine ⟨.int .i64 i,.int .i64 i,.bool true,.bool true,?_⟩
    simp +contextual only [XC,hi,hb,h1,h2,decide_true,go_sem,reduceIte,Ra,Rb,Rc,Rd]
   | false=>
    cases h3:decide ((b.toNat:Int)=35) with
    | true=>
     refine ⟨.int .i64 i,.int .i64 i,.bool true,.bool true,?_⟩
     simp +contextual only [XC,hi,hb,h1,h2,h3,decide_true,go_sem,reduceIte,Ra,Rb,Rc,Rd]
    | false=>
     refine ⟨z2,z4,z5,z6,?_⟩
     simp +contextual only [XC,hi,hb,h1,h2,h3,Zw (show i<9223372036854775807 by omega),decide_true,go_sem,reduceIte,Ra,Rb,Rc,Rd]
     exact ih
theorem ZcG {s:ByteArray} (hn:s.data.toList.length≤9223372036854775806):call T pr Zcl [.str s] ⟨H,e⟩=some (.bool (Zfi s),⟨H,e⟩):=by
 obtain ⟨z2,z4,z5,z6,hl⟩:=ZgG (pr:=pr) (H:=H) (e:=none) hn s.data.toList.length 0 .undef .undef .undef rfl
 have h0:((0:Nat):Int)=0:=rfl
 rw [h0,List.drop_zero,ZzY] at hl
 rw [Zl Ztf]
 unfold Zfi
 cases h1:s.data.toList.all okB <;> rw [h1] at hl <;> simp +contextual only [ZeJ,Zme,hl,go_sem,reduceIte,Ra,Rb,Rc,Rd]
theorem ZkC (l:List UInt8) (c:UInt8):decide (0≤Lib.indexByte l c)=l.any fun b=>decide ((b.toNat:Int)=(c.toNat:Int)):=by
 induction l with
 | nil=>rfl
 | cons b l ih=>
  have hge:=Lib.indexByte_ge l c
  rw [List.any_cons,Lib.indexByte]
  by_cases h:b=c
  ·subst h
   simp
  ·have h1:(b==c)=false:=by simpa using h
   have h2:¬ (b.toNat:Int)=(c.toNat:Int):=fun e=>h (UInt8.toNat_inj.mp (by omega))
   rw [h1,decide_eq_false h2,Bool.false_or,←ih]
   by_cases h3:Lib.indexByte l c = -1
   ·simp [h3]
   ·have h4:(Lib.indexByte l c == -1)=false:=by simpa using h3
    rw [h4]
    simp only [Bool.false_eq_true,if_false]
    exact decide_eq_decide.mpr (by omega)
def YH (pr:Zq):Prop:=∀ (s:ByteArray) (c:UInt8) (m:Mem),call T pr Yb [.str s,.str ⟨#[c]⟩] m=some (.bool (decide (0≤Lib.indexByte s.data.toList c)),m)
abbrev rcV (s t:ByteArray):AV:=.agg [.str s,.str t]
def ZrC (s t:ByteArray):Bool:=((decide ((1:Int)≤(s.size:Int))&&decide ((s.size:Int)≤160))&&decide ((t.size:Int)≤250))&&(Zfi s&&(Zfi t && !ZBR s 64))
theorem Q3 (hp:YH pr) {s t:ByteArray} (hs:s.data.toList.length≤9223372036854775806) (ht:t.data.toList.length≤9223372036854775806):call T pr Xa [rcV s t] ⟨H,e⟩=some (.bool (ZrC s t),⟨H,e⟩):=by
 have hc:∀ m,call T pr Yb [.str s,.str ⟨#[64]⟩] m=some (.bool (ZBR s 64),m):=fun m=>by
  rw [hp s 64 m,ZkC]
  rfl
 rw [Zl Zhu]
 unfold ZrC
 cases h1:(decide ((1:Int)≤(s.size:Int))&&decide ((s.size:Int)≤160)) with
 | false=>simp +contextual only [Yi,Xc,Z0,h1,go_sem,reduceIte,Ra,Rb,Rc,Rd]
 | true=>
  cases h2:decide ((t.size:Int)≤250) with
  | false=>simp +contextual only [Yi,Xc,Z0,h1,h2,go_sem,reduceIte,Ra,Rb,Rc,Rd]
  | true=>
   cases h3:Zfi s with
   | false=>simp +contextual only [Yi,Xc,Z0,ZcG hs,h1,h2,h3,go_sem,reduceIte,Ra,Rb,Rc,Rd]
   | true=>
    cases h4:Zfi t with
    | false=>simp +contextual only [Yi,Xc,Z0,ZcG hs,ZcG ht,h1,h2,h3,h4,go_sem,reduceIte,Ra,Rb,Rc,Rd]
    | true=>simp +contextual only [Yi,Xc,Z0,ZcG hs,ZcG ht,hc,h1,h2,h3,h4,go_sem,reduceIte,Ra,Rb,Rc,Rd]
theorem Zdr {L:List Blk} {j:Nat} {cs:List AV} {w:Bool} (h:L[j]?=some (.cells cs w)):Za L j=some cs:=by
 unfold Za
 rw [h]
def ZCD (l:List Nat):List Int:=l.map fun (i:Nat)=>(i:Int)
def ZnP:List Ld→Nat→Int→List Ld
 | [],_,_=>[]
 | l::ls,0,p=>(p,l.2)::ls
 | l::ls,i+1,p=>l::ZnP ls i p
theorem Zds:∀ (ls:List Ld) (i:Nat) (p:Int),(ZnP ls i p).length=ls.length
 | [],_,_=>rfl
 | l::ls,0,p=>rfl
 | l::ls,i+1,p=>by simp [ZnP,Zds ls i p]
theorem Zuc {ls:List Ld} {i:Nat} (p:Int) (hi:i<ls.length):∃ P l R,ls=P++l::R∧P.length=i∧ls[i]?=some l∧ZnP ls i p=P++(p,l.2)::R:=by
 induction ls generalizing i with
 | nil=>simp at hi
 | cons l ls ih=>
  cases i with
  | zero=>exact ⟨[],l,ls,rfl,rfl,rfl,rfl⟩
  | succ i=>
   obtain ⟨P,l',R,h1,h2,h3,h4⟩:=ih (by simpa using hi)
   exact ⟨l::P,l',R,by rw [h1];rfl,by simp [h2],by simpa using h3,by rw [ZnP,h4];rfl⟩
theorem ZgH {ls:List Ld} {i:Nat} (p:Int) (hi:i<ls.length):Yz (Zu ls) (i*2) [.int .i64 p]=Zu (ZnP ls i p):=by
 obtain ⟨P,l,R,h1,h2,_,h4⟩:=Zuc p hi
 rw [h4,h1,←h2]
 exact ZlP P R l p
theorem w11:IntKind.i64.wrap (1+1)=2:=by decide
end Go.Proofs.YtemcdiajejekoaaGreatDoor.Slim
