/- Parts of the proof. -/
import Derived.Test.YtemcdiajejekoaaGreatDoorSlimZr11
import Derived.Lib.Bytealg
set_option linter.unusedSimpArgs false
set_option linter.unusedVariables false
namespace Go.Proofs.YtemcdiajejekoaaGreatDoor.Slim
open Go
open Nat renaming reduceAdd → Ra, reduceLeDiff → Rb, reduceLT → Rc, reduceEqDiff → Rd
open List renaming drop_eq_getElem_cons → Rm
variable {pr : Zt} {H : List Blk} {e : Option Nat}
def okB (b:UInt8):Bool := !((decide ((b.toNat:Int)<32)||decide (126<(b.toNat:Int)))||decide ((b.toNat:Int)=35))
def Za5 (s:ByteArray):Bool:=s.data.toList.all okB
def ZHX (s:ByteArray) (c:Int):Bool:=s.data.toList.any fun b=>decide ((b.toNat:Int)=c)
theorem Zzj {s:ByteArray} {i:Nat} (h:i<s.data.toList.length):s[i]?=some s.data.toList[i]:=by
 have h1:i<s.size:=h
 rw [getElem?_pos s i h1]
 rfl
theorem Zzk (s:ByteArray):s.data.toList.length=s.size:=rfl
theorem Zlf {s:ByteArray} (hn:s.data.toList.length≤9223372036854775806) :
  ∀ (k i:Nat) (y2 y5 y6:AV),k+i=s.data.toList.length→∃ (z2 z4 z5 z6:AV),run T pr (.loop X6) ⟨[.str s,.bool false,y2,.int .i64 s.data.toList.length,.int .i64 i,y5,y6],⟨H,e⟩⟩ =
   some (if (s.data.toList.drop i).all okB=true then Ex.exit 0 else Ex.ret,⟨[.str s,.bool false,z2,.int .i64 s.data.toList.length,z4,z5,z6],⟨H,e⟩⟩)
 | 0,i,y2,y5,y6,hk=>by
  have hi:i=s.data.toList.length:=by omega
  subst hi
  refine ⟨y2,.int .i64 s.data.toList.length,.bool false,y6,?_⟩
  rw [ZG,List.drop_length]
  generalize run T pr (.loop X6)=R
  simp +contextual only [X6,Nat.lt_irrefl,decide_false,List.all_nil,go_sem,reduceIte,Ra,Rb,Rc,Rd]
 | k+1,i,y2,y5,y6,hk=>by
  have hi:i<s.data.toList.length:=by omega
  have hb:=Zzj hi
  rw [ZG,Rm hi,List.all_cons]
  obtain ⟨z2,z4,z5,z6,ih⟩:=Zlf hn k (i+1) (.int .i64 i) (.bool true) (.bool false) (by omega)
  generalize s.data.toList[i]=b at hb ⊢
  generalize run T pr (.loop X6)=R at ih ⊢
  unfold okB
  cases h1:decide ((b.toNat:Int)<32) with
  | true=>
   refine ⟨.int .i64 i,.int .i64 i,.bool true,.bool true,?_⟩
   simp +contextual only [X6,hi,hb,h1,decide_true,go_sem,reduceIte,Ra,Rb,Rc,Rd]
  | false=>
   cases h2:decide (126<(b.toNat:Int)) with
   | true=>
    refine ⟨.int .i64 i,.int .i64 i,.bool true,.bool true,?_⟩
    simp +contextual only [X6,hi,hb,h1,h2,decide_true,go_sem,reduceIte,Ra,Rb,Rc,Rd]
   | false=>
    cases h3:decide ((b.toNat:Int)=35) with
    | true=>
     refine ⟨.int .i64 i,.int .i64 i,.bool true,.bool true,?_⟩
     simp +contextual only [X6,hi,hb,h1,h2,h3,decide_true,go_sem,reduceIte,Ra,Rb,Rc,Rd]
    | false=>
     refine ⟨z2,z4,z5,z6,?_⟩
     simp +contextual only [X6,hi,hb,h1,h2,h3,Zi (show i<9223372036854775807 by omega),decide_true,go_sem,reduceIte,Ra,Rb,Rc,Rd]
     exact ih
theorem Zfc {s:ByteArray} (hn:s.data.toList.length≤9223372036854775806):call T pr ZeT [.str s] ⟨H,e⟩=some (.bool (Za5 s),⟨H,e⟩):=by
 obtain ⟨z2,z4,z5,z6,hl⟩:=Zlf (pr:=pr) (H:=H) (e:=none) hn s.data.toList.length 0 .undef .undef .undef rfl
 have h0:((0:Nat):Int)=0:=rfl
 rw [h0,List.drop_zero,Zzk] at hl
 rw [Zh ZA3]
 unfold Za5
 cases h1:s.data.toList.all okB <;> rw [h1] at hl <;> simp +contextual only [Ziv,Zrz,hl,go_sem,reduceIte,Ra,Rb,Rc,Rd]
theorem ZI3 (b:UInt8):b.toNat<256:=b.toNat_lt
theorem ZhN {s:ByteArray} {x:AV} (hn:s.data.toList.length≤9223372036854775806) :
  ∀ (k i:Nat) (y4 y5:AV),k+i=s.data.toList.length→∃ (z3 z4 z5:AV),run T pr (.loop Xr) ⟨[.str s,x,.bool false,.int .i64 i,y4,y5],⟨H,e⟩⟩ =
   some (if (s.data.toList.drop i).all okB=true then Ex.exit 0 else Ex.ret,⟨[.str s,x,.bool false,z3,z4,z5],⟨H,e⟩⟩)
 | 0,i,y4,y5,hk=>by
  have hi:i=s.data.toList.length:=by omega
  subst hi
  refine ⟨.int .i64 s.data.toList.length,.bool false,y5,?_⟩
  rw [ZG,List.drop_length,Zzk]
  generalize run T pr (.loop Xr)=R
  simp +contextual only [Xr,Nat.lt_irrefl,decide_false,List.all_nil,go_sem,reduceIte,Ra,Rb,Rc,Rd]
 | k+1,i,y4,y5,hk=>by
  have hi:i<s.data.toList.length:=by omega
  have hi':i<s.size:=hi
  have hb:=Zzj hi
  rw [ZG,Rm hi,List.all_cons]
  obtain ⟨z3,z4,z5,ih⟩:=ZhN (x:=x) hn k (i+1) (.bool true) (.bool false) (by omega)
  generalize s.data.toList[i]=b at hb ⊢
  generalize run T pr (.loop Xr)=R at ih ⊢
  have hlt:=ZI3 b
  have hw:IntKind.i64.wrap (b.toNat:Int)=(b.toNat:Int):=ZN (by omega) (by omega)
  have hin:(decide ((32:Int)≤(b.toNat:Int))&&decide ((b.toNat:Int)≤126)) = !(decide ((b.toNat:Int)<32)||decide (126<(b.toNat:Int))):=by
   rw [Bool.eq_iff_iff]
   simp
  unfold okB
  cases h1:(decide ((b.toNat:Int)<32)||decide (126<(b.toNat:Int))) with
  | true=>
   rw [h1] at hin
   refine ⟨.int .i64 i,.bool true,.bool true,?_⟩
   simp +contextual only [Xr,hi',hb,hw,Ye,hin,decide_true,go_sem,reduceIte,Ra,Rb,Rc,Rd]
  | false=>
   rw [h1] at hin
   have hin1:decide ((32:Int)≤(b.toNat:Int))=true:=(Bool.and_eq_true_iff.mp hin).1
   have hin2:decide ((b.toNat:Int)≤126)=true:=(Bool.and_eq_true_iff.mp hin).2
   cases h3:decide ((b.toNat:Int)=35) with
   | true=>
    refine ⟨.int .i64 i,.bool true,.bool true,?_⟩
    simp +contextual only [Xr,hi',hb,hw,Ye,hin1,hin2,h3,decide_true,go_sem,reduceIte,Ra,Rb,Rc,Rd]
   | false=>
    refine ⟨z3,z4,z5,?_⟩
    simp +contextual only [Xr,hi',hb,hw,Ye,hin1,hin2,h3,Zi (show i<9223372036854775807 by omega),decide_true,go_sem,reduceIte,Ra,Rb,Rc,Rd]
    exact ih
theorem Zb7 {s:ByteArray} (hn:s.data.toList.length≤9223372036854775806) (x:Int):call T pr ZbS [.str s,.int .i64 x] ⟨H,e⟩=some (.bool (Za5 s&&decide ((s.size:Int)≤x)),⟨H,e⟩):=by
 obtain ⟨z3,z4,z5,hl⟩:=ZhN (pr:=pr) (H:=H) (e:=none) (x:=.int .i64 x) hn s.data.toList.length 0 .undef .undef rfl
 have h0:((0:Nat):Int)=0:=rfl
 rw [h0,List.drop_zero] at hl
 rw [Zh ZuP]
 unfold Za5
 cases h1:s.data.toList.all okB <;> rw [h1] at hl <;> simp +contextual only [Zd5,ZmW,hl,go_sem,reduceIte,Ra,Rb,Rc,Rd]
theorem ZhO {s:ByteArray} {c:Int} (hn:s.data.toList.length≤9223372036854775806) :
  ∀ (k i:Nat) (y4 y5:AV),k+i=s.data.toList.length→∃ (z3 z4 z5:AV),run T pr (.loop Jn) ⟨[.str s,.int .u8 c,.bool false,.int .i64 i,y4,y5],⟨H,e⟩⟩ =
   some (if ((s.data.toList.drop i).any fun b=>decide ((b.toNat:Int)=c))=true then Ex.ret else Ex.exit 0,⟨[.str s,.int .u8 c,.bool ((s.data.toList.drop i).any fun b=>decide ((b.toNat:Int)=c)),z3,z4,z5],⟨H,e⟩⟩)
 | 0,i,y4,y5,hk=>by
  have hi:i=s.data.toList.length:=by omega
  subst hi
  refine ⟨.int .i64 s.data.toList.length,.bool false,y5,?_⟩
  rw [ZG,List.drop_length,Zzk]
  generalize run T pr (.loop Jn)=R
  simp +contextual only [Jn,Nat.lt_irrefl,decide_false,List.any_nil,go_sem,reduceIte,Ra,Rb,Rc,Rd]
 | k+1,i,y4,y5,hk=>by
  have hi:i<s.data.toList.length:=by omega
  have hi':i<s.size:=hi
  have hb:=Zzj hi
  rw [ZG,Rm hi,List.any_cons]
  obtain ⟨z3,z4,z5,ih⟩:=ZhO (c:=c) hn k (i+1) (.bool true) (.bool false) (by omega)
  generalize s.data.toList[i]=b at hb ⊢
  generalize run T pr (.loop Jn)=R at ih ⊢
  cases h1:decide ((b.toNat:Int)=c) with
  | true=>
   refine ⟨.int .i64 i,.bool true,.bool true,?_⟩
   simp +contextual only [Jn,hi',hb,h1,decide_true,go_sem,reduceIte,Ra,Rb,Rc,Rd]
  | false=>
   refine ⟨z3,z4,z5,?_⟩
   simp +contextual only [Jn,hi',hb,h1,Zi (show i<9223372036854775807 by omega),decide_true,go_sem,reduceIte,Ra,Rb,Rc,Rd]
   exact ih
theorem Zng {s:ByteArray} (hn:s.data.toList.length≤9223372036854775806) (c:Int):call T pr ZdO [.str s,.int .u8 c] ⟨H,e⟩=some (.bool (ZHX s c),⟨H,e⟩):=by
 obtain ⟨z3,z4,z5,hl⟩:=ZhO (pr:=pr) (H:=H) (e:=none) (c:=c) hn s.data.toList.length 0 .undef .undef rfl
 have h0:((0:Nat):Int)=0:=rfl
 rw [h0,List.drop_zero] at hl
 rw [Zh ZuQ]
 unfold ZHX
 cases h1:(s.data.toList.any fun b=>decide ((b.toNat:Int)=c)) <;> rw [h1] at hl <;> simp +contextual only [Zd6,ZmX,hl,go_sem,reduceIte,Ra,Rb,Rc,Rd]
theorem Zv7 (l:List UInt8) (c:UInt8):decide (0≤Lib.indexByte l c)=l.any fun b=>decide ((b.toNat:Int)=(c.toNat:Int)):=by
 induction l with
 | nil=>rfl
 | cons b l ih=>
  have hge:=Lib.indexByte_ge l c
  rw [List.any_cons,Lib.indexByte]
  by_cases h:b=c
  ·subst h
   simp
  ·have h1:(b==c)=false:=by simpa using h
   have h2:¬ (b.toNat:Int)=(c.toNat:Int):=fun e=>h (UInt8.toNat_inj.mp (by omega))
   rw [h1,decide_eq_false h2,Bool.false_or,←ih]
   by_cases h3:Lib.indexByte l c = -1
   ·simp [h3]
   ·have h4:(Lib.indexByte l c == -1)=false:=by simpa using h3
    rw [h4]
    simp only [Bool.false_eq_true,if_false]
    exact decide_eq_decide.mpr (by omega)
def YW (pr:Zt):Prop:=∀ (s:ByteArray) (c:UInt8) (m:Mem),call T pr Yz [.str s,.str ⟨#[c]⟩] m=some (.bool (decide (0≤Lib.indexByte s.data.toList c)),m)
abbrev rcV (s t:ByteArray):AV:=.agg [.str s,.str t]
def Zmk (s t:ByteArray):Bool:=((decide ((1:Int)≤(s.size:Int))&&decide ((s.size:Int)≤160))&&decide ((t.size:Int)≤250))&&(Za5 s&&(Za5 t && !ZHX s 64))
theorem Zbv (hp:YW pr) {s t:ByteArray} (hs:s.data.toList.length≤9223372036854775806) (ht:t.data.toList.length≤9223372036854775806):call T pr Xu [rcV s t] ⟨H,e⟩=some (.bool (Zmk s t),⟨H,e⟩):=by
 have hc:∀ m,call T pr Yz [.str s,.str ⟨#[64]⟩] m=some (.bool (ZHX s 64),m):=fun m=>by
  rw [hp s 64 m,Zv7]
  rfl
 rw [Zh Zl4]
 unfold Zmk
 cases h1:(decide ((1:Int)≤(s.size:Int))&&decide ((s.size:Int)≤160)) with
 | false=>simp +contextual only [Yp,Xw,Yd,h1,go_sem,reduceIte,Ra,Rb,Rc,Rd]
 | true=>
  cases h2:decide ((t.size:Int)≤250) with
  | false=>simp +contextual only [Yp,Xw,Yd,h1,h2,go_sem,reduceIte,Ra,Rb,Rc,Rd]
  | true=>
   cases h3:Za5 s with
   | false=>simp +contextual only [Yp,Xw,Yd,Zfc hs,h1,h2,h3,go_sem,reduceIte,Ra,Rb,Rc,Rd]
   | true=>
    cases h4:Za5 t with
    | false=>simp +contextual only [Yp,Xw,Yd,Zfc hs,Zfc ht,h1,h2,h3,h4,go_sem,reduceIte,Ra,Rb,Rc,Rd]
    | true=>simp +contextual only [Yp,Xw,Yd,Zfc hs,Zfc ht,hc,h1,h2,h3,h4,go_sem,reduceIte,Ra,Rb,Rc,Rd]
theorem ZGG (s:ByteArray):(!decide (s=⟨#[]⟩))=decide ((1:Int)≤(s.size:Int)):=by
 have h:s=⟨#[]⟩↔s.size=0:=by
  constructor
  ·rintro rfl;rfl
  ·intro h
   have h1:s.data.size=0:=h
   have h2:s.data = #[]:=Array.eq_empty_of_size_eq_zero h1
   cases s
   simp at h2
   rw [h2]
 rw [←decide_not]
 exact decide_eq_decide.mpr (by rw [h];omega)
theorem Zgy {L:List Blk} {j:Nat} {cs:List AV} {w:Bool} (h:L[j]?=some (.cells cs w)):Zb L j=some cs:=by
 unfold Zb
 rw [h]
def ZKH (l:List Nat):List Int:=l.map fun (i:Nat)=>(i:Int)
def ZtH:List Ld→Nat→Int→List Ld
 | [],_,_=>[]
 | l::ls,0,p=>(p,l.2)::ls
 | l::ls,i+1,p=>l::ZtH ls i p
theorem Zgz:∀ (ls:List Ld) (i:Nat) (p:Int),(ZtH ls i p).length=ls.length
 | [],_,_=>rfl
 | l::ls,0,p=>rfl
 | l::ls,i+1,p=>by simp [ZtH,Zgz ls i p]
theorem ZCn {ls:List Ld} {i:Nat} (p:Int) (hi:i<ls.length):∃ P l R,ls=P++l::R∧P.length=i∧ls[i]?=some l∧ZtH ls i p=P++(p,l.2)::R:=by
 induction ls generalizing i with
 | nil=>simp at hi
 | cons l ls ih=>
  cases i with
  | zero=>exact ⟨[],l,ls,rfl,rfl,rfl,rfl⟩
  | succ i=>
   obtain ⟨P,l',R,h1,h2,h3,h4⟩:=ih (by simpa using hi)
   exact ⟨l::P,l',R,by rw [h1];rfl,by simp [h2],by simpa using h3,by rw [ZtH,h4];rfl⟩
theorem Zlg {ls:List Ld} {i:Nat} (p:Int) (hi:i<ls.length):Z3 (Zn ls) (i*2) [.int .i64 p]=Zn (ZtH ls i p):=by
 obtain ⟨P,l,R,h1,h2,_,h4⟩:=ZCn p hi
 rw [h4,h1,←h2]
 exact Zq6 P R l p
theorem w11:IntKind.i64.wrap (1+1)=2:=by decide
end Go.Proofs.YtemcdiajejekoaaGreatDoor.Slim
