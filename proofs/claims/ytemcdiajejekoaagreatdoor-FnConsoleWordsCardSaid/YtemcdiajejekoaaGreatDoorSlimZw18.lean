/- Parts of the proof. -/
import Derived.Test.YtemcdiajejekoaaGreatDoorSlimZw17
set_option linter.unusedSimpArgs false
set_option linter.unusedVariables false
namespace Go.Proofs.YtemcdiajejekoaaGreatDoor.Slim
open Go
open Nat renaming reduceAdd → Ra, reduceLeDiff → Rb, reduceLT → Rc, reduceEqDiff → Rd
open Nat renaming add_assoc → Rw, zero_add → WS
open List renaming getElem?_append_right → Rs, length_cons → RB, getElem?_set_ne → Wm, length_nil → WQ, nil_append → RA, cons_append → Rv, length_append → RL, append_assoc → Rj
open Option renaming getD_some → WR
variable {pr : Zq} {H : List Blk} {e : Option Nat}
abbrev Cn.v (x:Cn) (b1 b2:Nat) (c1 c2:Option Nat):AV:=cnV (slL b1 x.s.ls.length c1) x.s.a x.s.b (slS b2 x.s.ss.length c2) x.s.t x.s.c x.d x.p x.n
theorem ZcM {L:List Blk} {b1 b2:Nat} {c1 c2:Option Nat} (x:Cn) (r:By) (hL:YR H L) (e0 e1:Option Nat) (hc:clean H.length e1=true) (hb1:H.length≤b1) (hb2:H.length≤b2) (hne:b1≠b2) (h1:L[b1]?=some (.cells (Zu x.s.ls) true)) (h2:L[b2]?=some (.cells (ZI x.s.ss) true)) :
  finish 2 H.length e0 (.tup [x.v b1 b2 c1 c2,sV r]) ⟨L,e1⟩=some (.tup [x.v H.length (H.length+1) c1 c2,sV r],⟨H++[.cells (Zu x.s.ls) true,.cells (ZI x.s.ss) true],e0⟩):=by
 obtain ⟨G,rfl⟩:=hL
 have hlt1:¬ b1<H.length:=by omega
 have hlt2:¬ b2<H.length:=by omega
 have hne':¬ b2=b1:=fun h=>hne h.symm
 have hr:X6 (AV.roots H.length (.tup [x.v b1 b2 c1 c2,sV r]))=[b1,b2]:=by
  simp only [AV.roots,AV.roots.go,if_neg hlt1,if_neg hlt2,RA,Rv,List.append_nil]
  simp [X6,hne',hne]
 unfold finish
 simp only [hr]
 have h3:([b1,b2].all fun b=>XG H.length (H++G)[b]?)=true:=by
  simp only [List.all_cons,List.all_nil,Bool.and_true,h1,h2,XG,Yk,Yx,Bool.and_self]
 simp only [hc,h3,and_self,if_true]
 have hq:(b1==b2)=false:=by simpa using hne
 simp [AV.rename,AV.rename.go,ZaT,h1,h2,List.idxOf_cons,hlt1,hlt2,hq]
theorem Zy6 {A B:List Blk} (h:A.length≤B.length) (hk:∀ i,i<A.length→B[i]?=A[i]?):YR A B:=by
 refine ⟨B.drop A.length,?_⟩
 have:B.take A.length=A:=by
  apply List.ext_getElem?
  intro i
  by_cases hi:i<A.length
  ·rw [List.getElem?_take_of_lt hi,hk i hi]
  ·rw [List.getElem?_eq_none (by rw [List.length_take];omega),List.getElem?_eq_none (by omega)]
 conv=>lhs;rw [←List.take_append_drop A.length B,this]
theorem Zbo.out {M:List Blk} {e:Option Nat} {u q1 q2:Nat} {rest:List AV} {s:Sd} {r:Option Sd×Option By} {v:AV} {m:Mem} (h:Zbo M.length M e u rest r v m) (hu:M[u]?=some (.cells (sdL (slL q1 s.ls.length none) s.a s.b (slS q2 s.ss.length none) s.t s.c rest) true)) (g1:M[q1]?=some (.cells (Zu s.ls) true)) (g2:M[q2]?=some (.cells (ZI s.ss) true)) (h1:q1≠u) (h2:q2≠u) (h12:q1≠q2) :
  ∃ (L':List Blk) (e':Option Nat) (x:By) (p1 p2:Nat),m=⟨L',e'⟩∧v=.tup [sV x,.bool r.2.isSome]∧(∀ y,r.2=some y→x=y)∧(∀ i,i<M.length→i≠u→L'[i]?=M[i]?)∧M.length≤L'.length∧(∀ B,B≤u→clean B e=true→clean B e'=true)∧(p1=q1∨M.length≤p1)∧(p2=q2∨M.length≤p2)∧p1≠p2 ∧
   L'[u]?=some (.cells (sdL (slL p1 (r.1.getD s).ls.length none) (r.1.getD s).a (r.1.getD s).b (slS p2 (r.1.getD s).ss.length none) (r.1.getD s).t (r.1.getD s).c rest) true)∧L'[p1]?=some (.cells (Zu (r.1.getD s).ls) true)∧L'[p2]?=some (.cells (ZI (r.1.getD s).ss) true):=by
 obtain ⟨L',e',rfl,⟨x,rfl,hx⟩,k1,k2,k3,k4⟩:=h
 have l1:=(List.getElem?_eq_some_iff.mp g1).1
 have l2:=(List.getElem?_eq_some_iff.mp g2).1
 cases hr:r.1 with
 | some s'=>
  rw [hr] at k4
  obtain ⟨p1,p2,a1,a2,a3,a4,a5,a6⟩:=k4
  exact ⟨L',e',x,p1,p2,rfl,rfl,hx,k1,k2,k3,.inr a1,.inr a2,a3,a4,a5,a6⟩
 | none=>
  rw [hr] at k4
  have k4':L'[u]?=M[u]?:=k4
  exact ⟨L',e',x,q1,q2,rfl,rfl,hx,k1,k2,k3,.inl rfl,.inl rfl,h12,by rw [k4',hu];rfl,by rw [k1 q1 l1 h1,g1];rfl,by rw [k1 q2 l2 h2,g2];rfl⟩
def ZCA (H:List Blk) (e:Option Nat) (r:Cn×By) (v:AV) (m:Mem):Prop :=
 v=.tup [r.1.v H.length (H.length+1) none none,sV r.2]∧m=⟨H++[.cells (Zu r.1.s.ls) true,.cells (ZI r.1.s.ss) true],e⟩
set_option maxHeartbeats 4000000 in
theorem ZfZ (hl:Zlc pr) {q1 q2:Nat} {c1 c2:Option Nat} {x:Cn} (h1:Za H q1=some (Zu x.s.ls)) (h2:Za H q2=some (ZI x.s.ss)) (hn:x.s.ls.length≤1048576) (hm:x.s.ss.length≤1048576) (hd:x.d.length≤1048576) (hp:x.p.length≤1048576) (cmd:By) (hcm:cmd.length≤1048576) :
  Wc (call T pr ZM [x.v q1 q2 c1 c2,sV cmd] ⟨H,e⟩) (ZCA H e (Zy5 x cmd)):=by
 have hcp:=fun L e' (g1:Za L q1=some (Zu x.s.ls)) (g2:Za L q2=some (ZI x.s.ss))=>Zdq (pr:=pr) (e:=e') (c1:=c1) (c2:=c2) g1 g2 hn hm x.s.a x.s.b x.s.t x.s.c
 have hva:=fun L e' (g1:Za L q1=some (Zu x.s.ls)) (g2:Za L q2=some (ZI x.s.ss))=>Zg6 (pr:=pr) (e:=e') (c1:=c1) (c2:=c2) hl.all.ito hl.all.con hl.all.idx g1 g2 hm x.s.a x.s.b x.s.t x.s.c x.n hd hp
 have hok:(Zg5 x.s.ls x.s.ss x.s.a x.s.b x.s.t x.s.c&&Ze1 x.d x.p x.n)=x.ok:=rfl
 rw [hok] at hva
 have hrc:=fun L e'=>Q3 (pr:=pr) (H:=L) (e:=e') (s:=bs cmd) (t:=bs []) hl.all.con (by rw [Zam];omega) (by rw [Zam];simp)
 have hrk:ZrC (bs cmd) (bs [])=Zof cmd []:=rfl
 rw [hrk] at hrc
 rw [ZK Zgn]
 unfold Zy5
 cases hA:x.ok with
 | false=>
  rw [hA] at hva
  simp only [Bool.false_eq_true,if_false]
  simp (maxSteps:=2000000) +contextual only [Ys,XA,Zb,Zc h1,Zc h2,hcp,hva,Rw,pp,go_sem,reduceIte,Ra,Rb,Rc,Rd]
  refine Wc.of_eq (ZcM (b1:=H.length+2) (b2:=H.length+3) (c1:=none) (c2:=none) x _ ⟨_,rfl⟩ e _ ?_ (by omega) (by omega) (by omega) (by rw [Rs (by omega),show H.length+2 - H.length=2 by omega];rfl) (by rw [Rs (by omega),show H.length+3 - H.length=3 by omega];rfl)) ⟨rfl,rfl⟩
  exact ZC _ (ZC _ rfl (Zt rfl (by omega))) (Zt (ZC _ rfl (Zt rfl (by omega))) (by omega))
 | true=>
  rw [hA] at hva
  simp only [if_true]
  cases hB:Zof cmd [] with
  | false=>
   rw [hB] at hrc
   simp only [Bool.false_eq_true,if_false]
   simp (maxSteps:=2000000) +contextual only [Ys,XA,Zb,Zc h1,Zc h2,hcp,hva,hrc,Rw,pp,go_sem,reduceIte,Ra,Rb,Rc,Rd]
   refine Wc.of_eq (ZcM (b1:=H.length+2) (b2:=H.length+3) (c1:=none) (c2:=none) x _ ⟨_,rfl⟩ e _ ?_ (by omega) (by omega) (by omega) (by rw [Rs (by omega),show H.length+2 - H.length=2 by omega];rfl) (by rw [Rs (by omega),show H.length+3 - H.length=3 by omega];rfl)) ⟨rfl,rfl⟩
   exact ZC _ (ZC _ rfl (Zt rfl (by omega))) (Zt (ZC _ rfl (Zt rfl (by omega))) (by omega))
  | true=>
   rw [hB] at hrc
   simp only [if_true]
   by_cases h60:x.n=60
   ·rw [if_pos h60]
    simp (maxSteps:=2000000) +contextual only [Ys,XA,Zb,Zc h1,Zc h2,hcp,hva,hrc,Rw,decide_eq_true h60,pp,go_sem,reduceIte,Ra,Rb,Rc,Rd]
    refine Wc.of_eq (ZcM (b1:=H.length+2) (b2:=H.length+3) (c1:=none) (c2:=none) x _ ⟨_,rfl⟩ e _ ?_ (by omega) (by omega) (by omega) (by rw [Rs (by omega),show H.length+2 - H.length=2 by omega];rfl) (by rw [Rs (by omega),show H.length+3 - H.length=3 by omega];rfl)) ⟨rfl,rfl⟩
    exact ZC _ (ZC _ rfl (Zt rfl (by omega))) (Zt (ZC _ rfl (Zt rfl (by omega))) (by omega))
   ·rw [if_neg h60]
    have hcl:=(ZgM hB).2.1
    simp (maxSteps:=2000000) +contextual only [Ys,XA,Zb,Zc h1,Zc h2,hcp,hva,hrc,Rw,decide_eq_false h60,pp,go_sem,reduceIte,Ra,Rb,Rc,Rd]
    have hA':=hA
    unfold Cn.ok at hA'
    rw [Bool.and_eq_true] at hA'
    have hrl:=Zxw hA'.1 cmd
    obtain ⟨hlg1,hlg2⟩:=hA'
    have hap:=fun L e'=>ZiY (pr:=pr) (H:=L) (e:=e') hl.all.ito hl.all.con hl.all.idx x.d x.p x.n cmd ((KU x.s cmd).2.getD [63]) hd hp hcm (by omega)
    obtain ⟨kk,hkk⟩:=ZAz x.d x.p x.n cmd ((KU x.s cmd).2.getD [63])
    rw [hkk] at hap
    generalize ZzC x.d x.p x.n cmd ((KU x.s cmd).2.getD [63])=al at *
    refine (Zqg (u:=H.length+4) (q1:=H.length+2) (q2:=H.length+3) (c1:=none) (c2:=none) (s:=x.s) (rest:=[sV x.d,sV x.p,.int .i64 x.n]) hl (by rw [Rs (by omega),show H.length+4 - H.length=4 by omega];rfl) (Ze (w:=true) (by rw [Rs (by omega),show H.length+2 - H.length=2 by omega];rfl)) (Ze (w:=true) (by rw [Rs (by omega),show H.length+3 - H.length=3 by omega];rfl)) hlg1 cmd (by omega)).mono ?_
    intro v m hv
    obtain ⟨L',e',rp,p1,p2,rfl,rfl,hrp,k1,k2,k3,k4,k5,k6,k7,k8,k9⟩:=Zbo.out (q1:=H.length+2) (q2:=H.length+3) (s:=x.s) hv (by rw [Rs (by omega),show H.length+4 - H.length=4 by omega];rfl) (by rw [Rs (by omega),show H.length+2 - H.length=2 by omega];rfl) (by rw [Rs (by omega),show H.length+3 - H.length=3 by omega];rfl) (by omega) (by omega) (by omega)
    simp only [RL,RB,WQ] at k1 k2 k4 k5
    have kc:=k3 H.length (by omega) (ZC _ rfl (Zt rfl (by omega)))
    have k10:L'[H.length+1]?=some (.cells [.slice none 0 0 none,.int .i64 0,.int .i64 0,.slice none 0 0 none,.int .i64 0,.int .i64 0,.str ⟨#[]⟩,.str ⟨#[]⟩,.int .i64 0] true):=by
     rw [k1 (H.length+1) (by omega) (by omega),Rs (by omega),show H.length+1 - H.length=1 by omega];rfl
    have hLg:YR H L':=Zy6 (by omega) fun i hi=>by rw [k1 i (by omega) (by omega),List.getElem?_append_left hi]
    generalize hs':(KU x.s cmd).1.getD x.s=s' at *
    generalize ho:(KU x.s cmd).2=o at *
    clear k1 k3 hs' hkk
    have k7c:=Ze k7
    have hset:∀ X,Za (L'.set (H.length+4) (.cells X true)) (H.length+4)=some X:=fun X=>Zk2 (by omega) X true
    have hset1:∀ X:Blk,(L'.set (H.length+4) X)[H.length+1]?=some (.cells [.slice none 0 0 none,.int .i64 0,.int .i64 0,.slice none 0 0 none,.int .i64 0,.int .i64 0,.str ⟨#[]⟩,.str ⟨#[]⟩,.int .i64 0] true):=fun X=>by rw [Wm (by omega)];exact k10
    have hset2:∀ (X:Blk) Y,Za ((L'.set (H.length+4) X).set (H.length+1) (.cells Y true)) (H.length+1)=some Y:=fun X Y=>Zk2 (by rw [List.length_set];omega) Y true
    cases o with
    | none=>
     simp only [Option.getD_none] at hap ⊢
     simp (maxSteps:=2000000) +contextual only [k7c,k7,hap,hset,hset1,hset2,Option.isSome_none,Option.getD_none,Zb,pp,go_sem,reduceIte,Ra,Rb,Rc,Rd]
     refine Wc.of_eq (ZcM (b1:=p1) (b2:=p2) (c1:=none) (c2:=none) ⟨s',al.1,al.2.1,al.2.2⟩ _ ((hLg.put (by omega) _).put (by omega) _) e _ (ZC _ kc (Zt kc (by omega))) (by omega) (by omega) k6 (by rw [Wm (by omega),Wm (by omega)];exact k8) (by rw [Wm (by omega),Wm (by omega)];exact k9)) ⟨rfl,rfl⟩
    | some y=>
     have hxy:=hrp y rfl
     subst hxy
     simp only [WR] at hap ⊢
     simp (maxSteps:=2000000) +contextual only [k7c,k7,hap,hset,hset1,hset2,Option.isSome_some,WR,Zb,pp,go_sem,reduceIte,Ra,Rb,Rc,Rd]
     refine Wc.of_eq (ZcM (b1:=p1) (b2:=p2) (c1:=none) (c2:=none) ⟨s',al.1,al.2.1,al.2.2⟩ _ ((hLg.put (by omega) _).put (by omega) _) e _ (ZC _ kc (Zt kc (by omega))) (by omega) (by omega) k6 (by rw [Wm (by omega),Wm (by omega)];exact k8) (by rw [Wm (by omega),Wm (by omega)];exact k9)) ⟨rfl,rfl⟩
variable {pr : Zq} {H : List Blk} {e : Option Nat}
theorem Zha (hl:Zlc pr) {q1 q2:Nat} {c1 c2:Option Nat} {x:Cn} (h1:Za H q1=some (Zu x.s.ls)) (h2:Za H q2=some (ZI x.s.ss)) (hn:x.s.ls.length≤1048576) (hm:x.s.ss.length≤1048576) (hd:x.d.length≤1048576) (hp:x.p.length≤1048576) (cmd:By) (hcm:cmd.length≤1048576) :
  call T pr ZM [x.v q1 q2 c1 c2,sV cmd] ⟨H,e⟩=some (.tup [(Zy5 x cmd).1.v H.length (H.length+1) none none,sV (Zy5 x cmd).2],⟨H++[.cells (Zu (Zy5 x cmd).1.s.ls) true,.cells (ZI (Zy5 x cmd).1.s.ss) true],e⟩) :=
 Wc.eq (ZfZ hl h1 h2 hn hm hd hp cmd hcm)
section
variable {C : FuncId → List AV → Mem → Option (AV × Mem)} {g : X → AV} {m : Mem}
end
variable {pr : Zq} {H : List Blk} {e : Option Nat}
theorem ZsQ (f k:Nat):ZaK f k []=[]∧ZdR f k []=0:=by
 cases f with
 | zero=>simp [ZaK,ZdR]
 | succ f=>rw [ZaK,ZdR,Zwx];simp
theorem Zxx (z:Int) {b:UInt8} (hb:b∈Lib.itoa z):45≤b.toNat∧b.toNat≤57:=by
 unfold Lib.itoa at hb
 split at hb
 ·rcases List.mem_cons.mp hb with rfl | hb
  ·decide
  ·have:=ZhS (n:=(z.natAbs:Int)) (by omega) (b:=b) (by unfold Lib.itoa;rw [if_neg (by omega),Int.toNat_natCast];exact hb)
   omega
 ·rename_i hz
  have:=ZhS (n:=z) (by omega) (b:=b) (by unfold Lib.itoa;rw [if_neg hz];exact hb)
  omega
def Cn.new (s:Sd):Cn:=⟨s,[],[],0⟩
theorem ZBi (s:Sd):(Cn.new s).ok=s.std:=by
 have h:Ze1 [] [] 0=true:=by
  unfold Ze1
  rw [List.append_nil,(ZsQ 60 0).1,(ZsQ 60 0).2]
  rfl
 show (s.std&&Ze1 [] [] 0)=s.std
 rw [h,Bool.and_true]
abbrev Cn.w (x:Cn) (rv cv:AV):AV:=cnV rv x.s.a x.s.b cv x.s.t x.s.c x.d x.p x.n
abbrev Cn.cs (x:Cn) (rv cv:AV):List AV:=[rv,.int .i64 x.s.a,.int .i64 x.s.b,cv,.int .i64 x.s.t,.int .i64 x.s.c,sV x.d,sV x.p,.int .i64 x.n]
def Sd.small (s:Sd):Prop:=s.ls.length≤1048576∧s.ss.length≤1048576
def Cn.small (x:Cn):Prop:=x.s.small∧x.d.length≤1048576∧x.p.length≤1048576
variable {pr : Zq} {H : List Blk} {e : Option Nat}
variable {pr : Zq} {H : List Blk} {e : Option Nat}
variable {pr : Zq} {H : List Blk} {e : Option Nat}
variable {pr : Zq} {H : List Blk} {e : Option Nat}
variable {pr : Zq} {H : List Blk} {e : Option Nat}
variable {pr : Zq} {H : List Blk} {e : Option Nat}
theorem Zob (hi:Jg pr) (n:Int) (h1 : -999999≤n) (h2:n≤999999):call T pr Zav [.int .i64 n] ⟨H,e⟩=some (.tup [sV (Lib.itoa n),.bool true],⟨H,e⟩):=by
 have hit:=fun m=>hi n m (by omega) (by omega)
 rw [Zl Znb]
 simp +contextual only [ZaA,Zgc,Z0,hit,h1,h2,decide_true,Bool.and_self,go_sem,reduceIte,Ra,Rb,Rc,Rd]
theorem Zlg (hi:Jg pr) (n:Int) (h1 : -999999≤n) (h2:n≤999999) (ok:Bool):call T pr Zci [.int .i64 n,.bool ok] ⟨H,e⟩=some (sV (if ok=true then Lib.itoa n else [63]),⟨H,e⟩):=by
 have hit:=fun L e'=>Zob (pr:=pr) (H:=L) (e:=e') hi n h1 h2
 rw [Zl Zvl]
 cases ok <;> simp +contextual only [Zga,Zoz,hit,Bool.false_eq_true,go_sem,reduceIte,Ra,Rb,Rc,Rd]
theorem Zlh (hc:YH pr) (hj:ZfU pr) {q:Nat} {cap:Option Nat} {xs:List By} (h:Za H q=some (Zfo xs)) (h0:xs≠[]) (hn:xs.length≤100) (hx:∀ x∈xs,0≤Lib.indexByte x 32→False) (hl:∀ x∈xs,x.length≤20) :
  call T pr K3 [slX q xs.length cap,sV [32]] ⟨H,e⟩=some (.tup [sV (Lib.join xs [32]),.bool true],⟨H,e⟩):=by
 have hjl:=ZgX [32] 20 xs hl
 simp only [List.length_singleton] at hjl
 have hjo:=fun L e' (g:Za L q=some (Zfo xs))=>hj xs 32 q cap L e' g (by omega) (by omega)
 have hpos:0<xs.length:=List.length_pos_iff.mpr h0
 have hne:¬ ((xs.length:Nat):Int)=0:=by omega
 have hw:IntKind.i64.wrap ((xs.length:Int) - 1)=((xs.length - 1:Nat):Int):=by rw [show (xs.length:Int) - 1=((xs.length - 1:Nat):Int) by omega];exact Yc (by omega) (by omega)
 apply Wc.eq
 rw [ZK Zj7]
 simp (maxSteps:=2000000) +contextual only [JK,Zd7,hne,hw,J9,List.size_toArray,RB,WQ,WS,Int.natCast_one,ne_eq,not_true_eq_false,decide_false,decide_true,pp,go_sem,reduceIte,Ra,Rb,Rc,Rd]
 refine XQ (fun j st=>∃ (i z:Nat) (w5 w10 w11:AV),i+j=xs.length∧z≤100+20*i∧st=⟨[slX q xs.length cap,sV [32],.str ⟨#[]⟩,.bool false,.int .i64 z,w5,.bool false,slX q xs.length cap,.int .i64 xs.length,.int .i64 i,w10,w11],⟨H,none⟩⟩) ?_ xs.length _ ⟨0,_,_,_,_,by omega,by omega,rfl⟩
 rintro j _ ⟨i,z,w5,w10,w11,hij,hz,rfl⟩
 by_cases hj0:j=0
 ·have he:i=xs.length:=by omega
  subst he
  simp (maxSteps:=2000000) +contextual only [QV,JK,Nat.lt_irrefl,decide_false,h,hjo,pp,ff,go_sem,reduceIte,Ra,Rb,Rc,Rd]
 ·have hi:i<xs.length:=by omega
  obtain ⟨w,hwi⟩:∃ w,xs[i]?=some w:=⟨_,List.getElem?_eq_getElem hi⟩
  have hm:=List.mem_of_getElem? hwi
  have hcn:=fun m=>hc (bs w) 32 m
  have hcf:decide (0≤Lib.indexByte (bs w).data.toList 32)=false:=decide_eq_false fun hh=>hx w hm hh
  simp only [hcf] at hcn
  have hwl:=hl w hm
  have hw2:IntKind.i64.wrap ((z:Int)+((w.length:Nat):Int))=((z+w.length:Nat):Int):=by rw [show (z:Int)+((w.length:Nat):Int)=((z+w.length:Nat):Int) by omega];exact Yc (by omega) (by omega)
  have hgt:¬ (4000:Int)<((z+w.length:Nat):Int):=by omega
  simp (maxSteps:=2000000) +contextual only [QV,hi,h,ZdD _ (ZzB hwi),hcn,J9,List.size_toArray,hw2,hgt,gt_iff_lt,Zw (show i<9223372036854775807 by omega),decide_true,decide_false,pp,go_sem,reduceIte,Ra,Rb,Rc,Rd]
  exact ⟨j - 1,by omega,i+1,z+w.length,_,_,_,by omega,by omega,rfl⟩
theorem Zxy (z:Int):0≤Lib.indexByte (Lib.itoa z) 32→False:=fun h=>by
 have hh:=ZkC (Lib.itoa z) 32
 rw [decide_eq_true h] at hh
 obtain ⟨b,hb,h2⟩:=List.any_eq_true.mp hh.symm
 have:=Zxx z hb
 have h3:((b.toNat:Int)=((32:UInt8).toNat:Int)):=of_decide_eq_true h2
 have h4:(32:UInt8).toNat=32:=rfl
 omega
theorem ZuL {z:Int} (h1 : -999999≤z) (h2:z≤999999):(Lib.itoa z).length≤20:=by
 unfold Lib.itoa
 split
 ·have:=Zw1 z.natAbs 6 (by omega)
  simp only [RB]
  omega
 ·have:=Zw1 z.toNat 6 (by omega)
  omega
theorem Zoc (v:AV):call T pr Zcj [v,.bool false] ⟨H,e⟩=some (sV [63],⟨H,e⟩):=by
 rw [Zl Zml]
 simp +contextual only [QR,Zhr,go_sem,reduceIte,Ra,Rb,Rc,Rd]
theorem ZuM (hl:ZlW pr) {q:Nat} {cap:Option Nat} {zs:List Int} (h:Za H q=some (Y5 zs)) (hn:zs.length≤100) (hz:∀ z∈zs,-999999≤z∧z≤999999):call T pr Zcj [slI q zs.length cap,.bool true] ⟨H,e⟩=some (sV (Zbn zs),⟨H,e⟩):=by
 apply Wc.eq
 rw [ZK Zml]
 simp +contextual only [QR,Zhr,Zb,pp,go_sem,reduceIte,Ra,Rb,Rc,Rd]
 refine XQ (fun k st=>∃ (i b:Nat) (cc:Option Nat) (L:List Blk) (w5 w7 w8:AV),i+k=zs.length∧(cc=some 0→i=0)∧YR H L∧H.length≤b∧L[b]?=some (.cells (Zfo ((zs.take i).map Lib.itoa)) true) ∧
  st=⟨[slI q zs.length cap,.bool true,.str ⟨#[]⟩,slX b i cc,.int .i64 i,w5,.bool false,w7,w8],⟨L,none⟩⟩) ?_ zs.length _ ⟨0,H.length,some 0,_,_,_,_,by omega,fun _=>rfl,⟨_,rfl⟩,Nat.le_refl _,by rw [Xe];rfl,rfl⟩
 rintro k _ ⟨i,b,cc,L,w5,w7,w8,hik,hcc,hL,hb,hLb,rfl⟩
 have hq:Za L q=some (Y5 zs):=Q6 hL h
 by_cases hk:k=0
 ·have he:i=zs.length:=by omega
  subst he
  rw [List.take_length] at hLb
  unfold Zbn
  by_cases h0:zs.length=0
  ·have h0':((zs.length:Nat):Int)=0:=by omega
   rw [if_pos h0]
   simp (maxSteps:=2000000) +contextual only [ZbC,QR,Nat.lt_irrefl,Int.lt_irrefl,decide_false,h0',decide_true,ZxM hL,Zgz,Zp,pp,go_sem,reduceIte,Ra,Rb,Rc,Rd]
  ·have h0':¬ ((zs.length:Nat):Int)=0:=by omega
   rw [if_neg h0]
   have hjn:=fun e'=>Zlh (pr:=pr) (e:=e') (cap:=cc) hl.con hl.joi (xs:=zs.map Lib.itoa) (Ze hLb) (by intro h;rw [List.map_eq_nil_iff] at h;rw [h] at h0;exact h0 rfl) (by rw [List.length_map];omega) (fun x hx=>by obtain ⟨z,_,rfl⟩:=List.mem_map.mp hx;exact Zxy z) (fun x hx=>by obtain ⟨z,h1,rfl⟩:=List.mem_map.mp hx;exact ZuL (hz z h1).1 (hz z h1).2)
   rw [List.length_map] at hjn
   unfold KK
   simp (maxSteps:=2000000) +contextual only [ZbC,QR,Nat.lt_irrefl,decide_false,h0',hjn,ZxM hL,Zgz,Zp,pp,go_sem,reduceIte,Ra,Rb,Rc,Rd]
 ·have hi':i<zs.length:=by omega
  have hl':zs[i]?=some zs[i]:=List.getElem?_eq_getElem hi'
  have hf:=hz zs[i] (List.getElem_mem hi')
  have hit:=fun L e'=>Zlg (pr:=pr) (H:=L) (e:=e') hl.ito zs[i] hf.1 hf.2 true
  simp only [if_true] at hit
  have htk:(zs.take i).map Lib.itoa++[Lib.itoa zs[i]]=(zs.take (i+1)).map Lib.itoa:=by
   rw [List.take_succ_eq_append_getElem hi',List.map_append]
   rfl
  simp (maxSteps:=2000000) +contextual only [ZbC,Zb,hi',hq,Z2 _ hl',hit,Nat.mul_one,Zw (show i<9223372036854775807 by omega),decide_true,pp,go_sem,reduceIte,Ra,Rb,Rc,Rd]
  refine Zn0 (k:=1) (new:=[sV (Lib.itoa zs[i])]) (ZY hLb _) (Zbh _ 1 1 _ _ L.length (by simp +contextual only [go_sem,reduceIte,Ra,Rb,Rc,Rd]) rfl) (by rw [ZfS];simp;omega) rfl (by unfold maxBytes;omega) hcc ?_
  intro L2 e1 e2 e3 e4
  have e3':Zfo ((zs.take i).map Lib.itoa)++[sV (Lib.itoa zs[i])]=Zfo ((zs.take (i+1)).map Lib.itoa):=by rw [←htk,ZfT];rfl
  rw [e3'] at e3
  simp (maxSteps:=2000000) +contextual only [Zw (show i<9223372036854775807 by omega),pp,go_sem,reduceIte,Ra,Rb,Rc,Rd]
  exact ⟨k - 1,by omega,i+1,_,none,L2,_,_,_,by omega,by simp,e4 _ (hL.more _) hb,by have:=hL.le;simp;omega,by simpa using e3,rfl⟩
theorem ZuN {ls:List Ld} (hn:ls.length≤12) (p:Int):(YY ls p).length≤4096:=by
 have hU:(Zp7 ls p (2 ^ ls.length)).map asZ=(ZpQ ls.length (ZhV ls p)).map asZ:=rfl
 generalize hks:(Zp7 ls p (2 ^ ls.length)).map asZ=ks at *
 have hS:((ZrK ks).map fun i=>ks.getD i [])=YY ls p:=by
  refine ZgT ls.length (ZhV ls p) _ (by rw [←hU];exact ZdE ks) ?_
  rw [List.pairwise_map]
  exact (Zel ks).2
 have hl:=(ZdE ks).length_eq
 rw [hS] at hl
 rw [hl,←hks,List.length_map]
 have:=Zn7 ls p (2 ^ ls.length)
 have:2 ^ ls.length≤2 ^ 12:=Nat.pow_le_pow_right (by omega) hn
 omega
theorem Zxz {ls:List Ld} (h:Y1 ls=true) {n:Int} (hn:0≤n∧n≤60) : -999999≤Zf2 ls n∧Zf2 ls n≤999999:=by
 have hl:=Zet h
 have ha:ls.all okL=true:=by unfold Y1 at h;simp only [Bool.and_eq_true] at h;exact h.2
 have:=Zxo n hn ls 0 ha 0 (by omega) (by omega) (by omega)
 unfold Zf2
 omega
theorem ZrX {ls:List Ld} {g:List Int} (h:Ko ls=some g) (hn:ls.length≤12):g.length≤12∧∀ z∈g,-999999≤z∧z≤999999:=by
 unfold Ko at h
 split at h
 ·have hm:=List.mem_of_find?_eq_some h
  refine ⟨by have:=(ZbX hm).2;omega,fun z hz => ?_⟩
  unfold YY ZxL at hm
  obtain ⟨l,hl,rfl⟩:=List.mem_map.mp hm
  obtain ⟨k,hk,h2⟩:=List.mem_flatMap.mp (List.mem_filter.mp hl).1
  obtain ⟨_,_,h3⟩:=(X1 _ _ _).mp h2
  unfold asZ at hz
  obtain ⟨i,hi,rfl⟩:=List.mem_map.mp hz
  have:=h3 i hi
  omega
 ·cases h
theorem Zy7 {s:Sd} (hs:s.std=true) {c:By} (hc:Zof c []=true):(Zy5 (Cn.new s) c).2=(KU s c).2.getD [63]:=by
 unfold Zy5
 rw [if_pos (by rw [ZBi];exact hs),if_pos hc,if_neg (by show ¬ (0:Int)=60;decide)]
 rfl
theorem Zy8 (s:Sd):(KU s [114,111,119]).2=some (ZdB s.ls):=by
 have h:Yy 32 [114,111,119]=[[114,111,119]]:=by decide +kernel
 unfold KU Zi4
 rw [h]
 simp only [ZdU]
 rw [ZsP]
 simp [askW]
theorem ZxA:ZdU [[51,48]]=some [30]:=by
 rw [ZaR ((Zeo _ 30).mpr (by decide +kernel))]
 rfl
theorem ZrY (s:Sd):(KU s [109,111,109,101,110,116,32,51,48]).2=some (Lib.itoa (Zf2 s.ls 30)):=by
 have h:Yy 32 [109,111,109,101,110,116,32,51,48]=[[109,111,109,101,110,116],[51,48]]:=by decide +kernel
 have ht:¬ 0<Zev [109,111,109,101,110,116] 1:=by decide +kernel
 unfold KU Zi4
 rw [h]
 simp only [ZxA]
 unfold execP
 rw [show ([30]:List Int).length=1 from rfl,if_neg ht]
 simp [askAllW,askOneW,Zhc]
theorem ZxB (s:Sd):(KU s [122,101,114,111,32,51,48]).2=some (Lib.itoa ((YY s.ls 30).length:Int)):=by
 have h:Yy 32 [122,101,114,111,32,51,48]=[[122,101,114,111],[51,48]]:=by decide +kernel
 have ht:¬ 0<Zev [122,101,114,111] 1:=by decide +kernel
 unfold KU Zi4
 rw [h]
 simp only [ZxA]
 unfold execP
 rw [show ([30]:List Int).length=1 from rfl,if_neg ht]
 simp [askAllW,askOneW,Zhc]
theorem ZuO (s:Sd):(KU s [115,112,108,105,116]).2=(Ko s.ls).map Zbn:=by
 have h:Yy 32 [115,112,108,105,116]=[[115,112,108,105,116]]:=by decide +kernel
 unfold KU Zi4
 rw [h]
 simp only [ZdU]
 rw [ZsP]
 simp [askW]
theorem Zy9 (s:Sd):(KU s [104,111,119,32,50,32,49,32,51]).2=some [45,49,32,49]:=by
 have h:Yy 32 [104,111,119,32,50,32,49,32,51]=[[104,111,119],[50],[49],[51]]:=by decide +kernel
 have hn:ZdU [[50],[49],[51]]=some [2,1,3]:=by
  rw [ZaR ((Zeo _ 2).mpr (by decide +kernel)),ZaR ((Zeo _ 1).mpr (by decide +kernel)),ZaR ((Zeo _ 3).mpr (by decide +kernel))]
  rfl
 have ht:¬ 0<Zev [104,111,119] 3:=by decide +kernel
 have hh:ZBh [2,1,3]=some [45,49,32,49]:=by decide +kernel
 unfold KU Zi4
 rw [h]
 simp only [hn]
 unfold execP
 rw [show ([2,1,3]:List Int).length=3 from rfl,if_neg ht]
 simp [askAllW,hh]
theorem ZuP (s:Sd):(KU s [99,111,105,110,115,32,49,50]).2=some [51]:=by
 have h:Yy 32 [99,111,105,110,115,32,49,50]=[[99,111,105,110,115],[49,50]]:=by decide +kernel
 have hn:ZdU [[49,50]]=some [12]:=by
  rw [ZaR ((Zeo _ 12).mpr (by decide +kernel))]
  rfl
 have ht:¬ 0<Zev [99,111,105,110,115] 1:=by decide +kernel
 have hh:Lib.itoa (ZgY 12)=[51]:=by decide +kernel
 unfold KU Zi4
 rw [h]
 simp only [hn]
 unfold execP
 rw [show ([12]:List Int).length=1 from rfl,if_neg ht]
 simp [askAllW,askOneW,ZyQ,hh]
structure KW (H:List Blk) (s:Sd) (L:List Blk) (e:Option Nat):Prop where
 gr:YR H L
 cl:clean H.length e=true
 l1:Za L H.length=some (Zu s.ls)
 l2:Za L (H.length+1)=some (ZI s.ss)
 l3:Za L (H.length+2)=some [slL H.length s.ls.length none,.int .i64 s.a,.int .i64 s.b,slS (H.length+1) s.ss.length none,.int .i64 s.t,.int .i64 s.c]
 l4:Za L (H.length+3)=some (Zu s.ls)
 l5:Za L (H.length+4)=some (ZI s.ss)
 l6:Za L (H.length+5)=some [slL (H.length+3) s.ls.length none,.int .i64 s.a,.int .i64 s.b,slS (H.length+4) s.ss.length none,.int .i64 s.t,.int .i64 s.c,.str ⟨#[]⟩,.str ⟨#[]⟩,.int .i64 0]
theorem KW.more {s:Sd} {L:List Blk} {e e':Option Nat} (h:KW H s L e) (X:List Blk) (hc:clean H.length e'=true):KW H s (L++X) e' :=
 ⟨h.gr.more X,hc,Zc h.l1 X,Zc h.l2 X,Zc h.l3 X,Zc h.l4 X,Zc h.l5 X,Zc h.l6 X⟩
set_option maxHeartbeats 4000000 in
theorem ZhW (hl:Zlc pr) {p0:Option (Nat×Nat)} {s0 n0:Nat} {c0:Option Nat} (hc0:n0≤65536→ZdO H (.slice p0 s0 n0 c0)):Wc (call T pr Jv [.slice p0 s0 n0 c0] ⟨H,none⟩) (fun v m=>v=.bool true):=by
 rw [ZK Zgm]
 obtain ⟨R3,hR3⟩:∃ R,R=(Zk (Zk (Zk Zf))):=⟨_,rfl⟩
 obtain ⟨R5,hR5⟩:∃ R,R=(Zk (Zk (Zk (Zk (Zk Zf))))):=⟨_,rfl⟩
 have hc3:R3=.seq (Xr (Zk (Zk (Zk Zf)))) (.seq (Xr (Zk (Zk (Zk (Zk Zf))))) R5):=by rw [hR3,hR5];rfl
 have hcc:Zf=.seq (Xr Zf) (.seq (Xr (Zk Zf)) (.seq (Xr (Zk (Zk Zf))) R3)):=by rw [hR3];rfl
 clear hR3
 show Wp (run T pr Zf _) _
 rw [hcc]
 by_cases hb:65536<n0
 ·have hb':decide ((65536:Int)<((n0:Nat):Int))=true:=decide_eq_true (by omega)
  simp +contextual only [Zy,Zf,Xr,Zk,Zsy,hb',pp,ff,go_sem,reduceIte,Ra,Rb,Rc,Rd]
 ·have hb':decide ((65536:Int)<((n0:Nat):Int))=false:=decide_eq_false (by omega)
  have hc:=hc0 (by omega)
  simp +contextual only [Zy,Zf,Xr,Zk,Zsy,hb',pp,go_sem,reduceIte,Ra,Rb,Rc,Rd]
  refine (ZlX hc).mono ?_
  rintro v m ⟨s,rfl,hl1,hl2,rfl⟩
  simp (maxSteps:=2000000) +contextual only [Zb,Rw,pp,go_sem,reduceIte,Ra,Rb,Rc,Rd]
  rw [hc3]
  cases hs:s.std with
  | false=>
   have hno:=fun L e' g1 g2=>ZhI (pr:=pr) (H:=L) (e:=e') (q1:=H.length) (q2:=H.length+1) (c1:=none) (c2:=none) (ls:=s.ls) (ss:=s.ss) g1 g2 (by omega) s.a s.b s.t s.c hs
   have hst:=fun L e' (h1:Za L H.length=some (Zu s.ls)) (h2:Za L (H.length+1)=some (ZI s.ss))=>Zry (pr:=pr) (H:=L) (e:=e') (row:=slL H.length s.ls.length none) (chain:=slS (H.length+1) s.ss.length none) (fun G=>Zpk (Zc h1 G)) (fun G=>Zir (Zc h2 G) (by omega)) s.a s.b s.t s.c
   have hsf:(Y1 s.ls&&(ZU s.ss&&J5 s.a s.b s.t s.c))=false:=hs
   simp only [hsf] at hst
   simp (maxSteps:=2000000) +contextual only [Zy,Zf,Xr,Zk,Zb,hno,hst,Rw,pp,go_sem,reduceIte,Ra,Rb,Rc,Rd]
   exact Wc.of_eq (ZxM ⟨_,rfl⟩ none _ _ rfl (ZC _ (ZC _ rfl (Zt rfl (by omega))) (Zt (ZC _ rfl (Zt rfl (by omega))) (by omega)))) rfl
  | true=>
   obtain ⟨hr,hch,hbb,hss,hls,ht1,ht2,hk1,hk2,hre⟩:=KL hs
   have hnew:=fun L e' g1 g2=>ZlR (pr:=pr) (H:=L) (e:=e') (q1:=H.length) (q2:=H.length+1) (c1:=none) (c2:=none) (ls:=s.ls) (ss:=s.ss) g1 g2 (by omega) (by omega) s.a s.b s.t s.c hs
   have hx:∀ (c r:By),Zof c []=true→(KU s c).2.getD [63]=r→∃ (x:Cn),∀ L e',Za L (H.length+3)=some (Zu s.ls)→Za L (H.length+4)=some (ZI s.ss) →
     call T pr ZM [csV (slL (H.length+3) s.ls.length none) s.a s.b (slS (H.length+4) s.ss.length none) s.t s.c,sV c] ⟨L,e'⟩=some (.tup [x.v L.length (L.length+1) none none,sV r],⟨L++[.cells (Zu x.s.ls) true,.cells (ZI x.s.ss) true],e'⟩):=by
    intro c r h1 h2
    refine ⟨(Zy5 (Cn.new s) c).1,fun L e' g1 g2 => ?_⟩
    have:=Zha (pr:=pr) (H:=L) (e:=e') (c1:=none) (c2:=none) hl (x:=Cn.new s) g1 g2 (by show s.ls.length≤_;omega) (by show s.ss.length≤_;omega) (by simp [Cn.new]) (by simp [Cn.new]) c (by have:=(ZgM h1).2.1;omega)
    rw [Zy7 hs h1,h2] at this
    exact this
   obtain ⟨x1,hx1⟩:=hx [114,111,119] _ (by decide +kernel) (by rw [Zy8,WR])
   obtain ⟨x2,hx2⟩:=hx [109,111,109,101,110,116,32,51,48] _ (by decide +kernel) (by rw [ZrY,WR])
   obtain ⟨x3,hx3⟩:=hx [122,101,114,111,32,51,48] _ (by decide +kernel) (by rw [ZxB,WR])
   obtain ⟨x4,hx4⟩:=hx [115,112,108,105,116] ((Ko s.ls).elim [63] Zbn) (by decide +kernel) (by rw [ZuO];cases Ko s.ls <;> rfl)
   obtain ⟨x5,hx5⟩:=hx [104,111,119,32,50,32,49,32,51] [45,49,32,49] (by decide +kernel) (by rw [Zy9,WR])
   obtain ⟨x6,hx6⟩:=hx [99,111,105,110,115,32,49,50] [51] (by decide +kernel) (by rw [ZuP,WR])
   have hrt:=fun L e' (g:Za L H.length=some (Zu s.ls))=>Zk5 (pr:=pr) (H:=L) (e:=e') (cap:=none) hl.all.ito hl.all.joi g hr
   have hma:=fun L e' (g:Za L H.length=some (Zu s.ls))=>Zbi (pr:=pr) (H:=L) (e:=e') (cap:=none) g hr (by omega) 30
   have hcz:=fun L e' (g:Za L H.length=some (Zu s.ls))=>Zg4 (pr:=pr) (H:=L) (e:=e') (cap:=none) hl.all g hr 30
   have hp30:Zhc 30=true:=by decide
   simp only [hp30,if_true] at hma hcz
   have hms:=Zxz hr (n:=30) (by omega)
   have hgl:=ZuN hls 30
   have hv1:=fun L e'=>Zlg (pr:=pr) (H:=L) (e:=e') hl.all.ito (Zf2 s.ls 30) hms.1 hms.2 true
   have hv2:=fun L e'=>Zlg (pr:=pr) (H:=L) (e:=e') hl.all.ito ((YY s.ls 30).length:Int) (by omega) (by omega) true
   simp only [if_true] at hv1 hv2
   have hal:=fun g=>ZrX (ls:=s.ls) (g:=g)
   generalize ZdB s.ls=r1 at *
   generalize Zf2 s.ls 30=r2 at *
   generalize (YY s.ls 30).length=r3 at *
   obtain ⟨R6,hR6⟩:∃ R,R=(Zk (Zk (Zk (Zk (Zk (Zk Zf)))))):=⟨_,rfl⟩
   obtain ⟨R7,hR7⟩:∃ R,R=(Zk (Zk (Zk (Zk (Zk (Zk (Zk Zf))))))):=⟨_,rfl⟩
   obtain ⟨R8,hR8⟩:∃ R,R=(Zk (Zk (Zk (Zk (Zk (Zk (Zk (Zk Zf)))))))):=⟨_,rfl⟩
   obtain ⟨R9,hR9⟩:∃ R,R=(Zk (Zk (Zk (Zk (Zk (Zk (Zk (Zk (Zk Zf))))))))):=⟨_,rfl⟩
   obtain ⟨R10,hR10⟩:∃ R,R=(Zk (Zk (Zk (Zk (Zk (Zk (Zk (Zk (Zk (Zk Zf)))))))))):=⟨_,rfl⟩
   obtain ⟨R11,hR11⟩:∃ R,R=(Zk (Zk (Zk (Zk (Zk (Zk (Zk (Zk (Zk (Zk (Zk Zf))))))))))):=⟨_,rfl⟩
   have hc5:R5=.seq (Xr (Zk (Zk (Zk (Zk (Zk Zf)))))) R6:=by rw [hR5,hR6];rfl
   have hc6:R6=.seq (Xr (Zk (Zk (Zk (Zk (Zk (Zk Zf))))))) R7:=by rw [hR6,hR7];rfl
   have hc7:R7=.seq (Xr (Zk (Zk (Zk (Zk (Zk (Zk (Zk Zf)))))))) R8:=by rw [hR7,hR8];rfl
   have hc8:R8=.seq (Xr (Zk (Zk (Zk (Zk (Zk (Zk (Zk (Zk Zf))))))))) R9:=by rw [hR8,hR9];rfl
   have hc9:R9=.seq (Xr (Zk (Zk (Zk (Zk (Zk (Zk (Zk (Zk (Zk Zf)))))))))) R10:=by rw [hR9,hR10];rfl
   have hc10:R10=.seq (Xr (Zk (Zk (Zk (Zk (Zk (Zk (Zk (Zk (Zk (Zk Zf))))))))))) R11:=by rw [hR10,hR11];rfl
   have r11:∀ (L:List Blk) (e':Option Nat) (w11 w12 w13 w14 w15 w16 w17 w18 w21:AV),KW H s L e'→Wp (run T pr R11 ⟨[.slice p0 s0 n0 c0,.bool false,.ptr (some (H.length+2,0)),.ptr (some (H.length+5,0)),.bool true,sV r1,sV (Lib.itoa r2),sV (Lib.itoa (r3:Int)),sV ((Ko s.ls).elim [63] Zbn),sV [45,49,32,49],sV [51],w11,w12,w13,w14,w15,w16,w17,w18,.bool false,.bool false,w21],⟨L,e'⟩⟩) (retQ Zy ⟨H,none⟩ fun v m=>v=.bool true):=by
    intro L e' w11 w12 w13 w14 w15 w16 w17 w18 w21 k
    rw [hR11]
    have hsl:=fun X=>Zc k.l3 X
    simp (maxSteps:=2000000) +contextual only [Zf,Zk,Xr,k.l1,k.l3,hrt,hma,hcz,pp,go_sem,reduceIte,Ra,Rb,Rc,Rd]
    refine (Zeu hl.all k.l1 hr).mono ?_
    intro v m hv
    cases hal':Ko s.ls with
    | none=>
     rw [hal'] at hv
     obtain ⟨rfl,rfl⟩:=hv
     simp (maxSteps:=2000000) +contextual only [Zy,hv1,hv2,Zoc,Option.elim_none,ne_eq,not_true_eq_false,decide_false,decide_true,ZxM k.gr,k.cl,Zcx,pp,go_sem,reduceIte,Ra,Rb,Rc,Rd]
    | some g=>
     rw [hal'] at hv
     obtain ⟨cc,rfl,rfl⟩:=hv
     obtain ⟨hg1,hg2⟩:=hal g hal' hls
     have hvw:=fun e0=>ZuM (pr:=pr) (e:=e0) (cap:=cc) hl.all (q:=L.length) (H:=L++[.cells (Y5 g) true]) (zs:=g) (Ze (w:=true) (by rw [Xe];rfl)) (by omega) hg2
     simp (maxSteps:=2000000) +contextual only [Zy,hv1,hv2,hvw,Option.elim_some,ne_eq,not_true_eq_false,decide_false,decide_true,ZxM (k.gr.more _),k.cl,Zcx,pp,go_sem,reduceIte,Ra,Rb,Rc,Rd]
   have r10:∀ (L:List Blk) (e':Option Nat) (w10 w11 w12 w13 w14 w15 w16 w17 w18 w21:AV),KW H s L e'→Wp (run T pr R10 ⟨[.slice p0 s0 n0 c0,.bool false,.ptr (some (H.length+2,0)),.ptr (some (H.length+5,0)),.bool true,sV r1,sV (Lib.itoa r2),sV (Lib.itoa (r3:Int)),sV ((Ko s.ls).elim [63] Zbn),sV [45,49,32,49],w10,w11,w12,w13,w14,w15,w16,w17,w18,.bool false,.bool false,w21],⟨L,e'⟩⟩) (retQ Zy ⟨H,none⟩ fun v m=>v=.bool true):=by
    intro L e' w10 w11 w12 w13 w14 w15 w16 w17 w18 w21 k
    rw [hc10]
    simp (maxSteps:=2000000) +contextual only [Zf,Zk,Xr,Zb,k.l1,k.l4,k.l5,k.l6,hx6,Rj,Rv,RA,RL,RB,WQ,WS,Rw,pp,go_sem,reduceIte,Ra,Rb,Rc,Rd]
    exact r11 _ _ _ _ _ _ _ _ _ _ _ (k.more _ (ZC _ k.cl (Zt k.cl (by have:=k.gr.le;omega))))
   have r9:∀ (L:List Blk) (e':Option Nat) (w9 w10 w11 w12 w13 w14 w15 w16 w17 w18 w21:AV),KW H s L e'→Wp (run T pr R9 ⟨[.slice p0 s0 n0 c0,.bool false,.ptr (some (H.length+2,0)),.ptr (some (H.length+5,0)),.bool true,sV r1,sV (Lib.itoa r2),sV (Lib.itoa (r3:Int)),sV ((Ko s.ls).elim [63] Zbn),w9,w10,w11,w12,w13,w14,w15,w16,w17,w18,.bool false,.bool false,w21],⟨L,e'⟩⟩) (retQ Zy ⟨H,none⟩ fun v m=>v=.bool true):=by
    intro L e' w9 w10 w11 w12 w13 w14 w15 w16 w17 w18 w21 k
    rw [hc9]
    simp (maxSteps:=2000000) +contextual only [Zf,Zk,Xr,Zb,k.l1,k.l4,k.l5,k.l6,hx5,Rj,Rv,RA,RL,RB,WQ,WS,Rw,pp,go_sem,reduceIte,Ra,Rb,Rc,Rd]
    exact r10 _ _ _ _ _ _ _ _ _ _ _ _ (k.more _ (ZC _ k.cl (Zt k.cl (by have:=k.gr.le;omega))))
   have r8:∀ (L:List Blk) (e':Option Nat) (w8 w9 w10 w11 w12 w13 w14 w15 w16 w17 w18 w21:AV),KW H s L e'→Wp (run T pr R8 ⟨[.slice p0 s0 n0 c0,.bool false,.ptr (some (H.length+2,0)),.ptr (some (H.length+5,0)),.bool true,sV r1,sV (Lib.itoa r2),sV (Lib.itoa (r3:Int)),w8,w9,w10,w11,w12,w13,w14,w15,w16,w17,w18,.bool false,.bool false,w21],⟨L,e'⟩⟩) (retQ Zy ⟨H,none⟩ fun v m=>v=.bool true):=by
    intro L e' w8 w9 w10 w11 w12 w13 w14 w15 w16 w17 w18 w21 k
    rw [hc8]
    simp (maxSteps:=2000000) +contextual only [Zf,Zk,Xr,Zb,k.l1,k.l4,k.l5,k.l6,hx4,Rj,Rv,RA,RL,RB,WQ,WS,Rw,pp,go_sem,reduceIte,Ra,Rb,Rc,Rd]
    exact r9 _ _ _ _ _ _ _ _ _ _ _ _ _ (k.more _ (ZC _ k.cl (Zt k.cl (by have:=k.gr.le;omega))))
   have r7:∀ (L:List Blk) (e':Option Nat) (w7 w8 w9 w10 w11 w12 w13 w14 w15 w16 w17 w18 w21:AV),KW H s L e'→Wp (run T pr R7 ⟨[.slice p0 s0 n0 c0,.bool false,.ptr (some (H.length+2,0)),.ptr (some (H.length+5,0)),.bool true,sV r1,sV (Lib.itoa r2),w7,w8,w9,w10,w11,w12,w13,w14,w15,w16,w17,w18,.bool false,.bool false,w21],⟨L,e'⟩⟩) (retQ Zy ⟨H,none⟩ fun v m=>v=.bool true):=by
    intro L e' w7 w8 w9 w10 w11 w12 w13 w14 w15 w16 w17 w18 w21 k
    rw [hc7]
    simp (maxSteps:=2000000) +contextual only [Zf,Zk,Xr,Zb,k.l1,k.l4,k.l5,k.l6,hx3,Rj,Rv,RA,RL,RB,WQ,WS,Rw,pp,go_sem,reduceIte,Ra,Rb,Rc,Rd]
    exact r8 _ _ _ _ _ _ _ _ _ _ _ _ _ _ (k.more _ (ZC _ k.cl (Zt k.cl (by have:=k.gr.le;omega))))
   have r6:∀ (L:List Blk) (e':Option Nat) (w6 w7 w8 w9 w10 w11 w12 w13 w14 w15 w16 w17 w18 w21:AV),KW H s L e'→Wp (run T pr R6 ⟨[.slice p0 s0 n0 c0,.bool false,.ptr (some (H.length+2,0)),.ptr (some (H.length+5,0)),.bool true,sV r1,w6,w7,w8,w9,w10,w11,w12,w13,w14,w15,w16,w17,w18,.bool false,.bool false,w21],⟨L,e'⟩⟩) (retQ Zy ⟨H,none⟩ fun v m=>v=.bool true):=by
    intro L e' w6 w7 w8 w9 w10 w11 w12 w13 w14 w15 w16 w17 w18 w21 k
    rw [hc6]
    simp (maxSteps:=2000000) +contextual only [Zf,Zk,Xr,Zb,k.l1,k.l4,k.l5,k.l6,hx2,Rj,Rv,RA,RL,RB,WQ,WS,Rw,pp,go_sem,reduceIte,Ra,Rb,Rc,Rd]
    exact r7 _ _ _ _ _ _ _ _ _ _ _ _ _ _ _ (k.more _ (ZC _ k.cl (Zt k.cl (by have:=k.gr.le;omega))))
   have r5:∀ (L:List Blk) (e':Option Nat) (w5 w6 w7 w8 w9 w10 w11 w12 w13 w14 w15 w16 w17 w18 w21:AV),KW H s L e'→Wp (run T pr R5 ⟨[.slice p0 s0 n0 c0,.bool false,.ptr (some (H.length+2,0)),.ptr (some (H.length+5,0)),.bool true,w5,w6,w7,w8,w9,w10,w11,w12,w13,w14,w15,w16,w17,w18,.bool false,.bool false,w21],⟨L,e'⟩⟩) (retQ Zy ⟨H,none⟩ fun v m=>v=.bool true):=by
    intro L e' w5 w6 w7 w8 w9 w10 w11 w12 w13 w14 w15 w16 w17 w18 w21 k
    rw [hc5]
    simp (maxSteps:=2000000) +contextual only [Zf,Zk,Xr,Zb,k.l1,k.l4,k.l5,k.l6,hx1,Rj,Rv,RA,RL,RB,WQ,WS,Rw,pp,go_sem,reduceIte,Ra,Rb,Rc,Rd]
    exact r6 _ _ _ _ _ _ _ _ _ _ _ _ _ _ _ _ (k.more _ (ZC _ k.cl (Zt k.cl (by have:=k.gr.le;omega))))
   simp (maxSteps:=2000000) +contextual only [Zf,Xr,Zk,Zb,hnew,Rw,pp,go_sem,reduceIte,Ra,Rb,Rc,Rd]
   refine r5 _ _ _ _ _ _ _ _ _ _ _ _ _ _ _ _ _ ⟨⟨_,rfl⟩,ZC _ (ZC _ rfl (Zt rfl (by omega))) (Zt (ZC _ rfl (Zt rfl (by omega))) (by omega)),?_,?_,?_,?_,?_,?_⟩ <;> simp +contextual only [go_sem,reduceIte,Ra,Rb,Rc,Rd]
theorem Zi5 (hl:Zlc pr) {av:AV} {zs:List Int} (h:ZBV H av zs):∃ m',call T pr Jv [av] ⟨H,none⟩=some (.bool true,m'):=by
 obtain ⟨p,sz,n,c,rfl,hc⟩:=h.form
 obtain ⟨v,m,h1,rfl⟩:=ZhW (pr:=pr) hl hc
 exact ⟨m,h1⟩
end Go.Proofs.YtemcdiajejekoaaGreatDoor.Slim
