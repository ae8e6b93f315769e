/- Parts of the proof. -/
import Derived.Test.YtemcdiajejekoaaGreatDoorSlimZ17
set_option linter.unusedSimpArgs false
set_option linter.unusedVariables false
namespace Go.Proofs.YtemcdiajejekoaaGreatDoor.Slim
open Go
open Nat renaming reduceAdd → Ra, reduceLeDiff → Rb, reduceLT → Rc, reduceEqDiff → Rd
open List renaming getElem?_append_right → RN, getElem?_set_ne → WA, length_cons → Rl, length_append → R3, getElem?_append_left → Wt, length_nil → RM, append_assoc → Rs, getElem?_eq_getElem → Rj, getElem?_eq_some_iff → RB, cons_append → Rn, nil_append → Ro, getElem?_set_self → WL, length_pos_iff → WY, drop_length → Rp, drop_eq_getElem_cons → Rm, mem_of_getElem? → WK, length_take → Wn, length_set → RE, replicate → Ry, mem_singleton → R8, getElem?_map → WZ, mem_cons_of_mem → Wu, length_singleton → R6
open Int renaming le_refl → Wd, toNat_zero → RH, toNat_one → RI
open Nat renaming zero_mul → Rr, add_assoc → RS, one_mul → Rq, lt_irrefl → Rh, le_refl → Rz, zero_add → WX, sub_self → WH
open Bool renaming false_eq_true → R7, and_eq_true → Ru, false_and → RU
open Option renaming getD_none → WE, getD_some → WW, some.injEq → RV, some.inj → WI, map_eq_some_iff → Wz
variable {pr : Zy} {H : List Blk} {e : Option Nat}
set_option maxHeartbeats 2000000 in
theorem ZDI {q1 q2:Nat} {c1 c2:Option Nat} {ls:List Ld} {ss:List Sg} {a b t k:Int} (h1:Zb H q1=some (Zm ls)) (h2:Zb H q2=some (Zr ss)) (hs:Zcn ls ss a b t k=true) (w:By) (n:Int) :
  call T pr Ziu [stV (slL q1 ls.length c1) a b (slS q2 ss.length c2) t k,sV w,.int .i64 n] ⟨H,e⟩=some (sV ((askOneW ls ss w n).getD [63]),⟨H,e⟩):=by
 obtain ⟨hr,hc,hb,hss,hls,ht1,ht2,hk1,hk2,hre⟩:=J0 hs
 have weq:=fun a=>Zab w a
 have e1:decide (bs w=⟨#[109,111,109,101,110,116]⟩)=decide (w=[109,111,109,101,110,116]):=weq _
 have e2:decide (bs w=⟨#[109,111,115,116]⟩)=decide (w=[109,111,115,116]):=weq _
 have e3:decide (bs w=⟨#[115,116,101,112,115]⟩)=decide (w=[115,116,101,112,115]):=weq _
 have e4:decide (bs w=⟨#[122,101,114,111]⟩)=decide (w=[122,101,114,111]):=weq _
 have e5:decide (bs w=⟨#[109,101,110,100]⟩)=decide (w=[109,101,110,100]):=weq _
 have e6:decide (bs w=⟨#[99,111,105,110,115]⟩)=decide (w=[99,111,105,110,115]):=weq _
 apply Wc.eq
 rw [Zs ZBP]
 unfold ZiM Zr6 askOneW
 generalize (⟨#[109,111,109,101,110,116]⟩:ByteArray)=k1 at *
 generalize (⟨#[109,111,115,116]⟩:ByteArray)=k2 at *
 generalize (⟨#[115,116,101,112,115]⟩:ByteArray)=k3 at *
 generalize (⟨#[122,101,114,111]⟩:ByteArray)=k4 at *
 generalize (⟨#[109,101,110,100]⟩:ByteArray)=k5 at *
 generalize (⟨#[99,111,105,110,115]⟩:ByteArray)=k6 at *
 clear weq
 by_cases w1:w=[109,111,109,101,110,116]
 ·rw [decide_eq_true w1] at e1
  rw [if_pos w1]
  have hf:=fun L (hL:Zb L q1=some (Zm ls))=>Zqq (pr:=pr) (e:=none) (cap:=c1) hL hr (by omega) n
  cases hB:Zhh n with
  | false=>
   simp only [hB,R7,if_false] at hf ⊢
   have hg:=fun L=>JF (pr:=pr) (H:=L) (e:=none) 0 (fit_small (by omega) (by omega)) false
   simp only [R7,if_false] at hg
   simp (maxSteps:=2000000) +contextual only [hf,hg,WE,e1,Za h1,Za h2,Zbv,Zbw,Za7,Wd,RH,RI,Rr,Rq,Zc,pp,go_sem,reduceIte,Ra,Rb,Rc,Rd]
  | true=>
   simp only [hB,if_true] at hf ⊢
   have hg:=fun L=>JF (pr:=pr) (H:=L) (e:=none) (Zln ls n) (ZAi hr hB) true
   simp only [if_true] at hg
   simp (maxSteps:=2000000) +contextual only [hf,hg,WW,e1,Za h1,Za h2,Zbv,Zbw,Za7,Wd,RH,RI,Rr,Rq,Zc,pp,go_sem,reduceIte,Ra,Rb,Rc,Rd]
 rw [decide_eq_false w1] at e1
 by_cases w2:w=[109,111,115,116]
 ·rw [decide_eq_true w2] at e2
  rw [if_neg w1,if_pos w2]
  have hf:=fun L (hL:Zb L q2=some (Zr ss))=>Zxm (pr:=pr) (e:=none) (c:=c2) hL hc (by omega) n
  cases hB:Zom n with
  | false=>
   simp only [hB,R7,if_false] at hf ⊢
   have hg:=fun L=>JF (pr:=pr) (H:=L) (e:=none) 0 (fit_small (by omega) (by omega)) false
   simp only [R7,if_false] at hg
   simp (maxSteps:=2000000) +contextual only [hf,hg,WE,e1,e2,Za h1,Za h2,Zbv,Zbw,Za7,Wd,RH,RI,Rr,Rq,Zc,pp,go_sem,reduceIte,Ra,Rb,Rc,Rd]
  | true=>
   simp only [hB,if_true] at hf ⊢
   have hg:=fun L=>JF (pr:=pr) (H:=L) (e:=none) (mostW ss n.toNat) (ZuE hc hB) true
   simp only [if_true] at hg
   simp (maxSteps:=2000000) +contextual only [hf,hg,WW,e1,e2,Za h1,Za h2,Zbv,Zbw,Za7,Wd,RH,RI,Rr,Rq,Zc,pp,go_sem,reduceIte,Ra,Rb,Rc,Rd]
 rw [decide_eq_false w2] at e2
 by_cases w3:w=[115,116,101,112,115]
 ·rw [decide_eq_true w3] at e3
  rw [if_neg w1,if_neg w2,if_pos w3]
  cases hB:Zom n with
  | false=>
   simp only [R7,if_false]
   have hf:=fun L (hL:Zb L q2=some (Zr ss))=>Zn2 (pr:=pr) (e:=none) (c:=c2) hL hc (by omega) n hB
   simp (maxSteps:=2000000) +contextual only [e1,e2,e3,Za h1,Za h2,Zbv,Zbw,Za7,Wd,RH,RI,Rr,Rq,Zc,pp,go_sem,reduceIte,Ra,Rb,Rc,Rd]
   obtain ⟨G,cap,hf⟩:=hf (H++[.cells [slL q1 ls.length c1,.int .i64 a,.int .i64 b,slS q2 ss.length c2,.int .i64 t,.int .i64 k] true]) (Za h2 _)
   simp (maxSteps:=2000000) +contextual only [hf,WE,e1,e2,e3,Za h1,Za h2,Zbv,Zbw,Za7,Wd,RH,RI,Rr,Rq,Zc,pp,go_sem,reduceIte,Ra,Rb,Rc,Rd]
  | true=>
   obtain ⟨x,rfl,hx⟩:=ZuD hB
   simp only [if_true,Int.toNat_natCast]
   simp (maxSteps:=2000000) +contextual only [e1,e2,e3,Za h1,Za h2,Zbv,Zbw,Za7,Wd,RH,RI,Rr,Rq,Zc,pp,go_sem,reduceIte,Ra,Rb,Rc,Rd]
   refine (Zus (Za h2 _) hc x hx).mono ?_
   rintro v m ⟨cap,ps,rfl,rfl,hp1,hp2⟩
   have hnew:∀ X,Zb (H++[X,.cells (Zm ps) true]) (H.length+1)=some (Zm ps):=fun X=>Zg (w:=true) (by rw [RN (by omega),show H.length+1 - H.length=1 by omega];rfl)
   obtain ⟨f1,f2⟩:=ZqE (ss:=ss) hc x hx
   have hg:=fun L=>ZgS (pr:=pr) (H:=L) (e:=none) (stepA ss x) (stepBW ss x) f1 f2 true
   simp only [if_true] at hg
   have hw:IntKind.i64.wrap (((ss.length+1:Nat):Int) - 1)=(ss.length:Int):=by rw [ZP (by omega) (by omega)];omega
   have hlt:ss.length<ss.length+1:=by omega
   simp (maxSteps:=2000000) +contextual only [hnew,hg,hw,hlt,X6 hp2,R3,Rl,RM,Rs,Rn,Ro,WW,e1,e2,e3,Za h1,Za h2,Zbv,Zbw,Za7,Wd,RH,RI,Rr,Rq,Zc,pp,go_sem,reduceIte,Ra,Rb,Rc,Rd]
 rw [decide_eq_false w3] at e3
 by_cases w4:w=[122,101,114,111]
 ·rw [decide_eq_true w4] at e4
  rw [if_neg w1,if_neg w2,if_neg w3,if_pos w4]
  have hf:=fun L (hL:Zb L q1=some (Zm ls))=>Zuy (pr:=pr) (e:=none) (cap:=c1) hL hr n
  cases hB:Zhh n with
  | false=>
   simp only [hB,R7,if_false] at hf ⊢
   have hg:=fun L=>JF (pr:=pr) (H:=L) (e:=none) 0 (fit_small (by omega) (by omega)) false
   simp only [R7,if_false] at hg
   simp (maxSteps:=2000000) +contextual only [hf,hg,WE,e1,e2,e3,e4,Za h1,Za h2,Zbv,Zbw,Za7,Wd,RH,RI,Rr,Rq,Zc,pp,go_sem,reduceIte,Ra,Rb,Rc,Rd]
  | true=>
   simp only [hB,if_true] at hf ⊢
   have hg:=fun L=>JF (pr:=pr) (H:=L) (e:=none) ((Yw ls n).length) (ZmN hls n) true
   simp only [if_true] at hg
   simp (maxSteps:=2000000) +contextual only [hf,hg,WW,e1,e2,e3,e4,Za h1,Za h2,Zbv,Zbw,Za7,Wd,RH,RI,Rr,Rq,Zc,pp,go_sem,reduceIte,Ra,Rb,Rc,Rd]
 rw [decide_eq_false w4] at e4
 by_cases w5:w=[109,101,110,100]
 ·rw [decide_eq_true w5] at e5
  rw [if_neg w1,if_neg w2,if_neg w3,if_neg w4,if_pos w5]
  have hf:=fun L (hL:Zb L q1=some (Zm ls))=>Zz8 (pr:=pr) (e:=none) (cap:=c1) hL hr (by omega) n
  have hfit:=ZuF ls n hls
  generalize ZrG ls n=o at *
  cases o with
  | some x=>
   obtain ⟨i,p⟩:=x
   have hg:∀ X,call T pr Xy [.slice (some (H.length+1,0)) 1 2 (some 2),.bool true] ⟨H++[X,.cells [.int .i64 i,.int .i64 p] true],none⟩=some (sV (ZeR [(i:Int),p]),⟨H++[X,.cells [.int .i64 i,.int .i64 p] true],none⟩):=fun X=>by
    have:=ZgT (pr:=pr) (H:=H++[X,.cells [.int .i64 i,.int .i64 p] true]) (e:=none) (q:=H.length+1) (cap:=some 2) (zs:=[(i:Int),p]) (Zg (w:=true) (by rw [RN (by omega),show H.length+1 - H.length=1 by omega];rfl)) (by simp) (ZAj hfit) true
    rw [if_pos rfl] at this
    exact this
   simp only [mvV] at hf
   simp (maxSteps:=2000000) +contextual only [hf,hg,Option.map_some,WW,e1,e2,e3,e4,e5,Za h1,Za h2,Zbv,Zbw,Za7,Wd,RH,RI,Rr,Rq,Zc,pp,go_sem,reduceIte,Ra,Rb,Rc,Rd]
  | none=>
   have hg:∀ X,call T pr Xy [.slice (some (H.length+1,0)) 1 2 (some 2),.bool false] ⟨H++[X,.cells [.int .i64 0,.int .i64 0] true],none⟩=some (sV [63],⟨H++[X,.cells [.int .i64 0,.int .i64 0] true],none⟩):=fun X=>by
    have:=ZgT (pr:=pr) (H:=H++[X,.cells [.int .i64 0,.int .i64 0] true]) (e:=none) (q:=H.length+1) (cap:=some 2) (zs:=[0,0]) (Zg (w:=true) (by rw [RN (by omega),show H.length+1 - H.length=1 by omega];rfl)) (by simp) (fun z hz=>by simp at hz;subst hz;exact fit_small (by omega) (by omega)) false
    rw [if_neg (by simp)] at this
    exact this
   simp only [mvV] at hf
   simp (maxSteps:=2000000) +contextual only [hf,hg,Option.map_none,WE,e1,e2,e3,e4,e5,Za h1,Za h2,Zbv,Zbw,Za7,Wd,RH,RI,Rr,Rq,Zc,pp,go_sem,reduceIte,Ra,Rb,Rc,Rd]
 rw [decide_eq_false w5] at e5
 by_cases w6:w=[99,111,105,110,115]
 ·rw [decide_eq_true w6] at e6
  rw [if_neg w1,if_neg w2,if_neg w3,if_neg w4,if_neg w5,if_pos w6]
  have hf:=fun L=>Zkp (pr:=pr) (H:=L) (e:=none) n
  cases hB:Zz6 n with
  | false=>
   simp only [hB,R7,if_false] at hf ⊢
   have hg:=fun L=>JF (pr:=pr) (H:=L) (e:=none) 0 (fit_small (by omega) (by omega)) false
   simp only [R7,if_false] at hg
   simp (maxSteps:=2000000) +contextual only [hf,hg,WE,e1,e2,e3,e4,e5,e6,Za h1,Za h2,Zbv,Zbw,Za7,Wd,RH,RI,Rr,Rq,Zc,pp,go_sem,reduceIte,Ra,Rb,Rc,Rd]
  | true=>
   simp only [hB,if_true] at hf ⊢
   have hg:=fun L=>JF (pr:=pr) (H:=L) (e:=none) (Zg8 n) (ZqF n) true
   simp only [if_true] at hg
   simp (maxSteps:=2000000) +contextual only [hf,hg,WW,e1,e2,e3,e4,e5,e6,Za h1,Za h2,Zbv,Zbw,Za7,Wd,RH,RI,Rr,Rq,Zc,pp,go_sem,reduceIte,Ra,Rb,Rc,Rd]
 rw [decide_eq_false w6] at e6
 rw [if_neg w1,if_neg w2,if_neg w3,if_neg w4,if_neg w5,if_neg w6]
 simp (maxSteps:=2000000) +contextual only [WE,e1,e2,e3,e4,e5,e6,Za h1,Za h2,Zbv,Zbw,Za7,Wd,RH,RI,Rr,Rq,Zc,pp,go_sem,reduceIte,Ra,Rb,Rc,Rd]
abbrev slO (q:Nat) (P:List Int) (n:Nat) (cap:Option Nat):AV:=.slice (some (q,P.length)) 1 n cap
theorem Xf {P k:List Int} {i:Nat} {x:Int} (sz:Nat) (h:k[i]?=some x):Zco false (ZR (P++k)) (P.length+i) sz=some (.int .i64 x):=by
 rw [Zu (x:=x)]
 rw [RN (by omega),show P.length+i - P.length=i by omega]
 exact h
theorem ZsS {P:List Int} {q:Nat} {cap:Option Nat} {k:List Int} (h:Zb H q=some (ZR (P++k))) (hn:k.length≤1000000):call T pr Zat [slO q P k.length cap] ⟨H,e⟩=some (.bool (Zcj k),⟨H,e⟩):=by
 have hw:∀ L x,call T pr Ku [.int .i64 x] ⟨L,none⟩=some (.bool (Zon x),⟨L,none⟩):=fun L x=>ZhO x
 have h16:=fun L=>Yd (pr:=pr) (H:=L) (e:=none) ((k.length:Nat):Int) 1 6
 apply Wc.eq
 rw [Zs Zvp]
 simp (maxSteps:=2000000) +contextual only [Jx,Zpb,pp,go_sem,reduceIte,Ra,Rb,Rc,Rd]
 refine ZM (fun j st=>∃ (i:Nat) (w2 w3 w7 w8:AV),i+j=k.length∧Zqu (Zhg k i) (k.drop i)=Zqu 0 k ∧
  st=⟨[slO q P k.length cap,.bool false,w2,w3,slO q P k.length cap,.int .i64 k.length,.int .i64 i,w7,w8],⟨H,none⟩⟩) ?_ k.length _ ⟨0,_,_,_,_,by omega,rfl,rfl⟩
 rintro j _ ⟨i,w2,w3,w7,w8,hij,hk,rfl⟩
 by_cases hj:j=0
 ·have he:i=k.length:=by omega
  subst he
  rw [Rp] at hk
  unfold Zcj
  rw [←hk]
  simp (maxSteps:=2000000) +contextual only [YO,Jx,Rh,decide_false,h16,Zqu,Bool.true_and,pp,go_sem,reduceIte,Ra,Rb,Rc,Rd]
 ·have hi:i<k.length:=by omega
  have hl:k[i]?=some k[i]:=Rj hi
  rw [Rm hi] at hk
  have hps:=Zi2 k i k[i] hl
  generalize k[i]=x at *
  have hsw:=Zh (show i<9223372036854775807 by omega)
  by_cases h0:i=0
  ·have hp:Zhg k i=0:=by rw [h0];rfl
   have hi0:¬ (0:Int)<(i:Int):=by omega
   rw [hp] at hk
   cases hx:Zon x with
   | false=>
    rw [Zck (by rw [hx];rfl)] at hk
    unfold Zcj
    rw [←hk]
    simp (maxSteps:=2000000) +contextual only [YO,Jx,hi,h,Xf _ hl,hw,hx,hi0,gt_iff_lt,decide_true,decide_false,RU,pp,go_sem,reduceIte,Ra,Rb,Rc,Rd]
   | true=>
    have hx':(Zon x&&decide (0≤x))=true:=by
     rw [hx]
     unfold Zon at hx
     simp only [Ru,decide_eq_true_eq] at hx
     simp;omega
    rw [ZeC hx',←hps] at hk
    simp (maxSteps:=2000000) +contextual only [YO,hi,h,Xf _ hl,hw,hx,hi0,gt_iff_lt,hsw,decide_true,decide_false,pp,go_sem,reduceIte,Ra,Rb,Rc,Rd]
    exact ⟨j - 1,by omega,i+1,_,_,_,_,by omega,hk,rfl⟩
  ·have hip:(0:Int)<(i:Int):=by omega
   have hl1:k[i - 1]?=some k[i - 1]:=Rj (by omega)
   have hp:Zhg k i=k[i - 1]:=by
    unfold Zhg
    rw [if_neg h0,List.getD_eq_getElem?_getD,hl1];rfl
   have hwi:IntKind.i64.wrap ((i:Int) - 1)=((i - 1:Nat):Int):=by rw [ZP (by omega) (by omega)];omega
   have hi1:i - 1<k.length:=by omega
   rw [hp] at hk
   generalize k[i - 1]=p at *
   cases hx:Zon x with
   | false=>
    rw [Zck (by rw [hx];rfl)] at hk
    unfold Zcj
    rw [←hk]
    simp (maxSteps:=2000000) +contextual only [YO,Jx,hi,h,Xf _ hl,hw,hx,hip,gt_iff_lt,decide_true,decide_false,RU,pp,go_sem,reduceIte,Ra,Rb,Rc,Rd]
   | true=>
    by_cases hxp:x<p
    ·rw [Zck (by rw [hx,decide_eq_false (by omega)];rfl)] at hk
     unfold Zcj
     rw [←hk]
     simp (maxSteps:=2000000) +contextual only [YO,Jx,hi,hi1,h,Xf _ hl,Xf _ hl1,hw,hx,hip,hwi,hxp,gt_iff_lt,decide_true,decide_false,RU,pp,go_sem,reduceIte,Ra,Rb,Rc,Rd]
    ·rw [ZeC (by rw [hx,decide_eq_true (by omega)];rfl),←hps] at hk
     simp (maxSteps:=2000000) +contextual only [YO,hi,hi1,h,Xf _ hl,Xf _ hl1,hw,hx,hip,hwi,hxp,gt_iff_lt,hsw,decide_true,decide_false,pp,go_sem,reduceIte,Ra,Rb,Rc,Rd]
     exact ⟨j - 1,by omega,i+1,_,_,_,_,by omega,hk,rfl⟩
theorem ZsT {P:List Int} {q:Nat} {cap:Option Nat} {k:List Int} (h:Zb H q=some (ZR (P++k))) (hn:k.length≤1000000):call T pr ZaA [slO q P k.length cap] ⟨H,e⟩=some (.bool (Zcj k),⟨H,e⟩):=by
 have hw:∀ L x,call T pr YT [.int .i64 x,.int .i64 1,.int .i64 99] ⟨L,none⟩=some (.bool (Zon x),⟨L,none⟩):=fun L x=>Ye x 1 99
 have h16:=fun L=>Ye (pr:=pr) (H:=L) (e:=none) ((k.length:Nat):Int) 1 6
 apply Wc.eq
 rw [Zs Zvz]
 simp (maxSteps:=2000000) +contextual only [JA,Zpg,pp,go_sem,reduceIte,Ra,Rb,Rc,Rd]
 refine ZM (fun j st=>∃ (i:Nat) (w3 w4:AV),i+j=k.length∧Zqu (Zhg k i) (k.drop i)=Zqu 0 k ∧
  st=⟨[slO q P k.length cap,.bool false,.int .i64 i,w3,w4],⟨H,none⟩⟩) ?_ k.length _ ⟨0,_,_,by omega,rfl,rfl⟩
 rintro j _ ⟨i,w3,w4,hij,hk,rfl⟩
 by_cases hj:j=0
 ·have he:i=k.length:=by omega
  subst he
  rw [Rp] at hk
  unfold Zcj
  rw [←hk]
  simp (maxSteps:=2000000) +contextual only [YR,JA,Rh,decide_false,h16,Zqu,Bool.true_and,pp,go_sem,reduceIte,Ra,Rb,Rc,Rd]
 ·have hi:i<k.length:=by omega
  have hl:k[i]?=some k[i]:=Rj hi
  rw [Rm hi] at hk
  have hps:=Zi2 k i k[i] hl
  generalize k[i]=x at *
  have hsw:=Zh (show i<9223372036854775807 by omega)
  by_cases h0:i=0
  ·have hp:Zhg k i=0:=by rw [h0];rfl
   have hi0:¬ (0:Int)<(i:Int):=by omega
   rw [hp] at hk
   cases hx:Zon x with
   | false=>
    rw [Zck (by rw [hx];rfl)] at hk
    unfold Zcj
    rw [←hk]
    simp (maxSteps:=2000000) +contextual only [YR,JA,hi,h,Xf _ hl,hw,hx,hi0,gt_iff_lt,decide_true,decide_false,RU,pp,go_sem,reduceIte,Ra,Rb,Rc,Rd]
   | true=>
    have hx':(Zon x&&decide (0≤x))=true:=by
     rw [hx]
     unfold Zon at hx
     simp only [Ru,decide_eq_true_eq] at hx
     simp;omega
    rw [ZeC hx',←hps] at hk
    simp (maxSteps:=2000000) +contextual only [YR,hi,h,Xf _ hl,hw,hx,hi0,gt_iff_lt,hsw,decide_true,decide_false,pp,go_sem,reduceIte,Ra,Rb,Rc,Rd]
    exact ⟨j - 1,by omega,i+1,_,_,by omega,hk,rfl⟩
  ·have hip:(0:Int)<(i:Int):=by omega
   have hl1:k[i - 1]?=some k[i - 1]:=Rj (by omega)
   have hp:Zhg k i=k[i - 1]:=by
    unfold Zhg
    rw [if_neg h0,List.getD_eq_getElem?_getD,hl1];rfl
   have hwi:IntKind.i64.wrap ((i:Int) - 1)=((i - 1:Nat):Int):=by rw [ZP (by omega) (by omega)];omega
   have hi1:i - 1<k.length:=by omega
   rw [hp] at hk
   generalize k[i - 1]=p at *
   cases hx:Zon x with
   | false=>
    rw [Zck (by rw [hx];rfl)] at hk
    unfold Zcj
    rw [←hk]
    simp (maxSteps:=2000000) +contextual only [YR,JA,hi,h,Xf _ hl,hw,hx,hip,gt_iff_lt,decide_true,decide_false,RU,pp,go_sem,reduceIte,Ra,Rb,Rc,Rd]
   | true=>
    by_cases hxp:x<p
    ·rw [Zck (by rw [hx,decide_eq_false (by omega)];rfl)] at hk
     unfold Zcj
     rw [←hk]
     simp (maxSteps:=2000000) +contextual only [YR,JA,hi,hi1,h,Xf _ hl,Xf _ hl1,hw,hx,hip,hwi,hxp,gt_iff_lt,decide_true,decide_false,RU,pp,go_sem,reduceIte,Ra,Rb,Rc,Rd]
    ·rw [ZeC (by rw [hx,decide_eq_true (by omega)];rfl),←hps] at hk
     simp (maxSteps:=2000000) +contextual only [YR,hi,hi1,h,Xf _ hl,Xf _ hl1,hw,hx,hip,hwi,hxp,gt_iff_lt,hsw,decide_true,decide_false,pp,go_sem,reduceIte,Ra,Rb,Rc,Rd]
     exact ⟨j - 1,by omega,i+1,_,_,by omega,hk,rfl⟩
structure ZDJ (P:List Int) (b0 q n:Nat) (cap:Option Nat) (kit:List Int) (g:FuncId) (caps:List AV) (sg:List Int) (L:List Blk):Prop where
 kc:Zb L q=some (ZR (P++kit))
 k0:L[b0]?=some (.cells [slO q P n cap] true)
 k1:L[b0+1]?=some (.cells [.int .i64 (-1)] true)
 k2:L[b0+2]?=some (.cells [.fn g [] caps] true)
 k3:L[b0+3]?=some (.cells (ZR sg) true)
 k4:L[b0+4]?=some (.cells [slI (b0+3) n (some n)] true)
 k5:L[b0+5]?=some (.cells [.fn YA [] [.ptr (some (b0,0)),.ptr (some (b0+2,0)),.ptr (some (b0+4,0)),.ptr (some (b0+1,0)),.ptr (some (b0+5,0))]] true)
 len:sg.length=n
 kl:kit.length=n
 ql:q<b0
theorem ZDJ.put {P:List Int} {b0 q n:Nat} {cap:Option Nat} {kit:List Int} {g:FuncId} {caps:List AV} {sg:List Int} {L:List Blk} (h:ZDJ P b0 q n cap kit g caps sg L) (sg':List Int) (hl:sg'.length=n):ZDJ P b0 q n cap kit g caps sg' (L.set (b0+3) (.cells (ZR sg') true)):=by
 have hlt:b0+3<L.length:=(RB.mp h.k3).1
 have hq:=h.ql
 refine ⟨?_,?_,?_,?_,?_,?_,?_,hl,h.kl,hq⟩
 ·have:=h.kc
  unfold Zb at this ⊢
  rw [WA (by omega)]
  exact this
 ·rw [WA (by omega)];exact h.k0
 ·rw [WA (by omega)];exact h.k1
 ·rw [WA (by omega)];exact h.k2
 ·rw [WL hlt]
 ·rw [WA (by omega)];exact h.k4
 ·rw [WA (by omega)];exact h.k5
def ZGl (P:List Int) (pr:Zy) (b0 q n B:Nat) (cap:Option Nat) (kit:List Int) (g:FuncId) (caps:List AV) (Inv:List (List Int)→List Blk→Prop):Prop :=
 ∀ (L:List Blk) (sg:List Int) (e:Option Nat) (done:List (List Int)),ZDJ P b0 q n cap kit g caps sg L→Inv done L→done.length<3 ^ n→Wc (call T pr g ([slI (b0+3) n (some n),.int .i64 (dotZ kit sg)]++caps) ⟨L,e⟩)
  (fun v m=>v=.tup []∧∃ L' e',m=⟨L',e'⟩∧ZDJ P b0 q n cap kit g caps sg L'∧Inv (done++[sg]) L'∧(clean B e=true→clean B e'=true))
set_option maxHeartbeats 1000000 in
theorem ZBb {P:List Int} {b0 q n B:Nat} {cap:Option Nat} {kit:List Int} {g:FuncId} {caps:List AV} {Inv:List (List Int)→List Blk→Prop} (hT:ZGl P pr b0 q n B cap kit g caps Inv)
  (hS:∀ L x done,Inv done L→Inv done (L.set (b0+3) x)) (hn:n≤1000000) (hk:∀ w∈kit,0≤w∧w≤99) :
  ∀ (d at':Nat) (sg:List Int) (L:List Blk) (e:Option Nat) (done:List (List Int)),at'+d=n→ZDJ P b0 q n cap kit g caps sg L→(∀ x∈sg.take at',x = -1∨x=0∨x=1)→Inv done L→done.length+3 ^ d≤3 ^ n →
  Wc (call T pr YA [.int .i64 at',.int .i64 (dotZ kit (sg.take at')),.ptr (some (b0,0)),.ptr (some (b0+2,0)),.ptr (some (b0+4,0)),.ptr (some (b0+1,0)),.ptr (some (b0+5,0))] ⟨L,e⟩)
   (fun v m=>v=.tup []∧∃ L' e' sg',m=⟨L',e'⟩∧ZDJ P b0 q n cap kit g caps sg' L'∧sg'.take at'=sg.take at'∧Inv (done++(XD d).map (sg.take at' ++ ·)) L'∧(clean B e=true→clean B e'=true))
 | 0,at',sg,L,e,done,hat,hE,hsg,hI,hdl=>by
  have hat':at'=n:=by omega
  subst hat'
  have htk:sg.take at'=sg:=by rw [←hE.len,List.take_length]
  rw [htk]
  rw [Zs ZaP]
  simp (maxSteps:=2000000) +contextual only [Z8,KE,Zg hE.k0,Zg hE.k2,Zg hE.k4,decide_true,pp,go_sem,reduceIte,Ra,Rb,Rc,Rd]
  refine (hT L sg none done hE hI (by have:3 ^ 0=1:=rfl;omega)).mono ?_
  rintro v m ⟨rfl,L',e',rfl,hE',hI',hcl⟩
  simp (maxSteps:=2000000) +contextual only [Z8,finish,pp,go_sem,reduceIte,Ra,Rb,Rc,Rd]
  have hm:(XD 0).map (sg ++ ·)=[sg]:=by simp [XD]
  rw [hm]
  have hl':sg.take at'=sg:=htk
  exact ⟨L',joinEsc e e',sg,rfl,hE',hl',hI',fun h=>Yl h (hcl rfl)⟩
 | d+1,at',sg,L,e,done,hat,hE,hsg,hI,hdl=>by
  rw [Zs ZaP]
  have hne:¬ ((at':Nat):Int)=((n:Nat):Int):=by omega
  simp (maxSteps:=2000000) +contextual only [Z8,KE,Zg hE.k0,Zg hE.k1,hne,decide_false,pp,go_sem,reduceIte,Ra,Rb,Rc,Rd]
  refine ZM (fun k st=>∃ (L':List Blk) (e1:Option Nat) (sg':List Int) (w9:AV),k≤3∧ZDJ P b0 q n cap kit g caps sg' L'∧sg'.take at'=sg.take at'∧Inv (done++(([-1,0,1]:List Int).take (3 - k)).flatMap fun s=>(XD d).map fun x=>sg.take at'++s::x) L'∧clean B e1=true ∧
   st=⟨[.int .i64 at',.int .i64 (dotZ kit (sg.take at')),.ptr (some (b0,0)),.ptr (some (b0+2,0)),.ptr (some (b0+4,0)),.ptr (some (b0+1,0)),.ptr (some (b0+5,0)),.int .i64 (2 - (k:Int)),.bool false,w9],⟨L',e1⟩⟩) ?_ 3 _ ⟨L,none,sg,_,Rz _,hE,rfl,by simpa using hI,rfl,rfl⟩
  rintro k _ ⟨L',e1,sg',w9,hk3,hE',htk,hI',hcl,rfl⟩
  by_cases hk0:k=0
  ·subst hk0
   have hc:¬ (2 - ((0:Nat):Int)≤1):=by omega
   simp (maxSteps:=2000000) +contextual only [Jz,Z8,finish,hc,decide_false,pp,go_sem,reduceIte,Ra,Rb,Rc,Rd]
   have hall:(([-1,0,1]:List Int).take (3 - 0)).flatMap (fun s=>(XD d).map fun x=>sg.take at'++s::x)=(XD (d+1)).map (sg.take at' ++ ·):=by
    simp [XD]
    rfl
   rw [hall] at hI'
   exact ⟨L',joinEsc e e1,sg',rfl,hE',htk,hI',fun h=>Yl h hcl⟩
  ·have hc:2 - (k:Int)≤1:=by omega
   have hi:at'<n:=by omega
   obtain ⟨w,hw⟩:∃ w,kit[at']?=some w:=⟨kit[at']'(by rw [hE.kl];exact hi),Rj _⟩
   have hwk:=hk w (WK hw)
   have hsl:sg'.length=n:=hE'.len
   have hsv:2 - (k:Int) = -1∨2 - (k:Int)=0∨2 - (k:Int)=1:=by omega
   have hF:(([-1,0,1]:List Int).take (3 - (k - 1))).flatMap (fun s=>(XD d).map fun x=>sg.take at'++s::x)=(([-1,0,1]:List Int).take (3 - k)).flatMap (fun s=>(XD d).map fun x=>sg.take at'++s::x)++(XD d).map fun x=>sg.take at'++(2 - (k:Int))::x:=by
    have:k=1∨k=2∨k=3:=by omega
    rcases this with rfl | rfl | rfl <;> simp
   have hnx:2 - (k:Int)+1=2 - ((k - 1:Nat):Int):=by omega
   generalize hs:2 - (k:Int)=s at *
   have hls:=ZlO sg' at' s (by omega)
   rw [htk] at hls
   have hd:=ZlN kit (sg.take at') at' w s hw (by rw [Wn,hE.len];omega)
   rw [←hls] at hd
   have hb:=Zid kit (sg.take at') hk hsg
   rw [hE.kl] at hb
   have hws : -99≤w*s∧w*s≤99:=by rcases hsv with h | h | h <;> rw [h] <;> omega
   have w1:IntKind.i64.wrap (s*w)=w*s:=by rw [Int.mul_comm];exact ZP (by omega) (by omega)
   have w2:IntKind.i64.wrap (dotZ kit (sg.take at')+w*s)=dotZ kit ((sg'.set at' s).take (at'+1)):=by rw [hd];exact ZP (by omega) (by omega)
   have w3:=Zh (show at'<9223372036854775807 by omega)
   have w4:IntKind.i64.wrap (s+1)=2 - ((k - 1:Nat):Int):=by rw [←hnx];exact ZP (by omega) (by omega)
   have hse:=Zlo (X:=sg') (i:=at') (a:=s) (by omega)
   have hle:at'+1≤(ZR sg').length:=by rw [ZR,List.length_map];omega
   have E2:=hE'.put (sg'.set at' s) (by rw [RE];exact hsl)
   simp (maxSteps:=2000000) +contextual only [Jz,Zg hE'.k0,Zg hE'.k1,Zg hE'.k4,Zg hE'.k5,Zg hE'.k3,hE'.kc,hE'.k3,hc,hi,hse,hle,Zg E2.k0,Zg E2.k5,E2.kc,Xf _ hw,w1,w2,w3,decide_true,pp,go_sem,reduceIte,Ra,Rb,Rc,Rd]
   refine (ZBb hT hS hn hk d (at'+1) (sg'.set at' s) _ e1 _ (by omega) E2 ?_ (hS _ _ _ hI') ?_).mono ?_
   ·rw [hls]
    intro x hx
    rcases List.mem_append.mp hx with h | h
    ·exact hsg x h
    ·simp only [R8] at h
     rw [h]
     exact hsv
   ·have hfl:∀ l:List Int,(l.flatMap fun s=>(XD d).map fun x=>sg.take at'++s::x).length=l.length*3 ^ d:=by
     intro l
     induction l with
     | nil=>simp
     | cons a l ih=>
      simp only [List.flatMap_cons,R3,List.length_map,Zbz,ih,Rl,Nat.add_mul,Rq]
      omega
    rw [R3,hfl,Wn]
    have:min (3 - k) ([-1,0,1]:List Int).length≤2:=by simp;omega
    have h2:=Nat.mul_le_mul_right (3 ^ d) this
    rw [Nat.pow_succ] at hdl
    omega
   ·rintro v m ⟨rfl,L3,e3,sg3,rfl,E3,htk3,hI3,hcl3⟩
    simp (maxSteps:=2000000) +contextual only [w4,pp,go_sem,reduceIte,Ra,Rb,Rc,Rd]
    have htk3':sg3.take at'=sg.take at':=by
     have:=congrArg (List.take at') htk3
     rw [List.take_take,List.take_take,Nat.min_eq_left (by omega)] at this
     rw [this,List.take_set_of_le (Rz _)]
     exact htk
    rw [hls] at hI3
    have hI4:Inv (done++(([-1,0,1]:List Int).take (3 - (k - 1))).flatMap fun s=>(XD d).map fun x=>sg.take at'++s::x) L3:=by
     rw [hF]
     rw [Rs] at hI3
     have e5:(XD d).map (fun x=>sg.take at'++[s]++x)=(XD d).map fun x=>sg.take at'++s::x:=by
      congr 1
      funext x
      simp
     rw [←e5]
     exact hI3
    exact ⟨k - 1,by omega,L3,e3,sg3,_,by omega,E3,htk3',hI4,hcl3 hcl,rfl⟩
theorem ZDJ.of {P:List Int} {b0 q n:Nat} {cap:Option Nat} {kit:List Int} {g:FuncId} {caps:List AV} {sg:List Int} {L L':List Blk} (h:ZDJ P b0 q n cap kit g caps sg L) (hL:∀ i,i=q∨(b0≤i∧i≤b0+5)→L'[i]?=L[i]?):ZDJ P b0 q n cap kit g caps sg L':=by
 refine ⟨?_,?_,?_,?_,?_,?_,?_,h.len,h.kl,h.ql⟩
 ·have:=h.kc
  unfold Zb at this ⊢
  rw [hL q (.inl rfl)]
  exact this
 ·rw [hL _ (.inr ⟨by omega,by omega⟩)];exact h.k0
 ·rw [hL _ (.inr ⟨by omega,by omega⟩)];exact h.k1
 ·rw [hL _ (.inr ⟨by omega,by omega⟩)];exact h.k2
 ·rw [hL _ (.inr ⟨by omega,by omega⟩)];exact h.k3
 ·rw [hL _ (.inr ⟨by omega,by omega⟩)];exact h.k4
 ·rw [hL _ (.inr ⟨by omega,by omega⟩)];exact h.k5
theorem ZuG {P:List Int} {L:List Blk} {q B:Nat} {cap:Option Nat} {kit:List Int} {g:FuncId} {caps:List AV} {Inv:List (List Int)→List Blk→Prop} (hq:Zb L q=some (ZR (P++kit))) (hB:B≤L.length) (hn:kit.length≤1000000) (hk:∀ w∈kit,0≤w∧w≤99) (hT:ZGl P pr L.length q kit.length B cap kit g caps Inv)
  (hS:∀ L' x done,Inv done L'→Inv done (L'.set (L.length+3) x)) (hI:∀ G,Inv [] (L++G)) (e:Option Nat) :
  Wc (call T pr KO [slO q P kit.length cap,.int .i64 (-1),.fn g [] caps] ⟨L,e⟩) (fun v m=>v=.tup []∧∃ L' e',m=⟨L',e'⟩∧Inv (XD kit.length) L'∧(clean B e=true→clean B e'=true)):=by
 have hql:q<L.length:=Yk hq
 rw [Zs Zlc]
 simp (maxSteps:=2000000) +contextual only [JX,Zgk,Zc,Zmv,pp,go_sem,reduceIte,Ra,Rb,Rc,Rd]
 refine ⟨fun _ => ?_,fun h=>absurd (show ((kit.length:Nat):Int)*((8:Nat):Int)≤((maxBytes:Nat):Int) by unfold maxBytes;omega) h⟩
 have hE:ZDJ P L.length q kit.length cap kit g caps (Ry kit.length 0) (L++[.cells [.slice (some (q,P.length)) 1 kit.length cap] true,.cells [.int .i64 (-1)] true,.cells [.fn g [] caps] true,.cells (ZR (Ry kit.length 0)) true,.cells [.slice (some (L.length+3,0)) 1 kit.length (some kit.length)] true,
   .cells [.fn YA [] [.ptr (some (L.length,0)),.ptr (some (L.length+2,0)),.ptr (some (L.length+4,0)),.ptr (some (L.length+1,0)),.ptr (some (L.length+5,0))]] true]):=by
  refine ⟨Za hq _,?_,?_,?_,?_,?_,?_,List.length_replicate,rfl,hql⟩
  ·rw [RN (by omega)];simp
  all_goals (rw [RN (by omega)];simp)
 have hz:dotZ kit ((Ry kit.length (0:Int)).take 0)=0:=by cases kit <;> rfl
 have hw:=fun e1=>ZBb (B:=B) hT hS hn hk kit.length 0 (Ry kit.length 0) _ e1 [] (by omega) hE (by simp) (hI _) (by simp)
 have h0:((0:Nat):Int)=0:=rfl
 rw [hz,h0] at hw
 refine (hw _).mono ?_
 rintro v m ⟨rfl,L',e',sg',rfl,hE',_,hI',hcl⟩
 simp (maxSteps:=2000000) +contextual only [JX,finish,pp,go_sem,reduceIte,Ra,Rb,Rc,Rd]
 have hm:(XD kit.length).map ((Ry kit.length (0:Int)).take 0 ++ ·)=XD kit.length:=by simp
 rw [hm] at hI'
 refine ⟨L',joinEsc e e',rfl,hI',fun h=>Yl h (hcl ?_)⟩
 have c4:∀ (c:Prop) [Decidable c],clean B (if c then none else Z7 none (L.length+4))=true:=fun c _=>Zl c rfl (Zj rfl (by omega))
 exact Zl _ (c4 _) (Zj (c4 _) (by omega))
theorem ZDK {P:List Int} {q on o b0 m:Nat} {cap:Option Nat} {kit:List Int} {n:Int} (ho:H.length≤o) (ho0:o<b0) (hon:H.length≤on) (hon0:on<b0) (hne:on≠o) (hqH:q<H.length) (hm:m≤6) (hm0:0<m):ZGl P pr b0 q m H.length cap kit XJ [.ptr (some (on,0)),.ptr (some (o,0))] (ZJh q b0 on o m kit n H):=by
 intro L sg e done hE hI hdn
 obtain ⟨hL,hdl,b,cc,h1,h2,h3,h4,h5,h6⟩:=hI
 have hbl:=ZF8 kit n m done hdl
 have hs3:=Zg hE.k3
 have hsl:sg.length=m:=hE.len
 show Wc (call T pr XJ [slI (b0+3) m (some m),.int .i64 (dotZ kit sg),.ptr (some (on,0)),.ptr (some (o,0))] ⟨L,e⟩) _
 have hsn:=ZDz kit n done sg
 have hu1:call T pr Zbf [slI (b0+3) m (some m)] ⟨L,none⟩=some (.int .i64 (usedZ sg),⟨L,none⟩):=by rw [←hsl];exact ZsP hs3 (by omega)
 have hu2:call T pr Zbf [slI b (JG kit n done).length cc] ⟨L,none⟩=some (.int .i64 (usedZ (JG kit n done)),⟨L,none⟩):=ZsP h2 (by omega)
 have hcl:call T pr Yz [slI (b0+3) m (some m)] ⟨L,none⟩=some (slI L.length m none,⟨L++[.cells (ZR sg) true],none⟩):=by rw [←hsl];exact ZIF hs3 (by omega)
 have hkeep:JG kit n (done++[sg])=JG kit n done→ZJh q b0 on o m kit n H (done++[sg]) L:=fun hb=>by
  unfold ZJh
  rw [hb]
  refine ⟨hL,fun l hl => ?_,b,cc,h1,h2,h3,h4,h5,h6⟩
  rcases List.mem_append.mp hl with g | g
  ·exact hdl l g
  ·simp only [R8] at g
   rw [g];exact hsl
 have hol:o<L.length:=(RB.mp h1).1
 have honl:on<L.length:=(RB.mp h3).1
 have hb5:b0+5<L.length:=(RB.mp hE.k5).1
 have hnew:JG kit n (done++[sg])=sg→ZDJ P b0 q m cap kit XJ [.ptr (some (on,0)),.ptr (some (o,0))] sg ((L++[Blk.cells (ZR sg) true]).set o (Blk.cells [slI L.length m none] true))∧ZJh q b0 on o m kit n H (done++[sg]) ((L++[Blk.cells (ZR sg) true]).set o (Blk.cells [slI L.length m none] true)):=fun hb=>by
  refine ⟨hE.of fun i hi => ?_,?_⟩
  ·have hiq:i<L.length:=by
    rcases hi with rfl | ⟨_,h⟩
    ·exact Yk hE.kc
    ·omega
   have hio:o≠i:=by
    rcases hi with rfl | ⟨h,_⟩ <;> omega
   rw [WA hio,Wt hiq]
  ·unfold ZJh
   rw [hb,hsl]
   refine ⟨(hL.more _).put ho _,fun l hl => ?_,L.length,none,by rw [WL (by simp;omega)],?_,by rw [WA (by omega),Wt honl];exact h3,by have:=hL.le;omega,by omega,.inr (by omega)⟩
   ·rcases List.mem_append.mp hl with g | g
    ·exact hdl l g
    ·simp only [R8] at g
     rw [g];exact hsl
   ·unfold Zb
    rw [WA (by omega),RN (by omega)]
    simp
 have ho2:(L++[Blk.cells (ZR sg) true])[o]?=some (.cells [slI b (JG kit n done).length cc] true):=by rw [Wt hol];exact h1
 rw [Zs ZnI]
 by_cases hd:dotZ kit sg=n
 ·by_cases hb0:(JG kit n done).length=0
  ·have hb0':(((JG kit n done).length:Nat):Int)=0:=by omega
   have hbest:JG kit n (done++[sg])=sg:=by rw [hsn];unfold ZdK;rw [if_pos ⟨hd,.inl hb0⟩]
   simp (maxSteps:=2000000) +contextual only [Y8,J6,finish,Zg h1,Zg h3,hd,hb0',hcl,ho2,decide_true,pp,go_sem,reduceIte,Ra,Rb,Rc,Rd]
   refine ⟨fun _ => ?_,fun h=>absurd (by simp) h⟩
   obtain ⟨E2,I2⟩:=hnew hbest
   exact ⟨_,joinEsc e (if AV.under (o+1) (AV.slice (some (L.length,0)) 1 m none)=true then none else Z7 none o),rfl,E2,I2,fun h=>Yl h (Zl _ rfl (Zj rfl ho))⟩
  ·have hb0':¬ (((JG kit n done).length:Nat):Int)=0:=by omega
   by_cases hu:usedZ sg<usedZ (JG kit n done)
   ·have hbest:JG kit n (done++[sg])=sg:=by rw [hsn];unfold ZdK;rw [if_pos ⟨hd,.inr hu⟩]
    simp (maxSteps:=2000000) +contextual only [Y8,J6,finish,Zg h1,Zg h3,hd,hb0',hu1,hu2,hu,hcl,ho2,decide_true,decide_false,pp,go_sem,reduceIte,Ra,Rb,Rc,Rd]
    refine ⟨fun _ => ?_,fun h=>absurd (by simp) h⟩
    obtain ⟨E2,I2⟩:=hnew hbest
    exact ⟨_,joinEsc e (if AV.under (o+1) (AV.slice (some (L.length,0)) 1 m none)=true then none else Z7 none o),rfl,E2,I2,fun h=>Yl h (Zl _ rfl (Zj rfl ho))⟩
   ·have hbest:JG kit n (done++[sg])=JG kit n done:=by rw [hsn];unfold ZdK;rw [if_neg];rintro ⟨_,g | g⟩;exact hb0 g;exact hu g
    simp (maxSteps:=2000000) +contextual only [Y8,J6,finish,Zg h1,Zg h3,hd,hb0',hu1,hu2,hu,decide_true,decide_false,pp,go_sem,reduceIte,Ra,Rb,Rc,Rd]
    refine ⟨fun _ => ?_,fun h=>absurd (by simp) h⟩
    exact ⟨L,_,rfl,hE,hkeep hbest,fun h=>h⟩
 ·have hbest:JG kit n (done++[sg])=JG kit n done:=by rw [hsn];unfold ZdK;rw [if_neg];rintro ⟨g,_⟩;exact hd g
  simp (maxSteps:=2000000) +contextual only [Y8,J6,finish,Zg h1,Zg h3,hd,decide_true,decide_false,pp,go_sem,reduceIte,Ra,Rb,Rc,Rd]
  refine ⟨fun _ => ?_,fun h=>absurd (by simp) h⟩
  exact ⟨L,_,rfl,hE,hkeep hbest,fun h=>h⟩
theorem ZlX {P:List Int} {q:Nat} {cap:Option Nat} {k:List Int} (h:Zb H q=some (ZR (P++k))) (hn:k.length≤1000000) (n:Int) (hno:¬ (Zcj k=true∧1≤n)):call T pr QA [slO q P k.length cap,.int .i64 n] ⟨H,e⟩=some (.tup [ZZ,.bool false],⟨H,e⟩):=by
 have h1:∀ L,Zb L q=some (ZR (P++k))→call T pr Zat [slO q P k.length cap] ⟨L,none⟩=some (.bool (Zcj k),⟨L,none⟩):=fun L hL=>ZsS hL hn
 apply Wc.eq
 rw [Zs Zjo]
 cases hk:Zcj k with
 | false=>
  rw [hk] at h1
  simp (maxSteps:=2000000) +contextual only [Jj,ZbL,Zc,h,Za h,h1,pp,go_sem,reduceIte,Ra,Rb,Rc,Rd,ff]
 | true=>
  rw [hk] at h1
  have hlt:n<1:=by
   have:¬ 1≤n:=fun g=>hno ⟨hk,g⟩
   omega
  simp (maxSteps:=2000000) +contextual only [Jj,ZbL,Zc,h,Za h,h1,hlt,decide_true,pp,go_sem,reduceIte,Ra,Rb,Rc,Rd,ff]
theorem Zn3 {P:List Int} {q:Nat} {cap:Option Nat} {k:List Int} (h:Zb H q=some (ZR (P++k))) (hn:k.length≤1000000) (n:Int) (hk:Zcj k=true) (hn1:1≤n):Wc (call T pr QA [slO q P k.length cap,.int .i64 n] ⟨H,e⟩)
  (fun v m=>∃ cc wr,v=.tup [slI H.length (ZlP k n).length cc,.bool (decide (0<((ZlP k n).length:Int)))]∧m=⟨H++[.cells (ZR (ZlP k n)) wr],e⟩):=by
 have h1:∀ L,Zb L q=some (ZR (P++k))→call T pr Zat [slO q P k.length cap] ⟨L,none⟩=some (.bool true,⟨L,none⟩):=fun L hL=>by rw [←hk];exact ZsS hL hn
 obtain ⟨k0,k6,kw⟩:=Zfr hk
 have hk0:∀ w∈k,0≤w∧w≤99:=fun w hw=>by have:=kw w hw;omega
 have hql:q<H.length:=Yk h
 have hlt:¬ n<1:=by omega
 rw [Zs Zjo]
 simp (maxSteps:=2000000) +contextual only [Jj,ZbL,Zc,h,Za h,h1,hlt,decide_false,pp,go_sem,reduceIte,Ra,Rb,Rc,Rd]
 have hb0:∀ (c:AV),(H++[Blk.cells [.int .i64 n] true,.cells [] true,.cells [c] true]).length=H.length+3:=by intro c;simp
 refine (ZuG (B:=H.length) (Inv:=ZJh q (H.length+3) H.length (H.length+2) k.length k n H) (Za h _) (by rw [hb0];omega) (by omega) hk0 (by rw [hb0];exact ZDK (by omega) (by omega) (by omega) (by omega) (by omega) hql k6 (WY.mpr k0)) ?_ ?_ _).mono ?_
 ·rintro L' x done ⟨hL,hdl,b,cc,g1,g2,g3,g4,g5,g6⟩
  rw [hb0]
  refine ⟨hL.put (by omega) _,hdl,b,cc,by rw [WA (by omega)];exact g1,?_,by rw [WA (by omega)];exact g3,g4,g5,g6⟩
  unfold Zb at g2 ⊢
  rw [WA (by omega)]
  exact g2
 ·intro G
  refine ⟨⟨_,Rs _ _ _⟩,by simp,H.length+1,some 0,?_,?_,?_,by omega,by omega,.inl (by omega)⟩
  ·rw [Rs,RN (by omega)];simp [JG]
  ·unfold Zb
   rw [Rs,RN (by omega)];simp [JG]
  ·rw [Rs,RN (by omega)];simp
 ·rintro v m ⟨rfl,L',e',rfl,⟨hL,hdl,b,cc,g1,g2,g3,g4,g5,g6⟩,hcl⟩
  have hcl':clean H.length e'=true:=by
   apply hcl
   exact Zl _ rfl (Zj rfl (by omega))
  simp (maxSteps:=2000000) +contextual only [Jj,Zg g1,pp,go_sem,reduceIte,Ra,Rb,Rc,Rd]
  obtain ⟨wr,hG⟩:∃ wr,L'[b]?=some (.cells (ZR (JG k n (XD k.length))) wr):=by
   unfold Zb at g2
   split at g2
   ·rename_i cs wr hh
    rw [RV] at g2
    exact ⟨wr,by rw [hh,g2]⟩
   ·exact absurd g2 (by simp)
  rw [Yf _ hL e e' hcl' g4 hG (K3 _ _)]
  simp only [pp]
  exact ⟨cc,wr,rfl,rfl⟩
theorem ZnC {P:List Int} {q q2:Nat} {cap cap2:Option Nat} {k l:List Int} (h:Zb H q=some (ZR (P++k))) (h2:Zb H q2=some (ZR l)) (hn:k.length≤6) (hkl:l.length=k.length) (hk:∀ w∈k,0≤w∧w≤99) (hl:∀ x∈l,x = -1∨x=0∨x=1) :
  call T pr Zbj [slO q P k.length cap,slI q2 l.length cap2] ⟨H,e⟩=some (.tup [.int .i64 (dotZ k l),.int .i64 (sqZ l)],⟨H,e⟩):=by
 apply Wc.eq
 rw [Zs ZyK]
 simp (maxSteps:=2000000) +contextual only [Zdq,Zph,pp,go_sem,reduceIte,Ra,Rb,Rc,Rd]
 have hd0:dotZ k []=0:=by cases k <;> rfl
 refine ZM (fun j st=>∃ (i:Nat) (w7:AV),i+j=k.length ∧
  st=⟨[slO q P k.length cap,slI q2 l.length cap2,.int .i64 0,.int .i64 0,.int .i64 (dotZ k (l.take i)),.int .i64 (sqZ (l.take i)),.int .i64 i,w7],⟨H,none⟩⟩) ?_ k.length _ ⟨0,_,by omega,by rw [List.take_zero,hd0];rfl⟩
 rintro j _ ⟨i,w7,hij,rfl⟩
 by_cases hj:j=0
 ·have he:i=k.length:=by omega
  subst he
  rw [←hkl,List.take_length]
  simp (maxSteps:=2000000) +contextual only [Zgq,Zdq,hkl,Rh,decide_false,pp,go_sem,reduceIte,Ra,Rb,Rc,Rd]
 ·have hi:i<k.length:=by omega
  have hi2:i<l.length:=by omega
  have g1:k[i]?=some k[i]:=Rj hi
  have g2:l[i]?=some l[i]:=Rj hi2
  have hw:=hk k[i] (List.getElem_mem hi)
  have hx:=hl l[i] (List.getElem_mem hi2)
  have hd:=ZlN k (l.take i) i k[i] l[i] g1 (by rw [Wn];omega)
  have hq:=ZHx (l.take i) l[i]
  have htl:∀ x∈l.take i,x = -1∨x=0∨x=1:=fun x hx=>hl x (List.mem_of_mem_take hx)
  have hb:=Zid k (l.take i) hk htl
  have hu:=Zuu (l.take i)
  rw [←Zut _ htl,Wn] at hu
  rw [←List.take_succ_eq_append_getElem hi2] at hd hq
  generalize k[i]=w at *
  generalize l[i]=x at *
  have hsw:=Zh (show i<9223372036854775807 by omega)
  have hwx : -99≤w*x∧w*x≤99∧0≤x*x∧x*x≤1:=by rcases hx with rfl | rfl | rfl <;> simp <;> omega
  have w1:IntKind.i64.wrap (w*x)=w*x:=ZP (by omega) (by omega)
  have w2:IntKind.i64.wrap (x*x)=x*x:=ZP (by omega) (by omega)
  have w3:IntKind.i64.wrap (dotZ k (l.take i)+w*x)=dotZ k (l.take (i+1)):=by rw [hd];exact ZP (by omega) (by omega)
  have w4:IntKind.i64.wrap (sqZ (l.take i)+x*x)=sqZ (l.take (i+1)):=by rw [hq];exact ZP (by omega) (by omega)
  simp (maxSteps:=2000000) +contextual only [Zgq,hi,hi2,h,h2,Xf _ g1,Zu _ g2,w1,w2,w3,w4,hsw,decide_true,pp,go_sem,reduceIte,Ra,Rb,Rc,Rd]
  exact ⟨j - 1,by omega,i+1,_,by omega,rfl⟩
theorem ZlY {P:List Int} {q:Nat} {cap:Option Nat} {k:List Int} (h:Zb H q=some (ZR (P++k))) (hn:k.length≤1000000) (n:Int) (hno:¬ (Zcj k=true∧1≤n)):∃ G cc,call T pr QB [slO q P k.length cap,.int .i64 n] ⟨H,e⟩=some (.tup [slI H.length 0 cc,.bool false],⟨H++G,e⟩):=by
 have h1:∀ L,Zb L q=some (ZR (P++k))→call T pr ZaA [slO q P k.length cap] ⟨L,none⟩=some (.bool (Zcj k),⟨L,none⟩):=fun L hL=>ZsT hL hn
 refine ⟨[.cells [] true],some 0,?_⟩
 have hf:∀ (e0 e1:Option Nat),clean H.length e1=true→finish 2 H.length e0 (.tup [slI H.length 0 (some 0),.bool false]) ⟨H++[.cells [] true],e1⟩=some (.tup [slI H.length 0 (some 0),.bool false],⟨H++[.cells [] true],e0⟩) :=
  fun e0 e1 hc=>Yf false ⟨_,rfl⟩ e0 e1 hc (Rz _) (by rw [RN (by omega)];simp) rfl
 apply Wc.eq
 rw [Zs Zjp]
 cases hk:Zcj k with
 | false=>
  rw [hk] at h1
  simp (maxSteps:=2000000) +contextual only [Jm,ZbP,Zc,h,h1,hf,Zo,pp,go_sem,reduceIte,Ra,Rb,Rc,Rd]
 | true=>
  rw [hk] at h1
  have hlt:n<1:=by
   have:¬ 1≤n:=fun g=>hno ⟨hk,g⟩
   omega
  simp (maxSteps:=2000000) +contextual only [Jm,ZbP,Zc,h,h1,hf,Zo,hlt,decide_true,pp,go_sem,reduceIte,Ra,Rb,Rc,Rd]
theorem Zn4 {P:List Int} {q:Nat} {cap:Option Nat} {k:List Int} (h:Zb H q=some (ZR (P++k))) (hn:k.length≤1000000) (n:Int) (hk:Zcj k=true) (hn1:1≤n):Wc (call T pr QB [slO q P k.length cap,.int .i64 n] ⟨H,e⟩)
  (fun v m=>∃ (cc:Option Nat),v=.tup [slI H.length (ZlP k n).length cc,.bool (decide (0<((ZlP k n).length:Int)))]∧m=⟨H++[.cells (ZR (ZlP k n)) true],e⟩):=by
 have h1:∀ L,Zb L q=some (ZR (P++k))→call T pr ZaA [slO q P k.length cap] ⟨L,none⟩=some (.bool true,⟨L,none⟩):=fun L hL=>by rw [←hk];exact ZsT hL hn
 obtain ⟨k0,k6,kw⟩:=Zfr hk
 have hk0:∀ w∈k,0≤w∧w≤99:=fun w hw=>by have:=kw w hw;omega
 have hlt:¬ n<1:=by omega
 have hkw:=Zh (show k.length<9223372036854775807 by omega)
 have hcnt:=Zbz k.length
 have hlen:=Zi1 k.length
 have hp3:3 ^ k.length≤3 ^ 6:=Nat.pow_le_pow_right (by omega) k6
 have h36:(3:Nat) ^ 6=729:=by decide
 have hbest:=Zic k n k.length (WY.mpr k0) (XD k.length) hlen [] ((k.length:Int)+1) (.inl ⟨rfl,rfl⟩)
 rw [Zs Zjp]
 simp (maxSteps:=2000000) +contextual only [Jm,ZbP,Zc,h,h1,hlt,decide_false,pp,go_sem,reduceIte,Ra,Rb,Rc,Rd]
 refine (ZDD k.length k6).mono ?_
 rintro v m ⟨L,e1,b,c,es,rfl,rfl,hL,hb,hLb,hR,hcl⟩
 have he1:=hcl rfl
 have hq:Zb L q=some (ZR (P++k)):=by
  obtain ⟨G,rfl⟩:=hL
  exact Za h G
 simp (maxSteps:=2000000) +contextual only [Zc,hkw,pp,go_sem,reduceIte,Ra,Rb,Rc,Rd]
 refine ZM (fun j st=>∃ (i b5:Nat) (c5:Option Nat) (w8 w9 w11 w12:AV),i+j=3 ^ k.length∧H.length≤b5∧(L++[Blk.cells [] true])[b5]?=some (.cells (ZR (((XD k.length).take i).foldl (ZdL k n) ([],(k.length:Int)+1)).1) true) ∧
  st=⟨[slO q P k.length cap,.int .i64 n,ZZ,.bool false,.slice (some (b,0)) 1 (3 ^ k.length) c,slI b5 (((XD k.length).take i).foldl (ZdL k n) ([],(k.length:Int)+1)).1.length c5,.int .i64 (((XD k.length).take i).foldl (ZdL k n) ([],(k.length:Int)+1)).2,.int .i64 i,w8,w9,.bool false,w11,w12],⟨L++[.cells [] true],e1⟩⟩) ?_ (3 ^ k.length) _
  ⟨0,L.length,some 0,_,_,_,_,by omega,hL.le,by rw [ZY];rfl,rfl⟩
 rintro j _ ⟨i,b5,c5,w8,w9,w11,w12,hij,hb5,hG5,rfl⟩
 by_cases hj:j=0
 ·have he:i=3 ^ k.length:=by omega
  subst he
  rw [List.take_of_length_le (by omega),hbest] at *
  have hf:=Yf (n:=(ZlP k n).length) (sz:=1) (c:=c5) (decide (0<((ZlP k n).length:Int))) (hL.more [.cells [] true]) e e1 he1 hb5 hG5 (K3 _ _)
  simp (maxSteps:=2000000) +contextual only [J8,Jm,Rh,decide_false,pp,go_sem,reduceIte,Ra,Rb,Rc,Rd]
  have hw:(XD k.length).foldl (ZdK k n) []=ZlP k n:=rfl
  rw [hw] at hG5 ⊢
  rw [Yf _ (hL.more [.cells [] true]) e e1 he1 hb5 hG5 (K3 _ _)]
  simp only [pp]
  exact ⟨c5,rfl,trivial⟩
 ·have hi:i<3 ^ k.length:=by omega
  obtain ⟨l,hl⟩:∃ l,(XD k.length)[i]?=some l:=⟨_,Rj (by omega)⟩
  obtain ⟨q2,cq,hq1,hq2,hq3,hq4⟩:=hR.2 i l hl
  obtain ⟨hll,hlx⟩:=hlen l (WK hl)
  have hiw:=Zh (show i<9223372036854775807 by omega)
  have htk:(XD k.length).take (i+1)=(XD k.length).take i++[l]:=by
   rw [List.take_succ_eq_append_getElem (by omega)]
   rw [Rj (by omega),RV] at hl
   rw [hl]
  have hfo:((XD k.length).take (i+1)).foldl (ZdL k n) ([],(k.length:Int)+1)=ZdL k n (((XD k.length).take i).foldl (ZdL k n) ([],(k.length:Int)+1)) l:=by rw [htk,List.foldl_append];rfl
  generalize ((XD k.length).take i).foldl (ZdL k n) ([],(k.length:Int)+1)=p at *
  have hwg:∀ L,Zb L q=some (ZR (P++k))→Zb L q2=some (ZR l)→call T pr Zbj [slO q P k.length cap,slI q2 l.length cq] ⟨L,none⟩=some (.tup [.int .i64 (dotZ k l),.int .i64 (sqZ l)],⟨L,none⟩):=fun L g1 g2=>ZnC g1 g2 k6 hll hk0 hlx
  have c1:Zb (L++[Blk.cells [] true]) b=some es:=Za (Zg hLb) _
  have c2:Zb (L++[Blk.cells [] true]) q=some (ZR (P++k)):=Za hq _
  have c3:Zb (L++[Blk.cells [] true]) q2=some (ZR l):=Za (Zg hq4) _
  have hwg2:∀ e',call T pr Zbj [slO q P k.length cap,slI q2 l.length cq] ⟨L++[Blk.cells [] true],e'⟩=some (.tup [.int .i64 (dotZ k l),.int .i64 (sqZ l)],⟨L++[Blk.cells [] true],e'⟩):=fun e'=>ZnC c2 c3 k6 hll hk0 hlx
  by_cases hd:dotZ k l=n
  ·by_cases hs:sqZ l<p.2
   ·have hb':ZdL k n p l=(l,sqZ l):=by unfold ZdL;rw [if_pos ⟨hd,hs⟩]
    simp (maxSteps:=2000000) +contextual only [J8,hi,c1,c2,c3,YX _ hq1,hwg2,hd,hs,hiw,decide_true,pp,go_sem,reduceIte,Ra,Rb,Rc,Rd]
    exact ⟨j - 1,by omega,i+1,q2,cq,_,_,_,_,by omega,hq2,by rw [hfo,hb',Wt (by have:=(RB.mp hq4).1;omega)];exact hq4,by rw [hfo,hb']⟩
   ·have hb':ZdL k n p l=p:=by unfold ZdL;rw [if_neg];rintro ⟨_,g⟩;exact hs g
    simp (maxSteps:=2000000) +contextual only [J8,hi,c1,c2,c3,YX _ hq1,hwg2,hd,hs,hiw,decide_true,decide_false,pp,go_sem,reduceIte,Ra,Rb,Rc,Rd]
    exact ⟨j - 1,by omega,i+1,b5,c5,_,_,_,_,by omega,hb5,by rw [hfo,hb'];exact hG5,by rw [hfo,hb']⟩
  ·have hb':ZdL k n p l=p:=by unfold ZdL;rw [if_neg];rintro ⟨g,_⟩;exact hd g
   simp (maxSteps:=2000000) +contextual only [J8,hi,c1,c2,c3,YX _ hq1,hwg2,hd,hiw,decide_true,decide_false,pp,go_sem,reduceIte,Ra,Rb,Rc,Rd]
   exact ⟨j - 1,by omega,i+1,b5,c5,_,_,_,_,by omega,hb5,by rw [hfo,hb'];exact hG5,by rw [hfo,hb']⟩
def ZJi:List Int→Option By
 | []=>none
 | n::k=>if Zcj k=true∧1≤n∧0<(ZlP k n).length then some (ZeR (ZlP k n)) else none
theorem Zig (n:Int) (k:List Int):ZJi (n::k)=if Zcj k=true∧1≤n∧0<(ZlP k n).length then some (ZeR (ZlP k n)) else none:=rfl
def askAllW (ls:List Ld) (a b:Int) (ss:List Sg) (t:Int) (w:By) (zs:List Int):Option By :=
 if w=[119,101,105,103,104] then (if Zcj zs=true then some (Lib.itoa (Zg9 zs)) else none)
 else if w=[104,111,119] then ZJi zs
 else match zs with
  | []=>askW ls a b ss t w
  | [n]=>askOneW ls ss w n
  | _=>none
theorem ZqH {k:List Int} (h:Zcj k=true):Zfo (Zg9 k):=by
 obtain ⟨k0,k6,kw⟩:=Zfr h
 obtain ⟨g1,g2,g3⟩:=Zqs (Zcd k) 0 (ZlR k) fun x hx=>((Zi4 k x).mp hx).1
 have hs:=Zqv k6 fun w hw=>by have:=kw w hw;omega
 by_cases h0:0<ZDv 0 (Zcd k)
 ·have:=hs _ (g2 _ h0 (Wd _))
  exact fit_small (by unfold Zg9;omega) (by unfold Zg9;omega)
 ·exact fit_small (by unfold Zg9;omega) (by unfold Zg9;omega)
theorem ZI4 (k:List Int) (n:Int):ZlP k n=[]∨ZlP k n∈XD k.length:=by
 have key:∀ (L:List (List Int)) (b:List Int),(b=[]∨b∈XD k.length)→(∀ l∈L,l∈XD k.length)→L.foldl (ZdK k n) b=[]∨L.foldl (ZdK k n) b∈XD k.length:=by
  intro L
  induction L with
  | nil=>intro b hb _;exact hb
  | cons l L ih=>
   intro b hb hL
   refine ih _ ?_ (fun x hx=>hL x (Wu _ hx))
   unfold ZdK
   split
   ·exact .inr (hL l List.mem_cons_self)
   ·exact hb
 exact key (XD k.length) [] (.inl rfl) (fun l h=>h)
theorem ZAk {k:List Int} (h:Zcj k=true) (n:Int):(ZlP k n).length≤6∧∀ z∈ZlP k n,Zfo z:=by
 obtain ⟨k0,k6,kw⟩:=Zfr h
 rcases ZI4 k n with h | h
 ·rw [h];simp
 ·obtain ⟨h1,h2⟩:=Zi1 _ _ h
  refine ⟨by omega,fun z hz => ?_⟩
  rcases h2 z hz with rfl | rfl | rfl <;> exact fit_small (by omega) (by omega)
set_option maxHeartbeats 1000000 in
theorem ZDL {q1 q2 q3:Nat} {c1 c2:Option Nat} {ls:List Ld} {ss:List Sg} {a b t k:Int} {n:Int} {zs:List Int} (h1:Zb H q1=some (Zm ls)) (h2:Zb H q2=some (Zr ss)) (h3:Zb H q3=some (ZR (n::zs))) (hs:Zcn ls ss a b t k=true) (hz:zs.length≤999999) (w:By) :
  call T pr ZeZ [stV (slL q1 ls.length c1) a b (slS q2 ss.length c2) t k,sV w,slI q3 (zs.length+1) none] ⟨H,e⟩=some (sV ((askAllW ls a b ss t w (n::zs)).getD [63]),⟨H,e⟩):=by
 have e1:decide (bs w=⟨#[119,101,105,103,104]⟩)=decide (w=[119,101,105,103,104]):=Zab _ _
 have e2:decide (bs w=⟨#[104,111,119]⟩)=decide (w=[104,111,119]):=Zab _ _
 apply Wc.eq
 rw [Zs ZBF]
 unfold ZiG ZrZ askAllW
 generalize (⟨#[119,101,105,103,104]⟩:ByteArray)=k1 at *
 generalize (⟨#[104,111,119]⟩:ByteArray)=k2 at *
 by_cases w1:w=[119,101,105,103,104]
 ·rw [decide_eq_true w1] at e1
  rw [if_pos w1]
  have hf:∀ L,Zb L q3=some (ZR (n::zs))→_:=fun L hL=>ZxA (pr:=pr) (H:=L) (e:=none) (cap:=none) (k:=n::zs) hL (by simp;omega)
  rw [Rl] at hf
  cases hB:Zcj (n::zs) with
  | false=>
   simp only [hB,R7,if_false] at hf ⊢
   have hg:=fun L=>JF (pr:=pr) (H:=L) (e:=none) 0 (fit_small (by omega) (by omega)) false
   simp only [R7,if_false] at hg
   simp (maxSteps:=2000000) +contextual only [hf,hg,e1,Za h3,WE,pp,go_sem,reduceIte,Ra,Rb,Rc,Rd]
  | true=>
   simp only [hB,if_true] at hf ⊢
   have hg:=fun L=>JF (pr:=pr) (H:=L) (e:=none) (Zg9 (n::zs)) (ZqH hB) true
   simp only [if_true] at hg
   simp (maxSteps:=2000000) +contextual only [hf,hg,e1,Za h3,WW,pp,go_sem,reduceIte,Ra,Rb,Rc,Rd]
 rw [decide_eq_false w1] at e1
 rw [if_neg w1]
 by_cases w2:w=[104,111,119]
 ·rw [decide_eq_true w2] at e2
  rw [if_pos w2]
  have hsl:ZbR 1 (slI q3 (zs.length+1) none) (.int .i64 1)=some (slO q3 [n] zs.length none):=Zdz 1 q3 0 (zs.length+1) 1 (by omega)
  have hlt:0<zs.length+1:=by omega
  have hp0:∀ sz,Zco false (ZR (n::zs)) 0 sz=some (.int .i64 n):=fun sz=>Zu sz rfl
  simp (maxSteps:=2000000) +contextual only [e1,e2,Za h3,Zby,hsl,Za7,Zbv,Zbw,Wd,RH,Rr,hlt,hp0,pp,go_sem,reduceIte,Ra,Rb,Rc,Rd]
  refine ⟨fun _ => ?_,fun h=>absurd (by omega) h⟩
  by_cases hk:Zcj zs=true∧1≤n
  ·refine (Zn4 (P:=[n]) (Za h3 _) (by omega) n hk.1 hk.2).mono ?_
   rintro v m ⟨cc,rfl,rfl⟩
   obtain ⟨f1,f2⟩:=ZAk hk.1 n
   have hT:(ZJi (n::zs)).getD [63]=if decide (0<((ZlP zs n).length:Int))=true then ZeR (ZlP zs n) else [63]:=by
    rw [Zig]
    by_cases h0:0<(ZlP zs n).length
    ·rw [if_pos ⟨hk.1,hk.2,h0⟩,if_pos (decide_eq_true (by omega))];rfl
    ·rw [if_neg (fun h=>h0 h.2.2),decide_eq_false (by omega)];rfl
   rw [hT]
   generalize ZlP zs n=g at *
   have hg:∀ X x,call T pr Xy [slI (H.length+1) g.length cc,.bool x] ⟨H++[X,.cells (ZR g) true],none⟩=some (sV (if x=true then ZeR g else [63]),⟨H++[X,.cells (ZR g) true],none⟩):=fun X x=>
    ZgT (Zg (w:=true) (by rw [RN (by omega),show H.length+1 - H.length=1 by omega];rfl)) (by omega) f2 x
   simp (maxSteps:=2000000) +contextual only [hg,R3,Rl,RM,Rs,Rn,Ro,WX,pp,go_sem,reduceIte,Ra,Rb,Rc,Rd]
  ·obtain ⟨G,cc,hf⟩:=ZlY (pr:=pr) (H:=H++[.cells [slL q1 ls.length c1,.int .i64 a,.int .i64 b,slS q2 ss.length c2,.int .i64 t,.int .i64 k] true]) (e:=none) (P:=[n]) (cap:=none) (Za h3 _) (by omega) n hk
   have hT:(ZJi (n::zs)).getD [63]=[63]:=by
    rw [Zig]
    rw [if_neg (fun h=>hk ⟨h.1,h.2.1⟩)];rfl
   rw [hT]
   have hg:=fun L b e0=>ZjE (pr:=pr) (H:=L) (e:=e0) (b:=b) (cap:=cc)
   simp (maxSteps:=2000000) +contextual only [hf,hg,pp,go_sem,reduceIte,Ra,Rb,Rc,Rd]
 rw [decide_eq_false w2] at e2
 rw [if_neg w2]
 cases zs with
 | nil=>
  have hf:=fun L g1 g2=>ZDI (pr:=pr) (H:=L) (e:=none) (c1:=c1) (c2:=c2) (q1:=q1) (q2:=q2) g1 g2 hs w n
  have hp0:∀ sz,Zco false (ZR [n]) 0 sz=some (.int .i64 n):=fun sz=>Zu sz rfl
  simp (maxSteps:=2000000) +contextual only [e1,e2,Za h1,Za h2,Za h3,Za7,Zbv,Zbw,Wd,RH,Rr,hf,hp0,RM,WX,pp,go_sem,reduceIte,Ra,Rb,Rc,Rd]
  exact ⟨fun _=>⟨fun _=>trivial,fun h=>absurd (by omega) h⟩,fun h=>absurd rfl h⟩
 | cons z zs=>
  have hne:¬ ((zs.length+1+1:Nat):Int)=1:=by omega
  simp (maxSteps:=2000000) +contextual only [e1,e2,hne,decide_false,WE,Rl,pp,go_sem,reduceIte,Ra,Rb,Rc,Rd]
def ZcV:List By→Option (List Int)
 | []=>some []
 | w::r=>match Zh8 w with
  | none=>none
  | some v=>(ZcV r).map (v :: ·)
theorem ZxE:∀ {ws:List By} {zs:List Int},ZcV ws=some zs→zs.length=ws.length
 | [],zs,h=>by
  simp only [ZcV,RV] at h
  subst h;rfl
 | w::r,zs,h=>by
  unfold ZcV at h
  split at h
  ·cases h
  ·obtain ⟨ys,h1,rfl⟩:=Wz.mp h
   simp [ZxE h1]
theorem ZsU {w:By} {r:List By} (h:Zh8 w=none):ZcV (w::r)=none:=by
 unfold ZcV;rw [h]
theorem ZsV {w:By} {r:List By} {v:Int} (h:Zh8 w=some v):ZcV (w::r)=(ZcV r).map (v :: ·):=by
 conv=>lhs;unfold ZcV
 rw [h]
theorem ZBc (zs:List Int) (v:Int) (o:Option (List Int)):(o.map (v :: ·)).map (zs ++ ·)=o.map ((zs++[v]) ++ ·):=by
 cases o <;> simp
theorem ZBd {ps:List By} {i:Nat} {w:By} (h:ps[i]?=some w):(Zcf ps)[i]?=some (sV w):=by
 unfold Zcf
 rw [WZ,h];rfl
set_option maxHeartbeats 1000000 in
theorem ZxF {q:Nat} {cap:Option Nat} {ps:List By} (h:Zb H q=some (Zcf ps)) (hp:2≤ps.length) (hn:ps.length≤1000000) (hw:∀ w∈ps,w.length≤1000000) :
  Wc (call T pr ZfM [slX q ps.length cap] ⟨H,e⟩) (fun v m=>match ZcV ps.tail with
   | some zs=>v=.tup [slI H.length zs.length none,.bool true]∧m=⟨H++[.cells (ZR zs) true],e⟩
   | none=>∃ (G:List Blk) (c:Option Nat),v=.tup [slI H.length 0 c,.bool false]∧m=⟨H++G,e⟩):=by
 rw [Zs Zyr]
 simp (maxSteps:=2000000) +contextual only [QW,Zo4,Zc,pp,go_sem,reduceIte,Ra,Rb,Rc,Rd]
 refine ZM (fun j st=>∃ (i b:Nat) (zs:List Int) (c:Option Nat) (L:List Blk) (w5 w6 w7 w8:AV),i+j=ps.length∧1≤i∧Z4 H L∧H.length≤b∧L[b]?=some (.cells (ZR zs) true)∧zs.length=i - 1∧(c=some 0→zs.length=0)∧(1<i→c=none)∧(ZcV (ps.drop i)).map (zs ++ ·)=ZcV ps.tail ∧
  st=⟨[slX q ps.length cap,ZZ,.bool false,slI b zs.length c,.int .i64 i,w5,w6,w7,w8],⟨L,none⟩⟩) ?_ (ps.length - 1) _
  ⟨1,H.length,[],some 0,H++[.cells [] true],_,_,_,_,by omega,by omega,⟨_,rfl⟩,Rz _,by rw [ZY];rfl,rfl,fun _=>rfl,fun h=>by omega,by simp,rfl⟩
 rintro j _ ⟨i,b,zs,c,L,w5,w6,w7,w8,hij,hi1,hL,hb,hLb,hzl,hc,hc1,hnum,rfl⟩
 have hq:Zb L q=some (Zcf ps):=Xa hL h
 by_cases hj:j=0
 ·have he:i=ps.length:=by omega
  subst he
  rw [Rp] at hnum
  have hnum':ZcV ps.tail=some zs:=by rw [←hnum];simp [ZcV]
  rw [hnum']
  have hcn:c=none:=hc1 (by omega)
  subst hcn
  have hf:=fun e0=>Yf (n:=zs.length) (sz:=1) (c:=none) true hL e0 none rfl hb hLb (K3 _ _)
  simp (maxSteps:=2000000) +contextual only [ZcJ,QW,Rh,decide_false,hf,pp,go_sem,reduceIte,Ra,Rb,Rc,Rd]
 ·have hi:i<ps.length:=by omega
  obtain ⟨w,hwi⟩:∃ w,ps[i]?=some w:=⟨_,Rj hi⟩
  have hdr:ps.drop i=w::ps.drop (i+1):=by
   rw [Rm hi]
   rw [Rj hi,RV] at hwi
   rw [hwi]
  rw [hdr] at hnum
  have hrd:=fun L=>ZDs (pr:=pr) (H:=L) (e:=none) w (hw w (WK hwi))
  have hiw:=Zh (show i<9223372036854775807 by omega)
  cases hr:Zh8 w with
  | none=>
   simp only [hr,WE,Option.isSome_none] at hrd
   rw [ZsU hr] at hnum
   rw [←hnum]
   have hLe:=hL.le
   have hf:=fun e0=>Yf (cs:=[]) (w:=true) (n:=0) (sz:=1) (c:=some 0) false (hL.more [.cells [] true]) e0 none rfl hLe (by rw [ZY];rfl) rfl
   simp (maxSteps:=2000000) +contextual only [ZcJ,QW,hi,hq,YX _ (ZBd hwi),hrd,Zc,hf,decide_true,Option.map_none,pp,go_sem,reduceIte,Ra,Rb,Rc,Rd]
   exact ⟨_,_,rfl,rfl⟩
  | some v=>
   simp only [hr,WW,Option.isSome_some] at hrd
   rw [ZsV hr,ZBc] at hnum
   simp (maxSteps:=2000000) +contextual only [ZcJ,QW,hi,hq,YX _ (ZBd hwi),hrd,Zc,decide_true,pp,go_sem,reduceIte,Ra,Rb,Rc,Rd]
   refine Zja (k:=1) (new:=[.int .i64 v]) (cs:=ZR zs) (Yv hLb _) (Qk _ 1 1 _ _ L.length (by simp +contextual only [go_sem,reduceIte,Ra,Rb,Rc,Rd]) rfl) (by simp [ZR]) rfl (by unfold maxBytes;omega) hc ?_
   intro L6 g1 g2 g3 g4
   rw [ZHv] at g3
   simp (maxSteps:=2000000) +contextual only [hiw,pp,go_sem,reduceIte,Ra,Rb,Rc,Rd]
   exact ⟨j - 1,by omega,i+1,L.length+1,zs++[v],none,L6,_,_,_,_,by omega,by omega,g4 _ (hL.more _) hb,by have:=hL.le;omega,by simpa using g3,by simp;omega,by simp,fun _=>rfl,hnum,by rw [R3];rfl⟩
def TBk:List (By×Int×Int):=[([116,97,107,101],2,1),([100,114,111,112],6,1),([108,111,97,100],1,2),([109,111,118,101],3,2),([98,97,115,101],4,2),([115,116,97,103,101],5,3)]
def ZmO (w:By) (m:Nat):List (By×Int×Int)→Int
 | []=>0
 | x::r=>if w=x.1∧(m:Int)=x.2.2 then x.2.1 else ZmO w m r
def ZcW (w:By) (m:Nat):Int:=ZmO w m TBk
def ZGm (k:Int) (zs:List Int):AV:=if 0<k then tkV k (zs.getD 0 0) (zs.getD 1 0) (zs.getD 2 0) else tkV 0 0 0 0
theorem ZJQ {zs:List Int} (h:zs≠[]):(zs++[0,0])[0]?=some (zs.getD 0 0)∧(zs++[0,0])[1]?=some (zs.getD 1 0)∧(zs++[0,0])[2]?=some (zs.getD 2 0):=by
 match zs,h with
 | [a],_=>exact ⟨rfl,rfl,rfl⟩
 | [a,b],_=>exact ⟨rfl,rfl,rfl⟩
 | a::b::c::r,_=>exact ⟨rfl,rfl,rfl⟩
set_option maxHeartbeats 1000000 in
theorem ZAl {q:Nat} {zs:List Int} (h:Zb H q=some (ZR zs)) (h0:zs≠[]) (hz:zs.length≤1000000) (w:By):call T pr ZfN [sV w,slI q zs.length none] ⟨H,e⟩=some (ZGm (ZcW w zs.length) zs,⟨H,e⟩):=by
 obtain ⟨o1,o2,o3⟩:=ZJQ h0
 have hpos:0<zs.length:=WY.mpr h0
 have hown:∀ L,Zb L q=some (ZR zs)→call T pr Zav [slI q zs.length none] ⟨L,none⟩=some (slI L.length zs.length none,⟨L++[.cells (ZR zs) true],none⟩):=fun L hL=>Zqw hL hz
 apply Wc.eq
 rw [Zs Zys]
 simp (maxSteps:=2000000) +contextual only [KA,Zo5,Zc,pp,go_sem,reduceIte,Ra,Rb,Rc,Rd]
 have hM:H++[.cells [.int .i64 0,.int .i64 0,.int .i64 0,.int .i64 0] true,.cells [.str ⟨#[116,97,107,101]⟩,.str ⟨#[100,114,111,112]⟩,.str ⟨#[108,111,97,100]⟩,.str ⟨#[109,111,118,101]⟩,.str ⟨#[98,97,115,101]⟩,.str ⟨#[115,116,97,103,101]⟩] true,.cells [.int .i64 2,.int .i64 6,.int .i64 1,.int .i64 3,.int .i64 4,.int .i64 5] true,.cells [.int .i64 1,.int .i64 1,.int .i64 2,.int .i64 2,.int .i64 2,.int .i64 3] true] =
  H++[.cells [.int .i64 0,.int .i64 0,.int .i64 0,.int .i64 0] true,.cells (Zcf (TBk.map (·.1))) true,.cells (ZR (TBk.map (·.2.1))) true,.cells (ZR (TBk.map (·.2.2))) true]:=rfl
 rw [hM]
 clear hM
 have hT6:TBk.length=6:=rfl
 have hTp:∀ x∈TBk,0<x.2.1:=by decide
 unfold ZcW
 generalize TBk=TB at *
 refine ZM (fun j st=>∃ (i:Nat) (w7 w8 w9:AV),i+j=6∧ZmO w zs.length (TB.drop i)=ZmO w zs.length TB ∧
  st=⟨[sV w,slI q zs.length none,.ptr (some (H.length,0)),.slice (some (H.length+1,0)) 1 6 (some 6),.slice (some (H.length+2,0)) 1 6 (some 6),.slice (some (H.length+3,0)) 1 6 (some 6),.int .i64 i,w7,w8,w9],⟨H++[.cells [.int .i64 0,.int .i64 0,.int .i64 0,.int .i64 0] true,.cells (Zcf (TB.map (·.1))) true,.cells (ZR (TB.map (·.2.1))) true,.cells (ZR (TB.map (·.2.2))) true],none⟩⟩) ?_ 6 _
  ⟨0,_,_,_,rfl,rfl,rfl⟩
 rintro j _ ⟨i,w7,w8,w9,hij,htf,rfl⟩
 by_cases hj:j=0
 ·have he:i=6:=by omega
  subst he
  rw [←hT6,Rp] at htf
  have hlt:¬ (6:Int)<6:=by omega
  rw [←htf]
  simp (maxSteps:=2000000) +contextual only [ZaH,KA,hlt,ZmO,ZGm,Zc,decide_false,Int.lt_irrefl,pp,go_sem,reduceIte,Ra,Rb,Rc,Rd]
 ·have hi:i<TB.length:=by omega
  obtain ⟨x,hx⟩:∃ x,TB[i]?=some x:=⟨_,Rj hi⟩
  have hdr:TB.drop i=x::TB.drop (i+1):=by
   rw [Rm hi]
   rw [Rj hi,RV] at hx
   rw [hx]
  rw [hdr] at htf
  have hi6:(i:Int)<6:=by omega
  have hi6':i<6:=by omega
  have p1:∀ sz,Zco false (Zcf (TB.map (·.1))) i sz=some (sV x.1):=fun sz=>YX sz (ZBd (by rw [WZ,hx];rfl))
  have p2:∀ sz,Zco false (ZR (TB.map (·.2.1))) i sz=some (.int .i64 x.2.1):=fun sz=>Zu sz (by rw [WZ,hx];rfl)
  have p3:∀ sz,Zco false (ZR (TB.map (·.2.2))) i sz=some (.int .i64 x.2.2):=fun sz=>Zu sz (by rw [WZ,hx];rfl)
  have hw:=Zab w x.1
  have hsw:=Zh (show i<9223372036854775807 by omega)
  by_cases hwx:w=x.1
  ·rw [decide_eq_true hwx] at hw
   by_cases hm:((zs.length:Nat):Int)=x.2.2
   ·have ht:ZmO w zs.length TB=x.2.1:=by rw [←htf];show (if w=x.1∧(zs.length:Int)=x.2.2 then x.2.1 else _)=_;rw [if_pos ⟨hwx,hm⟩]
    rw [ht]
    simp (maxSteps:=2000000) +contextual only [ZaH,KA,hi6,hi6',p1,p2,p3,hw,hm,hown,Za h,Zc,decide_true,pp,go_sem,reduceIte,Ra,Rb,Rc,Rd]
    have hxp:=hTp x (WK hx)
    refine Zja (k:=2) (new:=[.int .i64 0,.int .i64 0]) (cs:=ZR zs) (by rw [RN (by omega),show H.length+4 - H.length=4 by omega];rfl) (Qk _ 2 1 _ _ (H.length+5) (by simp +contextual only [go_sem,reduceIte,Ra,Rb,Rc,Rd]) rfl) (by simp [ZR]) rfl (by unfold maxBytes;omega) (by simp) ?_
    intro L2 g1 g2 g3 g4
    have hl2:L2.length=H.length+7:=by rw [g1];simp
    have g3':Zb L2 (H.length+6)=some (ZR (zs++[0,0])):=by
     refine Zg (w:=true) ?_
     have:ZR zs++[.int .i64 0,.int .i64 0]=ZR (zs++[0,0]):=by simp [ZR]
     rw [←this]
     simpa using g3
    have gk:Zb L2 (H.length+2)=some (ZR (TB.map (·.2.1))):=by
     refine Zg (w:=true) ?_
     rw [g2 (H.length+2) (by omega) (by simp),RN (by omega),show H.length+2 - H.length=2 by omega];rfl
    have g0:L2[H.length]?=some (.cells [.int .i64 0,.int .i64 0,.int .i64 0,.int .i64 0] true):=by
     rw [g2 H.length (by omega) (by simp),RN (Rz _),WH];rfl
    have hL2:Z4 H L2:=g4 _ ⟨_,rfl⟩ (by omega)
    have hst:Zb (L2.set H.length (.cells [.int .i64 x.2.1,.int .i64 (zs.getD 0 0),.int .i64 (zs.getD 1 0),.int .i64 (zs.getD 2 0)] true)) H.length=some [.int .i64 x.2.1,.int .i64 (zs.getD 0 0),.int .i64 (zs.getD 1 0),.int .i64 (zs.getD 2 0)] :=
     Zg (w:=true) (by rw [WL (by omega)])
    have hf:=fun e0 e1 hc=>ZIA (hL2.put (Rz _) (.cells [.int .i64 x.2.1,.int .i64 (zs.getD 0 0),.int .i64 (zs.getD 1 0),.int .i64 (zs.getD 2 0)] true)) e0 e1 (tkV x.2.1 (zs.getD 0 0) (zs.getD 1 0) (zs.getD 2 0)) (by simp [AV.under,AV.under.go]) hc
    have hx2:(2:Int)<((zs.length+2:Nat):Int):=by omega
    have hx1:(1:Int)<((zs.length+2:Nat):Int):=by omega
    have hx0:(0:Int)<((zs.length+2:Nat):Int):=by omega
    have i02:(0:Int)≤2:=by decide
    have t2:Int.toNat 2=2:=rfl
    unfold ZGm
    rw [if_pos hxp]
    simp (maxSteps:=2000000) +contextual only [gk,g0,g3',p2,Zu _ o1,Zu _ o2,Zu _ o3,hi6,hi6',hx0,hx1,hx2,i02,t2,and_self,Za7,Zbv,Zbw,Wd,RH,RI,Rr,Rq,hst,Zc,hf,Zo,Zg g0,pp,go_sem,reduceIte,Ra,Rb,Rc,Rd]
   ·have ht:ZmO w zs.length (TB.drop (i+1))=ZmO w zs.length TB:=by rw [←htf];show _=(if w=x.1∧(zs.length:Int)=x.2.2 then x.2.1 else _);rw [if_neg (fun h=>hm h.2)]
    simp (maxSteps:=2000000) +contextual only [ZaH,KA,hi6,hi6',p1,p3,hw,hm,hsw,decide_true,decide_false,pp,go_sem,reduceIte,Ra,Rb,Rc,Rd]
    exact ⟨j - 1,by omega,i+1,_,_,_,by omega,ht,rfl⟩
  ·rw [decide_eq_false hwx] at hw
   have ht:ZmO w zs.length (TB.drop (i+1))=ZmO w zs.length TB:=by rw [←htf];show _=(if w=x.1∧(zs.length:Int)=x.2.2 then x.2.1 else _);rw [if_neg (fun h=>hwx h.1)]
   simp (maxSteps:=2000000) +contextual only [ZaH,KA,hi6,hi6',p1,hw,hsw,decide_true,decide_false,pp,go_sem,reduceIte,Ra,Rb,Rc,Rd]
   exact ⟨j - 1,by omega,i+1,_,_,_,by omega,ht,rfl⟩
def JH (w:By):Int×Int :=
 if w=[108,111,97,100] then (1,2)
 else if w=[116,97,107,101] then (2,1)
 else if w=[109,111,118,101] then (3,2)
 else if w=[98,97,115,101] then (4,2)
 else if w=[115,116,97,103,101] then (5,3)
 else if w=[100,114,111,112] then (6,1)
 else (0,0)
theorem Kg (w:By):call T pr Zip [sV w] ⟨H,e⟩=some (.tup [.int .i64 (JH w).1,.int .i64 (JH w).2],⟨H,e⟩):=by
 have e1:decide (bs w=⟨#[108,111,97,100]⟩)=decide (w=[108,111,97,100]):=Zab _ _
 have e2:decide (bs w=⟨#[116,97,107,101]⟩)=decide (w=[116,97,107,101]):=Zab _ _
 have e3:decide (bs w=⟨#[109,111,118,101]⟩)=decide (w=[109,111,118,101]):=Zab _ _
 have e4:decide (bs w=⟨#[98,97,115,101]⟩)=decide (w=[98,97,115,101]):=Zab _ _
 have e5:decide (bs w=⟨#[115,116,97,103,101]⟩)=decide (w=[115,116,97,103,101]):=Zab _ _
 have e6:decide (bs w=⟨#[100,114,111,112]⟩)=decide (w=[100,114,111,112]):=Zab _ _
 apply Wc.eq
 rw [Zs ZBE]
 unfold ZiF ZrY JH
 generalize (⟨#[108,111,97,100]⟩:ByteArray)=k1 at *
 generalize (⟨#[116,97,107,101]⟩:ByteArray)=k2 at *
 generalize (⟨#[109,111,118,101]⟩:ByteArray)=k3 at *
 generalize (⟨#[98,97,115,101]⟩:ByteArray)=k4 at *
 generalize (⟨#[115,116,97,103,101]⟩:ByteArray)=k5 at *
 generalize (⟨#[100,114,111,112]⟩:ByteArray)=k6 at *
 by_cases w1:w=[108,111,97,100]
 ·rw [decide_eq_true w1] at e1
  simp only [if_pos w1]
  simp (maxSteps:=2000000) +contextual only [e1,pp,go_sem,reduceIte,Ra,Rb,Rc,Rd]
 rw [decide_eq_false w1] at e1
 by_cases w2:w=[116,97,107,101]
 ·rw [decide_eq_true w2] at e2
  simp only [if_neg w1,if_pos w2]
  simp (maxSteps:=2000000) +contextual only [e1,e2,pp,go_sem,reduceIte,Ra,Rb,Rc,Rd]
 rw [decide_eq_false w2] at e2
 by_cases w3:w=[109,111,118,101]
 ·rw [decide_eq_true w3] at e3
  simp only [if_neg w1,if_neg w2,if_pos w3]
  simp (maxSteps:=2000000) +contextual only [e1,e2,e3,pp,go_sem,reduceIte,Ra,Rb,Rc,Rd]
 rw [decide_eq_false w3] at e3
 by_cases w4:w=[98,97,115,101]
 ·rw [decide_eq_true w4] at e4
  simp only [if_neg w1,if_neg w2,if_neg w3,if_pos w4]
  simp (maxSteps:=2000000) +contextual only [e1,e2,e3,e4,pp,go_sem,reduceIte,Ra,Rb,Rc,Rd]
 rw [decide_eq_false w4] at e4
 by_cases w5:w=[115,116,97,103,101]
 ·rw [decide_eq_true w5] at e5
  simp only [if_neg w1,if_neg w2,if_neg w3,if_neg w4,if_pos w5]
  simp (maxSteps:=2000000) +contextual only [e1,e2,e3,e4,e5,pp,go_sem,reduceIte,Ra,Rb,Rc,Rd]
 rw [decide_eq_false w5] at e5
 by_cases w6:w=[100,114,111,112]
 ·rw [decide_eq_true w6] at e6
  simp only [if_neg w1,if_neg w2,if_neg w3,if_neg w4,if_neg w5,if_pos w6]
  simp (maxSteps:=2000000) +contextual only [e1,e2,e3,e4,e5,e6,pp,go_sem,reduceIte,Ra,Rb,Rc,Rd]
 rw [decide_eq_false w6] at e6
 simp only [if_neg w1,if_neg w2,if_neg w3,if_neg w4,if_neg w5,if_neg w6]
 simp (maxSteps:=2000000) +contextual only [e1,e2,e3,e4,e5,e6,pp,go_sem,reduceIte,Ra,Rb,Rc,Rd]
theorem ZGn (w:By) (m:Nat):ZcW w m=if (m:Int)=(JH w).2 then (JH w).1 else 0:=by
 unfold ZcW ZmO JH TBk
 simp only [ZmO]
 by_cases w1:w=[108,111,97,100]
 ·subst w1;simp
 by_cases w2:w=[116,97,107,101]
 ·subst w2;simp
 by_cases w3:w=[109,111,118,101]
 ·subst w3;simp
 by_cases w4:w=[98,97,115,101]
 ·subst w4;simp
 by_cases w5:w=[115,116,97,103,101]
 ·subst w5;simp
 by_cases w6:w=[100,114,111,112]
 ·subst w6;simp
 simp [w1,w2,w3,w4,w5,w6]
theorem Zi6 {L:List Blk} {b1 b2 n1 n2:Nat} {c1 c2:Option Nat} {cs1 cs2:List AV} {w1 w2:Bool} (a b t k:Int) (r:By) (hL:Z4 H L) (e0 e1:Option Nat) (hc:clean H.length e1=true) (hb1:H.length≤b1) (hb2:H.length≤b2) (hne:b1≠b2) (h1:L[b1]?=some (.cells cs1 w1)) (h2:L[b2]?=some (.cells cs2 w2))
  (u1:(cs1.all fun c=>c.under H.length)=true) (u2:(cs2.all fun c=>c.under H.length)=true) :
  finish 2 H.length e0 (.tup [stV (slL b1 n1 c1) a b (slS b2 n2 c2) t k,sV r]) ⟨L,e1⟩=some (.tup [stV (slL H.length n1 c1) a b (slS (H.length+1) n2 c2) t k,sV r],⟨H++[.cells cs1 w1,.cells cs2 w2],e0⟩):=by
 obtain ⟨G,rfl⟩:=hL
 have hlt1:¬ b1<H.length:=by omega
 have hlt2:¬ b2<H.length:=by omega
 have hne':¬ b2=b1:=fun h=>hne h.symm
 have hr:XQ (AV.roots H.length (.tup [stV (slL b1 n1 c1) a b (slS b2 n2 c2) t k,sV r]))=[b1,b2]:=by
  simp only [AV.roots,AV.roots.go,if_neg hlt1,if_neg hlt2,Ro,Rn,List.append_nil]
  simp [XQ,hne',hne]
 unfold finish
 simp only [hr]
 have h3:([b1,b2].all fun b=>Y5 H.length (H++G)[b]?)=true:=by
  simp only [List.all_cons,List.all_nil,Bool.and_true,h1,h2,Y5,u1,u2,Bool.and_self]
 simp only [hc,h3,and_self,if_true]
 have hq:(b1==b2)=false:=by simpa using hne
 simp [AV.rename,AV.rename.go,ZbT,h1,h2,List.idxOf_cons,hlt1,hlt2,hq]
theorem Zfu {L:List Blk} {q1 q2 n1 n2:Nat} {c1 c2:Option Nat} (a b t k:Int) (r:By) (hL:Z4 H L) (e0 e1:Option Nat) (hc:clean H.length e1=true) (h1:q1<H.length) (h2:q2<H.length) :
  finish 2 H.length e0 (.tup [stV (slL q1 n1 c1) a b (slS q2 n2 c2) t k,sV r]) ⟨L,e1⟩=some (.tup [stV (slL q1 n1 c1) a b (slS q2 n2 c2) t k,sV r],⟨H,e0⟩):=by
 obtain ⟨G,rfl⟩:=hL
 have hr:AV.roots H.length (.tup [stV (slL q1 n1 c1) a b (slS q2 n2 c2) t k,sV r])=[]:=by
  simp [AV.roots,AV.roots.go,h1,h2]
 unfold finish
 simp only [hr,hc]
 simp [XQ,AV.rename,AV.rename.go,ZbT,h1,h2]
def doS (s:Sd) (k x y z:Int):Sd:=⟨Zkv s.ls k x y,X8 s.ss k x y z,JD s.a k x,JD s.b k y,Zhc s.ls s.a s.b s.t k x y,wr (s.c+1)⟩
def Zn5 (s:Sd) (k:Int):By:=if k=5∨k=6 then Xd 47 [(ZB 1 1 s.ss:Int),(ZC 1 1 s.ss:Int)] else Lib.itoa (Zdx s.ls s.a s.b)
theorem Zoq {s:Sd} {k x y z:Int} (h:ZmA s.ls s.ss s.a s.b s.t s.c k x y z=true):YZ (doS s k x y z).ls=true∧ZJ (doS s k x y z).ss=true∧Zg0 (doS s k x y z).a (doS s k x y z).b=true:=by
 unfold ZmA Zog at h
 simp only [Ru] at h
 obtain ⟨_,h1,h2,h3⟩:=h
 unfold Zcb at h3
 simp only [Ru] at h3
 refine ⟨h1,h2,?_⟩
 unfold doS Zg0 at *
 simp only [Ru] at *
 exact h3.1
theorem Zfv {ss:List Sg} (hc:ZJ ss=true):Zfo (ZB 1 1 ss:Int)∧Zfo (ZC 1 1 ss:Int):=by
 obtain ⟨a1,a2,b1,b2,_⟩:=Q9 hc 0 (by omega)
 exact ⟨fit_small (by omega) (by omega),fit_small (by omega) (by omega)⟩
set_option maxHeartbeats 1000000 in
theorem ZxG {q1 q2:Nat} {c1 c2:Option Nat} {s:Sd} (h1:Zb H q1=some (Zm s.ls)) (h2:Zb H q2=some (Zr s.ss)) (hn:s.ls.length≤1048575) (hm:s.ss.length≤1048575) (k x y z:Int) :
  Wc (call T pr ZfO [stV (slL q1 s.ls.length c1) s.a s.b (slS q2 s.ss.length c2) s.t s.c,tkV k x y z] ⟨H,e⟩) (fun v m=>if ZmA s.ls s.ss s.a s.b s.t s.c k x y z=true then
   (v=.tup [stV (slL H.length (doS s k x y z).ls.length none) (doS s k x y z).a (doS s k x y z).b (slS (H.length+1) (doS s k x y z).ss.length none) (doS s k x y z).t (doS s k x y z).c,sV (Zn5 (doS s k x y z) k)]∧m=⟨H++[.cells (Zm (doS s k x y z).ls) true,.cells (Zr (doS s k x y z).ss) true],e⟩)
   else (v=.tup [stV (slL q1 s.ls.length c1) s.a s.b (slS q2 s.ss.length c2) s.t s.c,sV [63]]∧m=⟨H,e⟩)):=by
 have hlt1:q1<H.length:=Yk h1
 have hlt2:q2<H.length:=Yk h2
 have hdo:=fun L e' (g1:Zb L q1=some (Zm s.ls)) (g2:Zb L q2=some (Zr s.ss))=>ZFd (pr:=pr) (e:=e') (c1:=c1) (c2:=c2) g1 g2 hn hm s.a s.b s.t s.c k x y z
 rw [Zs Zyt]
 cases hok:ZmA s.ls s.ss s.a s.b s.t s.c k x y z with
 | false=>
  rw [hok] at hdo
  simp only [ZgH,R7,if_false] at hdo ⊢
  simp (maxSteps:=2000000) +contextual only [QX,Zdh,Zc,hdo,Za h1,Za h2,pp,go_sem,reduceIte,Ra,Rb,Rc,Rd]
  refine Wc.of_eq (Zfu (c1:=c1) (c2:=c2) (n1:=s.ls.length) (n2:=s.ss.length) s.a s.b s.t s.c [63] ⟨_,rfl⟩ e _ ?_ hlt1 hlt2) ⟨rfl,rfl⟩
  have m1:∀ k,H.length≤k→clean H.length (Z7 none k)=true:=fun k hk=>Zj rfl hk
  exact Zl _ (Zl _ rfl (m1 _ (by omega))) (Zj (Zl _ rfl (m1 _ (by omega))) (by omega))
 | true=>
  have hfa:=Zoq hok
  rw [hok] at hdo
  have hdo':∀ L e',Zb L q1=some (Zm s.ls)→Zb L q2=some (Zr s.ss)→call T pr Zho [stV (slL q1 s.ls.length c1) s.a s.b (slS q2 s.ss.length c2) s.t s.c,tkV k x y z] ⟨L,e'⟩ =
   some (.tup [stV (slL L.length (doS s k x y z).ls.length none) (doS s k x y z).a (doS s k x y z).b (slS (L.length+1) (doS s k x y z).ss.length none) (doS s k x y z).t (doS s k x y z).c,.bool true],⟨L++[.cells (Zm (doS s k x y z).ls) true,.cells (Zr (doS s k x y z).ss) true],e'⟩):=hdo
  clear hdo
  simp only [if_true]
  generalize doS s k x y z=s' at *
  obtain ⟨hr,hc,hb⟩:=hfa
  have hch:=fun L e' q (g:Zb L q=some (Zr s'.ss))=>ZgD (pr:=pr) (e:=e') (c:=none) g hc
  have hpa:=fun L e'=>ZgS (pr:=pr) (H:=L) (e:=e') (ZB 1 1 s'.ss) (ZC 1 1 s'.ss) (Zfv hc).1 (Zfv hc).2 true
  simp only [if_true] at hpa
  have hrl:=Za2 hr
  have hsi:=fun L e' q (g:Zb L q=some (Zm s'.ls))=>Zmu (pr:=pr) (e:=e') (c:=none) g (by omega) s'.a s'.b
  have hnu:=fun L e'=>XA (pr:=pr) (H:=L) (e:=e') (Zdx s'.ls s'.a s'.b) (Zce _ _ _).1 (Zce _ _ _).2
  by_cases hk5:k=5
  ·have hsay:Zn5 s' k=Xd 47 [(ZB 1 1 s'.ss:Int),(ZC 1 1 s'.ss:Int)]:=if_pos (.inl hk5)
   rw [hsay]
   subst hk5
   simp (maxSteps:=2000000) +contextual only [QX,Zdh,Zc,hdo',Za h1,Za h2,hch,hpa,RS,decide_true,decide_false,pp,go_sem,reduceIte,Ra,Rb,Rc,Rd]
   refine Wc.of_eq (Zi6 (w1:=true) (w2:=true) (cs1:=Zm s'.ls) (cs2:=Zr s'.ss) (b1:=H.length+3) (b2:=H.length+4) (c1:=none) (c2:=none) (n1:=s'.ls.length) (n2:=s'.ss.length) s'.a s'.b s'.t s'.c _ ⟨_,rfl⟩ e _ ?_ (by omega) (by omega) (by omega) (by rw [RN (by omega),show H.length+3 - H.length=3 by omega];rfl) (by rw [RN (by omega),show H.length+4 - H.length=4 by omega];rfl) (ZU _ _) (Z6 _ _)) ⟨rfl,rfl⟩
   exact Zl _ (Zl _ rfl (Zj rfl (by omega))) (Zj (Zl _ rfl (Zj rfl (by omega))) (by omega))
  ·by_cases hk6:k=6
   ·have hsay:Zn5 s' k=Xd 47 [(ZB 1 1 s'.ss:Int),(ZC 1 1 s'.ss:Int)]:=if_pos (.inr hk6)
    rw [hsay]
    subst hk6
    simp (maxSteps:=2000000) +contextual only [QX,Zdh,Zc,hdo',Za h1,Za h2,hch,hpa,RS,decide_true,decide_false,show ¬ (6:Int)=5 by decide,pp,go_sem,reduceIte,Ra,Rb,Rc,Rd]
    refine Wc.of_eq (Zi6 (w1:=true) (w2:=true) (cs1:=Zm s'.ls) (cs2:=Zr s'.ss) (b1:=H.length+3) (b2:=H.length+4) (c1:=none) (c2:=none) (n1:=s'.ls.length) (n2:=s'.ss.length) s'.a s'.b s'.t s'.c _ ⟨_,rfl⟩ e _ ?_ (by omega) (by omega) (by omega) (by rw [RN (by omega),show H.length+3 - H.length=3 by omega];rfl) (by rw [RN (by omega),show H.length+4 - H.length=4 by omega];rfl) (ZU _ _) (Z6 _ _)) ⟨rfl,rfl⟩
    exact Zl _ (Zl _ rfl (Zj rfl (by omega))) (Zj (Zl _ rfl (Zj rfl (by omega))) (by omega))
   ·have hsay:Zn5 s' k=Lib.itoa (Zdx s'.ls s'.a s'.b):=if_neg (fun h=>h.elim hk5 hk6)
    rw [hsay]
    simp (maxSteps:=2000000) +contextual only [QX,Zdh,Zc,hdo',Za h1,Za h2,hk5,hk6,hsi,hnu,RS,decide_true,decide_false,pp,go_sem,reduceIte,Ra,Rb,Rc,Rd]
    refine Wc.of_eq (Zi6 (w1:=true) (w2:=true) (cs1:=Zm s'.ls) (cs2:=Zr s'.ss) (b1:=H.length+3) (b2:=H.length+4) (c1:=none) (c2:=none) (n1:=s'.ls.length) (n2:=s'.ss.length) s'.a s'.b s'.t s'.c _ ⟨_,rfl⟩ e _ ?_ (by omega) (by omega) (by omega) (by rw [RN (by omega),show H.length+3 - H.length=3 by omega];rfl) (by rw [RN (by omega),show H.length+4 - H.length=4 by omega];rfl) (ZU _ _) (Z6 _ _)) ⟨rfl,rfl⟩
    exact Zl _ (Zl _ rfl (Zj rfl (by omega))) (Zj (Zl _ rfl (Zj rfl (by omega))) (by omega))
def Sd.std (s:Sd):Bool:=Zcn s.ls s.ss s.a s.b s.t s.c
def execP (s:Sd) (w:By) (zs:List Int):Option Sd×Option By :=
 if 0<ZcW w zs.length then
  (if ZmA s.ls s.ss s.a s.b s.t s.c (ZcW w zs.length) (zs.getD 0 0) (zs.getD 1 0) (zs.getD 2 0)=true then (some (doS s (ZcW w zs.length) (zs.getD 0 0) (zs.getD 1 0) (zs.getD 2 0)),some (Zn5 (doS s (ZcW w zs.length) (zs.getD 0 0) (zs.getD 1 0) (zs.getD 2 0)) (ZcW w zs.length))) else (none,none))
 else (none,askAllW s.ls s.a s.b s.ss s.t w zs)
def ZuH (s:Sd):List By→Option Sd×Option By
 | []=>(none,none)
 | w::ws=>match ZcV ws with
  | none=>(none,none)
  | some zs=>execP s w zs
def Za4 (s:Sd) (cmd:By):Option Sd×Option By:=ZuH s (ZV 32 cmd)
theorem ZsW (c:UInt8):∀ l:By,(ZV c l).length=1→ZV c l=[l]
 | [],_=>rfl
 | b::l,h=>by
  rw [ZV] at h ⊢
  split at h
  ·rename_i hb
   have:=Zh1 c l
   have h1:0<(ZV c l).length:=WY.mpr this
   simp only [Rl] at h
   omega
  ·rename_i hb
   rw [if_neg hb]
   have ih:=ZsW c l
   cases hs:ZV c l with
   | nil=>exact absurd hs (Zh1 c l)
   | cons x xs=>
    rw [hs] at h ih
    simp only [Rl] at h ih
    have hx:xs=[]:=List.length_eq_zero_iff.mp (by omega)
    subst hx
    have:=ih rfl
    simp only [List.cons.injEq,and_true] at this
    rw [this]
theorem ZHD (s:Sd) (w:By):execP s w []=(none,askW s.ls s.a s.b s.ss s.t w):=by
 have h0:ZcW w ([]:List Int).length=0:=by
  unfold ZcW TBk
  simp [ZmO]
 unfold execP
 rw [h0,if_neg (by omega)]
 unfold askAllW
 congr 1
 by_cases w1:w=[119,101,105,103,104]
 ·subst w1;simp [askW,Zcj,Zqu]
 ·by_cases w2:w=[104,111,119]
  ·subst w2;simp [askW,ZJi]
  ·rw [if_neg w1,if_neg w2]
def ZDM (H:List Blk) (e:Option Nat) (s:Sd) (q1 q2:Nat) (c1 c2:Option Nat) (r:Option Sd×Option By) (v:AV) (m:Mem):Prop :=
 match r.1 with
 | some s'=>v=.tup [stV (slL H.length s'.ls.length none) s'.a s'.b (slS (H.length+1) s'.ss.length none) s'.t s'.c,sV (r.2.getD [63])]∧m=⟨H++[.cells (Zm s'.ls) true,.cells (Zr s'.ss) true],e⟩
 | none=>v=.tup [stV (slL q1 s.ls.length c1) s.a s.b (slS q2 s.ss.length c2) s.t s.c,sV (r.2.getD [63])]∧m=⟨H,e⟩
theorem Zih (c:UInt8):∀ (l:By),∀ x∈ZV c l,x.length≤l.length
 | [],x,h=>by simp [ZV] at h;subst h;simp
 | b::l,x,h=>by
  have ih:=Zih c l
  rw [ZV] at h
  split at h
  ·rcases List.mem_cons.mp h with rfl | h
   ·simp
   ·have:=ih x h;simp only [Rl];omega
  ·split at h
   ·simp only [R8] at h;subst h;simp
   ·rename_i y ys hs
    rw [hs] at ih
    rcases List.mem_cons.mp h with rfl | h
    ·have:=ih y List.mem_cons_self;simp only [Rl];omega
    ·have:=ih x (Wu _ h);simp only [Rl];omega
set_option maxHeartbeats 2000000 in
theorem ZxH {q1 q2:Nat} {c1 c2:Option Nat} {s:Sd} (h1:Zb H q1=some (Zm s.ls)) (h2:Zb H q2=some (Zr s.ss)) (hs:s.std=true) (cmd:By) (hcm:cmd.length≤900000) :
  Wc (call T pr ZfI [stV (slL q1 s.ls.length c1) s.a s.b (slS q2 s.ss.length c2) s.t s.c,sV cmd] ⟨H,e⟩) (ZDM H e s q1 q2 c1 c2 (Za4 s cmd)):=by
 have hlt1:q1<H.length:=Yk h1
 have hlt2:q2<H.length:=Yk h2
 obtain ⟨hr,hc,hb,hss,hls,ht1,ht2,hk1,hk2,hre⟩:=J0 hs
 have hsp:=fun L e'=>Zqa (pr:=pr) (H:=L) (e:=e') cmd 32 (by omega)
 have hlen:=ZiW 32 cmd
 have hpl:=Zih 32 cmd
 have hne:=Zh1 32 cmd
 have hpos:0<(ZV 32 cmd).length:=WY.mpr hne
 have h32:((32:UInt8).toNat:Int)=32:=rfl
 rw [h32] at hsp
 rw [Zs Zyj]
 by_cases hone:(ZV 32 cmd).length=1
 ·have hsc:=ZsW 32 cmd hone
  have hone':(((ZV 32 cmd).length:Nat):Int)=1:=by omega
  have hx:Za4 s cmd=(none,askW s.ls s.a s.b s.ss s.t cmd):=by
   unfold Za4
   rw [hsc]
   exact ZHD s cmd
  have htl:=fun L e' g1 g2=>ZAh (pr:=pr) (H:=L) (e:=e') (c1:=c1) (c2:=c2) (q1:=q1) (q2:=q2) g1 g2 hs cmd
  rw [hx]
  unfold ZDM
  simp (maxSteps:=2000000) +contextual only [Zdg,ZjP,Zc,hsp,hone',htl,Za h1,Za h2,decide_true,RS,pp,go_sem,reduceIte,Ra,Rb,Rc,Rd]
  refine Wc.of_eq (Zfu (c1:=c1) (c2:=c2) (n1:=s.ls.length) (n2:=s.ss.length) s.a s.b s.t s.c _ ⟨_,rfl⟩ e _ ?_ hlt1 hlt2) ⟨rfl,rfl⟩
  exact Zl _ rfl (Zj rfl (by omega))
 ·have hone':¬ (((ZV 32 cmd).length:Nat):Int)=1:=by omega
  have hx:Za4 s cmd=ZuH s (ZV 32 cmd):=rfl
  rw [hx]
  generalize ZV 32 cmd=ps at *
  simp (maxSteps:=2000000) +contextual only [Zdg,ZjP,Zc,hsp,hone',decide_false,RS,pp,go_sem,reduceIte,Ra,Rb,Rc,Rd]
  refine (ZxF (q:=H.length+2) (Zg (w:=true) (by rw [RN (by omega),show H.length+2 - H.length=2 by omega];rfl)) (by omega) (by omega) (fun w hw=>by have:=hpl w hw;omega)).mono ?_
  obtain ⟨w,ws,rfl⟩:∃ w ws,ps=w::ws:=by
   cases ps with
   | nil=>exact absurd rfl hne
   | cons w ws=>exact ⟨w,ws,rfl⟩
  have hxl:ZuH s (w::ws)=match ZcV ws with | none=>(none,none) | some zs=>execP s w zs:=rfl
  have hnl:=fun zs=>ZxE (ws:=ws) (zs:=zs)
  simp only [Rl] at hone' hlen
  rw [hxl,List.tail_cons]
  generalize ZcV ws=o at *
  rintro v m hv
  cases o with
  | none=>
   obtain ⟨G,c,rfl,rfl⟩:=hv
   unfold ZDM
   simp (maxSteps:=2000000) +contextual only [Rs,Rn,Ro,R3,Rl,RM,WX,RS,pp,go_sem,reduceIte,Ra,Rb,Rc,Rd]
   refine Wc.of_eq (Zfu (c1:=c1) (c2:=c2) (n1:=s.ls.length) (n2:=s.ss.length) s.a s.b s.t s.c _ ⟨_,rfl⟩ e _ ?_ hlt1 hlt2) ⟨rfl,rfl⟩
   exact Zl _ rfl (Zj rfl (by omega))
  | some zs=>
   obtain ⟨rfl,rfl⟩:=hv
   have hzl:=hnl zs rfl
   have hz0:zs≠[]:=by intro h;subst h;simp at hzl;omega
   have htk:=fun L e' (g:Zb L (H.length+3)=some (ZR zs))=>ZAl (pr:=pr) (e:=e') g hz0 (by omega) w
   have hp0:∀ sz,Zco false (Zcf (w::ws)) 0 sz=some (sV w):=fun sz=>YX sz rfl
   have hl0:(0:Int)<((ws.length+1:Nat):Int):=by omega
   by_cases hk:0<ZcW w zs.length
   ·have htv:ZGm (ZcW w zs.length) zs=tkV (ZcW w zs.length) (zs.getD 0 0) (zs.getD 1 0) (zs.getD 2 0):=if_pos hk
    have hxp:execP s w zs=(if ZmA s.ls s.ss s.a s.b s.t s.c (ZcW w zs.length) (zs.getD 0 0) (zs.getD 1 0) (zs.getD 2 0)=true then (some (doS s (ZcW w zs.length) (zs.getD 0 0) (zs.getD 1 0) (zs.getD 2 0)),some (Zn5 (doS s (ZcW w zs.length) (zs.getD 0 0) (zs.getD 1 0) (zs.getD 2 0)) (ZcW w zs.length))) else (none,none)):=if_pos hk
    rw [htv] at htk
    generalize ZcW w zs.length=k at *
    generalize zs.getD 0 0=x at *
    generalize zs.getD 1 0=y at *
    generalize zs.getD 2 0=z at *
    simp (maxSteps:=2000000) +contextual only [Rs,Rn,Ro,R3,Rl,RM,WX,RS,htk,hp0,hl0,hxp,Za7,Zbv,Zbw,Wd,RH,Rr,gt_iff_lt,hk,Zc,decide_true,pp,go_sem,reduceIte,Ra,Rb,Rc,Rd]
    refine (ZxG (Za h1 _) (Za h2 _) (by omega) (by omega) k x y z).mono ?_
    rintro v m hv
    unfold ZDM
    cases hd:ZmA s.ls s.ss s.a s.b s.t s.c k x y z with
    | false=>
     simp only [hd,R7,if_false] at hv ⊢
     obtain ⟨rfl,rfl⟩:=hv
     simp (maxSteps:=2000000) +contextual only [Rs,Rn,Ro,R3,Rl,RM,WX,RS,pp,go_sem,reduceIte,Ra,Rb,Rc,Rd]
     refine Wc.of_eq (Zfu (c1:=c1) (c2:=c2) (n1:=s.ls.length) (n2:=s.ss.length) s.a s.b s.t s.c _ ⟨_,rfl⟩ e _ ?_ hlt1 hlt2) ⟨rfl,rfl⟩
     exact Zl _ rfl (Zj rfl (by omega))
    | true=>
     simp only [hd,if_true] at hv ⊢
     obtain ⟨rfl,rfl⟩:=hv
     generalize doS s k x y z=s' at *
     simp (maxSteps:=2000000) +contextual only [Rs,Rn,Ro,R3,Rl,RM,WX,RS,pp,go_sem,reduceIte,Ra,Rb,Rc,Rd]
     refine Wc.of_eq (Zi6 (w1:=true) (w2:=true) (cs1:=Zm s'.ls) (cs2:=Zr s'.ss) (b1:=H.length+5) (b2:=H.length+6) (c1:=none) (c2:=none) (n1:=s'.ls.length) (n2:=s'.ss.length) s'.a s'.b s'.t s'.c _ ⟨_,rfl⟩ e _ ?_ (by omega) (by omega) (by omega) (by rw [RN (by omega),show H.length+5 - H.length=5 by omega];rfl) (by rw [RN (by omega),show H.length+6 - H.length=6 by omega];rfl) (ZU _ _) (Z6 _ _)) ⟨rfl,rfl⟩
     exact Zl _ rfl (Zj rfl (by omega))
   ·have htv:ZGm (ZcW w zs.length) zs=tkV 0 0 0 0:=if_neg hk
    have hxp:execP s w zs=(none,askAllW s.ls s.a s.b s.ss s.t w zs):=if_neg hk
    rw [htv] at htk
    have hak:∀ L e',Zb L q1=some (Zm s.ls)→Zb L q2=some (Zr s.ss)→Zb L (H.length+3)=some (ZR zs)→call T pr ZeZ [stV (slL q1 s.ls.length c1) s.a s.b (slS q2 s.ss.length c2) s.t s.c,sV w,slI (H.length+3) zs.length none] ⟨L,e'⟩=some (sV ((askAllW s.ls s.a s.b s.ss s.t w zs).getD [63]),⟨L,e'⟩):=by
     intro L e' g1 g2 g3
     cases zs with
     | nil=>exact absurd rfl hz0
     | cons n zs'=>exact ZDL g1 g2 g3 hs (by simp only [Rl] at hzl;omega) w
    unfold ZDM
    simp (maxSteps:=2000000) +contextual only [hak,Za h1,Za h2,Rs,Rn,Ro,R3,Rl,RM,WX,RS,htk,hp0,hl0,hxp,Za7,Zbv,Zbw,Wd,RH,Rr,gt_iff_lt,Int.lt_irrefl,Zc,decide_true,decide_false,pp,go_sem,reduceIte,Ra,Rb,Rc,Rd]
    refine Wc.of_eq (Zfu (c1:=c1) (c2:=c2) (n1:=s.ls.length) (n2:=s.ss.length) s.a s.b s.t s.c _ ⟨_,rfl⟩ e _ ?_ hlt1 hlt2) ⟨rfl,rfl⟩
    exact Zl _ rfl (Zj rfl (by omega))
theorem ZI5 {zs:List Int} (h:zs≠[]):(zs++[0,0,0])[0]?=some (zs.getD 0 0)∧(zs++[0,0,0])[1]?=some (zs.getD 1 0)∧(zs++[0,0,0])[2]?=some (zs.getD 2 0):=by
 match zs,h with
 | [a],_=>exact ⟨rfl,rfl,rfl⟩
 | [a,b],_=>exact ⟨rfl,rfl,rfl⟩
 | a::b::c::r,_=>exact ⟨rfl,rfl,rfl⟩
def ZdM (n:Nat) (L:List Blk) (e:Option Nat) (u:Nat) (rest:List AV) (r:Option Sd×Option By) (v:AV) (m:Mem):Prop :=
 ∃ (L':List Blk) (e':Option Nat),m=⟨L',e'⟩∧ZHA r.2 v∧(∀ i,i<n→i≠u→L'[i]?=L[i]?)∧L.length≤L'.length∧(∀ B,B≤u→clean B e=true→clean B e'=true) ∧
  match r.1 with
  | some s'=>∃ p1 p2:Nat,n≤p1∧n≤p2∧p1≠p2∧L'[u]?=some (.cells (sdL (slL p1 s'.ls.length none) s'.a s'.b (slS p2 s'.ss.length none) s'.t s'.c rest) true)∧L'[p1]?=some (.cells (Zm s'.ls) true)∧L'[p2]?=some (.cells (Zr s'.ss) true)
  | none=>L'[u]?=L[u]?
set_option maxHeartbeats 2000000 in
theorem ZxI (hl:ZsR pr) {u q1 q2 qn:Nat} {c1 c2:Option Nat} {s:Sd} {rest:List AV} {zs:List Int} (hu:H[u]?=some (.cells (sdL (slL q1 s.ls.length c1) s.a s.b (slS q2 s.ss.length c2) s.t s.c rest) true)) (h1:Zb H q1=some (Zm s.ls)) (h2:Zb H q2=some (Zr s.ss)) (hn:H[qn]?=some (.cells (ZR zs) true)) (hnu:qn≠u) (hq1:q1≠qn) (hq2:q2≠qn) (hz0:zs≠[]) (hz:zs.length≤1000000) (hs:s.std=true) (k:Int) {n:Nat} (hnq:n≤qn) (hun:u<n) :
  Wc (call T pr KN [.ptr (some (u,0)),.int .i64 k,slI qn zs.length none] ⟨H,e⟩) (ZdM n H e u rest (if ZmA s.ls s.ss s.a s.b s.t s.c k (zs.getD 0 0) (zs.getD 1 0) (zs.getD 2 0)=true then (some (doS s k (zs.getD 0 0) (zs.getD 1 0) (zs.getD 2 0)),some (Zn5 (doS s k (zs.getD 0 0) (zs.getD 1 0) (zs.getD 2 0)) k)) else (none,none))):=by
 obtain ⟨hr,hc,hb,hss,hls,ht1,ht2,hk1,hk2,hre⟩:=J0 hs
 have hul:u<H.length:=(RB.mp hu).1
 have hst:Zog s.ls s.ss s.a s.b s.t s.c=true:=hs
 obtain ⟨o1,o2,o3⟩:=ZI5 hz0
 rw [Zs Zmk]
 simp (maxSteps:=2000000) +contextual only [Yr,Ze6,Zc,pp,go_sem,reduceIte,Ra,Rb,Rc,Rd]
 refine Zja (k:=3) (new:=[.int .i64 0,.int .i64 0,.int .i64 0]) (cs:=ZR zs) (Yv hn _) (Qk _ 3 1 _ _ H.length (by simp +contextual only [go_sem,reduceIte,Ra,Rb,Rc,Rd]) rfl) (by simp [ZR]) rfl (by unfold maxBytes;omega) (by simp) ?_
 intro L2 g1 g2 g3 g4
 have hqnl:qn<H.length:=(RB.mp hn).1
 have hl2:L2.length=H.length+2:=by rw [g1];simp
 have hq1l:q1<H.length:=Yk h1
 have hq2l:q2<H.length:=Yk h2
 have keep:∀ i,i<H.length→i≠qn→L2[i]?=H[i]?:=fun i hi hq=>by
  rw [g2 i hq (by simp;omega),Wt hi]
 have hu2:L2[u]?=some (.cells (sdL (slL q1 s.ls.length c1) s.a s.b (slS q2 s.ss.length c2) s.t s.c rest) true):=by rw [keep u hul (Ne.symm hnu)];exact hu
 have hu2c:∀ G,Zb (L2++G) u=some (sdL (slL q1 s.ls.length c1) s.a s.b (slS q2 s.ss.length c2) s.t s.c rest):=fun G=>Za (Zg hu2) G
 have hu3:∀ G,(L2++G)[u]?=some (.cells (sdL (slL q1 s.ls.length c1) s.a s.b (slS q2 s.ss.length c2) s.t s.c rest) true):=fun G=>Yv hu2 G
 have h12:Zb L2 q1=some (Zm s.ls):=by unfold Zb at h1 ⊢;rw [keep q1 hq1l hq1];exact h1
 have h22:Zb L2 q2=some (Zr s.ss):=by unfold Zb at h2 ⊢;rw [keep q2 hq2l hq2];exact h2
 have g3':Zb L2 (H.length+1)=some (ZR (zs++[0,0,0])):=by
  refine Zg (w:=true) ?_
  have:ZR zs++[.int .i64 0,.int .i64 0,.int .i64 0]=ZR (zs++[0,0,0]):=by simp [ZR]
  rw [←this]
  simpa using g3
 have g3m:∀ G,Zb (L2++G) (H.length+1)=some (ZR (zs++[0,0,0])):=fun G=>Za g3' G
 have hx0:(0:Int)<((zs.length+3:Nat):Int):=by omega
 have hx1:(1:Int)<((zs.length+3:Nat):Int):=by omega
 have hx2:(2:Int)<((zs.length+3:Nat):Int):=by omega
 have i02:(0:Int)≤2:=by decide
 have t2:Int.toNat 2=2:=rfl
 have p1:=fun sz=>Zu sz o1
 have p2:=fun sz=>Zu sz o2
 have p3:=fun sz=>Zu sz o3
 generalize zs.getD 0 0=x at *
 generalize zs.getD 1 0=y at *
 generalize zs.getD 2 0=z at *
 have hdo:=fun L e' (f1:Zb L q1=some (Zm s.ls)) (f2:Zb L q2=some (Zr s.ss))=>ZC9 (pr:=pr) (e:=e') (c1:=c1) (c2:=c2) hl.del f1 f2 (by omega) (by omega) k x y z hst
 cases hok:ZmA s.ls s.ss s.a s.b s.t s.c k x y z with
 | false=>
  rw [hok] at hdo
  simp only [ZgH,R7,if_false] at hdo ⊢
  simp (maxSteps:=2000000) +contextual only [Yr,Zz,Zt,hu2c,Zg hu2,h12,h22,g3',g3m,hx0,hx1,hx2,i02,t2,and_self,p1,p2,p3,hdo,Zc,Za7,Zbv,Zbw,Wd,RH,RI,Rr,Rq,finish,pp,go_sem,reduceIte,Ra,Rb,Rc,Rd]
  exact ⟨_,joinEsc e (if (AV.under (L2.length+1) (AV.slice none 0 0 none)&&AV.under (L2.length+1) (AV.slice none 0 0 none))=true then none else Z7 none L2.length),rfl,⟨[],rfl,fun y h=>absurd h (by simp)⟩,fun i hi hne=>by rw [Wt (by omega)];exact keep i (by omega) (by omega),by rw [R3];omega,fun B hB hc=>Yl hc (Zl _ rfl (Zj rfl (by omega))),by rw [Wt (by omega),hu2,hu]⟩
 | true=>
  have hfa:=Zoq hok
  rw [hok] at hdo
  have hdo':∀ L e',Zb L q1=some (Zm s.ls)→Zb L q2=some (Zr s.ss)→call T pr Xr [stV (slL q1 s.ls.length c1) s.a s.b (slS q2 s.ss.length c2) s.t s.c,tkV k x y z] ⟨L,e'⟩ =
   some (.tup [stV (slL L.length (doS s k x y z).ls.length none) (doS s k x y z).a (doS s k x y z).b (slS (L.length+1) (doS s k x y z).ss.length none) (doS s k x y z).t (doS s k x y z).c,.bool true],⟨L++[.cells (Zm (doS s k x y z).ls) true,.cells (Zr (doS s k x y z).ss) true],e'⟩):=hdo
  clear hdo
  simp only [if_true]
  generalize doS s k x y z=s' at *
  obtain ⟨hr',hc',hb'⟩:=hfa
  have hset:∀ (X:List AV) (G:List Blk),Zb ((L2++G).set u (.cells X true)) u=some X:=fun X G=>Zg (w:=true) (by rw [WL (by rw [R3];omega)])
  have hcL:∀ (X:Blk) (G:List Blk),Zb ((L2++Blk.cells (Zm s'.ls) true::G).set u X) L2.length=some (Zm s'.ls):=fun X G=>Zg (w:=true) (by rw [WA (by omega),RN (Rz _),WH];rfl)
  have hcS:∀ (X B:Blk) (G:List Blk),Zb ((L2++B::Blk.cells (Zr s'.ss) true::G).set u X) (L2.length+1)=some (Zr s'.ss):=fun X B G=>Zg (w:=true) (by rw [WA (by omega),RN (by omega),show L2.length+1 - L2.length=1 by omega];rfl)
  have hrl:=Za2 hr'
  have hss':s'.ss.length≤5:=by
   have:=hc'
   unfold ZJ at this
   rw [Ru,decide_eq_true_eq] at this
   omega
  have hch:=fun L e' (g:Zb L (L2.length+1)=some (Zr s'.ss))=>ZnY (pr:=pr) (e:=e') (c:=none) g hc' (by omega)
  have hpa:=fun L e'=>QS (pr:=pr) (H:=L) (e:=e') hl.all.ito hl.all.joi (ZB 1 1 s'.ss) (ZC 1 1 s'.ss) (Zfv hc').1 (Zfv hc').2 true
  have hsi:=fun L e' (g:Zb L L2.length=some (Zm s'.ls))=>ZjD (pr:=pr) (e:=e') (c:=none) g (by omega) s'.a s'.b hr' hb'
  have hnu':=fun L e'=>ZQ (pr:=pr) (H:=L) (e:=e') hl.all.ito (Zdx s'.ls s'.a s'.b) (Zce _ _ _) true
  by_cases hk5:k=5
  ·have hsay:Zn5 s' k=Xd 47 [(ZB 1 1 s'.ss:Int),(ZC 1 1 s'.ss:Int)]:=if_pos (.inl hk5)
   rw [hsay]
   subst hk5
   simp (maxSteps:=2000000) +contextual only [Yr,Zz,Zt,hu2c,Zg hu2,h12,h22,g3',g3m,hx0,hx1,hx2,i02,t2,and_self,p1,p2,p3,hdo',hu3,hset,hcL,hcS,Zc,Za7,Zbv,Zbw,Wd,RH,RI,Rr,Rq,finish,RS,hch,hpa,decide_true,pp,go_sem,reduceIte,Ra,Rb,Rc,Rd]
   refine ⟨_,joinEsc e _,rfl,⟨_,rfl,fun y h=>by rw [←WI h]⟩,fun i hi hne => ?_,by rw [RE,R3];omega,fun B hB hc=>Yl hc (Zl _ (Zl _ rfl (Zj rfl (by omega))) (Zj (Zl _ rfl (Zj rfl (by omega))) hB)),L2.length,L2.length+1,by omega,by omega,by omega,?_,?_,?_⟩
   ·rw [WA (by omega),Wt (by omega)];exact keep i (by omega) (by omega)
   ·rw [WL (by rw [R3];omega)]
   ·rw [WA (by omega),RN (Rz _),WH];rfl
   ·rw [WA (by omega),RN (by omega),show L2.length+1 - L2.length=1 by omega];rfl
  ·by_cases hk6:k=6
   ·have hsay:Zn5 s' k=Xd 47 [(ZB 1 1 s'.ss:Int),(ZC 1 1 s'.ss:Int)]:=if_pos (.inr hk6)
    rw [hsay]
    subst hk6
    simp (maxSteps:=2000000) +contextual only [Yr,Zz,Zt,hu2c,Zg hu2,h12,h22,g3',g3m,hx0,hx1,hx2,i02,t2,and_self,p1,p2,p3,hdo',hu3,hset,hcL,hcS,Zc,Za7,Zbv,Zbw,Wd,RH,RI,Rr,Rq,finish,RS,hch,hpa,decide_true,decide_false,show ¬ (6:Int)=5 by decide,pp,go_sem,reduceIte,Ra,Rb,Rc,Rd]
    refine ⟨_,joinEsc e _,rfl,⟨_,rfl,fun y h=>by rw [←WI h]⟩,fun i hi hne => ?_,by rw [RE,R3];omega,fun B hB hc=>Yl hc (Zl _ (Zl _ rfl (Zj rfl (by omega))) (Zj (Zl _ rfl (Zj rfl (by omega))) hB)),L2.length,L2.length+1,by omega,by omega,by omega,?_,?_,?_⟩
    ·rw [WA (by omega),Wt (by omega)];exact keep i (by omega) (by omega)
    ·rw [WL (by rw [R3];omega)]
    ·rw [WA (by omega),RN (Rz _),WH];rfl
    ·rw [WA (by omega),RN (by omega),show L2.length+1 - L2.length=1 by omega];rfl
   ·have hsay:Zn5 s' k=Lib.itoa (Zdx s'.ls s'.a s'.b):=if_neg (fun h=>h.elim hk5 hk6)
    rw [hsay]
    simp (maxSteps:=2000000) +contextual only [Yr,Zz,Zt,hu2c,Zg hu2,h12,h22,g3',g3m,hx0,hx1,hx2,i02,t2,and_self,p1,p2,p3,hdo',hu3,hset,hcL,hcS,Zc,Za7,Zbv,Zbw,Wd,RH,RI,Rr,Rq,finish,RS,hk5,hk6,hsi,hnu',decide_true,decide_false,pp,go_sem,reduceIte,Ra,Rb,Rc,Rd]
    refine ⟨_,joinEsc e _,rfl,⟨_,rfl,fun y h=>by rw [←WI h]⟩,fun i hi hne => ?_,by rw [RE,R3];omega,fun B hB hc=>Yl hc (Zl _ (Zl _ rfl (Zj rfl (by omega))) (Zj (Zl _ rfl (Zj rfl (by omega))) hB)),L2.length,L2.length+1,by omega,by omega,by omega,?_,?_,?_⟩
    ·rw [WA (by omega),Wt (by omega)];exact keep i (by omega) (by omega)
    ·rw [WL (by rw [R3];omega)]
    ·rw [WA (by omega),RN (Rz _),WH];rfl
    ·rw [WA (by omega),RN (by omega),show L2.length+1 - L2.length=1 by omega];rfl
theorem ZHE {w:By} (h:0<(JH w).1) (ls:List Ld) (a b:Int) (ss:List Sg) (t:Int) (zs:List Int):askAllW ls a b ss t w zs=none:=by
 have key:∀ w:By,w=[108,111,97,100]∨w=[116,97,107,101]∨w=[109,111,118,101]∨w=[98,97,115,101]∨w=[115,116,97,103,101]∨w=[100,114,111,112]→askAllW ls a b ss t w zs=none:=by
  intro w hw
  match zs with
  | []=>rcases hw with rfl | rfl | rfl | rfl | rfl | rfl <;> simp [askAllW,askW]
  | [n]=>rcases hw with rfl | rfl | rfl | rfl | rfl | rfl <;> simp [askAllW,askOneW]
  | n::m::r=>rcases hw with rfl | rfl | rfl | rfl | rfl | rfl <;> simp [askAllW]
 apply key
 unfold JH at h
 by_cases w1:w=[108,111,97,100]
 ·exact .inl w1
 by_cases w2:w=[116,97,107,101]
 ·exact .inr (.inl w2)
 by_cases w3:w=[109,111,118,101]
 ·exact .inr (.inr (.inl w3))
 by_cases w4:w=[98,97,115,101]
 ·exact .inr (.inr (.inr (.inl w4)))
 by_cases w5:w=[115,116,97,103,101]
 ·exact .inr (.inr (.inr (.inr (.inl w5))))
 by_cases w6:w=[100,114,111,112]
 ·exact .inr (.inr (.inr (.inr (.inr w6))))
 rw [if_neg w1,if_neg w2,if_neg w3,if_neg w4,if_neg w5,if_neg w6] at h
 exact absurd h (by simp)
theorem ZGo {w:By} (h:0<(JH w).1):1≤(JH w).2:=by
 unfold JH at h ⊢
 split
 ·simp
 ·split
  ·simp
  ·split
   ·simp
   ·split
    ·simp
    ·split
     ·simp
     ·split
      ·simp
      ·rename_i h1 h2 h3 h4 h5 h6
       rw [if_neg h1,if_neg h2,if_neg h3,if_neg h4,if_neg h5,if_neg h6] at h
       exact absurd h (by simp)
theorem ZdM.grown {H L:List Blk} {u:Nat} {rest:List AV} {r:Option Sd×Option By} {v:AV} {m:Mem} (hL:Z4 H L) (hu:u<H.length) (h:ZdM H.length L none u rest r v m):∃ L' e' x,v=.tup [sV x,.bool r.2.isSome]∧m=⟨L',e'⟩∧(∀ e,ZdM H.length H e u rest r v ⟨L',joinEsc e e'⟩):=by
 obtain ⟨L',e',rfl,⟨x,rfl,hx⟩,h1,h2,h3,h4⟩:=h
 refine ⟨L',e',x,rfl,rfl,fun e=>⟨L',joinEsc e e',rfl,⟨x,rfl,hx⟩,fun i hi hne => ?_,by have:=hL.le;omega,fun B hB hc=>Yl hc (h3 B hB rfl),?_⟩⟩
 ·rw [h1 i hi hne]
  obtain ⟨G,rfl⟩:=hL
  exact Wt hi
 ·cases hr:r.1 with
  | some s'=>rw [hr] at h4;exact h4
  | none=>
   rw [hr] at h4
   show L'[u]?=H[u]?
   have h4':L'[u]?=L[u]?:=h4
   rw [h4']
   obtain ⟨G,rfl⟩:=hL
   exact Wt hu
theorem ZdM.keep {L L':List Blk} {e e':Option Nat} {u:Nat} {rest:List AV} {r:Option By} {v:AV} (hL:Z4 L L') (hu:u<L.length) (hc:∀ B,B≤u→clean B e=true→clean B e'=true) (hv:ZHA r v):ZdM L.length L e u rest (none,r) v ⟨L',e'⟩:=by
 obtain ⟨G,rfl⟩:=hL
 exact ⟨_,e',rfl,hv,fun i hi _=>Wt hi,by simp,hc,Wt hu⟩
set_option maxHeartbeats 4000000 in
theorem ZxJ (hl:ZsR pr) {u q1 q2:Nat} {c1 c2:Option Nat} {s:Sd} {rest:List AV} (hu:H[u]?=some (.cells (sdL (slL q1 s.ls.length c1) s.a s.b (slS q2 s.ss.length c2) s.t s.c rest) true)) (h1:Zb H q1=some (Zm s.ls)) (h2:Zb H q2=some (Zr s.ss)) (hs:s.std=true) (cmd:By) (hcm:cmd.length≤900000) :
  Wc (call T pr KL [.ptr (some (u,0)),sV cmd] ⟨H,e⟩) (ZdM H.length H e u rest (Za4 s cmd)):=by
 obtain ⟨hr,hc,hb,hss,hls,ht1,ht2,hk1,hk2,hre⟩:=J0 hs
 have hul:u<H.length:=(RB.mp hu).1
 have hq1l:q1<H.length:=Yk h1
 have hq2l:q2<H.length:=Yk h2
 have hsp:=fun L e'=>hl.all.spl cmd 32 L e' (by omega)
 have hlen:=ZiW 32 cmd
 have hpl:=Zih 32 cmd
 have hne:=Zh1 32 cmd
 have hx:Za4 s cmd=ZuH s (ZV 32 cmd):=rfl
 rw [hx,Zs Zmj]
 generalize ZV 32 cmd=ps at *
 obtain ⟨w,ws,rfl⟩:∃ w ws,ps=w::ws:=by
  cases ps with
  | nil=>exact absurd rfl hne
  | cons w ws=>exact ⟨w,ws,rfl⟩
 simp only [Rl] at hlen hsp
 have d1:decide (bs w=⟨#[119,101,105,103,104]⟩)=decide (w=[119,101,105,103,104]):=Zab _ _
 have d2:decide (bs w=⟨#[104,111,119]⟩)=decide (w=[104,111,119]):=Zab _ _
 have hl0:(0:Int)<((ws.length+1:Nat):Int):=by omega
 have hp0:∀ sz,Zco false (Zcf (w::ws)) 0 sz=some (sV w):=fun sz=>YX sz rfl
 have hsl:ZbR 1 (slX H.length (ws.length+1) none) (.int .i64 1)=some (.slice (some (H.length,1)) 1 ws.length none):=Zdz 1 H.length 0 (ws.length+1) 1 (by omega)
 simp (maxSteps:=2000000) +contextual only [Zn,Ze4,hsp,hl0,hp0,Zby,hsl,Zc,Za7,Zbv,Zbw,Wd,RH,Rr,pp,go_sem,reduceIte,Ra,Rb,Rc,Rd]
 generalize (⟨#[119,101,105,103,104]⟩:ByteArray)=k1 at *
 generalize (⟨#[104,111,119]⟩:ByteArray)=k2 at *
 have hxl:ZuH s (w::ws)=match ZcV ws with | none=>(none,none) | some zs=>execP s w zs:=rfl
 refine ZM (fun j st=>∃ (i b:Nat) (zs:List Int) (c:Option Nat) (L:List Blk) (w7 w8 w9 w15 w16:AV),i+j=ws.length∧Z4 (H++[.cells (Zcf (w::ws)) true]) L∧H.length+1≤b∧L[b]?=some (.cells (ZR zs) true)∧zs.length=i∧(c=some 0→zs.length=0)∧(0<i→c=none)∧(ZcV (ws.drop i)).map (zs ++ ·)=ZcV ws ∧
  st=⟨[.ptr (some (u,0)),sV cmd,.str ⟨#[]⟩,.bool false,slX H.length (ws.length+1) none,sV w,slI b zs.length c,w7,w8,w9,.undef,.undef,.slice (some (H.length,1)) 1 ws.length none,.int .i64 ws.length,.int .i64 i,w15,w16,.undef,.undef,.undef,.undef,.undef,.undef],⟨L,none⟩⟩) ?_ ws.length _
  ⟨0,H.length+1,[],some 0,H++[.cells (Zcf (w::ws)) true,.cells [] true],_,_,_,_,_,by omega,⟨[.cells [] true],by rw [Rs];rfl⟩,Rz _,by rw [RN (by omega),show H.length+1 - H.length=1 by omega];rfl,rfl,fun _=>rfl,fun h=>by omega,by simp,rfl⟩
 rintro j _ ⟨i,b,zs,c,L,w7,w8,w9,w15,w16,hij,hL,hb,hLb,hzl,hc0,hc1,hnum,rfl⟩
 have hLH:Z4 H L:=ZdF ⟨_,rfl⟩ hL
 have hLe:=hL.le
 rw [R3,R6] at hLe
 have hpc:Zb L H.length=some (Zcf (w::ws)):=Xa hL (Zg (w:=true) (by rw [ZY];rfl))
 by_cases hj:j=0
 ·have he:i=ws.length:=by omega
  subst he
  rw [Rp] at hnum
  have hnum':ZcV ws=some zs:=by rw [←hnum];simp [ZcV]
  have hres:ZuH s (w::ws)=execP s w zs:=by rw [hxl,hnum']
  rw [hres]
  clear hres hxl hnum hnum'
  have hts:=ZGn w zs.length
  have hu':L[u]?=some (.cells (sdL (slL q1 s.ls.length c1) s.a s.b (slS q2 s.ss.length c2) s.t s.c rest) true):=ZlS hLH hu
  have h1':=Xa hLH h1
  have h2':=Xa hLH h2
  have hno:∀ e,ZdM H.length H e u rest (none,none) (AV.tup [AV.str ⟨#[]⟩,AV.bool false]) ⟨L,e⟩:=fun e=>ZdM.keep hLH hul (fun B _ h=>h) ⟨[],rfl,fun y h=>absurd h (by simp)⟩
  by_cases hk:0<(JH w).1
  ·have hneed:=ZGo hk
   by_cases hm:((zs.length:Nat):Int)=(JH w).2
   ·rw [if_pos hm] at hts
    have hz0:zs≠[]:=by intro h;subst h;simp at hm;omega
    have hxp:execP s w zs=(if ZmA s.ls s.ss s.a s.b s.t s.c (JH w).1 (zs.getD 0 0) (zs.getD 1 0) (zs.getD 2 0)=true then (some (doS s (JH w).1 (zs.getD 0 0) (zs.getD 1 0) (zs.getD 2 0)),some (Zn5 (doS s (JH w).1 (zs.getD 0 0) (zs.getD 1 0) (zs.getD 2 0)) (JH w).1)) else (none,none)):=by
     unfold execP
     rw [hts,if_pos hk]
    rw [hxp]
    have hcn:c=none:=hc1 (by have:=WY.mpr hz0;omega)
    subst hcn
    have hm':decide (((zs.length:Nat):Int)=(JH w).2)=true:=decide_eq_true hm
    simp (maxSteps:=2000000) +contextual only [ZE,Rh,decide_false,Kg,gt_iff_lt,hk,hm',decide_true,pp,go_sem,reduceIte,Ra,Rb,Rc,Rd]
    refine (ZxI hl hu' h1' h2' hLb (by omega) (by omega) (by omega) hz0 (by omega) hs (JH w).1 (n:=H.length) (by omega) hul).mono ?_
    intro v m hv
    obtain ⟨L',e',x,rfl,rfl,hfin⟩:=ZdM.grown hLH hul hv
    simp (maxSteps:=2000000) +contextual only [Zn,finish,pp,go_sem,reduceIte,Ra,Rb,Rc,Rd]
    exact hfin e
   ·rw [if_neg hm] at hts
    have hxp:execP s w zs=(none,none):=by
     unfold execP
     rw [hts,if_neg (by omega),ZHE hk]
    rw [hxp]
    have hm':decide (((zs.length:Nat):Int)=(JH w).2)=false:=decide_eq_false hm
    simp (maxSteps:=2000000) +contextual only [ZE,Zn,Rh,decide_false,Kg,gt_iff_lt,hk,hm',decide_true,finish,pp,go_sem,reduceIte,Ra,Rb,Rc,Rd]
    exact hno e
  ·have htn:¬ 0<ZcW w zs.length:=by rw [hts];split <;> omega
   have hxp:execP s w zs=(none,askAllW s.ls s.a s.b s.ss s.t w zs):=if_neg htn
   rw [hxp]
   unfold askAllW
   have hbc:=Zg hLb
   have z00:((0:Nat):Int)=0:=rfl
   have z10:¬ ((1:Nat):Int)=0:=by omega
   have z11:((1:Nat):Int)=1:=rfl
   have z01:(0:Int)<((1:Nat):Int):=by omega
   have z20:¬ (2:Int)≤((0:Nat):Int):=by omega
   have z20':¬ (2:Int)≤0:=by omega
   have z21':¬ (2:Int)≤1:=by omega
   have z10':¬ (1:Int)=0:=by omega
   have z01':(0:Int)<1:=by omega
   have z21:¬ (2:Int)≤((1:Nat):Int):=by omega
   by_cases w1:w=[119,101,105,103,104]
   ·rw [decide_eq_true w1] at d1
    rw [if_pos w1]
    have hkr:=Zxv (e:=none) hl.all hbc (by omega:zs.length≤1000000) (cap:=c)
    cases hB:Zcj zs with
    | false=>
     simp only [hB,R7,if_false] at hkr ⊢
     have hg:=fun L=>ZQ (pr:=pr) (H:=L) (e:=none) hl.all.ito 0 (fit_small (by omega) (by omega)) false
     simp (maxSteps:=2000000) +contextual only [ZE,Zn,Rh,decide_false,Kg,gt_iff_lt,hk,decide_true,d1,hkr,hg,finish,pp,go_sem,reduceIte,Ra,Rb,Rc,Rd]
     exact ZdM.keep hLH hul (fun B _ h=>h) ⟨_,rfl,fun y h=>absurd h (by simp)⟩
    | true=>
     simp only [hB,if_true] at hkr ⊢
     have hg:=fun L=>ZQ (pr:=pr) (H:=L) (e:=none) hl.all.ito (Zg9 zs) (ZqH hB) true
     simp (maxSteps:=2000000) +contextual only [ZE,Zn,Rh,decide_false,Kg,gt_iff_lt,hk,decide_true,d1,hkr,hg,finish,pp,go_sem,reduceIte,Ra,Rb,Rc,Rd]
     exact ZdM.keep hLH hul (fun B _ h=>h) ⟨_,rfl,fun y h=>by rw [←WI h]⟩
   rw [decide_eq_false w1] at d1
   rw [if_neg w1]
   by_cases w2:w=[104,111,119]
   ·rw [decide_eq_true w2] at d2
    rw [if_pos w2]
    match zs,hzl,hbc,hc1,hLb with
    | [],hzl,hbc,hc1,hLb=>
     have hask:askW s.ls s.a s.b s.ss s.t w=none:=by rw [w2];simp [askW]
     have hw:=ZBa (e:=none) hl.all (Zg hu') h1' h2' hs w
     rw [hask] at hw
     simp (maxSteps:=2000000) +contextual only [ZE,Zn,Rh,decide_false,Kg,gt_iff_lt,hk,decide_true,d1,d2,RM,z00,z20,z20',ge_iff_le,finish,pp,go_sem,reduceIte,Ra,Rb,Rc,Rd]
     refine hw.mono ?_
     rintro v m ⟨⟨x,rfl,hx⟩,rfl⟩
     simp (maxSteps:=2000000) +contextual only [Zn,finish,pp,go_sem,reduceIte,Ra,Rb,Rc,Rd]
     exact ZdM.keep hLH hul (fun B _ h=>h) ⟨x,rfl,hx⟩
    | [n],hzl,hbc,hc1,hLb=>
     have hask:askOneW s.ls s.ss w n=none:=by rw [w2];simp [askOneW]
     have hw:=ZqG (e:=none) hl.all (Zg hu') h1' h2' hs w n
     rw [hask] at hw
     have hht:ZJi [n]=none:=by
      rw [Zig,if_neg]
      rintro ⟨h,_⟩
      simp [Zcj,Zqu] at h
     rw [hht]
     have hp:∀ sz,Zco false (ZR [n]) 0 sz=some (.int .i64 n):=fun sz=>Zu sz rfl
     simp (maxSteps:=2000000) +contextual only [ZE,Zn,Rh,decide_false,Kg,gt_iff_lt,hk,decide_true,d1,d2,RM,Rl,WX,z10,z11,z01,z21,z21',z10',z01',ge_iff_le,hbc,hp,Za7,Zbv,Zbw,Wd,RH,Rr,finish,pp,go_sem,reduceIte,Ra,Rb,Rc,Rd]
     refine hw.mono ?_
     rintro v m ⟨⟨x,rfl,hx⟩,rfl⟩
     simp (maxSteps:=2000000) +contextual only [Zn,finish,pp,go_sem,reduceIte,Ra,Rb,Rc,Rd]
     exact ZdM.keep hLH hul (fun B _ h=>h) ⟨x,rfl,hx⟩
    | n::m::k,hzl,hbc,hc1,hLb=>
     have hcn:c=none:=hc1 (by simp only [Rl] at hzl;omega)
     subst hcn
     have hsl2:ZbR 1 (slI b (k.length+1+1) none) (.int .i64 1)=some (slO b [n] (m::k).length none):=Zdz 1 b 0 (k.length+1+1) 1 (by omega)
     have hge:(2:Int)≤((k.length+1+1:Nat):Int):=by omega
     have hp:∀ sz,Zco false (ZR (n::m::k)) 0 sz=some (.int .i64 n):=fun sz=>Zu sz rfl
     have hlt:(0:Int)<((k.length+1+1:Nat):Int):=by omega
     have hkl:(m::k).length≤1000000:=by simp only [Rl] at hzl ⊢;omega
     have hbP:Zb L b=some (ZR ([n]++(m::k))):=hbc
     rw [Zig]
     simp only [Rl]
     generalize hcs:ZR (n::m::k)=cs at *
     generalize (m::k)=kk at *
     simp (maxSteps:=2000000) +contextual only [ZE,Zn,Rh,decide_false,Kg,gt_iff_lt,hk,decide_true,d1,d2,hge,hlt,ge_iff_le,hbc,hp,Zby,hsl2,Za7,Zbv,Zbw,Wd,RH,Rr,pp,go_sem,reduceIte,Ra,Rb,Rc,Rd]
     by_cases hkb:Zcj kk=true∧1≤n
     ·refine (Zn3 (P:=[n]) (cap:=none) hbP hkl n hkb.1 hkb.2).mono ?_
      rintro v mm ⟨cc,wr,rfl,rfl⟩
      obtain ⟨f1,f2⟩:=ZAk hkb.1 n
      have hT:(if Zcj kk=true∧1≤n∧0<(ZlP kk n).length then some (ZeR (ZlP kk n)) else none)=if 0<(ZlP kk n).length then some (ZeR (ZlP kk n)) else none:=by
       by_cases h0:0<(ZlP kk n).length
       ·rw [if_pos ⟨hkb.1,hkb.2,h0⟩,if_pos h0]
       ·rw [if_neg (fun h=>h0 h.2.2),if_neg h0]
      rw [hT]
      generalize ZlP kk n=g at *
      have hg:=fun x=>ZeA (pr:=pr) (H:=L++[.cells (ZR g) wr]) (e:=none) (q:=L.length) (cap:=cc) hl.all.ito hl.all.joi (Zg (w:=wr) (by rw [ZY];rfl)) (by omega) f2 x
      simp (maxSteps:=2000000) +contextual only [Zn,hg,finish,pp,go_sem,reduceIte,Ra,Rb,Rc,Rd]
      refine ZdM.keep (hLH.more _) hul (fun B _ h=>h) ⟨ZeR g,?_,?_⟩
      ·by_cases h0:0<g.length
       ·rw [if_pos h0,decide_eq_true (by omega)];rfl
       ·rw [if_neg h0,decide_eq_false (by omega)];rfl
      ·intro y hy
       split at hy
       ·exact WI hy
       ·exact absurd hy (by simp)
     ·have hnn:=ZlX (pr:=pr) (H:=L) (e:=none) (P:=[n]) (cap:=none) hbP hkl n hkb
      have hT:(if Zcj kk=true∧1≤n∧0<(ZlP kk n).length then some (ZeR (ZlP kk n)) else none)=none:=if_neg fun h=>hkb ⟨h.1,h.2.1⟩
      rw [hT]
      have hg:=fun L e0=>Zh9 (pr:=pr) (H:=L) (e:=e0) false (p:=none) (s:=0) (cap:=none)
      simp (maxSteps:=2000000) +contextual only [Zn,hnn,hg,finish,pp,go_sem,reduceIte,Ra,Rb,Rc,Rd]
      exact ZdM.keep hLH hul (fun B _ h=>h) ⟨_,rfl,fun y h=>absurd h (by simp)⟩
   rw [decide_eq_false w2] at d2
   rw [if_neg w2]
   match zs,hzl,hbc with
   | [],hzl,hbc=>
    have hw:=ZBa (e:=none) hl.all (Zg hu') h1' h2' hs w
    simp (maxSteps:=2000000) +contextual only [ZE,Zn,Rh,decide_false,Kg,gt_iff_lt,hk,decide_true,d1,d2,RM,z00,z20,z20',ge_iff_le,finish,pp,go_sem,reduceIte,Ra,Rb,Rc,Rd]
    refine hw.mono ?_
    rintro v m ⟨⟨x,rfl,hx⟩,rfl⟩
    simp (maxSteps:=2000000) +contextual only [Zn,finish,pp,go_sem,reduceIte,Ra,Rb,Rc,Rd]
    exact ZdM.keep hLH hul (fun B _ h=>h) ⟨x,rfl,hx⟩
   | [n],hzl,hbc=>
    have hw:=ZqG (e:=none) hl.all (Zg hu') h1' h2' hs w n
    have hp:∀ sz,Zco false (ZR [n]) 0 sz=some (.int .i64 n):=fun sz=>Zu sz rfl
    simp (maxSteps:=2000000) +contextual only [ZE,Zn,Rh,decide_false,Kg,gt_iff_lt,hk,decide_true,d1,d2,RM,Rl,WX,z10,z11,z01,z21,z21',z10',z01',ge_iff_le,hbc,hp,Za7,Zbv,Zbw,Wd,RH,Rr,finish,pp,go_sem,reduceIte,Ra,Rb,Rc,Rd]
    refine hw.mono ?_
    rintro v m ⟨⟨x,rfl,hx⟩,rfl⟩
    simp (maxSteps:=2000000) +contextual only [Zn,finish,pp,go_sem,reduceIte,Ra,Rb,Rc,Rd]
    exact ZdM.keep hLH hul (fun B _ h=>h) ⟨x,rfl,hx⟩
   | n::m::k,hzl,hbc=>
    have hz0:¬ ((k.length+1+1:Nat):Int)=0:=by omega
    have hz1:¬ ((k.length+1+1:Nat):Int)=1:=by omega
    simp (maxSteps:=2000000) +contextual only [ZE,Zn,Rh,decide_false,Kg,gt_iff_lt,hk,decide_true,d1,d2,Rl,hz0,hz1,finish,pp,go_sem,reduceIte,Ra,Rb,Rc,Rd]
    exact hno e
 ·have hi:i<ws.length:=by omega
  obtain ⟨x,hxi⟩:∃ x,ws[i]?=some x:=⟨_,Rj hi⟩
  have hdr:ws.drop i=x::ws.drop (i+1):=by
   rw [Rm hi]
   rw [Rj hi,RV] at hxi
   rw [hxi]
  rw [hdr] at hnum
  have hpx:∀ sz,Zco false (Zcf (w::ws)) (1+i) sz=some (sV x):=fun sz=>YX sz (ZBd (by rw [Nat.add_comm];exact hxi))
  have hrd:=fun L=>Zxg (pr:=pr) (H:=L) (e:=none) hl.all.ito hl.all.ato x (by have:=hpl x (Wu _ (WK hxi));omega)
  have hiw:=Zh (show i<9223372036854775807 by omega)
  cases hr':Zh8 x with
  | none=>
   simp only [hr',WE,Option.isSome_none] at hrd
   rw [ZsU hr'] at hnum
   have hres:ZuH s (w::ws)=(none,none):=by rw [hxl,←hnum];rfl
   rw [hres]
   simp (maxSteps:=2000000) +contextual only [ZE,Zn,hi,hpc,hpx,hrd,Zc,finish,decide_true,pp,go_sem,reduceIte,Ra,Rb,Rc,Rd]
   exact ZdM.keep hLH hul (fun B _ h=>h) ⟨[],rfl,fun y h=>absurd h (by simp)⟩
  | some v=>
   simp only [hr',WW,Option.isSome_some] at hrd
   rw [ZsV hr',ZBc] at hnum
   simp (maxSteps:=2000000) +contextual only [ZE,Zn,hi,hpc,hpx,hrd,Zc,decide_true,pp,go_sem,reduceIte,Ra,Rb,Rc,Rd]
   refine Zja (k:=1) (new:=[.int .i64 v]) (cs:=ZR zs) (Yv hLb _) (Qk _ 1 1 _ _ L.length (by simp +contextual only [go_sem,reduceIte,Ra,Rb,Rc,Rd]) rfl) (by simp [ZR]) rfl (by unfold maxBytes;omega) hc0 ?_
   intro L6 g1 g2 g3 g4
   rw [ZHv] at g3
   simp (maxSteps:=2000000) +contextual only [hiw,pp,go_sem,reduceIte,Ra,Rb,Rc,Rd]
   exact ⟨j - 1,by omega,i+1,L.length+1,zs++[v],none,L6,_,_,_,_,_,by omega,g4 _ (hL.more _) (by rw [R3,R6];omega),by omega,by simpa using g3,by simp;omega,by simp,fun _=>rfl,hnum,by rw [R3];rfl⟩
theorem ZqI {zs:List Int} (hz:∀ z∈zs,Zfo z) (hn:zs.length≤1000):(ZeR zs).length≤22004:=by
 unfold ZeR
 split
 ·simp
 ·have:=Zfp 32 zs hz
  omega
theorem ZxK {ls:List Ld} (h:YZ ls=true):(ZeB ls).length≤10000:=by
 obtain ⟨hn,hf⟩:=Zz9 h
 unfold ZeB Zjb
 split
 ·simp
 ·have:=Zol [32] 44 (ls.map fun l=>Xd 58 [l.1,l.2]) fun x hx=>by
   obtain ⟨l,h1,rfl⟩:=List.mem_map.mp hx
   have:=Zfp 58 [l.1,l.2] (by
    intro z hz
    simp only [List.mem_cons,List.not_mem_nil,or_false] at hz
    rcases hz with rfl | rfl
    ·exact (hf l h1).1
    ·exact (hf l h1).2)
   simpa using this
  rw [List.length_map] at this
  simp only [R6] at this
  omega
theorem ZAm {c:UInt8} {a b:Int} (ha:Zfo a) (hb:Zfo b):(Xd c [a,b]).length≤44:=by
 have:=Zfp c [a,b] (by
  intro z hz
  simp only [List.mem_cons,List.not_mem_nil,or_false] at hz
  rcases hz with rfl | rfl
  ·exact ha
  ·exact hb)
 simpa using this
theorem ZHF {s:Sd} (hs:s.std=true) {w r:By} (h:askW s.ls s.a s.b s.ss s.t w=some r):r.length≤22004:=by
 obtain ⟨hr,hc,hb,hss,hls,ht1,ht2,hk1,hk2,hre⟩:=J0 hs
 unfold askW at h
 split at h
 ·cases h;have:=ZxK hr;omega
 split at h
 ·cases h;have:=Xe _ (Zi5 hr);omega
 split at h
 ·split at h
  ·cases h
  ·cases h;have:=ZAm (c:=47) (ZmM hr).1 (ZmM hr).2;omega
 split at h
 ·cases h;have:=Xe _ (Zce s.ls s.a s.b);omega
 split at h
 ·cases h;have:=Xe s.t (fit_small (by omega) (by omega));omega
 split at h
 ·cases h;have:=Xe _ (ZuB hr hc);omega
 split at h
 ·obtain ⟨g,hg,rfl⟩:=Wz.mp h
  obtain ⟨f1,f2⟩:=ZqD hg hls
  refine ZqI f2 ?_
  unfold Zal at hg
  split at hg
  ·have:=(ZeD (List.mem_of_find?_eq_some hg)).2
   omega
  ·cases hg
 ·cases h
theorem ZAn {s:Sd} (hs:s.std=true) {w r:By} {n:Int} (h:askOneW s.ls s.ss w n=some r):r.length≤22004:=by
 obtain ⟨hr,hc,hb,hss,hls,ht1,ht2,hk1,hk2,hre⟩:=J0 hs
 unfold askOneW at h
 split at h
 ·split at h
  ·rename_i hB;cases h;have:=Xe _ (ZAi hr hB);omega
  ·cases h
 split at h
 ·split at h
  ·rename_i hB;cases h;have:=Xe _ (ZuE hc hB);omega
  ·cases h
 split at h
 ·split at h
  ·rename_i hB
   cases h
   obtain ⟨x,rfl,hx⟩:=ZuD hB
   obtain ⟨f1,f2⟩:=ZqE (ss:=s.ss) hc x hx
   have:=ZAm (c:=47) f1 f2
   rw [Int.toNat_natCast]
   omega
  ·cases h
 split at h
 ·split at h
  ·cases h;have:=Xe _ (ZmN hls n);omega
  ·cases h
 split at h
 ·obtain ⟨g,hg,rfl⟩:=Wz.mp h
  have hf:=ZuF s.ls n hls
  rw [hg] at hf
  exact ZqI (ZAj hf) (by simp)
 split at h
 ·split at h
  ·cases h;have:=Xe _ (ZqF n);omega
  ·cases h
 ·cases h
theorem ZAo {s:Sd} (hs:s.std=true) {w r:By} {zs:List Int} (h:askAllW s.ls s.a s.b s.ss s.t w zs=some r):r.length≤22004:=by
 unfold askAllW at h
 split at h
 ·split at h
  ·rename_i hB;cases h;have:=Xe _ (ZqH hB);omega
  ·cases h
 split at h
 ·cases zs with
  | nil=>cases h
  | cons n k=>
   rw [Zig] at h
   split at h
   ·rename_i hB
    cases h
    obtain ⟨f1,f2⟩:=ZAk hB.1 n
    exact ZqI f2 (by omega)
   ·cases h
 split at h
 ·exact ZHF hs h
 ·exact ZAn hs h
 ·cases h
theorem ZxL {s:Sd} (hs:s.std=true) (cmd:By):((Za4 s cmd).2.getD [63]).length≤22004:=by
 have key:∀ r,(Za4 s cmd).2=some r→r.length≤22004:=by
  intro r h
  unfold Za4 at h
  cases hps:ZV 32 cmd with
  | nil=>rw [hps] at h;cases h
  | cons w ws=>
   rw [hps] at h
   have hxl:ZuH s (w::ws)=match ZcV ws with | none=>(none,none) | some zs=>execP s w zs:=rfl
   rw [hxl] at h
   split at h
   ·cases h
   ·rename_i zs hz
    unfold execP at h
    split at h
    ·split at h
     ·rename_i hok
      obtain ⟨hr,hc,hb⟩:=Zoq hok
      simp only [RV] at h
      rw [←h]
      unfold Zn5
      split
      ·have:=ZAm (c:=47) (Zfv hc).1 (Zfv hc).2;omega
      ·have:=Xe _ (Zce (doS s (ZcW w zs.length) (zs.getD 0 0) (zs.getD 1 0) (zs.getD 2 0)).ls (doS s (ZcW w zs.length) (zs.getD 0 0) (zs.getD 1 0) (zs.getD 2 0)).a (doS s (ZcW w zs.length) (zs.getD 0 0) (zs.getD 1 0) (zs.getD 2 0)).b);omega
     ·cases h
    ·exact ZAo hs h
 cases h:(Za4 s cmd).2 with
 | none=>simp
 | some r=>exact key r h
structure Cn where
 s:Sd
 d:By
 p:By
 n:Int
def Cn.ok (x:Cn):Bool:=x.s.std&&Zfn x.d x.p x.n
def ZHG (d p:By) (c:Int) (a r:By):By×By×Int :=
 if (Zfn d p c&&Zp7 a r)=true then (if c=60 then (d,p,c) else (d,p++ZdC c a r,c+1)) else (d,p,c)
theorem ZGp (d p:By) (c:Int) (a r:By):∃ k,ZJg d p c a r=.tup [lgV (ZHG d p c a r).1 (ZHG d p c a r).2.1 (ZHG d p c a r).2.2,.int .i64 k]:=by
 unfold ZJg ZHG
 split
 ·split
  ·exact ⟨2,rfl⟩
  ·exact ⟨0,rfl⟩
 ·exact ⟨1,rfl⟩
def ZxR (x:Cn) (cmd:By):Cn×By :=
 if x.ok=true then
  (if Zp7 cmd []=true then
   (if x.n=60 then (x,[102,117,108,108])
   else (⟨(Za4 x.s cmd).1.getD x.s,(ZHG x.d x.p x.n cmd ((Za4 x.s cmd).2.getD [63])).1,(ZHG x.d x.p x.n cmd ((Za4 x.s cmd).2.getD [63])).2.1,(ZHG x.d x.p x.n cmd ((Za4 x.s cmd).2.getD [63])).2.2⟩,(Za4 x.s cmd).2.getD [63]))
  else (x,[98,97,100]))
 else (x,[110,111])
abbrev Cn.v (x:Cn) (b1 b2:Nat) (c1 c2:Option Nat):AV:=cnV (slL b1 x.s.ls.length c1) x.s.a x.s.b (slS b2 x.s.ss.length c2) x.s.t x.s.c x.d x.p x.n
theorem Kh {L:List Blk} {b1 b2:Nat} {c1 c2:Option Nat} (x:Cn) (r:By) (hL:Z4 H L) (e0 e1:Option Nat) (hc:clean H.length e1=true) (hb1:H.length≤b1) (hb2:H.length≤b2) (hne:b1≠b2) (h1:L[b1]?=some (.cells (Zm x.s.ls) true)) (h2:L[b2]?=some (.cells (Zr x.s.ss) true)) :
  finish 2 H.length e0 (.tup [x.v b1 b2 c1 c2,sV r]) ⟨L,e1⟩=some (.tup [x.v H.length (H.length+1) c1 c2,sV r],⟨H++[.cells (Zm x.s.ls) true,.cells (Zr x.s.ss) true],e0⟩):=by
 obtain ⟨G,rfl⟩:=hL
 have hlt1:¬ b1<H.length:=by omega
 have hlt2:¬ b2<H.length:=by omega
 have hne':¬ b2=b1:=fun h=>hne h.symm
 have hr:XQ (AV.roots H.length (.tup [x.v b1 b2 c1 c2,sV r]))=[b1,b2]:=by
  simp only [AV.roots,AV.roots.go,if_neg hlt1,if_neg hlt2,Ro,Rn,List.append_nil]
  simp [XQ,hne',hne]
 unfold finish
 simp only [hr]
 have h3:([b1,b2].all fun b=>Y5 H.length (H++G)[b]?)=true:=by
  simp only [List.all_cons,List.all_nil,Bool.and_true,h1,h2,Y5,ZU,Z6,Bool.and_self]
 simp only [hc,h3,and_self,if_true]
 have hq:(b1==b2)=false:=by simpa using hne
 simp [AV.rename,AV.rename.go,ZbT,h1,h2,List.idxOf_cons,hlt1,hlt2,hq]
theorem ZHH {A B:List Blk} (h:A.length≤B.length) (hk:∀ i,i<A.length→B[i]?=A[i]?):Z4 A B:=by
 refine ⟨B.drop A.length,?_⟩
 have:B.take A.length=A:=by
  apply List.ext_getElem?
  intro i
  by_cases hi:i<A.length
  ·rw [List.getElem?_take_of_lt hi,hk i hi]
  ·rw [List.getElem?_eq_none (by rw [Wn];omega),List.getElem?_eq_none (by omega)]
 conv=>lhs;rw [←List.take_append_drop A.length B,this]
theorem ZdM.out {M:List Blk} {e:Option Nat} {u q1 q2:Nat} {rest:List AV} {s:Sd} {r:Option Sd×Option By} {v:AV} {m:Mem} (h:ZdM M.length M e u rest r v m) (hu:M[u]?=some (.cells (sdL (slL q1 s.ls.length none) s.a s.b (slS q2 s.ss.length none) s.t s.c rest) true)) (g1:M[q1]?=some (.cells (Zm s.ls) true)) (g2:M[q2]?=some (.cells (Zr s.ss) true)) (h1:q1≠u) (h2:q2≠u) (h12:q1≠q2) :
  ∃ (L':List Blk) (e':Option Nat) (x:By) (p1 p2:Nat),m=⟨L',e'⟩∧v=.tup [sV x,.bool r.2.isSome]∧(∀ y,r.2=some y→x=y)∧(∀ i,i<M.length→i≠u→L'[i]?=M[i]?)∧M.length≤L'.length∧(∀ B,B≤u→clean B e=true→clean B e'=true)∧(p1=q1∨M.length≤p1)∧(p2=q2∨M.length≤p2)∧p1≠p2 ∧
   L'[u]?=some (.cells (sdL (slL p1 (r.1.getD s).ls.length none) (r.1.getD s).a (r.1.getD s).b (slS p2 (r.1.getD s).ss.length none) (r.1.getD s).t (r.1.getD s).c rest) true)∧L'[p1]?=some (.cells (Zm (r.1.getD s).ls) true)∧L'[p2]?=some (.cells (Zr (r.1.getD s).ss) true):=by
 obtain ⟨L',e',rfl,⟨x,rfl,hx⟩,k1,k2,k3,k4⟩:=h
 have l1:=(RB.mp g1).1
 have l2:=(RB.mp g2).1
 cases hr:r.1 with
 | some s'=>
  rw [hr] at k4
  obtain ⟨p1,p2,a1,a2,a3,a4,a5,a6⟩:=k4
  exact ⟨L',e',x,p1,p2,rfl,rfl,hx,k1,k2,k3,.inr a1,.inr a2,a3,a4,a5,a6⟩
 | none=>
  rw [hr] at k4
  have k4':L'[u]?=M[u]?:=k4
  exact ⟨L',e',x,q1,q2,rfl,rfl,hx,k1,k2,k3,.inl rfl,.inl rfl,h12,by rw [k4',hu];rfl,by rw [k1 q1 l1 h1,g1];rfl,by rw [k1 q2 l2 h2,g2];rfl⟩
def ZK4 (H:List Blk) (e:Option Nat) (r:Cn×By) (v:AV) (m:Mem):Prop :=
 v=.tup [r.1.v H.length (H.length+1) none none,sV r.2]∧m=⟨H++[.cells (Zm r.1.s.ls) true,.cells (Zr r.1.s.ss) true],e⟩
set_option maxHeartbeats 4000000 in
theorem Zkr (hl:ZsR pr) {q1 q2:Nat} {c1 c2:Option Nat} {x:Cn} (h1:Zb H q1=some (Zm x.s.ls)) (h2:Zb H q2=some (Zr x.s.ss)) (hn:x.s.ls.length≤1048576) (hm:x.s.ss.length≤1048576) (hd:x.d.length≤1048576) (hp:x.p.length≤1048576) (cmd:By) (hcm:cmd.length≤1048576) :
  Wc (call T pr Y3 [x.v q1 q2 c1 c2,sV cmd] ⟨H,e⟩) (ZK4 H e (ZxR x cmd)):=by
 have hcp:=fun L e' (g1:Zb L q1=some (Zm x.s.ls)) (g2:Zb L q2=some (Zr x.s.ss))=>Zlu (pr:=pr) (e:=e') (c1:=c1) (c2:=c2) g1 g2 hn hm x.s.a x.s.b x.s.t x.s.c
 have hva:=fun L e' (g1:Zb L q1=some (Zm x.s.ls)) (g2:Zb L q2=some (Zr x.s.ss))=>ZlV (pr:=pr) (e:=e') (c1:=c1) (c2:=c2) hl.all.ito hl.all.con hl.all.idx g1 g2 hm x.s.a x.s.b x.s.t x.s.c x.n hd hp
 have hok:(Zcn x.s.ls x.s.ss x.s.a x.s.b x.s.t x.s.c&&Zfn x.d x.p x.n)=x.ok:=rfl
 rw [hok] at hva
 have hrc:=fun L e'=>Zbx (pr:=pr) (H:=L) (e:=e') (s:=bs cmd) (t:=bs []) hl.all.con (by rw [X9];omega) (by rw [X9];simp)
 have hrk:ZnU (bs cmd) (bs [])=Zp7 cmd []:=rfl
 rw [hrk] at hrc
 rw [Zs Zk7]
 unfold ZxR
 cases hA:x.ok with
 | false=>
  rw [hA] at hva
  simp only [R7,if_false]
  simp (maxSteps:=2000000) +contextual only [YB,XW,Zc,Za h1,Za h2,hcp,hva,RS,pp,go_sem,reduceIte,Ra,Rb,Rc,Rd]
  refine Wc.of_eq (Kh (b1:=H.length+2) (b2:=H.length+3) (c1:=none) (c2:=none) x _ ⟨_,rfl⟩ e _ ?_ (by omega) (by omega) (by omega) (by rw [RN (by omega),show H.length+2 - H.length=2 by omega];rfl) (by rw [RN (by omega),show H.length+3 - H.length=3 by omega];rfl)) ⟨rfl,rfl⟩
  exact Zl _ (Zl _ rfl (Zj rfl (by omega))) (Zj (Zl _ rfl (Zj rfl (by omega))) (by omega))
 | true=>
  rw [hA] at hva
  simp only [if_true]
  cases hB:Zp7 cmd [] with
  | false=>
   rw [hB] at hrc
   simp only [R7,if_false]
   simp (maxSteps:=2000000) +contextual only [YB,XW,Zc,Za h1,Za h2,hcp,hva,hrc,RS,pp,go_sem,reduceIte,Ra,Rb,Rc,Rd]
   refine Wc.of_eq (Kh (b1:=H.length+2) (b2:=H.length+3) (c1:=none) (c2:=none) x _ ⟨_,rfl⟩ e _ ?_ (by omega) (by omega) (by omega) (by rw [RN (by omega),show H.length+2 - H.length=2 by omega];rfl) (by rw [RN (by omega),show H.length+3 - H.length=3 by omega];rfl)) ⟨rfl,rfl⟩
   exact Zl _ (Zl _ rfl (Zj rfl (by omega))) (Zj (Zl _ rfl (Zj rfl (by omega))) (by omega))
  | true=>
   rw [hB] at hrc
   simp only [if_true]
   by_cases h60:x.n=60
   ·rw [if_pos h60]
    simp (maxSteps:=2000000) +contextual only [YB,XW,Zc,Za h1,Za h2,hcp,hva,hrc,RS,decide_eq_true h60,pp,go_sem,reduceIte,Ra,Rb,Rc,Rd]
    refine Wc.of_eq (Kh (b1:=H.length+2) (b2:=H.length+3) (c1:=none) (c2:=none) x _ ⟨_,rfl⟩ e _ ?_ (by omega) (by omega) (by omega) (by rw [RN (by omega),show H.length+2 - H.length=2 by omega];rfl) (by rw [RN (by omega),show H.length+3 - H.length=3 by omega];rfl)) ⟨rfl,rfl⟩
    exact Zl _ (Zl _ rfl (Zj rfl (by omega))) (Zj (Zl _ rfl (Zj rfl (by omega))) (by omega))
   ·rw [if_neg h60]
    have hcl:=(ZlD hB).2.1
    simp (maxSteps:=2000000) +contextual only [YB,XW,Zc,Za h1,Za h2,hcp,hva,hrc,RS,decide_eq_false h60,pp,go_sem,reduceIte,Ra,Rb,Rc,Rd]
    have hA':=hA
    unfold Cn.ok at hA'
    rw [Ru] at hA'
    have hrl:=ZxL hA'.1 cmd
    obtain ⟨hlg1,hlg2⟩:=hA'
    have hap:=fun L e'=>ZnW (pr:=pr) (H:=L) (e:=e') hl.all.ito hl.all.con hl.all.idx x.d x.p x.n cmd ((Za4 x.s cmd).2.getD [63]) hd hp hcm (by omega)
    obtain ⟨kk,hkk⟩:=ZGp x.d x.p x.n cmd ((Za4 x.s cmd).2.getD [63])
    rw [hkk] at hap
    generalize ZHG x.d x.p x.n cmd ((Za4 x.s cmd).2.getD [63])=al at *
    refine (ZxJ (u:=H.length+4) (q1:=H.length+2) (q2:=H.length+3) (c1:=none) (c2:=none) (s:=x.s) (rest:=[sV x.d,sV x.p,.int .i64 x.n]) hl (by rw [RN (by omega),show H.length+4 - H.length=4 by omega];rfl) (Zg (w:=true) (by rw [RN (by omega),show H.length+2 - H.length=2 by omega];rfl)) (Zg (w:=true) (by rw [RN (by omega),show H.length+3 - H.length=3 by omega];rfl)) hlg1 cmd (by omega)).mono ?_
    intro v m hv
    obtain ⟨L',e',rp,p1,p2,rfl,rfl,hrp,k1,k2,k3,k4,k5,k6,k7,k8,k9⟩:=ZdM.out (q1:=H.length+2) (q2:=H.length+3) (s:=x.s) hv (by rw [RN (by omega),show H.length+4 - H.length=4 by omega];rfl) (by rw [RN (by omega),show H.length+2 - H.length=2 by omega];rfl) (by rw [RN (by omega),show H.length+3 - H.length=3 by omega];rfl) (by omega) (by omega) (by omega)
    simp only [R3,Rl,RM] at k1 k2 k4 k5
    have kc:=k3 H.length (by omega) (Zl _ rfl (Zj rfl (by omega)))
    have k10:L'[H.length+1]?=some (.cells [.slice none 0 0 none,.int .i64 0,.int .i64 0,.slice none 0 0 none,.int .i64 0,.int .i64 0,.str ⟨#[]⟩,.str ⟨#[]⟩,.int .i64 0] true):=by
     rw [k1 (H.length+1) (by omega) (by omega),RN (by omega),show H.length+1 - H.length=1 by omega];rfl
    have hLg:Z4 H L':=ZHH (by omega) fun i hi=>by rw [k1 i (by omega) (by omega),Wt hi]
    generalize hs':(Za4 x.s cmd).1.getD x.s=s' at *
    generalize ho:(Za4 x.s cmd).2=o at *
    clear k1 k3 hs' hkk
    have k7c:=Zg k7
    have hset:∀ X,Zb (L'.set (H.length+4) (.cells X true)) (H.length+4)=some X:=fun X=>Zxd (by omega) X true
    have hset1:∀ X:Blk,(L'.set (H.length+4) X)[H.length+1]?=some (.cells [.slice none 0 0 none,.int .i64 0,.int .i64 0,.slice none 0 0 none,.int .i64 0,.int .i64 0,.str ⟨#[]⟩,.str ⟨#[]⟩,.int .i64 0] true):=fun X=>by rw [WA (by omega)];exact k10
    have hset2:∀ (X:Blk) Y,Zb ((L'.set (H.length+4) X).set (H.length+1) (.cells Y true)) (H.length+1)=some Y:=fun X Y=>Zxd (by rw [RE];omega) Y true
    cases o with
    | none=>
     simp only [WE] at hap ⊢
     simp (maxSteps:=2000000) +contextual only [k7c,k7,hap,hset,hset1,hset2,Option.isSome_none,WE,Zc,pp,go_sem,reduceIte,Ra,Rb,Rc,Rd]
     refine Wc.of_eq (Kh (b1:=p1) (b2:=p2) (c1:=none) (c2:=none) ⟨s',al.1,al.2.1,al.2.2⟩ _ ((hLg.put (by omega) _).put (by omega) _) e _ (Zl _ kc (Zj kc (by omega))) (by omega) (by omega) k6 (by rw [WA (by omega),WA (by omega)];exact k8) (by rw [WA (by omega),WA (by omega)];exact k9)) ⟨rfl,rfl⟩
    | some y=>
     have hxy:=hrp y rfl
     subst hxy
     simp only [WW] at hap ⊢
     simp (maxSteps:=2000000) +contextual only [k7c,k7,hap,hset,hset1,hset2,Option.isSome_some,WW,Zc,pp,go_sem,reduceIte,Ra,Rb,Rc,Rd]
     refine Wc.of_eq (Kh (b1:=p1) (b2:=p2) (c1:=none) (c2:=none) ⟨s',al.1,al.2.1,al.2.2⟩ _ ((hLg.put (by omega) _).put (by omega) _) e _ (Zl _ kc (Zj kc (by omega))) (by omega) (by omega) k6 (by rw [WA (by omega),WA (by omega)];exact k8) (by rw [WA (by omega),WA (by omega)];exact k9)) ⟨rfl,rfl⟩
theorem ZBe {s s':Sd} {cmd:By} (h:(Za4 s cmd).1=some s'):YZ s'.ls=true∧ZJ s'.ss=true:=by
 unfold Za4 at h
 cases hps:ZV 32 cmd with
 | nil=>rw [hps] at h;cases h
 | cons w ws=>
  rw [hps] at h
  have hxl:ZuH s (w::ws)=match ZcV ws with | none=>(none,none) | some zs=>execP s w zs:=rfl
  rw [hxl] at h
  split at h
  ·cases h
  ·rename_i zs hz
   unfold execP at h
   split at h
   ·split at h
    ·rename_i hok
     obtain ⟨hr,hc,_⟩:=Zoq hok
     simp only [RV] at h
     rw [←h]
     exact ⟨hr,hc⟩
    ·cases h
   ·cases h
set_option maxHeartbeats 4000000 in
theorem Zks {q1 q2:Nat} {c1 c2:Option Nat} {x:Cn} (h1:Zb H q1=some (Zm x.s.ls)) (h2:Zb H q2=some (Zr x.s.ss)) (hn:x.s.ls.length≤1048576) (hm:x.s.ss.length≤1048576) (hd:x.d.length≤1048576) (hp:x.p.length≤1048576) (cmd:By) (hcm:cmd.length≤1048576) :
  Wc (call T pr XS [x.v q1 q2 c1 c2,sV cmd] ⟨H,e⟩) (ZK4 H e (ZxR x cmd)):=by
 have hcp:=fun L e' (g1:Zb L q1=some (Zm x.s.ls)) (g2:Zb L q2=some (Zr x.s.ss))=>Zmw (pr:=pr) (e:=e') (c1:=c1) (c2:=c2) g1 g2 hn hm x.s.a x.s.b x.s.t x.s.c
 have hva:=fun L e' (g1:Zb L q1=some (Zm x.s.ls)) (g2:Zb L q2=some (Zr x.s.ss))=>ZlW (pr:=pr) (e:=e') (c1:=c1) (c2:=c2) g1 g2 hm x.s.a x.s.b x.s.t x.s.c x.n hd hp
 have hok:(Zcn x.s.ls x.s.ss x.s.a x.s.b x.s.t x.s.c&&Zfn x.d x.p x.n)=x.ok:=rfl
 rw [hok] at hva
 have hrc:=fun L e'=>ZgN (pr:=pr) (H:=L) (e:=e') (s:=bs cmd) (t:=bs []) (by rw [X9];omega) (by rw [X9];simp)
 have hrk:ZnU (bs cmd) (bs [])=Zp7 cmd []:=rfl
 rw [hrk] at hrc
 rw [Zs Zk8]
 unfold ZxR
 cases hA:x.ok with
 | false=>
  rw [hA] at hva
  simp only [R7,if_false]
  simp (maxSteps:=2000000) +contextual only [YC,XX,Zc,Za h1,Za h2,hcp,hva,hrc,RS,pp,go_sem,reduceIte,Ra,Rb,Rc,Rd]
  refine Wc.of_eq (Kh (b1:=H.length+2) (b2:=H.length+3) (c1:=none) (c2:=none) x _ ⟨_,rfl⟩ e _ ?_ (by omega) (by omega) (by omega) (by rw [RN (by omega),show H.length+2 - H.length=2 by omega];rfl) (by rw [RN (by omega),show H.length+3 - H.length=3 by omega];rfl)) ⟨rfl,rfl⟩
  exact Zl _ (Zl _ rfl (Zj rfl (by omega))) (Zj (Zl _ rfl (Zj rfl (by omega))) (by omega))
 | true=>
  rw [hA] at hva
  simp only [if_true]
  cases hB:Zp7 cmd [] with
  | false=>
   rw [hB] at hrc
   simp only [R7,if_false]
   simp (maxSteps:=2000000) +contextual only [YC,XX,Zc,Za h1,Za h2,hcp,hva,hrc,RS,pp,go_sem,reduceIte,Ra,Rb,Rc,Rd]
   refine Wc.of_eq (Kh (b1:=H.length+2) (b2:=H.length+3) (c1:=none) (c2:=none) x _ ⟨_,rfl⟩ e _ ?_ (by omega) (by omega) (by omega) (by rw [RN (by omega),show H.length+2 - H.length=2 by omega];rfl) (by rw [RN (by omega),show H.length+3 - H.length=3 by omega];rfl)) ⟨rfl,rfl⟩
   exact Zl _ (Zl _ rfl (Zj rfl (by omega))) (Zj (Zl _ rfl (Zj rfl (by omega))) (by omega))
  | true=>
   rw [hB] at hrc
   simp only [if_true]
   by_cases h60:x.n=60
   ·rw [if_pos h60]
    simp (maxSteps:=2000000) +contextual only [YC,XX,Zc,Za h1,Za h2,hcp,hva,hrc,RS,decide_eq_true h60,pp,go_sem,reduceIte,Ra,Rb,Rc,Rd]
    refine Wc.of_eq (Kh (b1:=H.length+2) (b2:=H.length+3) (c1:=none) (c2:=none) x _ ⟨_,rfl⟩ e _ ?_ (by omega) (by omega) (by omega) (by rw [RN (by omega),show H.length+2 - H.length=2 by omega];rfl) (by rw [RN (by omega),show H.length+3 - H.length=3 by omega];rfl)) ⟨rfl,rfl⟩
    exact Zl _ (Zl _ rfl (Zj rfl (by omega))) (Zj (Zl _ rfl (Zj rfl (by omega))) (by omega))
   ·rw [if_neg h60]
    have hcl:=(ZlD hB).2.1
    simp (maxSteps:=2000000) +contextual only [YC,XX,Zc,Za h1,Za h2,hcp,hva,hrc,RS,decide_eq_false h60,pp,go_sem,reduceIte,Ra,Rb,Rc,Rd]
    have hA':=hA
    unfold Cn.ok at hA'
    rw [Ru] at hA'
    have hrl:=ZxL hA'.1 cmd
    obtain ⟨hlg1,hlg2⟩:=hA'
    have hap:=fun L e'=>ZnX (pr:=pr) (H:=L) (e:=e') x.d x.p x.n cmd ((Za4 x.s cmd).2.getD [63]) hd hp hcm (by omega)
    obtain ⟨kk,hkk⟩:=ZGp x.d x.p x.n cmd ((Za4 x.s cmd).2.getD [63])
    rw [hkk] at hap
    generalize ZHG x.d x.p x.n cmd ((Za4 x.s cmd).2.getD [63])=al at *
    refine (ZxH (s:=x.s) (c1:=c1) (c2:=c2) (Za h1 _) (Za h2 _) hlg1 cmd (by omega)).mono ?_
    intro v m hv
    have hnw:=fun s'=>ZBe (s:=x.s) (s':=s') (cmd:=cmd)
    unfold ZDM at hv
    cases ho:(Za4 x.s cmd).1 with
    | none=>
     rw [ho] at hv
     obtain ⟨rfl,rfl⟩:=hv
     simp only [WE]
     generalize hs':x.s=s' at *
     simp (maxSteps:=2000000) +contextual only [Za h1,Za h2,hcp,hap,Zc,Rs,Rn,Ro,R3,Rl,RM,WX,RS,pp,go_sem,reduceIte,Ra,Rb,Rc,Rd]
     refine Wc.of_eq (Kh (b1:=H.length+7) (b2:=H.length+8) (c1:=none) (c2:=none) ⟨s',al.1,al.2.1,al.2.2⟩ _ ⟨_,rfl⟩ e _ ?_ (by omega) (by omega) (by omega) (by rw [RN (by omega),show H.length+7 - H.length=7 by omega];rfl) (by rw [RN (by omega),show H.length+8 - H.length=8 by omega];rfl)) ⟨rfl,rfl⟩
     exact Zl _ (Zl _ (Zl _ rfl (Zj rfl (by omega))) (Zj (Zl _ rfl (Zj rfl (by omega))) (by omega))) (Zj (Zl _ (Zl _ rfl (Zj rfl (by omega))) (Zj (Zl _ rfl (Zj rfl (by omega))) (by omega))) (by omega))
    | some s'=>
     rw [ho] at hv
     obtain ⟨rfl,rfl⟩:=hv
     obtain ⟨hr',hc'⟩:=hnw s' ho
     have hrl':=Za2 hr'
     have hss':s'.ss.length≤5:=by
      have:=hc'
      unfold ZJ at this
      rw [Ru,decide_eq_true_eq] at this
      omega
     have hcp':=fun L e' (g1:Zb L (H.length+5)=some (Zm s'.ls)) (g2:Zb L (H.length+6)=some (Zr s'.ss))=>Zmw (pr:=pr) (e:=e') (c1:=none) (c2:=none) g1 g2 (by omega) (by omega) s'.a s'.b s'.t s'.c
     simp only [WW]
     simp (maxSteps:=2000000) +contextual only [hcp',hap,Zc,Rs,Rn,Ro,R3,Rl,RM,WX,RS,pp,go_sem,reduceIte,Ra,Rb,Rc,Rd]
     refine Wc.of_eq (Kh (b1:=H.length+9) (b2:=H.length+10) (c1:=none) (c2:=none) ⟨s',al.1,al.2.1,al.2.2⟩ _ ⟨_,rfl⟩ e _ ?_ (by omega) (by omega) (by omega) (by rw [RN (by omega),show H.length+9 - H.length=9 by omega];rfl) (by rw [RN (by omega),show H.length+10 - H.length=10 by omega];rfl)) ⟨rfl,rfl⟩
     exact Zl _ (Zl _ (Zl _ rfl (Zj rfl (by omega))) (Zj (Zl _ rfl (Zj rfl (by omega))) (by omega))) (Zj (Zl _ (Zl _ rfl (Zj rfl (by omega))) (Zj (Zl _ rfl (Zj rfl (by omega))) (by omega))) (by omega))
theorem ZGq {x:Cn} (hn:x.s.ls.length≤1048576) (hm:x.s.ss.length≤1048576) (cmd:By):(ZxR x cmd).1.s.ls.length≤1048576∧(ZxR x cmd).1.s.ss.length≤1048576:=by
 unfold ZxR
 split
 ·split
  ·split
   ·exact ⟨hn,hm⟩
   ·show ((Za4 x.s cmd).1.getD x.s).ls.length≤1048576∧((Za4 x.s cmd).1.getD x.s).ss.length≤1048576
    cases ho:(Za4 x.s cmd).1 with
    | none=>exact ⟨hn,hm⟩
    | some s'=>
     obtain ⟨hr,hc⟩:=ZBe ho
     have:=Za2 hr
     unfold ZJ at hc
     rw [Ru,decide_eq_true_eq] at hc
     simp only [WW]
     omega
  ·exact ⟨hn,hm⟩
 ·exact ⟨hn,hm⟩
theorem ZlZ (hl:ZsR pr) {q1 q2:Nat} {c1 c2:Option Nat} {x:Cn} (h1:Zb H q1=some (Zm x.s.ls)) (h2:Zb H q2=some (Zr x.s.ss)) (hn:x.s.ls.length≤1048576) (hm:x.s.ss.length≤1048576) (hd:x.d.length≤1048576) (hp:x.p.length≤1048576) (cmd:By) (hcm:cmd.length≤1048576) :
  call T pr Y3 [x.v q1 q2 c1 c2,sV cmd] ⟨H,e⟩=some (.tup [(ZxR x cmd).1.v H.length (H.length+1) none none,sV (ZxR x cmd).2],⟨H++[.cells (Zm (ZxR x cmd).1.s.ls) true,.cells (Zr (ZxR x cmd).1.s.ss) true],e⟩) :=
 Wc.eq (Zkr hl h1 h2 hn hm hd hp cmd hcm)
theorem Zl0 {q1 q2:Nat} {c1 c2:Option Nat} {x:Cn} (h1:Zb H q1=some (Zm x.s.ls)) (h2:Zb H q2=some (Zr x.s.ss)) (hn:x.s.ls.length≤1048576) (hm:x.s.ss.length≤1048576) (hd:x.d.length≤1048576) (hp:x.p.length≤1048576) (cmd:By) (hcm:cmd.length≤1048576) :
  call T pr XS [x.v q1 q2 c1 c2,sV cmd] ⟨H,e⟩=some (.tup [(ZxR x cmd).1.v H.length (H.length+1) none none,sV (ZxR x cmd).2],⟨H++[.cells (Zm (ZxR x cmd).1.s.ls) true,.cells (Zr (ZxR x cmd).1.s.ss) true],e⟩) :=
 Wc.eq (Zks h1 h2 hn hm hd hp cmd hcm)
theorem Zha {L:List Blk} {q1 q2:Nat} {c1 c2:Option Nat} {x:Cn} (h1:L[q1]?=some (.cells (Zm x.s.ls) true)) (h2:L[q2]?=some (.cells (Zr x.s.ss) true)) (hne:q1≠q2) (hn:x.s.ls.length≤1048576) (hm:x.s.ss.length≤1048576) (y:Nat) (hy:y≤4194304) :
  call T pr Xw [x.v q1 q2 c1 c2,.int .i64 y] ⟨L,e⟩=some (.int .i64 ((y+x.s.ls.length*2+x.s.ss.length*3:Nat):Int),⟨K7 L q1 q2 x.s.ls.length x.s.ss.length y,e⟩):=by
 have l1:=(RB.mp h1).1
 have l2:=(RB.mp h2).1
 have hM:∀ X,call T pr Zaq [stV (slL q1 x.s.ls.length c1) x.s.a x.s.b (slS q2 x.s.ss.length c2) x.s.t x.s.c,.int .i64 y] ⟨L++X,none⟩=some (.int .i64 ((y+x.s.ls.length*2+x.s.ss.length*3:Nat):Int),⟨K7 L q1 q2 x.s.ls.length x.s.ss.length y++X,none⟩):=fun X=>by
  rw [←ZzN l1 l2]
  exact Zua (by rw [Wt l1];exact h1) (by rw [Wt l2];exact h2) hne hn hm x.s.a x.s.b x.s.t x.s.c y hy
 rw [Zi Zpm]
 simp +contextual only [ZaD,Zhq,hM,Zjy _ _ (Zrz L q1 q2 x.s.ls.length x.s.ss.length y),go_sem,reduceIte,Ra,Rb,Rc,Rd]
theorem Zn6 {L:List Blk} {q1 q2:Nat} {c1 c2:Option Nat} {x:Cn} {y:Nat} (h1:Zb L q1=some (Zm (Jn y x.s.ls.length))) (h2:Zb L q2=some (Zr (Q7 (y+x.s.ls.length*2) x.s.ss.length))) (hn:x.s.ls.length≤1048576) (hm:x.s.ss.length≤1048576) (hy:y≤4194304) :
  call T pr Jq [x.v q1 q2 c1 c2,.int .i64 y] ⟨L,e⟩=some (.int .i64 ((y+x.s.ls.length*2+x.s.ss.length*3:Nat):Int),⟨L,e⟩):=by
 have hs:=fun X=>Zub (pr:=pr) (e:=none) (c1:=c1) (c2:=c2) (Za h1 X) (Za h2 X) hn hm x.s.a x.s.b x.s.t x.s.c hy
 have h4:¬ (((y+x.s.ls.length*2+x.s.ss.length*3:Nat):Int)<0):=by omega
 rw [Zi Zpo]
 simp +contextual only [ZaF,Zhs,hs,h4,decide_false,go_sem,reduceIte,Ra,Rb,Rc,Rd]
theorem ZjF {L:List Blk} {x:Cn} {q1 q2 q3 q4:Nat} {k1 k2 k3 k4:Option Nat} (h1:Zb L q1=some (Zm x.s.ls)) (h2:Zb L q2=some (Zm x.s.ls)) (h3:Zb L q3=some (Zr x.s.ss)) (h4:Zb L q4=some (Zr x.s.ss)) (hn:x.s.ls.length≤1048576) (hm:x.s.ss.length≤1048576):call T pr XR [x.v q1 q3 k1 k3,x.v q2 q4 k2 k4] ⟨L,e⟩=some (.bool true,⟨L,e⟩) :=
 ZrI (fun G=>ZzE (Za h1 G) (Za h2 G) (by omega)) (fun G=>ZwA (Za h3 G) (Za h4 G) (by omega)) x.s.a x.s.b x.s.t x.s.c x.n x.d x.p
set_option maxHeartbeats 4000000 in
theorem Zl1 (hl:ZsR pr) {row chain:AV} {ls:List Ld} {ss:List Sg} (ha:ZHW H row ls) (hs:ZHY H chain ss) {s u w:ByteArray} (hs1:s.size≤maxLen) (hu1:u.size≤maxLen) (hw1:w.size≤maxLen) (a b t k c:Int):∃ m',call T pr Jd [.agg [row,.int .i64 a,.int .i64 b,chain,.int .i64 t,.int .i64 k,.str s,.str u,.int .i64 c],.str w] ⟨H,none⟩=some (.bool true,m'):=by
 obtain ⟨d,rfl⟩:=ZIx s
 obtain ⟨p,rfl⟩:=ZIx u
 obtain ⟨cmd,rfl⟩:=ZIx w
 refine ⟨⟨H,none⟩,?_⟩
 have hsz:∀ G e',call T pr KK [cnV row a b chain t k d p c,.int .i64 1048576] ⟨G,e'⟩=some (.int .i64 (if ls.length+ss.length+(d.length+p.length)≤1048576 then 1048576 - ((ls.length+ss.length+(d.length+p.length):Nat):Int) else -1),⟨G,e'⟩):=by
  obtain ⟨p,sz,c,rfl,h2,h3⟩:=ha
  obtain ⟨p',sz',c',rfl,h2',h3'⟩:=hs
  exact fun G e'=>Zuz h2 h2' a b t k _ hs1 hu1
 apply Wc.eq
 rw [Zs ZeP]
 by_cases hcb:(1048576:Int)<(((List.toArray cmd).size:Nat):Int)
 ·simp (maxSteps:=2000000) +contextual only [ZX,YV,hcb,gt_iff_lt,decide_true,pp,go_sem,reduceIte,Ra,Rb,Rc,Rd]
 have hcm:cmd.length≤1048576:=by rw [List.size_toArray] at hcb;omega
 by_cases hn:ls.length+ss.length+(d.length+p.length)≤1048576
 ·have hneg:¬ (1048576 - ((ls.length+ss.length+(d.length+p.length):Nat):Int)<0):=by omega
  obtain ⟨z,hz,hsz2⟩:∃ z:Int,¬ z<0∧∀ G e',call T pr KK [cnV row a b chain t k d p c,.int .i64 1048576] ⟨G,e'⟩=some (.int .i64 z,⟨G,e'⟩):=⟨_,hneg,fun G e'=>by rw [hsz,if_pos hn]⟩
  have hto:=fun G=>ZuA (pr:=pr) (e:=none) (ha.more G) (hs.more G) (by omega) (by omega) a b t k c d p
  have hn1:ls.length≤1048576:=by omega
  have hm1:ss.length≤1048576:=by omega
  have hsm:=ZGq (x:=⟨⟨ls,ss,a,b,t,k⟩,d,p,c⟩) hn1 hm1 cmd
  have hii:=fun L q q' c1 c2 (h1:Zb L q=some (Zm ls)) (h2:Zb L q'=some (Zr ss))=>ZlZ (pr:=pr) (H:=L) (e:=none) (c1:=c1) (c2:=c2) hl (x:=⟨⟨ls,ss,a,b,t,k⟩,d,p,c⟩) h1 h2 hn1 hm1 (by show d.length≤_;omega) (by show p.length≤_;omega) cmd hcm
  have hsi:=fun L q q' c1 c2 (h1:Zb L q=some (Zm ls)) (h2:Zb L q'=some (Zr ss))=>Zl0 (pr:=pr) (H:=L) (e:=none) (c1:=c1) (c2:=c2) (x:=⟨⟨ls,ss,a,b,t,k⟩,d,p,c⟩) h1 h2 hn1 hm1 (by show d.length≤_;omega) (by show p.length≤_;omega) cmd hcm
  generalize ZxR ⟨⟨ls,ss,a,b,t,k⟩,d,p,c⟩ cmd=r at *
  obtain ⟨⟨⟨ls',ss',a',b',t',k'⟩,d',p',n'⟩,rp⟩:=r
  simp only at hsm hii hsi
  obtain ⟨hn2,hm2⟩:=hsm
  have heq:=fun L q1 q2 q3 q4 k1 k2 k3 k4=>ZjF (pr:=pr) (L:=L) (e:=none) (x:=⟨⟨ls,ss,a,b,t,k⟩,d,p,c⟩) (q1:=q1) (q2:=q2) (q3:=q3) (q4:=q4) (k1:=k1) (k2:=k2) (k3:=k3) (k4:=k4)
  have heq':=fun L q1 q2 q3 q4 k1 k2 k3 k4=>ZjF (pr:=pr) (L:=L) (e:=none) (x:=⟨⟨ls',ss',a',b',t',k'⟩,d',p',n'⟩) (q1:=q1) (q2:=q2) (q3:=q3) (q4:=q4) (k1:=k1) (k2:=k2) (k3:=k3) (k4:=k4)
  have hmk:∀ (L:List Blk) (q1 q2:Nat) (c1 c2:Option Nat),q1≠q2→L[q1]?=some (.cells (Zm ls) true)→L[q2]?=some (.cells (Zr ss) true)→call T pr Xw [cnV (slL q1 ls.length c1) a b (slS q2 ss.length c2) t k d p c,.int .i64 1] ⟨L,none⟩=some (.int .i64 ((1+ls.length*2+ss.length*3:Nat):Int),⟨K7 L q1 q2 ls.length ss.length 1,none⟩) :=
   fun L q1 q2 c1 c2 hne h1 h2=>Zha (x:=⟨⟨ls,ss,a,b,t,k⟩,d,p,c⟩) h1 h2 hne hn1 hm1 1 (by omega)
  have hmk':∀ (L:List Blk) (q1 q2:Nat) (c1 c2:Option Nat),q1≠q2→L[q1]?=some (.cells (Zm ls') true)→L[q2]?=some (.cells (Zr ss') true)→call T pr Xw [cnV (slL q1 ls'.length c1) a' b' (slS q2 ss'.length c2) t' k' d' p' n',.int .i64 1] ⟨L,none⟩=some (.int .i64 ((1+ls'.length*2+ss'.length*3:Nat):Int),⟨K7 L q1 q2 ls'.length ss'.length 1,none⟩) :=
   fun L q1 q2 c1 c2 hne h1 h2=>Zha (x:=⟨⟨ls',ss',a',b',t',k'⟩,d',p',n'⟩) h1 h2 hne hn2 hm2 1 (by omega)
  have hhd:∀ (L:List Blk) (q1 q2:Nat) (c1 c2:Option Nat),Zb L q1=some (Zm (Jn 1 ls'.length))→Zb L q2=some (Zr (Q7 (1+ls'.length*2) ss'.length))→call T pr Jq [cnV (slL q1 ls'.length c1) a' b' (slS q2 ss'.length c2) t' k' d' p' n',.int .i64 1] ⟨L,none⟩=some (.int .i64 ((1+ls'.length*2+ss'.length*3:Nat):Int),⟨L,none⟩) :=
   fun L q1 q2 c1 c2 h1 h2=>Zn6 (x:=⟨⟨ls',ss',a',b',t',k'⟩,d',p',n'⟩) (y:=1) h1 h2 hn2 hm2 (by omega)
  simp only at heq heq'
  have hk0:¬ (((1+ls.length*2+ss.length*3:Nat):Int)<0):=by omega
  have hk0':¬ (((1+(ls.length*2+ss.length*3):Nat):Int)<0):=by omega
  have hk1:¬ (((1+ls'.length*2+ss'.length*3:Nat):Int)<0):=by omega
  have hk1':¬ (((1+(ls'.length*2+ss'.length*3):Nat):Int)<0):=by omega
  have h10:¬ ((1:Int)<0):=by omega
  simp (maxSteps:=2000000) +contextual only [ZX,YV,hcb,gt_iff_lt,hsz2,hz,hto,hsi,hii,heq,heq',hmk,hmk',hhd,hn1,hm1,hn2,hm2,hk0,hk0',hk1,hk1',h10,ZzO,ne_eq,Nat.add_right_inj,Nat.add_left_cancel_iff,Nat.reduceEqDiff,not_false_eq_true,Zv,ZA,RS,Nat.add_lt_add_iff_left,Nat.lt_add_right_iff_pos,decide_true,decide_false,beq_self_eq_true,pp,go_sem,reduceIte,Ra,Rb,Rc,Rd]
 ·simp (maxSteps:=2000000) +contextual only [ZX,YV,hcb,hsz,hn,gt_iff_lt,decide_true,decide_false,show ((-1:Int)<0) by omega,pp,go_sem,reduceIte,Ra,Rb,Rc,Rd]
end Go.Proofs.YtemcdiajejekoaaGreatDoor.Slim
