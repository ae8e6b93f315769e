/- Parts of the proof. -/
import Derived.Test.YtemcdiajejekoaaGreatDoorSlimZr17
set_option linter.unusedSimpArgs false
set_option linter.unusedVariables false
namespace Go.Proofs.YtemcdiajejekoaaGreatDoor.Slim
open Go
open Nat renaming reduceAdd → Ra, reduceLeDiff → Rb, reduceLT → Rc, reduceEqDiff → Rd
open List renaming getElem?_append_right → Ry, length_append → RX, getElem?_set_ne → Wz, length_cons → RN, append_assoc → Rk, getElem?_append_left → Ws, length_nil → Wk, getElem?_eq_getElem → Rj, cons_append → Rp, nil_append → Ru, length_set → WX, getElem?_eq_some_iff → Wl, drop_length → Rn, getElem?_set_self → WK, mem_of_getElem? → WJ, mem_append → Wa, mem_cons → R6, length_singleton → RY, drop_eq_getElem_cons → Rm, mem_singleton → R3, length_pos_iff → WZ, length_take → Wm, replicate → Rw, getElem?_map → W0, append_nil → Rv, mem_cons_of_mem → Wt
open Nat renaming add_assoc → RD, zero_mul → RJ, one_mul → Rx, lt_irrefl → Rh, zero_add → WW, le_refl → Rq, zero_le → WY, sub_self → WG
open Int renaming le_refl → R9, toNat_zero → RH, toNat_one → RI
open Bool renaming false_eq_true → RZ, and_eq_true → Rs, false_and → RR
open Option renaming getD_some → WV, getD_none → WD, some.injEq → RS, isSome_some → Wn, some.inj → WH, map_eq_some_iff → Wy
variable {pr : Zt} {H : List Blk} {e : Option Nat}
set_option maxHeartbeats 2000000 in
theorem ZC3 {q1 q2:Nat} {c1 c2:Option Nat} {ls:List Ld} {ss:List Sg} {a b t k:Int} (h1:Zb H q1=some (Zn ls)) (h2:Zb H q2=some (Zw ss)) (hs:Zcm ls ss a b t k=true) (w:By) (n:Int) :
  call T pr Zil [stV (slL q1 ls.length c1) a b (slS q2 ss.length c2) t k,sV w,.int .i64 n] ⟨H,e⟩=some (sV ((askOneW ls ss w n).getD [63]),⟨H,e⟩):=by
 obtain ⟨hr,hc,hb,hss,hls,ht1,ht2,hk1,hk2,hre⟩:=XF hs
 have weq:=fun a=>Zaf w a
 have e1:decide (bs w=⟨#[109,111,109,101,110,116]⟩)=decide (w=[109,111,109,101,110,116]):=weq _
 have e2:decide (bs w=⟨#[109,111,115,116]⟩)=decide (w=[109,111,115,116]):=weq _
 have e3:decide (bs w=⟨#[115,116,101,112,115]⟩)=decide (w=[115,116,101,112,115]):=weq _
 have e4:decide (bs w=⟨#[122,101,114,111]⟩)=decide (w=[122,101,114,111]):=weq _
 have e5:decide (bs w=⟨#[109,101,110,100]⟩)=decide (w=[109,101,110,100]):=weq _
 have e6:decide (bs w=⟨#[99,111,105,110,115]⟩)=decide (w=[99,111,105,110,115]):=weq _
 apply Wc.eq
 rw [Zr ZBf]
 unfold ZiD ZrI askOneW
 generalize (⟨#[109,111,109,101,110,116]⟩:ByteArray)=k1 at *
 generalize (⟨#[109,111,115,116]⟩:ByteArray)=k2 at *
 generalize (⟨#[115,116,101,112,115]⟩:ByteArray)=k3 at *
 generalize (⟨#[122,101,114,111]⟩:ByteArray)=k4 at *
 generalize (⟨#[109,101,110,100]⟩:ByteArray)=k5 at *
 generalize (⟨#[99,111,105,110,115]⟩:ByteArray)=k6 at *
 clear weq
 by_cases w1:w=[109,111,109,101,110,116]
 ·rw [decide_eq_true w1] at e1
  rw [if_pos w1]
  have hf:=fun L (hL:Zb L q1=some (Zn ls))=>Zp9 (pr:=pr) (e:=none) (cap:=c1) hL hr (by omega) n
  cases hB:Zha n with
  | false=>
   simp only [hB,RZ,if_false] at hf ⊢
   have hg:=fun L=>JG (pr:=pr) (H:=L) (e:=none) 0 (fit_small (by omega) (by omega)) false
   simp only [RZ,if_false] at hg
   simp (maxSteps:=2000000) +contextual only [hf,hg,WD,e1,Za h1,Za h2,Zbt,Zbu,Za2,R9,RH,RI,RJ,Rx,Zc,pp,go_sem,reduceIte,Ra,Rb,Rc,Rd]
  | true=>
   simp only [hB,if_true] at hf ⊢
   have hg:=fun L=>JG (pr:=pr) (H:=L) (e:=none) (Zk8 ls n) (ZzL hr hB) true
   simp only [if_true] at hg
   simp (maxSteps:=2000000) +contextual only [hf,hg,WV,e1,Za h1,Za h2,Zbt,Zbu,Za2,R9,RH,RI,RJ,Rx,Zc,pp,go_sem,reduceIte,Ra,Rb,Rc,Rd]
 rw [decide_eq_false w1] at e1
 by_cases w2:w=[109,111,115,116]
 ·rw [decide_eq_true w2] at e2
  rw [if_neg w1,if_pos w2]
  have hf:=fun L (hL:Zb L q2=some (Zw ss))=>ZwQ (pr:=pr) (e:=none) (c:=c2) hL hc (by omega) n
  cases hB:Zn6 n with
  | false=>
   simp only [hB,RZ,if_false] at hf ⊢
   have hg:=fun L=>JG (pr:=pr) (H:=L) (e:=none) 0 (fit_small (by omega) (by omega)) false
   simp only [RZ,if_false] at hg
   simp (maxSteps:=2000000) +contextual only [hf,hg,WD,e1,e2,Za h1,Za h2,Zbt,Zbu,Za2,R9,RH,RI,RJ,Rx,Zc,pp,go_sem,reduceIte,Ra,Rb,Rc,Rd]
  | true=>
   simp only [hB,if_true] at hf ⊢
   have hg:=fun L=>JG (pr:=pr) (H:=L) (e:=none) (mostW ss n.toNat) (Zt4 hc hB) true
   simp only [if_true] at hg
   simp (maxSteps:=2000000) +contextual only [hf,hg,WV,e1,e2,Za h1,Za h2,Zbt,Zbu,Za2,R9,RH,RI,RJ,Rx,Zc,pp,go_sem,reduceIte,Ra,Rb,Rc,Rd]
 rw [decide_eq_false w2] at e2
 by_cases w3:w=[115,116,101,112,115]
 ·rw [decide_eq_true w3] at e3
  rw [if_neg w1,if_neg w2,if_pos w3]
  cases hB:Zn6 n with
  | false=>
   simp only [RZ,if_false]
   have hf:=fun L (hL:Zb L q2=some (Zw ss))=>ZnQ (pr:=pr) (e:=none) (c:=c2) hL hc (by omega) n hB
   simp (maxSteps:=2000000) +contextual only [e1,e2,e3,Za h1,Za h2,Zbt,Zbu,Za2,R9,RH,RI,RJ,Rx,Zc,pp,go_sem,reduceIte,Ra,Rb,Rc,Rd]
   obtain ⟨G,cap,hf⟩:=hf (H++[.cells [slL q1 ls.length c1,.int .i64 a,.int .i64 b,slS q2 ss.length c2,.int .i64 t,.int .i64 k] true]) (Za h2 _)
   simp (maxSteps:=2000000) +contextual only [hf,WD,e1,e2,e3,Za h1,Za h2,Zbt,Zbu,Za2,R9,RH,RI,RJ,Rx,Zc,pp,go_sem,reduceIte,Ra,Rb,Rc,Rd]
  | true=>
   obtain ⟨x,rfl,hx⟩:=Zt3 hB
   simp only [if_true,Int.toNat_natCast]
   simp (maxSteps:=2000000) +contextual only [e1,e2,e3,Za h1,Za h2,Zbt,Zbu,Za2,R9,RH,RI,RJ,Rx,Zc,pp,go_sem,reduceIte,Ra,Rb,Rc,Rd]
   refine (ZtU (Za h2 _) hc x hx).mono ?_
   rintro v m ⟨cap,ps,rfl,rfl,hp1,hp2⟩
   have hnew:∀ X,Zb (H++[X,.cells (Zn ps) true]) (H.length+1)=some (Zn ps):=fun X=>Ze (w:=true) (by rw [Ry (by omega),show H.length+1 - H.length=1 by omega];rfl)
   obtain ⟨f1,f2⟩:=Zqn (ss:=ss) hc x hx
   have hg:=fun L=>ZgO (pr:=pr) (H:=L) (e:=none) (stepA ss x) (stepBW ss x) f1 f2 true
   simp only [if_true] at hg
   have hw:IntKind.i64.wrap (((ss.length+1:Nat):Int) - 1)=(ss.length:Int):=by rw [ZN (by omega) (by omega)];omega
   have hlt:ss.length<ss.length+1:=by omega
   simp (maxSteps:=2000000) +contextual only [hnew,hg,hw,hlt,Ja hp2,RX,RN,Wk,Rk,Rp,Ru,WV,e1,e2,e3,Za h1,Za h2,Zbt,Zbu,Za2,R9,RH,RI,RJ,Rx,Zc,pp,go_sem,reduceIte,Ra,Rb,Rc,Rd]
 rw [decide_eq_false w3] at e3
 by_cases w4:w=[122,101,114,111]
 ·rw [decide_eq_true w4] at e4
  rw [if_neg w1,if_neg w2,if_neg w3,if_pos w4]
  have hf:=fun L (hL:Zb L q1=some (Zn ls))=>Zt0 (pr:=pr) (e:=none) (cap:=c1) hL hr n
  cases hB:Zha n with
  | false=>
   simp only [hB,RZ,if_false] at hf ⊢
   have hg:=fun L=>JG (pr:=pr) (H:=L) (e:=none) 0 (fit_small (by omega) (by omega)) false
   simp only [RZ,if_false] at hg
   simp (maxSteps:=2000000) +contextual only [hf,hg,WD,e1,e2,e3,e4,Za h1,Za h2,Zbt,Zbu,Za2,R9,RH,RI,RJ,Rx,Zc,pp,go_sem,reduceIte,Ra,Rb,Rc,Rd]
  | true=>
   simp only [hB,if_true] at hf ⊢
   have hg:=fun L=>JG (pr:=pr) (H:=L) (e:=none) ((Yv ls n).length) (ZmB hls n) true
   simp only [if_true] at hg
   simp (maxSteps:=2000000) +contextual only [hf,hg,WV,e1,e2,e3,e4,Za h1,Za h2,Zbt,Zbu,Za2,R9,RH,RI,RJ,Rx,Zc,pp,go_sem,reduceIte,Ra,Rb,Rc,Rd]
 rw [decide_eq_false w4] at e4
 by_cases w5:w=[109,101,110,100]
 ·rw [decide_eq_true w5] at e5
  rw [if_neg w1,if_neg w2,if_neg w3,if_neg w4,if_pos w5]
  have hf:=fun L (hL:Zb L q1=some (Zn ls))=>ZzB (pr:=pr) (e:=none) (cap:=c1) hL hr (by omega) n
  have hfit:=Zt5 ls n hls
  generalize Zre ls n=o at *
  cases o with
  | some x=>
   obtain ⟨i,p⟩:=x
   have hg:∀ X,call T pr XB [.slice (some (H.length+1,0)) 1 2 (some 2),.bool true] ⟨H++[X,.cells [.int .i64 i,.int .i64 p] true],none⟩=some (sV (ZeL [(i:Int),p]),⟨H++[X,.cells [.int .i64 i,.int .i64 p] true],none⟩):=fun X=>by
    have:=ZgP (pr:=pr) (H:=H++[X,.cells [.int .i64 i,.int .i64 p] true]) (e:=none) (q:=H.length+1) (cap:=some 2) (zs:=[(i:Int),p]) (Ze (w:=true) (by rw [Ry (by omega),show H.length+1 - H.length=1 by omega];rfl)) (by simp) (ZzM hfit) true
    rw [if_pos rfl] at this
    exact this
   simp only [mvV] at hf
   simp (maxSteps:=2000000) +contextual only [hf,hg,Option.map_some,WV,e1,e2,e3,e4,e5,Za h1,Za h2,Zbt,Zbu,Za2,R9,RH,RI,RJ,Rx,Zc,pp,go_sem,reduceIte,Ra,Rb,Rc,Rd]
  | none=>
   have hg:∀ X,call T pr XB [.slice (some (H.length+1,0)) 1 2 (some 2),.bool false] ⟨H++[X,.cells [.int .i64 0,.int .i64 0] true],none⟩=some (sV [63],⟨H++[X,.cells [.int .i64 0,.int .i64 0] true],none⟩):=fun X=>by
    have:=ZgP (pr:=pr) (H:=H++[X,.cells [.int .i64 0,.int .i64 0] true]) (e:=none) (q:=H.length+1) (cap:=some 2) (zs:=[0,0]) (Ze (w:=true) (by rw [Ry (by omega),show H.length+1 - H.length=1 by omega];rfl)) (by simp) (fun z hz=>by simp at hz;subst hz;exact fit_small (by omega) (by omega)) false
    rw [if_neg (by simp)] at this
    exact this
   simp only [mvV] at hf
   simp (maxSteps:=2000000) +contextual only [hf,hg,Option.map_none,WD,e1,e2,e3,e4,e5,Za h1,Za h2,Zbt,Zbu,Za2,R9,RH,RI,RJ,Rx,Zc,pp,go_sem,reduceIte,Ra,Rb,Rc,Rd]
 rw [decide_eq_false w5] at e5
 by_cases w6:w=[99,111,105,110,115]
 ·rw [decide_eq_true w6] at e6
  rw [if_neg w1,if_neg w2,if_neg w3,if_neg w4,if_neg w5,if_pos w6]
  have hf:=fun L=>Zkf (pr:=pr) (H:=L) (e:=none) n
  cases hB:Zzz n with
  | false=>
   simp only [hB,RZ,if_false] at hf ⊢
   have hg:=fun L=>JG (pr:=pr) (H:=L) (e:=none) 0 (fit_small (by omega) (by omega)) false
   simp only [RZ,if_false] at hg
   simp (maxSteps:=2000000) +contextual only [hf,hg,WD,e1,e2,e3,e4,e5,e6,Za h1,Za h2,Zbt,Zbu,Za2,R9,RH,RI,RJ,Rx,Zc,pp,go_sem,reduceIte,Ra,Rb,Rc,Rd]
  | true=>
   simp only [hB,if_true] at hf ⊢
   have hg:=fun L=>JG (pr:=pr) (H:=L) (e:=none) (Zg3 n) (Zqo n) true
   simp only [if_true] at hg
   simp (maxSteps:=2000000) +contextual only [hf,hg,WV,e1,e2,e3,e4,e5,e6,Za h1,Za h2,Zbt,Zbu,Za2,R9,RH,RI,RJ,Rx,Zc,pp,go_sem,reduceIte,Ra,Rb,Rc,Rd]
 rw [decide_eq_false w6] at e6
 rw [if_neg w1,if_neg w2,if_neg w3,if_neg w4,if_neg w5,if_neg w6]
 simp (maxSteps:=2000000) +contextual only [WD,e1,e2,e3,e4,e5,e6,Za h1,Za h2,Zbt,Zbu,Za2,R9,RH,RI,RJ,Rx,Zc,pp,go_sem,reduceIte,Ra,Rb,Rc,Rd]
abbrev slO (q:Nat) (P:List Int) (n:Nat) (cap:Option Nat):AV:=.slice (some (q,P.length)) 1 n cap
theorem Xj {P k:List Int} {i:Nat} {x:Int} (sz:Nat) (h:k[i]?=some x):Zcn false (ZR (P++k)) (P.length+i) sz=some (.int .i64 x):=by
 rw [Zu (x:=x)]
 rw [Ry (by omega),show P.length+i - P.length=i by omega]
 exact h
theorem Zss {P:List Int} {q:Nat} {cap:Option Nat} {k:List Int} (h:Zb H q=some (ZR (P++k))) (hn:k.length≤1000000):call T pr Zau [slO q P k.length cap] ⟨H,e⟩=some (.bool (Zch k),⟨H,e⟩):=by
 have hw:∀ L x,call T pr Kz [.int .i64 x] ⟨L,none⟩=some (.bool (Zn7 x),⟨L,none⟩):=fun L x=>ZhE x
 have h16:=fun L=>Yd (pr:=pr) (H:=L) (e:=none) ((k.length:Nat):Int) 1 6
 apply Wc.eq
 rw [Zr ZuS]
 simp (maxSteps:=2000000) +contextual only [Jz,ZoW,pp,go_sem,reduceIte,Ra,Rb,Rc,Rd]
 refine ZL (fun j st=>∃ (i:Nat) (w2 w3 w7 w8:AV),i+j=k.length∧Zqd (Zg9 k i) (k.drop i)=Zqd 0 k ∧
  st=⟨[slO q P k.length cap,.bool false,w2,w3,slO q P k.length cap,.int .i64 k.length,.int .i64 i,w7,w8],⟨H,none⟩⟩) ?_ k.length _ ⟨0,_,_,_,_,by omega,rfl,rfl⟩
 rintro j _ ⟨i,w2,w3,w7,w8,hij,hk,rfl⟩
 by_cases hj:j=0
 ·have he:i=k.length:=by omega
  subst he
  rw [Rn] at hk
  unfold Zch
  rw [←hk]
  simp (maxSteps:=2000000) +contextual only [YS,Jz,Rh,decide_false,h16,Zqd,Bool.true_and,pp,go_sem,reduceIte,Ra,Rb,Rc,Rd]
 ·have hi:i<k.length:=by omega
  have hl:k[i]?=some k[i]:=Rj hi
  rw [Rm hi] at hk
  have hps:=ZiT k i k[i] hl
  generalize k[i]=x at *
  have hsw:=Zi (show i<9223372036854775807 by omega)
  by_cases h0:i=0
  ·have hp:Zg9 k i=0:=by rw [h0];rfl
   have hi0:¬ (0:Int)<(i:Int):=by omega
   rw [hp] at hk
   cases hx:Zn7 x with
   | false=>
    rw [Zci (by rw [hx];rfl)] at hk
    unfold Zch
    rw [←hk]
    simp (maxSteps:=2000000) +contextual only [YS,Jz,hi,h,Xj _ hl,hw,hx,hi0,gt_iff_lt,decide_true,decide_false,RR,pp,go_sem,reduceIte,Ra,Rb,Rc,Rd]
   | true=>
    have hx':(Zn7 x&&decide (0≤x))=true:=by
     rw [hx]
     unfold Zn7 at hx
     simp only [Rs,decide_eq_true_eq] at hx
     simp;omega
    rw [Zet hx',←hps] at hk
    simp (maxSteps:=2000000) +contextual only [YS,hi,h,Xj _ hl,hw,hx,hi0,gt_iff_lt,hsw,decide_true,decide_false,pp,go_sem,reduceIte,Ra,Rb,Rc,Rd]
    exact ⟨j - 1,by omega,i+1,_,_,_,_,by omega,hk,rfl⟩
  ·have hip:(0:Int)<(i:Int):=by omega
   have hl1:k[i - 1]?=some k[i - 1]:=Rj (by omega)
   have hp:Zg9 k i=k[i - 1]:=by
    unfold Zg9
    rw [if_neg h0,List.getD_eq_getElem?_getD,hl1];rfl
   have hwi:IntKind.i64.wrap ((i:Int) - 1)=((i - 1:Nat):Int):=by rw [ZN (by omega) (by omega)];omega
   have hi1:i - 1<k.length:=by omega
   rw [hp] at hk
   generalize k[i - 1]=p at *
   cases hx:Zn7 x with
   | false=>
    rw [Zci (by rw [hx];rfl)] at hk
    unfold Zch
    rw [←hk]
    simp (maxSteps:=2000000) +contextual only [YS,Jz,hi,h,Xj _ hl,hw,hx,hip,gt_iff_lt,decide_true,decide_false,RR,pp,go_sem,reduceIte,Ra,Rb,Rc,Rd]
   | true=>
    by_cases hxp:x<p
    ·rw [Zci (by rw [hx,decide_eq_false (by omega)];rfl)] at hk
     unfold Zch
     rw [←hk]
     simp (maxSteps:=2000000) +contextual only [YS,Jz,hi,hi1,h,Xj _ hl,Xj _ hl1,hw,hx,hip,hwi,hxp,gt_iff_lt,decide_true,decide_false,RR,pp,go_sem,reduceIte,Ra,Rb,Rc,Rd]
    ·rw [Zet (by rw [hx,decide_eq_true (by omega)];rfl),←hps] at hk
     simp (maxSteps:=2000000) +contextual only [YS,hi,hi1,h,Xj _ hl,Xj _ hl1,hw,hx,hip,hwi,hxp,gt_iff_lt,hsw,decide_true,decide_false,pp,go_sem,reduceIte,Ra,Rb,Rc,Rd]
     exact ⟨j - 1,by omega,i+1,_,_,_,_,by omega,hk,rfl⟩
theorem Zst {P:List Int} {q:Nat} {cap:Option Nat} {k:List Int} (h:Zb H q=some (ZR (P++k))) (hn:k.length≤1000000):call T pr ZaB [slO q P k.length cap] ⟨H,e⟩=some (.bool (Zch k),⟨H,e⟩):=by
 have hw:∀ L x,call T pr YX [.int .i64 x,.int .i64 1,.int .i64 99] ⟨L,none⟩=some (.bool (Zn7 x),⟨L,none⟩):=fun L x=>Ye x 1 99
 have h16:=fun L=>Ye (pr:=pr) (H:=L) (e:=none) ((k.length:Nat):Int) 1 6
 apply Wc.eq
 rw [Zr Zu2]
 simp (maxSteps:=2000000) +contextual only [JC,Zo1,pp,go_sem,reduceIte,Ra,Rb,Rc,Rd]
 refine ZL (fun j st=>∃ (i:Nat) (w3 w4:AV),i+j=k.length∧Zqd (Zg9 k i) (k.drop i)=Zqd 0 k ∧
  st=⟨[slO q P k.length cap,.bool false,.int .i64 i,w3,w4],⟨H,none⟩⟩) ?_ k.length _ ⟨0,_,_,by omega,rfl,rfl⟩
 rintro j _ ⟨i,w3,w4,hij,hk,rfl⟩
 by_cases hj:j=0
 ·have he:i=k.length:=by omega
  subst he
  rw [Rn] at hk
  unfold Zch
  rw [←hk]
  simp (maxSteps:=2000000) +contextual only [YV,JC,Rh,decide_false,h16,Zqd,Bool.true_and,pp,go_sem,reduceIte,Ra,Rb,Rc,Rd]
 ·have hi:i<k.length:=by omega
  have hl:k[i]?=some k[i]:=Rj hi
  rw [Rm hi] at hk
  have hps:=ZiT k i k[i] hl
  generalize k[i]=x at *
  have hsw:=Zi (show i<9223372036854775807 by omega)
  by_cases h0:i=0
  ·have hp:Zg9 k i=0:=by rw [h0];rfl
   have hi0:¬ (0:Int)<(i:Int):=by omega
   rw [hp] at hk
   cases hx:Zn7 x with
   | false=>
    rw [Zci (by rw [hx];rfl)] at hk
    unfold Zch
    rw [←hk]
    simp (maxSteps:=2000000) +contextual only [YV,JC,hi,h,Xj _ hl,hw,hx,hi0,gt_iff_lt,decide_true,decide_false,RR,pp,go_sem,reduceIte,Ra,Rb,Rc,Rd]
   | true=>
    have hx':(Zn7 x&&decide (0≤x))=true:=by
     rw [hx]
     unfold Zn7 at hx
     simp only [Rs,decide_eq_true_eq] at hx
     simp;omega
    rw [Zet hx',←hps] at hk
    simp (maxSteps:=2000000) +contextual only [YV,hi,h,Xj _ hl,hw,hx,hi0,gt_iff_lt,hsw,decide_true,decide_false,pp,go_sem,reduceIte,Ra,Rb,Rc,Rd]
    exact ⟨j - 1,by omega,i+1,_,_,by omega,hk,rfl⟩
  ·have hip:(0:Int)<(i:Int):=by omega
   have hl1:k[i - 1]?=some k[i - 1]:=Rj (by omega)
   have hp:Zg9 k i=k[i - 1]:=by
    unfold Zg9
    rw [if_neg h0,List.getD_eq_getElem?_getD,hl1];rfl
   have hwi:IntKind.i64.wrap ((i:Int) - 1)=((i - 1:Nat):Int):=by rw [ZN (by omega) (by omega)];omega
   have hi1:i - 1<k.length:=by omega
   rw [hp] at hk
   generalize k[i - 1]=p at *
   cases hx:Zn7 x with
   | false=>
    rw [Zci (by rw [hx];rfl)] at hk
    unfold Zch
    rw [←hk]
    simp (maxSteps:=2000000) +contextual only [YV,JC,hi,h,Xj _ hl,hw,hx,hip,gt_iff_lt,decide_true,decide_false,RR,pp,go_sem,reduceIte,Ra,Rb,Rc,Rd]
   | true=>
    by_cases hxp:x<p
    ·rw [Zci (by rw [hx,decide_eq_false (by omega)];rfl)] at hk
     unfold Zch
     rw [←hk]
     simp (maxSteps:=2000000) +contextual only [YV,JC,hi,hi1,h,Xj _ hl,Xj _ hl1,hw,hx,hip,hwi,hxp,gt_iff_lt,decide_true,decide_false,RR,pp,go_sem,reduceIte,Ra,Rb,Rc,Rd]
    ·rw [Zet (by rw [hx,decide_eq_true (by omega)];rfl),←hps] at hk
     simp (maxSteps:=2000000) +contextual only [YV,hi,hi1,h,Xj _ hl,Xj _ hl1,hw,hx,hip,hwi,hxp,gt_iff_lt,hsw,decide_true,decide_false,pp,go_sem,reduceIte,Ra,Rb,Rc,Rd]
     exact ⟨j - 1,by omega,i+1,_,_,by omega,hk,rfl⟩
structure ZC4 (P:List Int) (b0 q n:Nat) (cap:Option Nat) (kit:List Int) (g:FuncId) (caps:List AV) (sg:List Int) (L:List Blk):Prop where
 kc:Zb L q=some (ZR (P++kit))
 k0:L[b0]?=some (.cells [slO q P n cap] true)
 k1:L[b0+1]?=some (.cells [.int .i64 (-1)] true)
 k2:L[b0+2]?=some (.cells [.fn g [] caps] true)
 k3:L[b0+3]?=some (.cells (ZR sg) true)
 k4:L[b0+4]?=some (.cells [slI (b0+3) n (some n)] true)
 k5:L[b0+5]?=some (.cells [.fn YB [] [.ptr (some (b0,0)),.ptr (some (b0+2,0)),.ptr (some (b0+4,0)),.ptr (some (b0+1,0)),.ptr (some (b0+5,0))]] true)
 len:sg.length=n
 kl:kit.length=n
 ql:q<b0
theorem ZC4.put {P:List Int} {b0 q n:Nat} {cap:Option Nat} {kit:List Int} {g:FuncId} {caps:List AV} {sg:List Int} {L:List Blk} (h:ZC4 P b0 q n cap kit g caps sg L) (sg':List Int) (hl:sg'.length=n):ZC4 P b0 q n cap kit g caps sg' (L.set (b0+3) (.cells (ZR sg') true)):=by
 have hlt:b0+3<L.length:=(Wl.mp h.k3).1
 have hq:=h.ql
 refine ⟨?_,?_,?_,?_,?_,?_,?_,hl,h.kl,hq⟩
 ·have:=h.kc
  unfold Zb at this ⊢
  rw [Wz (by omega)]
  exact this
 ·rw [Wz (by omega)];exact h.k0
 ·rw [Wz (by omega)];exact h.k1
 ·rw [Wz (by omega)];exact h.k2
 ·rw [WK hlt]
 ·rw [Wz (by omega)];exact h.k4
 ·rw [Wz (by omega)];exact h.k5
def ZFJ (P:List Int) (pr:Zt) (b0 q n B:Nat) (cap:Option Nat) (kit:List Int) (g:FuncId) (caps:List AV) (Inv:List (List Int)→List Blk→Prop):Prop :=
 ∀ (L:List Blk) (sg:List Int) (e:Option Nat) (done:List (List Int)),ZC4 P b0 q n cap kit g caps sg L→Inv done L→done.length<3 ^ n→Wc (call T pr g ([slI (b0+3) n (some n),.int .i64 (dotZ kit sg)]++caps) ⟨L,e⟩)
  (fun v m=>v=.tup []∧∃ L' e',m=⟨L',e'⟩∧ZC4 P b0 q n cap kit g caps sg L'∧Inv (done++[sg]) L'∧(clean B e=true→clean B e'=true))
set_option maxHeartbeats 1000000 in
theorem ZAA {P:List Int} {b0 q n B:Nat} {cap:Option Nat} {kit:List Int} {g:FuncId} {caps:List AV} {Inv:List (List Int)→List Blk→Prop} (hT:ZFJ P pr b0 q n B cap kit g caps Inv)
  (hS:∀ L x done,Inv done L→Inv done (L.set (b0+3) x)) (hn:n≤1000000) (hk:∀ w∈kit,0≤w∧w≤99) :
  ∀ (d at':Nat) (sg:List Int) (L:List Blk) (e:Option Nat) (done:List (List Int)),at'+d=n→ZC4 P b0 q n cap kit g caps sg L→(∀ x∈sg.take at',x = -1∨x=0∨x=1)→Inv done L→done.length+3 ^ d≤3 ^ n →
  Wc (call T pr YB [.int .i64 at',.int .i64 (dotZ kit (sg.take at')),.ptr (some (b0,0)),.ptr (some (b0+2,0)),.ptr (some (b0+4,0)),.ptr (some (b0+1,0)),.ptr (some (b0+5,0))] ⟨L,e⟩)
   (fun v m=>v=.tup []∧∃ L' e' sg',m=⟨L',e'⟩∧ZC4 P b0 q n cap kit g caps sg' L'∧sg'.take at'=sg.take at'∧Inv (done++(XJ d).map (sg.take at' ++ ·)) L'∧(clean B e=true→clean B e'=true))
 | 0,at',sg,L,e,done,hat,hE,hsg,hI,hdl=>by
  have hat':at'=n:=by omega
  subst hat'
  have htk:sg.take at'=sg:=by rw [←hE.len,List.take_length]
  rw [htk]
  rw [Zr ZaO]
  simp (maxSteps:=2000000) +contextual only [Z9,KJ,Ze hE.k0,Ze hE.k2,Ze hE.k4,decide_true,pp,go_sem,reduceIte,Ra,Rb,Rc,Rd]
  refine (hT L sg none done hE hI (by have:3 ^ 0=1:=rfl;omega)).mono ?_
  rintro v m ⟨rfl,L',e',rfl,hE',hI',hcl⟩
  simp (maxSteps:=2000000) +contextual only [Z9,finish,pp,go_sem,reduceIte,Ra,Rb,Rc,Rd]
  have hm:(XJ 0).map (sg ++ ·)=[sg]:=by simp [XJ]
  rw [hm]
  have hl':sg.take at'=sg:=htk
  exact ⟨L',joinEsc e e',sg,rfl,hE',hl',hI',fun h=>Yk h (hcl rfl)⟩
 | d+1,at',sg,L,e,done,hat,hE,hsg,hI,hdl=>by
  rw [Zr ZaO]
  have hne:¬ ((at':Nat):Int)=((n:Nat):Int):=by omega
  simp (maxSteps:=2000000) +contextual only [Z9,KJ,Ze hE.k0,Ze hE.k1,hne,decide_false,pp,go_sem,reduceIte,Ra,Rb,Rc,Rd]
  refine ZL (fun k st=>∃ (L':List Blk) (e1:Option Nat) (sg':List Int) (w9:AV),k≤3∧ZC4 P b0 q n cap kit g caps sg' L'∧sg'.take at'=sg.take at'∧Inv (done++(([-1,0,1]:List Int).take (3 - k)).flatMap fun s=>(XJ d).map fun x=>sg.take at'++s::x) L'∧clean B e1=true ∧
   st=⟨[.int .i64 at',.int .i64 (dotZ kit (sg.take at')),.ptr (some (b0,0)),.ptr (some (b0+2,0)),.ptr (some (b0+4,0)),.ptr (some (b0+1,0)),.ptr (some (b0+5,0)),.int .i64 (2 - (k:Int)),.bool false,w9],⟨L',e1⟩⟩) ?_ 3 _ ⟨L,none,sg,_,Rq _,hE,rfl,by simpa using hI,rfl,rfl⟩
  rintro k _ ⟨L',e1,sg',w9,hk3,hE',htk,hI',hcl,rfl⟩
  by_cases hk0:k=0
  ·subst hk0
   have hc:¬ (2 - ((0:Nat):Int)≤1):=by omega
   simp (maxSteps:=2000000) +contextual only [JB,Z9,finish,hc,decide_false,pp,go_sem,reduceIte,Ra,Rb,Rc,Rd]
   have hall:(([-1,0,1]:List Int).take (3 - 0)).flatMap (fun s=>(XJ d).map fun x=>sg.take at'++s::x)=(XJ (d+1)).map (sg.take at' ++ ·):=by
    simp [XJ]
    rfl
   rw [hall] at hI'
   exact ⟨L',joinEsc e e1,sg',rfl,hE',htk,hI',fun h=>Yk h hcl⟩
  ·have hc:2 - (k:Int)≤1:=by omega
   have hi:at'<n:=by omega
   obtain ⟨w,hw⟩:∃ w,kit[at']?=some w:=⟨kit[at']'(by rw [hE.kl];exact hi),Rj _⟩
   have hwk:=hk w (WJ hw)
   have hsl:sg'.length=n:=hE'.len
   have hsv:2 - (k:Int) = -1∨2 - (k:Int)=0∨2 - (k:Int)=1:=by omega
   have hF:(([-1,0,1]:List Int).take (3 - (k - 1))).flatMap (fun s=>(XJ d).map fun x=>sg.take at'++s::x)=(([-1,0,1]:List Int).take (3 - k)).flatMap (fun s=>(XJ d).map fun x=>sg.take at'++s::x)++(XJ d).map fun x=>sg.take at'++(2 - (k:Int))::x:=by
    have:k=1∨k=2∨k=3:=by omega
    rcases this with rfl | rfl | rfl <;> simp
   have hnx:2 - (k:Int)+1=2 - ((k - 1:Nat):Int):=by omega
   generalize hs:2 - (k:Int)=s at *
   have hls:=ZlA sg' at' s (by omega)
   rw [htk] at hls
   have hd:=Zlz kit (sg.take at') at' w s hw (by rw [Wm,hE.len];omega)
   rw [←hls] at hd
   have hb:=Zh4 kit (sg.take at') hk hsg
   rw [hE.kl] at hb
   have hws : -99≤w*s∧w*s≤99:=by rcases hsv with h | h | h <;> rw [h] <;> omega
   have w1:IntKind.i64.wrap (s*w)=w*s:=by rw [Int.mul_comm];exact ZN (by omega) (by omega)
   have w2:IntKind.i64.wrap (dotZ kit (sg.take at')+w*s)=dotZ kit ((sg'.set at' s).take (at'+1)):=by rw [hd];exact ZN (by omega) (by omega)
   have w3:=Zi (show at'<9223372036854775807 by omega)
   have w4:IntKind.i64.wrap (s+1)=2 - ((k - 1:Nat):Int):=by rw [←hnx];exact ZN (by omega) (by omega)
   have hse:=Zk9 (X:=sg') (i:=at') (a:=s) (by omega)
   have hle:at'+1≤(ZR sg').length:=by rw [ZR,List.length_map];omega
   have E2:=hE'.put (sg'.set at' s) (by rw [WX];exact hsl)
   simp (maxSteps:=2000000) +contextual only [JB,Ze hE'.k0,Ze hE'.k1,Ze hE'.k4,Ze hE'.k5,Ze hE'.k3,hE'.kc,hE'.k3,hc,hi,hse,hle,Ze E2.k0,Ze E2.k5,E2.kc,Xj _ hw,w1,w2,w3,decide_true,pp,go_sem,reduceIte,Ra,Rb,Rc,Rd]
   refine (ZAA hT hS hn hk d (at'+1) (sg'.set at' s) _ e1 _ (by omega) E2 ?_ (hS _ _ _ hI') ?_).mono ?_
   ·rw [hls]
    intro x hx
    rcases Wa.mp hx with h | h
    ·exact hsg x h
    ·simp only [R3] at h
     rw [h]
     exact hsv
   ·have hfl:∀ l:List Int,(l.flatMap fun s=>(XJ d).map fun x=>sg.take at'++s::x).length=l.length*3 ^ d:=by
     intro l
     induction l with
     | nil=>simp
     | cons a l ih=>
      simp only [List.flatMap_cons,RX,List.length_map,Zbx,ih,RN,Nat.add_mul,Rx]
      omega
    rw [RX,hfl,Wm]
    have:min (3 - k) ([-1,0,1]:List Int).length≤2:=by simp;omega
    have h2:=Nat.mul_le_mul_right (3 ^ d) this
    rw [Nat.pow_succ] at hdl
    omega
   ·rintro v m ⟨rfl,L3,e3,sg3,rfl,E3,htk3,hI3,hcl3⟩
    simp (maxSteps:=2000000) +contextual only [w4,pp,go_sem,reduceIte,Ra,Rb,Rc,Rd]
    have htk3':sg3.take at'=sg.take at':=by
     have:=congrArg (List.take at') htk3
     rw [List.take_take,List.take_take,Nat.min_eq_left (by omega)] at this
     rw [this,List.take_set_of_le (Rq _)]
     exact htk
    rw [hls] at hI3
    have hI4:Inv (done++(([-1,0,1]:List Int).take (3 - (k - 1))).flatMap fun s=>(XJ d).map fun x=>sg.take at'++s::x) L3:=by
     rw [hF]
     rw [Rk] at hI3
     have e5:(XJ d).map (fun x=>sg.take at'++[s]++x)=(XJ d).map fun x=>sg.take at'++s::x:=by
      congr 1
      funext x
      simp
     rw [←e5]
     exact hI3
    exact ⟨k - 1,by omega,L3,e3,sg3,_,by omega,E3,htk3',hI4,hcl3 hcl,rfl⟩
theorem ZC4.of {P:List Int} {b0 q n:Nat} {cap:Option Nat} {kit:List Int} {g:FuncId} {caps:List AV} {sg:List Int} {L L':List Blk} (h:ZC4 P b0 q n cap kit g caps sg L) (hL:∀ i,i=q∨(b0≤i∧i≤b0+5)→L'[i]?=L[i]?):ZC4 P b0 q n cap kit g caps sg L':=by
 refine ⟨?_,?_,?_,?_,?_,?_,?_,h.len,h.kl,h.ql⟩
 ·have:=h.kc
  unfold Zb at this ⊢
  rw [hL q (.inl rfl)]
  exact this
 ·rw [hL _ (.inr ⟨by omega,by omega⟩)];exact h.k0
 ·rw [hL _ (.inr ⟨by omega,by omega⟩)];exact h.k1
 ·rw [hL _ (.inr ⟨by omega,by omega⟩)];exact h.k2
 ·rw [hL _ (.inr ⟨by omega,by omega⟩)];exact h.k3
 ·rw [hL _ (.inr ⟨by omega,by omega⟩)];exact h.k4
 ·rw [hL _ (.inr ⟨by omega,by omega⟩)];exact h.k5
theorem Zt6 {P:List Int} {L:List Blk} {q B:Nat} {cap:Option Nat} {kit:List Int} {g:FuncId} {caps:List AV} {Inv:List (List Int)→List Blk→Prop} (hq:Zb L q=some (ZR (P++kit))) (hB:B≤L.length) (hn:kit.length≤1000000) (hk:∀ w∈kit,0≤w∧w≤99) (hT:ZFJ P pr L.length q kit.length B cap kit g caps Inv)
  (hS:∀ L' x done,Inv done L'→Inv done (L'.set (L.length+3) x)) (hI:∀ G,Inv [] (L++G)) (e:Option Nat) :
  Wc (call T pr KU [slO q P kit.length cap,.int .i64 (-1),.fn g [] caps] ⟨L,e⟩) (fun v m=>v=.tup []∧∃ L' e',m=⟨L',e'⟩∧Inv (XJ kit.length) L'∧(clean B e=true→clean B e'=true)):=by
 have hql:q<L.length:=ZW hq
 rw [Zr ZkX]
 simp (maxSteps:=2000000) +contextual only [JX,Zgd,Zc,Zmh,pp,go_sem,reduceIte,Ra,Rb,Rc,Rd]
 refine ⟨fun _ => ?_,fun h=>absurd (show ((kit.length:Nat):Int)*((8:Nat):Int)≤((maxBytes:Nat):Int) by unfold maxBytes;omega) h⟩
 have hE:ZC4 P L.length q kit.length cap kit g caps (Rw kit.length 0) (L++[.cells [.slice (some (q,P.length)) 1 kit.length cap] true,.cells [.int .i64 (-1)] true,.cells [.fn g [] caps] true,.cells (ZR (Rw kit.length 0)) true,.cells [.slice (some (L.length+3,0)) 1 kit.length (some kit.length)] true,
   .cells [.fn YB [] [.ptr (some (L.length,0)),.ptr (some (L.length+2,0)),.ptr (some (L.length+4,0)),.ptr (some (L.length+1,0)),.ptr (some (L.length+5,0))]] true]):=by
  refine ⟨Za hq _,?_,?_,?_,?_,?_,?_,List.length_replicate,rfl,hql⟩
  ·rw [Ry (by omega)];simp
  all_goals (rw [Ry (by omega)];simp)
 have hz:dotZ kit ((Rw kit.length (0:Int)).take 0)=0:=by cases kit <;> rfl
 have hw:=fun e1=>ZAA (B:=B) hT hS hn hk kit.length 0 (Rw kit.length 0) _ e1 [] (by omega) hE (by simp) (hI _) (by simp)
 have h0:((0:Nat):Int)=0:=rfl
 rw [hz,h0] at hw
 refine (hw _).mono ?_
 rintro v m ⟨rfl,L',e',sg',rfl,hE',_,hI',hcl⟩
 simp (maxSteps:=2000000) +contextual only [JX,finish,pp,go_sem,reduceIte,Ra,Rb,Rc,Rd]
 have hm:(XJ kit.length).map ((Rw kit.length (0:Int)).take 0 ++ ·)=XJ kit.length:=by simp
 rw [hm] at hI'
 refine ⟨L',joinEsc e e',rfl,hI',fun h=>Yk h (hcl ?_)⟩
 have c4:∀ (c:Prop) [Decidable c],clean B (if c then none else Z8 none (L.length+4))=true:=fun c _=>Zk c rfl (Zj rfl (by omega))
 exact Zk _ (c4 _) (Zj (c4 _) (by omega))
theorem ZC5 {P:List Int} {q on o b0 m:Nat} {cap:Option Nat} {kit:List Int} {n:Int} (ho:H.length≤o) (ho0:o<b0) (hon:H.length≤on) (hon0:on<b0) (hne:on≠o) (hqH:q<H.length) (hm:m≤6) (hm0:0<m):ZFJ P pr b0 q m H.length cap kit XQ [.ptr (some (on,0)),.ptr (some (o,0))] (ZIM q b0 on o m kit n H):=by
 intro L sg e done hE hI hdn
 obtain ⟨hL,hdl,b,cc,h1,h2,h3,h4,h5,h6⟩:=hI
 have hbl:=ZFw kit n m done hdl
 have hs3:=Ze hE.k3
 have hsl:sg.length=m:=hE.len
 show Wc (call T pr XQ [slI (b0+3) m (some m),.int .i64 (dotZ kit sg),.ptr (some (on,0)),.ptr (some (o,0))] ⟨L,e⟩) _
 have hsn:=ZCV kit n done sg
 have hu1:call T pr Zbd [slI (b0+3) m (some m)] ⟨L,none⟩=some (.int .i64 (usedZ sg),⟨L,none⟩):=by rw [←hsl];exact Zsq hs3 (by omega)
 have hu2:call T pr Zbd [slI b (JH kit n done).length cc] ⟨L,none⟩=some (.int .i64 (usedZ (JH kit n done)),⟨L,none⟩):=Zsq h2 (by omega)
 have hcl:call T pr YA [slI (b0+3) m (some m)] ⟨L,none⟩=some (slI L.length m none,⟨L++[.cells (ZR sg) true],none⟩):=by rw [←hsl];exact ZH7 hs3 (by omega)
 have hkeep:JH kit n (done++[sg])=JH kit n done→ZIM q b0 on o m kit n H (done++[sg]) L:=fun hb=>by
  unfold ZIM
  rw [hb]
  refine ⟨hL,fun l hl => ?_,b,cc,h1,h2,h3,h4,h5,h6⟩
  rcases Wa.mp hl with g | g
  ·exact hdl l g
  ·simp only [R3] at g
   rw [g];exact hsl
 have hol:o<L.length:=(Wl.mp h1).1
 have honl:on<L.length:=(Wl.mp h3).1
 have hb5:b0+5<L.length:=(Wl.mp hE.k5).1
 have hnew:JH kit n (done++[sg])=sg→ZC4 P b0 q m cap kit XQ [.ptr (some (on,0)),.ptr (some (o,0))] sg ((L++[Blk.cells (ZR sg) true]).set o (Blk.cells [slI L.length m none] true))∧ZIM q b0 on o m kit n H (done++[sg]) ((L++[Blk.cells (ZR sg) true]).set o (Blk.cells [slI L.length m none] true)):=fun hb=>by
  refine ⟨hE.of fun i hi => ?_,?_⟩
  ·have hiq:i<L.length:=by
    rcases hi with rfl | ⟨_,h⟩
    ·exact ZW hE.kc
    ·omega
   have hio:o≠i:=by
    rcases hi with rfl | ⟨h,_⟩ <;> omega
   rw [Wz hio,Ws hiq]
  ·unfold ZIM
   rw [hb,hsl]
   refine ⟨(hL.more _).put ho _,fun l hl => ?_,L.length,none,by rw [WK (by simp;omega)],?_,by rw [Wz (by omega),Ws honl];exact h3,by have:=hL.le;omega,by omega,.inr (by omega)⟩
   ·rcases Wa.mp hl with g | g
    ·exact hdl l g
    ·simp only [R3] at g
     rw [g];exact hsl
   ·unfold Zb
    rw [Wz (by omega),Ry (by omega)]
    simp
 have ho2:(L++[Blk.cells (ZR sg) true])[o]?=some (.cells [slI b (JH kit n done).length cc] true):=by rw [Ws hol];exact h1
 rw [Zr Znx]
 by_cases hd:dotZ kit sg=n
 ·by_cases hb0:(JH kit n done).length=0
  ·have hb0':(((JH kit n done).length:Nat):Int)=0:=by omega
   have hbest:JH kit n (done++[sg])=sg:=by rw [hsn];unfold ZdD;rw [if_pos ⟨hd,.inl hb0⟩]
   simp (maxSteps:=2000000) +contextual only [Xe,J7,finish,Ze h1,Ze h3,hd,hb0',hcl,ho2,decide_true,pp,go_sem,reduceIte,Ra,Rb,Rc,Rd]
   refine ⟨fun _ => ?_,fun h=>absurd (by simp) h⟩
   obtain ⟨E2,I2⟩:=hnew hbest
   exact ⟨_,joinEsc e (if AV.under (o+1) (AV.slice (some (L.length,0)) 1 m none)=true then none else Z8 none o),rfl,E2,I2,fun h=>Yk h (Zk _ rfl (Zj rfl ho))⟩
  ·have hb0':¬ (((JH kit n done).length:Nat):Int)=0:=by omega
   by_cases hu:usedZ sg<usedZ (JH kit n done)
   ·have hbest:JH kit n (done++[sg])=sg:=by rw [hsn];unfold ZdD;rw [if_pos ⟨hd,.inr hu⟩]
    simp (maxSteps:=2000000) +contextual only [Xe,J7,finish,Ze h1,Ze h3,hd,hb0',hu1,hu2,hu,hcl,ho2,decide_true,decide_false,pp,go_sem,reduceIte,Ra,Rb,Rc,Rd]
    refine ⟨fun _ => ?_,fun h=>absurd (by simp) h⟩
    obtain ⟨E2,I2⟩:=hnew hbest
    exact ⟨_,joinEsc e (if AV.under (o+1) (AV.slice (some (L.length,0)) 1 m none)=true then none else Z8 none o),rfl,E2,I2,fun h=>Yk h (Zk _ rfl (Zj rfl ho))⟩
   ·have hbest:JH kit n (done++[sg])=JH kit n done:=by rw [hsn];unfold ZdD;rw [if_neg];rintro ⟨_,g | g⟩;exact hb0 g;exact hu g
    simp (maxSteps:=2000000) +contextual only [Xe,J7,finish,Ze h1,Ze h3,hd,hb0',hu1,hu2,hu,decide_true,decide_false,pp,go_sem,reduceIte,Ra,Rb,Rc,Rd]
    refine ⟨fun _ => ?_,fun h=>absurd (by simp) h⟩
    exact ⟨L,_,rfl,hE,hkeep hbest,fun h=>h⟩
 ·have hbest:JH kit n (done++[sg])=JH kit n done:=by rw [hsn];unfold ZdD;rw [if_neg];rintro ⟨g,_⟩;exact hd g
  simp (maxSteps:=2000000) +contextual only [Xe,J7,finish,Ze h1,Ze h3,hd,decide_true,decide_false,pp,go_sem,reduceIte,Ra,Rb,Rc,Rd]
  refine ⟨fun _ => ?_,fun h=>absurd (by simp) h⟩
  exact ⟨L,_,rfl,hE,hkeep hbest,fun h=>h⟩
theorem ZlI {P:List Int} {q:Nat} {cap:Option Nat} {k:List Int} (h:Zb H q=some (ZR (P++k))) (hn:k.length≤1000000) (n:Int) (hno:¬ (Zch k=true∧1≤n)):call T pr QE [slO q P k.length cap,.int .i64 n] ⟨H,e⟩=some (.tup [Z2,.bool false],⟨H,e⟩):=by
 have h1:∀ L,Zb L q=some (ZR (P++k))→call T pr Zau [slO q P k.length cap] ⟨L,none⟩=some (.bool (Zch k),⟨L,none⟩):=fun L hL=>Zss hL hn
 apply Wc.eq
 rw [Zr Zji]
 cases hk:Zch k with
 | false=>
  rw [hk] at h1
  simp (maxSteps:=2000000) +contextual only [Jm,ZbI,Zc,h,Za h,h1,pp,go_sem,reduceIte,Ra,Rb,Rc,Rd,ff]
 | true=>
  rw [hk] at h1
  have hlt:n<1:=by
   have:¬ 1≤n:=fun g=>hno ⟨hk,g⟩
   omega
  simp (maxSteps:=2000000) +contextual only [Jm,ZbI,Zc,h,Za h,h1,hlt,decide_true,pp,go_sem,reduceIte,Ra,Rb,Rc,Rd,ff]
theorem ZnR {P:List Int} {q:Nat} {cap:Option Nat} {k:List Int} (h:Zb H q=some (ZR (P++k))) (hn:k.length≤1000000) (n:Int) (hk:Zch k=true) (hn1:1≤n):Wc (call T pr QE [slO q P k.length cap,.int .i64 n] ⟨H,e⟩)
  (fun v m=>∃ cc wr,v=.tup [slI H.length (ZlB k n).length cc,.bool (decide (0<((ZlB k n).length:Int)))]∧m=⟨H++[.cells (ZR (ZlB k n)) wr],e⟩):=by
 have h1:∀ L,Zb L q=some (ZR (P++k))→call T pr Zau [slO q P k.length cap] ⟨L,none⟩=some (.bool true,⟨L,none⟩):=fun L hL=>by rw [←hk];exact Zss hL hn
 obtain ⟨k0,k6,kw⟩:=Zfn hk
 have hk0:∀ w∈k,0≤w∧w≤99:=fun w hw=>by have:=kw w hw;omega
 have hql:q<H.length:=ZW h
 have hlt:¬ n<1:=by omega
 rw [Zr Zji]
 simp (maxSteps:=2000000) +contextual only [Jm,ZbI,Zc,h,Za h,h1,hlt,decide_false,pp,go_sem,reduceIte,Ra,Rb,Rc,Rd]
 have hb0:∀ (c:AV),(H++[Blk.cells [.int .i64 n] true,.cells [] true,.cells [c] true]).length=H.length+3:=by intro c;simp
 refine (Zt6 (B:=H.length) (Inv:=ZIM q (H.length+3) H.length (H.length+2) k.length k n H) (Za h _) (by rw [hb0];omega) (by omega) hk0 (by rw [hb0];exact ZC5 (by omega) (by omega) (by omega) (by omega) (by omega) hql k6 (WZ.mpr k0)) ?_ ?_ _).mono ?_
 ·rintro L' x done ⟨hL,hdl,b,cc,g1,g2,g3,g4,g5,g6⟩
  rw [hb0]
  refine ⟨hL.put (by omega) _,hdl,b,cc,by rw [Wz (by omega)];exact g1,?_,by rw [Wz (by omega)];exact g3,g4,g5,g6⟩
  unfold Zb at g2 ⊢
  rw [Wz (by omega)]
  exact g2
 ·intro G
  refine ⟨⟨_,Rk _ _ _⟩,by simp,H.length+1,some 0,?_,?_,?_,by omega,by omega,.inl (by omega)⟩
  ·rw [Rk,Ry (by omega)];simp [JH]
  ·unfold Zb
   rw [Rk,Ry (by omega)];simp [JH]
  ·rw [Rk,Ry (by omega)];simp
 ·rintro v m ⟨rfl,L',e',rfl,⟨hL,hdl,b,cc,g1,g2,g3,g4,g5,g6⟩,hcl⟩
  have hcl':clean H.length e'=true:=by
   apply hcl
   exact Zk _ rfl (Zj rfl (by omega))
  simp (maxSteps:=2000000) +contextual only [Jm,Ze g1,pp,go_sem,reduceIte,Ra,Rb,Rc,Rd]
  obtain ⟨wr,hG⟩:∃ wr,L'[b]?=some (.cells (ZR (JH k n (XJ k.length))) wr):=by
   unfold Zb at g2
   split at g2
   ·rename_i cs wr hh
    rw [RS] at g2
    exact ⟨wr,by rw [hh,g2]⟩
   ·exact absurd g2 (by simp)
  rw [Yf _ hL e e' hcl' g4 hG (K9 _ _)]
  simp only [pp]
  exact ⟨cc,wr,rfl,rfl⟩
theorem Znr {P:List Int} {q q2:Nat} {cap cap2:Option Nat} {k l:List Int} (h:Zb H q=some (ZR (P++k))) (h2:Zb H q2=some (ZR l)) (hn:k.length≤6) (hkl:l.length=k.length) (hk:∀ w∈k,0≤w∧w≤99) (hl:∀ x∈l,x = -1∨x=0∨x=1) :
  call T pr Zbh [slO q P k.length cap,slI q2 l.length cap2] ⟨H,e⟩=some (.tup [.int .i64 (dotZ k l),.int .i64 (sqZ l)],⟨H,e⟩):=by
 apply Wc.eq
 rw [Zr Zyg]
 simp (maxSteps:=2000000) +contextual only [Zdi,Zo2,pp,go_sem,reduceIte,Ra,Rb,Rc,Rd]
 have hd0:dotZ k []=0:=by cases k <;> rfl
 refine ZL (fun j st=>∃ (i:Nat) (w7:AV),i+j=k.length ∧
  st=⟨[slO q P k.length cap,slI q2 l.length cap2,.int .i64 0,.int .i64 0,.int .i64 (dotZ k (l.take i)),.int .i64 (sqZ (l.take i)),.int .i64 i,w7],⟨H,none⟩⟩) ?_ k.length _ ⟨0,_,by omega,by rw [List.take_zero,hd0];rfl⟩
 rintro j _ ⟨i,w7,hij,rfl⟩
 by_cases hj:j=0
 ·have he:i=k.length:=by omega
  subst he
  rw [←hkl,List.take_length]
  simp (maxSteps:=2000000) +contextual only [Zgj,Zdi,hkl,Rh,decide_false,pp,go_sem,reduceIte,Ra,Rb,Rc,Rd]
 ·have hi:i<k.length:=by omega
  have hi2:i<l.length:=by omega
  have g1:k[i]?=some k[i]:=Rj hi
  have g2:l[i]?=some l[i]:=Rj hi2
  have hw:=hk k[i] (List.getElem_mem hi)
  have hx:=hl l[i] (List.getElem_mem hi2)
  have hd:=Zlz k (l.take i) i k[i] l[i] g1 (by rw [Wm];omega)
  have hq:=ZGX (l.take i) l[i]
  have htl:∀ x∈l.take i,x = -1∨x=0∨x=1:=fun x hx=>hl x (List.mem_of_mem_take hx)
  have hb:=Zh4 k (l.take i) hk htl
  have hu:=ZtW (l.take i)
  rw [←ZtV _ htl,Wm] at hu
  rw [←List.take_succ_eq_append_getElem hi2] at hd hq
  generalize k[i]=w at *
  generalize l[i]=x at *
  have hsw:=Zi (show i<9223372036854775807 by omega)
  have hwx : -99≤w*x∧w*x≤99∧0≤x*x∧x*x≤1:=by rcases hx with rfl | rfl | rfl <;> simp <;> omega
  have w1:IntKind.i64.wrap (w*x)=w*x:=ZN (by omega) (by omega)
  have w2:IntKind.i64.wrap (x*x)=x*x:=ZN (by omega) (by omega)
  have w3:IntKind.i64.wrap (dotZ k (l.take i)+w*x)=dotZ k (l.take (i+1)):=by rw [hd];exact ZN (by omega) (by omega)
  have w4:IntKind.i64.wrap (sqZ (l.take i)+x*x)=sqZ (l.take (i+1)):=by rw [hq];exact ZN (by omega) (by omega)
  simp (maxSteps:=2000000) +contextual only [Zgj,hi,hi2,h,h2,Xj _ g1,Zu _ g2,w1,w2,w3,w4,hsw,decide_true,pp,go_sem,reduceIte,Ra,Rb,Rc,Rd]
  exact ⟨j - 1,by omega,i+1,_,by omega,rfl⟩
theorem ZlJ {P:List Int} {q:Nat} {cap:Option Nat} {k:List Int} (h:Zb H q=some (ZR (P++k))) (hn:k.length≤1000000) (n:Int) (hno:¬ (Zch k=true∧1≤n)):∃ G cc,call T pr QF [slO q P k.length cap,.int .i64 n] ⟨H,e⟩=some (.tup [slI H.length 0 cc,.bool false],⟨H++G,e⟩):=by
 have h1:∀ L,Zb L q=some (ZR (P++k))→call T pr ZaB [slO q P k.length cap] ⟨L,none⟩=some (.bool (Zch k),⟨L,none⟩):=fun L hL=>Zst hL hn
 refine ⟨[.cells [] true],some 0,?_⟩
 have hf:∀ (e0 e1:Option Nat),clean H.length e1=true→finish 2 H.length e0 (.tup [slI H.length 0 (some 0),.bool false]) ⟨H++[.cells [] true],e1⟩=some (.tup [slI H.length 0 (some 0),.bool false],⟨H++[.cells [] true],e0⟩) :=
  fun e0 e1 hc=>Yf false ⟨_,rfl⟩ e0 e1 hc (Rq _) (by rw [Ry (by omega)];simp) rfl
 apply Wc.eq
 rw [Zr Zjj]
 cases hk:Zch k with
 | false=>
  rw [hk] at h1
  simp (maxSteps:=2000000) +contextual only [Jp,ZbL,Zc,h,h1,hf,Zm,pp,go_sem,reduceIte,Ra,Rb,Rc,Rd]
 | true=>
  rw [hk] at h1
  have hlt:n<1:=by
   have:¬ 1≤n:=fun g=>hno ⟨hk,g⟩
   omega
  simp (maxSteps:=2000000) +contextual only [Jp,ZbL,Zc,h,h1,hf,Zm,hlt,decide_true,pp,go_sem,reduceIte,Ra,Rb,Rc,Rd]
theorem ZnS {P:List Int} {q:Nat} {cap:Option Nat} {k:List Int} (h:Zb H q=some (ZR (P++k))) (hn:k.length≤1000000) (n:Int) (hk:Zch k=true) (hn1:1≤n):Wc (call T pr QF [slO q P k.length cap,.int .i64 n] ⟨H,e⟩)
  (fun v m=>∃ (cc:Option Nat),v=.tup [slI H.length (ZlB k n).length cc,.bool (decide (0<((ZlB k n).length:Int)))]∧m=⟨H++[.cells (ZR (ZlB k n)) true],e⟩):=by
 have h1:∀ L,Zb L q=some (ZR (P++k))→call T pr ZaB [slO q P k.length cap] ⟨L,none⟩=some (.bool true,⟨L,none⟩):=fun L hL=>by rw [←hk];exact Zst hL hn
 obtain ⟨k0,k6,kw⟩:=Zfn hk
 have hk0:∀ w∈k,0≤w∧w≤99:=fun w hw=>by have:=kw w hw;omega
 have hlt:¬ n<1:=by omega
 have hkw:=Zi (show k.length<9223372036854775807 by omega)
 have hcnt:=Zbx k.length
 have hlen:=ZiS k.length
 have hp3:3 ^ k.length≤3 ^ 6:=Nat.pow_le_pow_right (by omega) k6
 have h36:(3:Nat) ^ 6=729:=by decide
 have hbest:=Zh3 k n k.length (WZ.mpr k0) (XJ k.length) hlen [] ((k.length:Int)+1) (.inl ⟨rfl,rfl⟩)
 rw [Zr Zjj]
 simp (maxSteps:=2000000) +contextual only [Jp,ZbL,Zc,h,h1,hlt,decide_false,pp,go_sem,reduceIte,Ra,Rb,Rc,Rd]
 refine (ZCZ k.length k6).mono ?_
 rintro v m ⟨L,e1,b,c,es,rfl,rfl,hL,hb,hLb,hR,hcl⟩
 have he1:=hcl rfl
 have hq:Zb L q=some (ZR (P++k)):=by
  obtain ⟨G,rfl⟩:=hL
  exact Za h G
 simp (maxSteps:=2000000) +contextual only [Zc,hkw,pp,go_sem,reduceIte,Ra,Rb,Rc,Rd]
 refine ZL (fun j st=>∃ (i b5:Nat) (c5:Option Nat) (w8 w9 w11 w12:AV),i+j=3 ^ k.length∧H.length≤b5∧(L++[Blk.cells [] true])[b5]?=some (.cells (ZR (((XJ k.length).take i).foldl (ZdE k n) ([],(k.length:Int)+1)).1) true) ∧
  st=⟨[slO q P k.length cap,.int .i64 n,Z2,.bool false,.slice (some (b,0)) 1 (3 ^ k.length) c,slI b5 (((XJ k.length).take i).foldl (ZdE k n) ([],(k.length:Int)+1)).1.length c5,.int .i64 (((XJ k.length).take i).foldl (ZdE k n) ([],(k.length:Int)+1)).2,.int .i64 i,w8,w9,.bool false,w11,w12],⟨L++[.cells [] true],e1⟩⟩) ?_ (3 ^ k.length) _
  ⟨0,L.length,some 0,_,_,_,_,by omega,hL.le,by rw [ZQ];rfl,rfl⟩
 rintro j _ ⟨i,b5,c5,w8,w9,w11,w12,hij,hb5,hG5,rfl⟩
 by_cases hj:j=0
 ·have he:i=3 ^ k.length:=by omega
  subst he
  rw [List.take_of_length_le (by omega),hbest] at *
  have hf:=Yf (n:=(ZlB k n).length) (sz:=1) (c:=c5) (decide (0<((ZlB k n).length:Int))) (hL.more [.cells [] true]) e e1 he1 hb5 hG5 (K9 _ _)
  simp (maxSteps:=2000000) +contextual only [J9,Jp,Rh,decide_false,pp,go_sem,reduceIte,Ra,Rb,Rc,Rd]
  have hw:(XJ k.length).foldl (ZdD k n) []=ZlB k n:=rfl
  rw [hw] at hG5 ⊢
  rw [Yf _ (hL.more [.cells [] true]) e e1 he1 hb5 hG5 (K9 _ _)]
  simp only [pp]
  exact ⟨c5,rfl,trivial⟩
 ·have hi:i<3 ^ k.length:=by omega
  obtain ⟨l,hl⟩:∃ l,(XJ k.length)[i]?=some l:=⟨_,Rj (by omega)⟩
  obtain ⟨q2,cq,hq1,hq2,hq3,hq4⟩:=hR.2 i l hl
  obtain ⟨hll,hlx⟩:=hlen l (WJ hl)
  have hiw:=Zi (show i<9223372036854775807 by omega)
  have htk:(XJ k.length).take (i+1)=(XJ k.length).take i++[l]:=by
   rw [List.take_succ_eq_append_getElem (by omega)]
   rw [Rj (by omega),RS] at hl
   rw [hl]
  have hfo:((XJ k.length).take (i+1)).foldl (ZdE k n) ([],(k.length:Int)+1)=ZdE k n (((XJ k.length).take i).foldl (ZdE k n) ([],(k.length:Int)+1)) l:=by rw [htk,List.foldl_append];rfl
  generalize ((XJ k.length).take i).foldl (ZdE k n) ([],(k.length:Int)+1)=p at *
  have hwg:∀ L,Zb L q=some (ZR (P++k))→Zb L q2=some (ZR l)→call T pr Zbh [slO q P k.length cap,slI q2 l.length cq] ⟨L,none⟩=some (.tup [.int .i64 (dotZ k l),.int .i64 (sqZ l)],⟨L,none⟩):=fun L g1 g2=>Znr g1 g2 k6 hll hk0 hlx
  have c1:Zb (L++[Blk.cells [] true]) b=some es:=Za (Ze hLb) _
  have c2:Zb (L++[Blk.cells [] true]) q=some (ZR (P++k)):=Za hq _
  have c3:Zb (L++[Blk.cells [] true]) q2=some (ZR l):=Za (Ze hq4) _
  have hwg2:∀ e',call T pr Zbh [slO q P k.length cap,slI q2 l.length cq] ⟨L++[Blk.cells [] true],e'⟩=some (.tup [.int .i64 (dotZ k l),.int .i64 (sqZ l)],⟨L++[Blk.cells [] true],e'⟩):=fun e'=>Znr c2 c3 k6 hll hk0 hlx
  by_cases hd:dotZ k l=n
  ·by_cases hs:sqZ l<p.2
   ·have hb':ZdE k n p l=(l,sqZ l):=by unfold ZdE;rw [if_pos ⟨hd,hs⟩]
    simp (maxSteps:=2000000) +contextual only [J9,hi,c1,c2,c3,Y2 _ hq1,hwg2,hd,hs,hiw,decide_true,pp,go_sem,reduceIte,Ra,Rb,Rc,Rd]
    exact ⟨j - 1,by omega,i+1,q2,cq,_,_,_,_,by omega,hq2,by rw [hfo,hb',Ws (by have:=(Wl.mp hq4).1;omega)];exact hq4,by rw [hfo,hb']⟩
   ·have hb':ZdE k n p l=p:=by unfold ZdE;rw [if_neg];rintro ⟨_,g⟩;exact hs g
    simp (maxSteps:=2000000) +contextual only [J9,hi,c1,c2,c3,Y2 _ hq1,hwg2,hd,hs,hiw,decide_true,decide_false,pp,go_sem,reduceIte,Ra,Rb,Rc,Rd]
    exact ⟨j - 1,by omega,i+1,b5,c5,_,_,_,_,by omega,hb5,by rw [hfo,hb'];exact hG5,by rw [hfo,hb']⟩
  ·have hb':ZdE k n p l=p:=by unfold ZdE;rw [if_neg];rintro ⟨g,_⟩;exact hd g
   simp (maxSteps:=2000000) +contextual only [J9,hi,c1,c2,c3,Y2 _ hq1,hwg2,hd,hiw,decide_true,decide_false,pp,go_sem,reduceIte,Ra,Rb,Rc,Rd]
   exact ⟨j - 1,by omega,i+1,b5,c5,_,_,_,_,by omega,hb5,by rw [hfo,hb'];exact hG5,by rw [hfo,hb']⟩
def ZIN:List Int→Option By
 | []=>none
 | n::k=>if Zch k=true∧1≤n∧0<(ZlB k n).length then some (ZeL (ZlB k n)) else none
theorem Zh7 (n:Int) (k:List Int):ZIN (n::k)=if Zch k=true∧1≤n∧0<(ZlB k n).length then some (ZeL (ZlB k n)) else none:=rfl
def askAllW (ls:List Ld) (a b:Int) (ss:List Sg) (t:Int) (w:By) (zs:List Int):Option By :=
 if w=[119,101,105,103,104] then (if Zch zs=true then some (Lib.itoa (Zg4 zs)) else none)
 else if w=[104,111,119] then ZIN zs
 else match zs with
  | []=>askW ls a b ss t w
  | [n]=>askOneW ls ss w n
  | _=>none
theorem Zqq {k:List Int} (h:Zch k=true):Zfk (Zg4 k):=by
 obtain ⟨k0,k6,kw⟩:=Zfn h
 obtain ⟨g1,g2,g3⟩:=Zqb (Zb9 k) 0 (ZlD k) fun x hx=>((ZiV k x).mp hx).1
 have hs:=Zqe k6 fun w hw=>by have:=kw w hw;omega
 by_cases h0:0<ZCR 0 (Zb9 k)
 ·have:=hs _ (g2 _ h0 (R9 _))
  exact fit_small (by unfold Zg4;omega) (by unfold Zg4;omega)
 ·exact fit_small (by unfold Zg4;omega) (by unfold Zg4;omega)
theorem ZIw (k:List Int) (n:Int):ZlB k n=[]∨ZlB k n∈XJ k.length:=by
 have key:∀ (L:List (List Int)) (b:List Int),(b=[]∨b∈XJ k.length)→(∀ l∈L,l∈XJ k.length)→L.foldl (ZdD k n) b=[]∨L.foldl (ZdD k n) b∈XJ k.length:=by
  intro L
  induction L with
  | nil=>intro b hb _;exact hb
  | cons l L ih=>
   intro b hb hL
   refine ih _ ?_ (fun x hx=>hL x (Wt _ hx))
   unfold ZdD
   split
   ·exact .inr (hL l List.mem_cons_self)
   ·exact hb
 exact key (XJ k.length) [] (.inl rfl) (fun l h=>h)
theorem ZzN {k:List Int} (h:Zch k=true) (n:Int):(ZlB k n).length≤6∧∀ z∈ZlB k n,Zfk z:=by
 obtain ⟨k0,k6,kw⟩:=Zfn h
 rcases ZIw k n with h | h
 ·rw [h];simp
 ·obtain ⟨h1,h2⟩:=ZiS _ _ h
  refine ⟨by omega,fun z hz => ?_⟩
  rcases h2 z hz with rfl | rfl | rfl <;> exact fit_small (by omega) (by omega)
set_option maxHeartbeats 1000000 in
theorem ZC6 {q1 q2 q3:Nat} {c1 c2:Option Nat} {ls:List Ld} {ss:List Sg} {a b t k:Int} {n:Int} {zs:List Int} (h1:Zb H q1=some (Zn ls)) (h2:Zb H q2=some (Zw ss)) (h3:Zb H q3=some (ZR (n::zs))) (hs:Zcm ls ss a b t k=true) (hz:zs.length≤999999) (w:By) :
  call T pr ZeU [stV (slL q1 ls.length c1) a b (slS q2 ss.length c2) t k,sV w,slI q3 (zs.length+1) none] ⟨H,e⟩=some (sV ((askAllW ls a b ss t w (n::zs)).getD [63]),⟨H,e⟩):=by
 have e1:decide (bs w=⟨#[119,101,105,103,104]⟩)=decide (w=[119,101,105,103,104]):=Zaf _ _
 have e2:decide (bs w=⟨#[104,111,119]⟩)=decide (w=[104,111,119]):=Zaf _ _
 apply Wc.eq
 rw [Zr ZA5]
 unfold Zix ZrB askAllW
 generalize (⟨#[119,101,105,103,104]⟩:ByteArray)=k1 at *
 generalize (⟨#[104,111,119]⟩:ByteArray)=k2 at *
 by_cases w1:w=[119,101,105,103,104]
 ·rw [decide_eq_true w1] at e1
  rw [if_pos w1]
  have hf:∀ L,Zb L q3=some (ZR (n::zs))→_:=fun L hL=>Zw4 (pr:=pr) (H:=L) (e:=none) (cap:=none) (k:=n::zs) hL (by simp;omega)
  rw [RN] at hf
  cases hB:Zch (n::zs) with
  | false=>
   simp only [hB,RZ,if_false] at hf ⊢
   have hg:=fun L=>JG (pr:=pr) (H:=L) (e:=none) 0 (fit_small (by omega) (by omega)) false
   simp only [RZ,if_false] at hg
   simp (maxSteps:=2000000) +contextual only [hf,hg,e1,Za h3,WD,pp,go_sem,reduceIte,Ra,Rb,Rc,Rd]
  | true=>
   simp only [hB,if_true] at hf ⊢
   have hg:=fun L=>JG (pr:=pr) (H:=L) (e:=none) (Zg4 (n::zs)) (Zqq hB) true
   simp only [if_true] at hg
   simp (maxSteps:=2000000) +contextual only [hf,hg,e1,Za h3,WV,pp,go_sem,reduceIte,Ra,Rb,Rc,Rd]
 rw [decide_eq_false w1] at e1
 rw [if_neg w1]
 by_cases w2:w=[104,111,119]
 ·rw [decide_eq_true w2] at e2
  rw [if_pos w2]
  have hsl:ZbN 1 (slI q3 (zs.length+1) none) (.int .i64 1)=some (slO q3 [n] zs.length none):=Zdt 1 q3 0 (zs.length+1) 1 (by omega)
  have hlt:0<zs.length+1:=by omega
  have hp0:∀ sz,Zcn false (ZR (n::zs)) 0 sz=some (.int .i64 n):=fun sz=>Zu sz rfl
  simp (maxSteps:=2000000) +contextual only [e1,e2,Za h3,Zbw,hsl,Za2,Zbt,Zbu,R9,RH,RJ,hlt,hp0,pp,go_sem,reduceIte,Ra,Rb,Rc,Rd]
  refine ⟨fun _ => ?_,fun h=>absurd (by omega) h⟩
  by_cases hk:Zch zs=true∧1≤n
  ·refine (ZnS (P:=[n]) (Za h3 _) (by omega) n hk.1 hk.2).mono ?_
   rintro v m ⟨cc,rfl,rfl⟩
   obtain ⟨f1,f2⟩:=ZzN hk.1 n
   have hT:(ZIN (n::zs)).getD [63]=if decide (0<((ZlB zs n).length:Int))=true then ZeL (ZlB zs n) else [63]:=by
    rw [Zh7]
    by_cases h0:0<(ZlB zs n).length
    ·rw [if_pos ⟨hk.1,hk.2,h0⟩,if_pos (decide_eq_true (by omega))];rfl
    ·rw [if_neg (fun h=>h0 h.2.2),decide_eq_false (by omega)];rfl
   rw [hT]
   generalize ZlB zs n=g at *
   have hg:∀ X x,call T pr XB [slI (H.length+1) g.length cc,.bool x] ⟨H++[X,.cells (ZR g) true],none⟩=some (sV (if x=true then ZeL g else [63]),⟨H++[X,.cells (ZR g) true],none⟩):=fun X x=>
    ZgP (Ze (w:=true) (by rw [Ry (by omega),show H.length+1 - H.length=1 by omega];rfl)) (by omega) f2 x
   simp (maxSteps:=2000000) +contextual only [hg,RX,RN,Wk,Rk,Rp,Ru,WW,pp,go_sem,reduceIte,Ra,Rb,Rc,Rd]
  ·obtain ⟨G,cc,hf⟩:=ZlJ (pr:=pr) (H:=H++[.cells [slL q1 ls.length c1,.int .i64 a,.int .i64 b,slS q2 ss.length c2,.int .i64 t,.int .i64 k] true]) (e:=none) (P:=[n]) (cap:=none) (Za h3 _) (by omega) n hk
   have hT:(ZIN (n::zs)).getD [63]=[63]:=by
    rw [Zh7]
    rw [if_neg (fun h=>hk ⟨h.1,h.2.1⟩)];rfl
   rw [hT]
   have hg:=fun L b e0=>Zjw (pr:=pr) (H:=L) (e:=e0) (b:=b) (cap:=cc)
   simp (maxSteps:=2000000) +contextual only [hf,hg,pp,go_sem,reduceIte,Ra,Rb,Rc,Rd]
 rw [decide_eq_false w2] at e2
 rw [if_neg w2]
 cases zs with
 | nil=>
  have hf:=fun L g1 g2=>ZC3 (pr:=pr) (H:=L) (e:=none) (c1:=c1) (c2:=c2) (q1:=q1) (q2:=q2) g1 g2 hs w n
  have hp0:∀ sz,Zcn false (ZR [n]) 0 sz=some (.int .i64 n):=fun sz=>Zu sz rfl
  simp (maxSteps:=2000000) +contextual only [e1,e2,Za h1,Za h2,Za h3,Za2,Zbt,Zbu,R9,RH,RJ,hf,hp0,Wk,WW,pp,go_sem,reduceIte,Ra,Rb,Rc,Rd]
  exact ⟨fun _=>⟨fun _=>trivial,fun h=>absurd (by omega) h⟩,fun h=>absurd rfl h⟩
 | cons z zs=>
  have hne:¬ ((zs.length+1+1:Nat):Int)=1:=by omega
  simp (maxSteps:=2000000) +contextual only [e1,e2,hne,decide_false,WD,RN,pp,go_sem,reduceIte,Ra,Rb,Rc,Rd]
def Zcb:List By→Option (List Int)
 | []=>some []
 | w::r=>match ZhZ w with
  | none=>none
  | some v=>(Zcb r).map (v :: ·)
theorem Zw8:∀ {ws:List By} {zs:List Int},Zcb ws=some zs→zs.length=ws.length
 | [],zs,h=>by
  simp only [Zcb,RS] at h
  subst h;rfl
 | w::r,zs,h=>by
  unfold Zcb at h
  split at h
  ·cases h
  ·obtain ⟨ys,h1,rfl⟩:=Wy.mp h
   simp [Zw8 h1]
theorem Zsu {w:By} {r:List By} (h:ZhZ w=none):Zcb (w::r)=none:=by
 unfold Zcb;rw [h]
theorem Zsv {w:By} {r:List By} {v:Int} (h:ZhZ w=some v):Zcb (w::r)=(Zcb r).map (v :: ·):=by
 conv=>lhs;unfold Zcb
 rw [h]
theorem ZAB (zs:List Int) (v:Int) (o:Option (List Int)):(o.map (v :: ·)).map (zs ++ ·)=o.map ((zs++[v]) ++ ·):=by
 cases o <;> simp
theorem ZAC {ps:List By} {i:Nat} {w:By} (h:ps[i]?=some w):(Zcd ps)[i]?=some (sV w):=by
 unfold Zcd
 rw [W0,h];rfl
set_option maxHeartbeats 1000000 in
theorem Zw9 {q:Nat} {cap:Option Nat} {ps:List By} (h:Zb H q=some (Zcd ps)) (hp:2≤ps.length) (hn:ps.length≤1000000) (hw:∀ w∈ps,w.length≤1000000) :
  Wc (call T pr ZfF [slX q ps.length cap] ⟨H,e⟩) (fun v m=>match Zcb ps.tail with
   | some zs=>v=.tup [slI H.length zs.length none,.bool true]∧m=⟨H++[.cells (ZR zs) true],e⟩
   | none=>∃ (G:List Blk) (c:Option Nat),v=.tup [slI H.length 0 c,.bool false]∧m=⟨H++G,e⟩):=by
 rw [Zr ZxX]
 simp (maxSteps:=2000000) +contextual only [Q1,ZoP,Zc,pp,go_sem,reduceIte,Ra,Rb,Rc,Rd]
 refine ZL (fun j st=>∃ (i b:Nat) (zs:List Int) (c:Option Nat) (L:List Blk) (w5 w6 w7 w8:AV),i+j=ps.length∧1≤i∧ZT H L∧H.length≤b∧L[b]?=some (.cells (ZR zs) true)∧zs.length=i - 1∧(c=some 0→zs.length=0)∧(1<i→c=none)∧(Zcb (ps.drop i)).map (zs ++ ·)=Zcb ps.tail ∧
  st=⟨[slX q ps.length cap,Z2,.bool false,slI b zs.length c,.int .i64 i,w5,w6,w7,w8],⟨L,none⟩⟩) ?_ (ps.length - 1) _
  ⟨1,H.length,[],some 0,H++[.cells [] true],_,_,_,_,by omega,by omega,⟨_,rfl⟩,Rq _,by rw [ZQ];rfl,rfl,fun _=>rfl,fun h=>by omega,by simp,rfl⟩
 rintro j _ ⟨i,b,zs,c,L,w5,w6,w7,w8,hij,hi1,hL,hb,hLb,hzl,hc,hc1,hnum,rfl⟩
 have hq:Zb L q=some (Zcd ps):=Xf hL h
 by_cases hj:j=0
 ·have he:i=ps.length:=by omega
  subst he
  rw [Rn] at hnum
  have hnum':Zcb ps.tail=some zs:=by rw [←hnum];simp [Zcb]
  rw [hnum']
  have hcn:c=none:=hc1 (by omega)
  subst hcn
  have hf:=fun e0=>Yf (n:=zs.length) (sz:=1) (c:=none) true hL e0 none rfl hb hLb (K9 _ _)
  simp (maxSteps:=2000000) +contextual only [ZcA,Q1,Rh,decide_false,hf,pp,go_sem,reduceIte,Ra,Rb,Rc,Rd]
 ·have hi:i<ps.length:=by omega
  obtain ⟨w,hwi⟩:∃ w,ps[i]?=some w:=⟨_,Rj hi⟩
  have hdr:ps.drop i=w::ps.drop (i+1):=by
   rw [Rm hi]
   rw [Rj hi,RS] at hwi
   rw [hwi]
  rw [hdr] at hnum
  have hrd:=fun L=>ZCO (pr:=pr) (H:=L) (e:=none) w (hw w (WJ hwi))
  have hiw:=Zi (show i<9223372036854775807 by omega)
  cases hr:ZhZ w with
  | none=>
   simp only [hr,WD,Option.isSome_none] at hrd
   rw [Zsu hr] at hnum
   rw [←hnum]
   have hLe:=hL.le
   have hf:=fun e0=>Yf (cs:=[]) (w:=true) (n:=0) (sz:=1) (c:=some 0) false (hL.more [.cells [] true]) e0 none rfl hLe (by rw [ZQ];rfl) rfl
   simp (maxSteps:=2000000) +contextual only [ZcA,Q1,hi,hq,Y2 _ (ZAC hwi),hrd,Zc,hf,decide_true,Option.map_none,pp,go_sem,reduceIte,Ra,Rb,Rc,Rd]
   exact ⟨_,_,rfl,rfl⟩
  | some v=>
   simp only [hr,WV,Wn] at hrd
   rw [Zsv hr,ZAB] at hnum
   simp (maxSteps:=2000000) +contextual only [ZcA,Q1,hi,hq,Y2 _ (ZAC hwi),hrd,Zc,decide_true,pp,go_sem,reduceIte,Ra,Rb,Rc,Rd]
   refine Zi3 (k:=1) (new:=[.int .i64 v]) (cs:=ZR zs) (ZY hLb _) (Qx _ 1 1 _ _ L.length (by simp +contextual only [go_sem,reduceIte,Ra,Rb,Rc,Rd]) rfl) (by simp [ZR]) rfl (by unfold maxBytes;omega) hc ?_
   intro L6 g1 g2 g3 g4
   rw [ZGV] at g3
   simp (maxSteps:=2000000) +contextual only [hiw,pp,go_sem,reduceIte,Ra,Rb,Rc,Rd]
   exact ⟨j - 1,by omega,i+1,L.length+1,zs++[v],none,L6,_,_,_,_,by omega,by omega,g4 _ (hL.more _) hb,by have:=hL.le;omega,by simpa using g3,by simp;omega,by simp,fun _=>rfl,hnum,by rw [RX];rfl⟩
def TBk:List (By×Int×Int):=[([116,97,107,101],2,1),([100,114,111,112],6,1),([108,111,97,100],1,2),([109,111,118,101],3,2),([98,97,115,101],4,2),([115,116,97,103,101],5,3)]
def ZmC (w:By) (m:Nat):List (By×Int×Int)→Int
 | []=>0
 | x::r=>if w=x.1∧(m:Int)=x.2.2 then x.2.1 else ZmC w m r
def Zcj (w:By) (m:Nat):Int:=ZmC w m TBk
def ZFK (k:Int) (zs:List Int):AV:=if 0<k then tkV k (zs.getD 0 0) (zs.getD 1 0) (zs.getD 2 0) else tkV 0 0 0 0
theorem ZJm {zs:List Int} (h:zs≠[]):(zs++[0,0])[0]?=some (zs.getD 0 0)∧(zs++[0,0])[1]?=some (zs.getD 1 0)∧(zs++[0,0])[2]?=some (zs.getD 2 0):=by
 match zs,h with
 | [a],_=>exact ⟨rfl,rfl,rfl⟩
 | [a,b],_=>exact ⟨rfl,rfl,rfl⟩
 | a::b::c::r,_=>exact ⟨rfl,rfl,rfl⟩
set_option maxHeartbeats 1000000 in
theorem ZzO {q:Nat} {zs:List Int} (h:Zb H q=some (ZR zs)) (h0:zs≠[]) (hz:zs.length≤1000000) (w:By):call T pr ZfG [sV w,slI q zs.length none] ⟨H,e⟩=some (ZFK (Zcj w zs.length) zs,⟨H,e⟩):=by
 obtain ⟨o1,o2,o3⟩:=ZJm h0
 have hpos:0<zs.length:=WZ.mpr h0
 have hown:∀ L,Zb L q=some (ZR zs)→call T pr Zaw [slI q zs.length none] ⟨L,none⟩=some (slI L.length zs.length none,⟨L++[.cells (ZR zs) true],none⟩):=fun L hL=>Zqf hL hz
 apply Wc.eq
 rw [Zr ZxY]
 simp (maxSteps:=2000000) +contextual only [KF,ZoQ,Zc,pp,go_sem,reduceIte,Ra,Rb,Rc,Rd]
 have hM:H++[.cells [.int .i64 0,.int .i64 0,.int .i64 0,.int .i64 0] true,.cells [.str ⟨#[116,97,107,101]⟩,.str ⟨#[100,114,111,112]⟩,.str ⟨#[108,111,97,100]⟩,.str ⟨#[109,111,118,101]⟩,.str ⟨#[98,97,115,101]⟩,.str ⟨#[115,116,97,103,101]⟩] true,.cells [.int .i64 2,.int .i64 6,.int .i64 1,.int .i64 3,.int .i64 4,.int .i64 5] true,.cells [.int .i64 1,.int .i64 1,.int .i64 2,.int .i64 2,.int .i64 2,.int .i64 3] true] =
  H++[.cells [.int .i64 0,.int .i64 0,.int .i64 0,.int .i64 0] true,.cells (Zcd (TBk.map (·.1))) true,.cells (ZR (TBk.map (·.2.1))) true,.cells (ZR (TBk.map (·.2.2))) true]:=rfl
 rw [hM]
 clear hM
 have hT6:TBk.length=6:=rfl
 have hTp:∀ x∈TBk,0<x.2.1:=by decide
 unfold Zcj
 generalize TBk=TB at *
 refine ZL (fun j st=>∃ (i:Nat) (w7 w8 w9:AV),i+j=6∧ZmC w zs.length (TB.drop i)=ZmC w zs.length TB ∧
  st=⟨[sV w,slI q zs.length none,.ptr (some (H.length,0)),.slice (some (H.length+1,0)) 1 6 (some 6),.slice (some (H.length+2,0)) 1 6 (some 6),.slice (some (H.length+3,0)) 1 6 (some 6),.int .i64 i,w7,w8,w9],⟨H++[.cells [.int .i64 0,.int .i64 0,.int .i64 0,.int .i64 0] true,.cells (Zcd (TB.map (·.1))) true,.cells (ZR (TB.map (·.2.1))) true,.cells (ZR (TB.map (·.2.2))) true],none⟩⟩) ?_ 6 _
  ⟨0,_,_,_,rfl,rfl,rfl⟩
 rintro j _ ⟨i,w7,w8,w9,hij,htf,rfl⟩
 by_cases hj:j=0
 ·have he:i=6:=by omega
  subst he
  rw [←hT6,Rn] at htf
  have hlt:¬ (6:Int)<6:=by omega
  rw [←htf]
  simp (maxSteps:=2000000) +contextual only [ZaG,KF,hlt,ZmC,ZFK,Zc,decide_false,Int.lt_irrefl,pp,go_sem,reduceIte,Ra,Rb,Rc,Rd]
 ·have hi:i<TB.length:=by omega
  obtain ⟨x,hx⟩:∃ x,TB[i]?=some x:=⟨_,Rj hi⟩
  have hdr:TB.drop i=x::TB.drop (i+1):=by
   rw [Rm hi]
   rw [Rj hi,RS] at hx
   rw [hx]
  rw [hdr] at htf
  have hi6:(i:Int)<6:=by omega
  have hi6':i<6:=by omega
  have p1:∀ sz,Zcn false (Zcd (TB.map (·.1))) i sz=some (sV x.1):=fun sz=>Y2 sz (ZAC (by rw [W0,hx];rfl))
  have p2:∀ sz,Zcn false (ZR (TB.map (·.2.1))) i sz=some (.int .i64 x.2.1):=fun sz=>Zu sz (by rw [W0,hx];rfl)
  have p3:∀ sz,Zcn false (ZR (TB.map (·.2.2))) i sz=some (.int .i64 x.2.2):=fun sz=>Zu sz (by rw [W0,hx];rfl)
  have hw:=Zaf w x.1
  have hsw:=Zi (show i<9223372036854775807 by omega)
  by_cases hwx:w=x.1
  ·rw [decide_eq_true hwx] at hw
   by_cases hm:((zs.length:Nat):Int)=x.2.2
   ·have ht:ZmC w zs.length TB=x.2.1:=by rw [←htf];show (if w=x.1∧(zs.length:Int)=x.2.2 then x.2.1 else _)=_;rw [if_pos ⟨hwx,hm⟩]
    rw [ht]
    simp (maxSteps:=2000000) +contextual only [ZaG,KF,hi6,hi6',p1,p2,p3,hw,hm,hown,Za h,Zc,decide_true,pp,go_sem,reduceIte,Ra,Rb,Rc,Rd]
    have hxp:=hTp x (WJ hx)
    refine Zi3 (k:=2) (new:=[.int .i64 0,.int .i64 0]) (cs:=ZR zs) (by rw [Ry (by omega),show H.length+4 - H.length=4 by omega];rfl) (Qx _ 2 1 _ _ (H.length+5) (by simp +contextual only [go_sem,reduceIte,Ra,Rb,Rc,Rd]) rfl) (by simp [ZR]) rfl (by unfold maxBytes;omega) (by simp) ?_
    intro L2 g1 g2 g3 g4
    have hl2:L2.length=H.length+7:=by rw [g1];simp
    have g3':Zb L2 (H.length+6)=some (ZR (zs++[0,0])):=by
     refine Ze (w:=true) ?_
     have:ZR zs++[.int .i64 0,.int .i64 0]=ZR (zs++[0,0]):=by simp [ZR]
     rw [←this]
     simpa using g3
    have gk:Zb L2 (H.length+2)=some (ZR (TB.map (·.2.1))):=by
     refine Ze (w:=true) ?_
     rw [g2 (H.length+2) (by omega) (by simp),Ry (by omega),show H.length+2 - H.length=2 by omega];rfl
    have g0:L2[H.length]?=some (.cells [.int .i64 0,.int .i64 0,.int .i64 0,.int .i64 0] true):=by
     rw [g2 H.length (by omega) (by simp),Ry (Rq _),WG];rfl
    have hL2:ZT H L2:=g4 _ ⟨_,rfl⟩ (by omega)
    have hst:Zb (L2.set H.length (.cells [.int .i64 x.2.1,.int .i64 (zs.getD 0 0),.int .i64 (zs.getD 1 0),.int .i64 (zs.getD 2 0)] true)) H.length=some [.int .i64 x.2.1,.int .i64 (zs.getD 0 0),.int .i64 (zs.getD 1 0),.int .i64 (zs.getD 2 0)] :=
     Ze (w:=true) (by rw [WK (by omega)])
    have hf:=fun e0 e1 hc=>ZFp (hL2.put (Rq _) (.cells [.int .i64 x.2.1,.int .i64 (zs.getD 0 0),.int .i64 (zs.getD 1 0),.int .i64 (zs.getD 2 0)] true)) e0 e1 (tkV x.2.1 (zs.getD 0 0) (zs.getD 1 0) (zs.getD 2 0)) (by simp [AV.under,AV.under.go]) hc
    have hx2:(2:Int)<((zs.length+2:Nat):Int):=by omega
    have hx1:(1:Int)<((zs.length+2:Nat):Int):=by omega
    have hx0:(0:Int)<((zs.length+2:Nat):Int):=by omega
    have i02:(0:Int)≤2:=by decide
    have t2:Int.toNat 2=2:=rfl
    unfold ZFK
    rw [if_pos hxp]
    simp (maxSteps:=2000000) +contextual only [gk,g0,g3',p2,Zu _ o1,Zu _ o2,Zu _ o3,hi6,hi6',hx0,hx1,hx2,i02,t2,and_self,Za2,Zbt,Zbu,R9,RH,RI,RJ,Rx,hst,Zc,hf,Zm,Ze g0,pp,go_sem,reduceIte,Ra,Rb,Rc,Rd]
   ·have ht:ZmC w zs.length (TB.drop (i+1))=ZmC w zs.length TB:=by rw [←htf];show _=(if w=x.1∧(zs.length:Int)=x.2.2 then x.2.1 else _);rw [if_neg (fun h=>hm h.2)]
    simp (maxSteps:=2000000) +contextual only [ZaG,KF,hi6,hi6',p1,p3,hw,hm,hsw,decide_true,decide_false,pp,go_sem,reduceIte,Ra,Rb,Rc,Rd]
    exact ⟨j - 1,by omega,i+1,_,_,_,by omega,ht,rfl⟩
  ·rw [decide_eq_false hwx] at hw
   have ht:ZmC w zs.length (TB.drop (i+1))=ZmC w zs.length TB:=by rw [←htf];show _=(if w=x.1∧(zs.length:Int)=x.2.2 then x.2.1 else _);rw [if_neg (fun h=>hwx h.1)]
   simp (maxSteps:=2000000) +contextual only [ZaG,KF,hi6,hi6',p1,hw,hsw,decide_true,decide_false,pp,go_sem,reduceIte,Ra,Rb,Rc,Rd]
   exact ⟨j - 1,by omega,i+1,_,_,_,by omega,ht,rfl⟩
def JI (w:By):Int×Int :=
 if w=[108,111,97,100] then (1,2)
 else if w=[116,97,107,101] then (2,1)
 else if w=[109,111,118,101] then (3,2)
 else if w=[98,97,115,101] then (4,2)
 else if w=[115,116,97,103,101] then (5,3)
 else if w=[100,114,111,112] then (6,1)
 else (0,0)
theorem Kl (w:By):call T pr Zig [sV w] ⟨H,e⟩=some (.tup [.int .i64 (JI w).1,.int .i64 (JI w).2],⟨H,e⟩):=by
 have e1:decide (bs w=⟨#[108,111,97,100]⟩)=decide (w=[108,111,97,100]):=Zaf _ _
 have e2:decide (bs w=⟨#[116,97,107,101]⟩)=decide (w=[116,97,107,101]):=Zaf _ _
 have e3:decide (bs w=⟨#[109,111,118,101]⟩)=decide (w=[109,111,118,101]):=Zaf _ _
 have e4:decide (bs w=⟨#[98,97,115,101]⟩)=decide (w=[98,97,115,101]):=Zaf _ _
 have e5:decide (bs w=⟨#[115,116,97,103,101]⟩)=decide (w=[115,116,97,103,101]):=Zaf _ _
 have e6:decide (bs w=⟨#[100,114,111,112]⟩)=decide (w=[100,114,111,112]):=Zaf _ _
 apply Wc.eq
 rw [Zr ZA4]
 unfold Ziw ZrA JI
 generalize (⟨#[108,111,97,100]⟩:ByteArray)=k1 at *
 generalize (⟨#[116,97,107,101]⟩:ByteArray)=k2 at *
 generalize (⟨#[109,111,118,101]⟩:ByteArray)=k3 at *
 generalize (⟨#[98,97,115,101]⟩:ByteArray)=k4 at *
 generalize (⟨#[115,116,97,103,101]⟩:ByteArray)=k5 at *
 generalize (⟨#[100,114,111,112]⟩:ByteArray)=k6 at *
 by_cases w1:w=[108,111,97,100]
 ·rw [decide_eq_true w1] at e1
  simp only [if_pos w1]
  simp (maxSteps:=2000000) +contextual only [e1,pp,go_sem,reduceIte,Ra,Rb,Rc,Rd]
 rw [decide_eq_false w1] at e1
 by_cases w2:w=[116,97,107,101]
 ·rw [decide_eq_true w2] at e2
  simp only [if_neg w1,if_pos w2]
  simp (maxSteps:=2000000) +contextual only [e1,e2,pp,go_sem,reduceIte,Ra,Rb,Rc,Rd]
 rw [decide_eq_false w2] at e2
 by_cases w3:w=[109,111,118,101]
 ·rw [decide_eq_true w3] at e3
  simp only [if_neg w1,if_neg w2,if_pos w3]
  simp (maxSteps:=2000000) +contextual only [e1,e2,e3,pp,go_sem,reduceIte,Ra,Rb,Rc,Rd]
 rw [decide_eq_false w3] at e3
 by_cases w4:w=[98,97,115,101]
 ·rw [decide_eq_true w4] at e4
  simp only [if_neg w1,if_neg w2,if_neg w3,if_pos w4]
  simp (maxSteps:=2000000) +contextual only [e1,e2,e3,e4,pp,go_sem,reduceIte,Ra,Rb,Rc,Rd]
 rw [decide_eq_false w4] at e4
 by_cases w5:w=[115,116,97,103,101]
 ·rw [decide_eq_true w5] at e5
  simp only [if_neg w1,if_neg w2,if_neg w3,if_neg w4,if_pos w5]
  simp (maxSteps:=2000000) +contextual only [e1,e2,e3,e4,e5,pp,go_sem,reduceIte,Ra,Rb,Rc,Rd]
 rw [decide_eq_false w5] at e5
 by_cases w6:w=[100,114,111,112]
 ·rw [decide_eq_true w6] at e6
  simp only [if_neg w1,if_neg w2,if_neg w3,if_neg w4,if_neg w5,if_pos w6]
  simp (maxSteps:=2000000) +contextual only [e1,e2,e3,e4,e5,e6,pp,go_sem,reduceIte,Ra,Rb,Rc,Rd]
 rw [decide_eq_false w6] at e6
 simp only [if_neg w1,if_neg w2,if_neg w3,if_neg w4,if_neg w5,if_neg w6]
 simp (maxSteps:=2000000) +contextual only [e1,e2,e3,e4,e5,e6,pp,go_sem,reduceIte,Ra,Rb,Rc,Rd]
theorem ZFL (w:By) (m:Nat):Zcj w m=if (m:Int)=(JI w).2 then (JI w).1 else 0:=by
 unfold Zcj ZmC JI TBk
 simp only [ZmC]
 by_cases w1:w=[108,111,97,100]
 ·subst w1;simp
 by_cases w2:w=[116,97,107,101]
 ·subst w2;simp
 by_cases w3:w=[109,111,118,101]
 ·subst w3;simp
 by_cases w4:w=[98,97,115,101]
 ·subst w4;simp
 by_cases w5:w=[115,116,97,103,101]
 ·subst w5;simp
 by_cases w6:w=[100,114,111,112]
 ·subst w6;simp
 simp [w1,w2,w3,w4,w5,w6]
theorem ZiX {L:List Blk} {b1 b2 n1 n2:Nat} {c1 c2:Option Nat} {cs1 cs2:List AV} {w1 w2:Bool} (a b t k:Int) (r:By) (hL:ZT H L) (e0 e1:Option Nat) (hc:clean H.length e1=true) (hb1:H.length≤b1) (hb2:H.length≤b2) (hne:b1≠b2) (h1:L[b1]?=some (.cells cs1 w1)) (h2:L[b2]?=some (.cells cs2 w2))
  (u1:(cs1.all fun c=>c.under H.length)=true) (u2:(cs2.all fun c=>c.under H.length)=true) :
  finish 2 H.length e0 (.tup [stV (slL b1 n1 c1) a b (slS b2 n2 c2) t k,sV r]) ⟨L,e1⟩=some (.tup [stV (slL H.length n1 c1) a b (slS (H.length+1) n2 c2) t k,sV r],⟨H++[.cells cs1 w1,.cells cs2 w2],e0⟩):=by
 obtain ⟨G,rfl⟩:=hL
 have hlt1:¬ b1<H.length:=by omega
 have hlt2:¬ b2<H.length:=by omega
 have hne':¬ b2=b1:=fun h=>hne h.symm
 have hr:XL (AV.roots H.length (.tup [stV (slL b1 n1 c1) a b (slS b2 n2 c2) t k,sV r]))=[b1,b2]:=by
  simp only [AV.roots,AV.roots.go,if_neg hlt1,if_neg hlt2,Ru,Rp,Rv]
  simp [XL,hne',hne]
 unfold finish
 simp only [hr]
 have h3:([b1,b2].all fun b=>Xa H.length (H++G)[b]?)=true:=by
  simp only [List.all_cons,List.all_nil,Bool.and_true,h1,h2,Xa,u1,u2,Bool.and_self]
 simp only [hc,h3,and_self,if_true]
 have hq:(b1==b2)=false:=by simpa using hne
 simp [AV.rename,AV.rename.go,ZbP,h1,h2,List.idxOf_cons,hlt1,hlt2,hq]
theorem Zfq {L:List Blk} {q1 q2 n1 n2:Nat} {c1 c2:Option Nat} (a b t k:Int) (r:By) (hL:ZT H L) (e0 e1:Option Nat) (hc:clean H.length e1=true) (h1:q1<H.length) (h2:q2<H.length) :
  finish 2 H.length e0 (.tup [stV (slL q1 n1 c1) a b (slS q2 n2 c2) t k,sV r]) ⟨L,e1⟩=some (.tup [stV (slL q1 n1 c1) a b (slS q2 n2 c2) t k,sV r],⟨H,e0⟩):=by
 obtain ⟨G,rfl⟩:=hL
 have hr:AV.roots H.length (.tup [stV (slL q1 n1 c1) a b (slS q2 n2 c2) t k,sV r])=[]:=by
  simp [AV.roots,AV.roots.go,h1,h2]
 unfold finish
 simp only [hr,hc]
 simp [XL,AV.rename,AV.rename.go,ZbP,h1,h2]
def doS (s:Sd) (k x y z:Int):Sd:=⟨Zj6 s.ls k x y,XI s.ss k x y z,Jr s.a k x,Jr s.b k y,Zfd s.ls s.a s.b s.t k x y,wr (s.c+1)⟩
def ZgS (s:Sd) (k:Int):By:=if k=5∨k=6 then Xi 47 [(ZB 1 1 s.ss:Int),(ZC 1 1 s.ss:Int)] else Lib.itoa (Zdp s.ls s.a s.b)
theorem Zoa {s:Sd} {k x y z:Int} (h:Zli s.ls s.ss s.a s.b s.t s.c k x y z=true):Yu (doS s k x y z).ls=true∧ZA (doS s k x y z).ss=true∧ZgX (doS s k x y z).a (doS s k x y z).b=true:=by
 unfold Zli ZnH at h
 simp only [Rs] at h
 obtain ⟨_,h1,h2,h3⟩:=h
 unfold JN at h3
 simp only [Rs] at h3
 refine ⟨h1,h2,?_⟩
 unfold doS ZgX at *
 simp only [Rs] at *
 exact h3.1
theorem Zcc {ss:List Sg} (hc:ZA ss=true):Zfk (ZB 1 1 ss:Int)∧Zfk (ZC 1 1 ss:Int):=by
 obtain ⟨a1,a2,b1,b2,_⟩:=Zad hc 0 (by omega)
 exact ⟨fit_small (by omega) (by omega),fit_small (by omega) (by omega)⟩
set_option maxHeartbeats 1000000 in
theorem Zxa {q1 q2:Nat} {c1 c2:Option Nat} {s:Sd} (h1:Zb H q1=some (Zn s.ls)) (h2:Zb H q2=some (Zw s.ss)) (hn:s.ls.length≤1048575) (hm:s.ss.length≤1048575) (k x y z:Int) :
  Wc (call T pr ZfH [stV (slL q1 s.ls.length c1) s.a s.b (slS q2 s.ss.length c2) s.t s.c,tkV k x y z] ⟨H,e⟩) (fun v m=>if Zli s.ls s.ss s.a s.b s.t s.c k x y z=true then
   (v=.tup [stV (slL H.length (doS s k x y z).ls.length none) (doS s k x y z).a (doS s k x y z).b (slS (H.length+1) (doS s k x y z).ss.length none) (doS s k x y z).t (doS s k x y z).c,sV (ZgS (doS s k x y z) k)]∧m=⟨H++[.cells (Zn (doS s k x y z).ls) true,.cells (Zw (doS s k x y z).ss) true],e⟩)
   else (v=.tup [stV (slL q1 s.ls.length c1) s.a s.b (slS q2 s.ss.length c2) s.t s.c,sV [63]]∧m=⟨H,e⟩)):=by
 have hlt1:q1<H.length:=ZW h1
 have hlt2:q2<H.length:=ZW h2
 have hdo:=fun L e' (g1:Zb L q1=some (Zn s.ls)) (g2:Zb L q2=some (Zw s.ss))=>ZEz (pr:=pr) (e:=e') (c1:=c1) (c2:=c2) g1 g2 hn hm s.a s.b s.t s.c k x y z
 rw [Zr ZxZ]
 cases hok:Zli s.ls s.ss s.a s.b s.t s.c k x y z with
 | false=>
  rw [hok] at hdo
  simp only [ZgB,RZ,if_false] at hdo ⊢
  simp (maxSteps:=2000000) +contextual only [Q2,Zc9,Zc,hdo,Za h1,Za h2,pp,go_sem,reduceIte,Ra,Rb,Rc,Rd]
  refine Wc.of_eq (Zfq (c1:=c1) (c2:=c2) (n1:=s.ls.length) (n2:=s.ss.length) s.a s.b s.t s.c [63] ⟨_,rfl⟩ e _ ?_ hlt1 hlt2) ⟨rfl,rfl⟩
  have m1:∀ k,H.length≤k→clean H.length (Z8 none k)=true:=fun k hk=>Zj rfl hk
  exact Zk _ (Zk _ rfl (m1 _ (by omega))) (Zj (Zk _ rfl (m1 _ (by omega))) (by omega))
 | true=>
  have hfa:=Zoa hok
  rw [hok] at hdo
  have hdo':∀ L e',Zb L q1=some (Zn s.ls)→Zb L q2=some (Zw s.ss)→call T pr Zhh [stV (slL q1 s.ls.length c1) s.a s.b (slS q2 s.ss.length c2) s.t s.c,tkV k x y z] ⟨L,e'⟩ =
   some (.tup [stV (slL L.length (doS s k x y z).ls.length none) (doS s k x y z).a (doS s k x y z).b (slS (L.length+1) (doS s k x y z).ss.length none) (doS s k x y z).t (doS s k x y z).c,.bool true],⟨L++[.cells (Zn (doS s k x y z).ls) true,.cells (Zw (doS s k x y z).ss) true],e'⟩):=hdo
  clear hdo
  simp only [if_true]
  generalize doS s k x y z=s' at *
  obtain ⟨hr,hc,hb⟩:=hfa
  have hch:=fun L e' q (g:Zb L q=some (Zw s'.ss))=>Zgw (pr:=pr) (e:=e') (c:=none) g hc
  have hpa:=fun L e'=>ZgO (pr:=pr) (H:=L) (e:=e') (ZB 1 1 s'.ss) (ZC 1 1 s'.ss) (Zcc hc).1 (Zcc hc).2 true
  simp only [if_true] at hpa
  have hrl:=Zca hr
  have hsi:=fun L e' q (g:Zb L q=some (Zn s'.ls))=>Zmg (pr:=pr) (e:=e') (c:=none) g (by omega) s'.a s'.b
  have hnu:=fun L e'=>XD (pr:=pr) (H:=L) (e:=e') (Zdp s'.ls s'.a s'.b) (ZaY _ _ _).1 (ZaY _ _ _).2
  by_cases hk5:k=5
  ·have hsay:ZgS s' k=Xi 47 [(ZB 1 1 s'.ss:Int),(ZC 1 1 s'.ss:Int)]:=if_pos (.inl hk5)
   rw [hsay]
   subst hk5
   simp (maxSteps:=2000000) +contextual only [Q2,Zc9,Zc,hdo',Za h1,Za h2,hch,hpa,RD,decide_true,decide_false,pp,go_sem,reduceIte,Ra,Rb,Rc,Rd]
   refine Wc.of_eq (ZiX (w1:=true) (w2:=true) (cs1:=Zn s'.ls) (cs2:=Zw s'.ss) (b1:=H.length+3) (b2:=H.length+4) (c1:=none) (c2:=none) (n1:=s'.ls.length) (n2:=s'.ss.length) s'.a s'.b s'.t s'.c _ ⟨_,rfl⟩ e _ ?_ (by omega) (by omega) (by omega) (by rw [Ry (by omega),show H.length+3 - H.length=3 by omega];rfl) (by rw [Ry (by omega),show H.length+4 - H.length=4 by omega];rfl) (ZS _ _) (Z0 _ _)) ⟨rfl,rfl⟩
   exact Zk _ (Zk _ rfl (Zj rfl (by omega))) (Zj (Zk _ rfl (Zj rfl (by omega))) (by omega))
  ·by_cases hk6:k=6
   ·have hsay:ZgS s' k=Xi 47 [(ZB 1 1 s'.ss:Int),(ZC 1 1 s'.ss:Int)]:=if_pos (.inr hk6)
    rw [hsay]
    subst hk6
    simp (maxSteps:=2000000) +contextual only [Q2,Zc9,Zc,hdo',Za h1,Za h2,hch,hpa,RD,decide_true,decide_false,show ¬ (6:Int)=5 by decide,pp,go_sem,reduceIte,Ra,Rb,Rc,Rd]
    refine Wc.of_eq (ZiX (w1:=true) (w2:=true) (cs1:=Zn s'.ls) (cs2:=Zw s'.ss) (b1:=H.length+3) (b2:=H.length+4) (c1:=none) (c2:=none) (n1:=s'.ls.length) (n2:=s'.ss.length) s'.a s'.b s'.t s'.c _ ⟨_,rfl⟩ e _ ?_ (by omega) (by omega) (by omega) (by rw [Ry (by omega),show H.length+3 - H.length=3 by omega];rfl) (by rw [Ry (by omega),show H.length+4 - H.length=4 by omega];rfl) (ZS _ _) (Z0 _ _)) ⟨rfl,rfl⟩
    exact Zk _ (Zk _ rfl (Zj rfl (by omega))) (Zj (Zk _ rfl (Zj rfl (by omega))) (by omega))
   ·have hsay:ZgS s' k=Lib.itoa (Zdp s'.ls s'.a s'.b):=if_neg (fun h=>h.elim hk5 hk6)
    rw [hsay]
    simp (maxSteps:=2000000) +contextual only [Q2,Zc9,Zc,hdo',Za h1,Za h2,hk5,hk6,hsi,hnu,RD,decide_true,decide_false,pp,go_sem,reduceIte,Ra,Rb,Rc,Rd]
    refine Wc.of_eq (ZiX (w1:=true) (w2:=true) (cs1:=Zn s'.ls) (cs2:=Zw s'.ss) (b1:=H.length+3) (b2:=H.length+4) (c1:=none) (c2:=none) (n1:=s'.ls.length) (n2:=s'.ss.length) s'.a s'.b s'.t s'.c _ ⟨_,rfl⟩ e _ ?_ (by omega) (by omega) (by omega) (by rw [Ry (by omega),show H.length+3 - H.length=3 by omega];rfl) (by rw [Ry (by omega),show H.length+4 - H.length=4 by omega];rfl) (ZS _ _) (Z0 _ _)) ⟨rfl,rfl⟩
    exact Zk _ (Zk _ rfl (Zj rfl (by omega))) (Zj (Zk _ rfl (Zj rfl (by omega))) (by omega))
def Sd.std (s:Sd):Bool:=Zcm s.ls s.ss s.a s.b s.t s.c
def execP (s:Sd) (w:By) (zs:List Int):Option Sd×Option By :=
 if 0<Zcj w zs.length then
  (if Zli s.ls s.ss s.a s.b s.t s.c (Zcj w zs.length) (zs.getD 0 0) (zs.getD 1 0) (zs.getD 2 0)=true then (some (doS s (Zcj w zs.length) (zs.getD 0 0) (zs.getD 1 0) (zs.getD 2 0)),some (ZgS (doS s (Zcj w zs.length) (zs.getD 0 0) (zs.getD 1 0) (zs.getD 2 0)) (Zcj w zs.length))) else (none,none))
 else (none,askAllW s.ls s.a s.b s.ss s.t w zs)
def Zrg (s:Sd):List By→Option Sd×Option By
 | []=>(none,none)
 | w::ws=>match Zcb ws with
  | none=>(none,none)
  | some zs=>execP s w zs
def Kb (s:Sd) (cmd:By):Option Sd×Option By:=Zrg s (ZX 32 cmd)
theorem Zsw (c:UInt8):∀ l:By,(ZX c l).length=1→ZX c l=[l]
 | [],_=>rfl
 | b::l,h=>by
  rw [ZX] at h ⊢
  split at h
  ·rename_i hb
   have:=ZhS c l
   have h1:0<(ZX c l).length:=WZ.mpr this
   simp only [RN] at h
   omega
  ·rename_i hb
   rw [if_neg hb]
   have ih:=Zsw c l
   cases hs:ZX c l with
   | nil=>exact absurd hs (ZhS c l)
   | cons x xs=>
    rw [hs] at h ih
    simp only [RN] at h ih
    have hx:xs=[]:=List.length_eq_zero_iff.mp (by omega)
    subst hx
    have:=ih rfl
    simp only [List.cons.injEq,and_true] at this
    rw [this]
theorem ZG3 (s:Sd) (w:By):execP s w []=(none,askW s.ls s.a s.b s.ss s.t w):=by
 have h0:Zcj w ([]:List Int).length=0:=by
  unfold Zcj TBk
  simp [ZmC]
 unfold execP
 rw [h0,if_neg (by omega)]
 unfold askAllW
 congr 1
 by_cases w1:w=[119,101,105,103,104]
 ·subst w1;simp [askW,Zch,Zqd]
 ·by_cases w2:w=[104,111,119]
  ·subst w2;simp [askW,ZIN]
  ·rw [if_neg w1,if_neg w2]
def ZC7 (H:List Blk) (e:Option Nat) (s:Sd) (q1 q2:Nat) (c1 c2:Option Nat) (r:Option Sd×Option By) (v:AV) (m:Mem):Prop :=
 match r.1 with
 | some s'=>v=.tup [stV (slL H.length s'.ls.length none) s'.a s'.b (slS (H.length+1) s'.ss.length none) s'.t s'.c,sV (r.2.getD [63])]∧m=⟨H++[.cells (Zn s'.ls) true,.cells (Zw s'.ss) true],e⟩
 | none=>v=.tup [stV (slL q1 s.ls.length c1) s.a s.b (slS q2 s.ss.length c2) s.t s.c,sV (r.2.getD [63])]∧m=⟨H,e⟩
theorem Zh8 (c:UInt8):∀ (l:By),∀ x∈ZX c l,x.length≤l.length
 | [],x,h=>by simp [ZX] at h;subst h;simp
 | b::l,x,h=>by
  have ih:=Zh8 c l
  rw [ZX] at h
  split at h
  ·rcases R6.mp h with rfl | h
   ·simp
   ·have:=ih x h;simp only [RN];omega
  ·split at h
   ·simp only [R3] at h;subst h;simp
   ·rename_i y ys hs
    rw [hs] at ih
    rcases R6.mp h with rfl | h
    ·have:=ih y List.mem_cons_self;simp only [RN];omega
    ·have:=ih x (Wt _ h);simp only [RN];omega
set_option maxHeartbeats 2000000 in
theorem Zxb {q1 q2:Nat} {c1 c2:Option Nat} {s:Sd} (h1:Zb H q1=some (Zn s.ls)) (h2:Zb H q2=some (Zw s.ss)) (hs:s.std=true) (cmd:By) (hcm:cmd.length≤900000) :
  Wc (call T pr ZfB [stV (slL q1 s.ls.length c1) s.a s.b (slS q2 s.ss.length c2) s.t s.c,sV cmd] ⟨H,e⟩) (ZC7 H e s q1 q2 c1 c2 (Kb s cmd)):=by
 have hlt1:q1<H.length:=ZW h1
 have hlt2:q2<H.length:=ZW h2
 obtain ⟨hr,hc,hb,hss,hls,ht1,ht2,hk1,hk2,hre⟩:=XF hs
 have hsp:=fun L e'=>ZpR (pr:=pr) (H:=L) (e:=e') cmd 32 (by omega)
 have hlen:=ZiO 32 cmd
 have hpl:=Zh8 32 cmd
 have hne:=ZhS 32 cmd
 have hpos:0<(ZX 32 cmd).length:=WZ.mpr hne
 have h32:((32:UInt8).toNat:Int)=32:=rfl
 rw [h32] at hsp
 rw [Zr ZxP]
 by_cases hone:(ZX 32 cmd).length=1
 ·have hsc:=Zsw 32 cmd hone
  have hone':(((ZX 32 cmd).length:Nat):Int)=1:=by omega
  have hx:Kb s cmd=(none,askW s.ls s.a s.b s.ss s.t cmd):=by
   unfold Kb
   rw [hsc]
   exact ZG3 s cmd
  have htl:=fun L e' g1 g2=>ZzK (pr:=pr) (H:=L) (e:=e') (c1:=c1) (c2:=c2) (q1:=q1) (q2:=q2) g1 g2 hs cmd
  rw [hx]
  unfold ZC7
  simp (maxSteps:=2000000) +contextual only [Zc8,ZjG,Zc,hsp,hone',htl,Za h1,Za h2,decide_true,RD,pp,go_sem,reduceIte,Ra,Rb,Rc,Rd]
  refine Wc.of_eq (Zfq (c1:=c1) (c2:=c2) (n1:=s.ls.length) (n2:=s.ss.length) s.a s.b s.t s.c _ ⟨_,rfl⟩ e _ ?_ hlt1 hlt2) ⟨rfl,rfl⟩
  exact Zk _ rfl (Zj rfl (by omega))
 ·have hone':¬ (((ZX 32 cmd).length:Nat):Int)=1:=by omega
  have hx:Kb s cmd=Zrg s (ZX 32 cmd):=rfl
  rw [hx]
  generalize ZX 32 cmd=ps at *
  simp (maxSteps:=2000000) +contextual only [Zc8,ZjG,Zc,hsp,hone',decide_false,RD,pp,go_sem,reduceIte,Ra,Rb,Rc,Rd]
  refine (Zw9 (q:=H.length+2) (Ze (w:=true) (by rw [Ry (by omega),show H.length+2 - H.length=2 by omega];rfl)) (by omega) (by omega) (fun w hw=>by have:=hpl w hw;omega)).mono ?_
  obtain ⟨w,ws,rfl⟩:∃ w ws,ps=w::ws:=by
   cases ps with
   | nil=>exact absurd rfl hne
   | cons w ws=>exact ⟨w,ws,rfl⟩
  have hxl:Zrg s (w::ws)=match Zcb ws with | none=>(none,none) | some zs=>execP s w zs:=rfl
  have hnl:=fun zs=>Zw8 (ws:=ws) (zs:=zs)
  simp only [RN] at hone' hlen
  rw [hxl,List.tail_cons]
  generalize Zcb ws=o at *
  rintro v m hv
  cases o with
  | none=>
   obtain ⟨G,c,rfl,rfl⟩:=hv
   unfold ZC7
   simp (maxSteps:=2000000) +contextual only [Rk,Rp,Ru,RX,RN,Wk,WW,RD,pp,go_sem,reduceIte,Ra,Rb,Rc,Rd]
   refine Wc.of_eq (Zfq (c1:=c1) (c2:=c2) (n1:=s.ls.length) (n2:=s.ss.length) s.a s.b s.t s.c _ ⟨_,rfl⟩ e _ ?_ hlt1 hlt2) ⟨rfl,rfl⟩
   exact Zk _ rfl (Zj rfl (by omega))
  | some zs=>
   obtain ⟨rfl,rfl⟩:=hv
   have hzl:=hnl zs rfl
   have hz0:zs≠[]:=by intro h;subst h;simp at hzl;omega
   have htk:=fun L e' (g:Zb L (H.length+3)=some (ZR zs))=>ZzO (pr:=pr) (e:=e') g hz0 (by omega) w
   have hp0:∀ sz,Zcn false (Zcd (w::ws)) 0 sz=some (sV w):=fun sz=>Y2 sz rfl
   have hl0:(0:Int)<((ws.length+1:Nat):Int):=by omega
   by_cases hk:0<Zcj w zs.length
   ·have htv:ZFK (Zcj w zs.length) zs=tkV (Zcj w zs.length) (zs.getD 0 0) (zs.getD 1 0) (zs.getD 2 0):=if_pos hk
    have hxp:execP s w zs=(if Zli s.ls s.ss s.a s.b s.t s.c (Zcj w zs.length) (zs.getD 0 0) (zs.getD 1 0) (zs.getD 2 0)=true then (some (doS s (Zcj w zs.length) (zs.getD 0 0) (zs.getD 1 0) (zs.getD 2 0)),some (ZgS (doS s (Zcj w zs.length) (zs.getD 0 0) (zs.getD 1 0) (zs.getD 2 0)) (Zcj w zs.length))) else (none,none)):=if_pos hk
    rw [htv] at htk
    generalize Zcj w zs.length=k at *
    generalize zs.getD 0 0=x at *
    generalize zs.getD 1 0=y at *
    generalize zs.getD 2 0=z at *
    simp (maxSteps:=2000000) +contextual only [Rk,Rp,Ru,RX,RN,Wk,WW,RD,htk,hp0,hl0,hxp,Za2,Zbt,Zbu,R9,RH,RJ,gt_iff_lt,hk,Zc,decide_true,pp,go_sem,reduceIte,Ra,Rb,Rc,Rd]
    refine (Zxa (Za h1 _) (Za h2 _) (by omega) (by omega) k x y z).mono ?_
    rintro v m hv
    unfold ZC7
    cases hd:Zli s.ls s.ss s.a s.b s.t s.c k x y z with
    | false=>
     simp only [hd,RZ,if_false] at hv ⊢
     obtain ⟨rfl,rfl⟩:=hv
     simp (maxSteps:=2000000) +contextual only [Rk,Rp,Ru,RX,RN,Wk,WW,RD,pp,go_sem,reduceIte,Ra,Rb,Rc,Rd]
     refine Wc.of_eq (Zfq (c1:=c1) (c2:=c2) (n1:=s.ls.length) (n2:=s.ss.length) s.a s.b s.t s.c _ ⟨_,rfl⟩ e _ ?_ hlt1 hlt2) ⟨rfl,rfl⟩
     exact Zk _ rfl (Zj rfl (by omega))
    | true=>
     simp only [hd,if_true] at hv ⊢
     obtain ⟨rfl,rfl⟩:=hv
     generalize doS s k x y z=s' at *
     simp (maxSteps:=2000000) +contextual only [Rk,Rp,Ru,RX,RN,Wk,WW,RD,pp,go_sem,reduceIte,Ra,Rb,Rc,Rd]
     refine Wc.of_eq (ZiX (w1:=true) (w2:=true) (cs1:=Zn s'.ls) (cs2:=Zw s'.ss) (b1:=H.length+5) (b2:=H.length+6) (c1:=none) (c2:=none) (n1:=s'.ls.length) (n2:=s'.ss.length) s'.a s'.b s'.t s'.c _ ⟨_,rfl⟩ e _ ?_ (by omega) (by omega) (by omega) (by rw [Ry (by omega),show H.length+5 - H.length=5 by omega];rfl) (by rw [Ry (by omega),show H.length+6 - H.length=6 by omega];rfl) (ZS _ _) (Z0 _ _)) ⟨rfl,rfl⟩
     exact Zk _ rfl (Zj rfl (by omega))
   ·have htv:ZFK (Zcj w zs.length) zs=tkV 0 0 0 0:=if_neg hk
    have hxp:execP s w zs=(none,askAllW s.ls s.a s.b s.ss s.t w zs):=if_neg hk
    rw [htv] at htk
    have hak:∀ L e',Zb L q1=some (Zn s.ls)→Zb L q2=some (Zw s.ss)→Zb L (H.length+3)=some (ZR zs)→call T pr ZeU [stV (slL q1 s.ls.length c1) s.a s.b (slS q2 s.ss.length c2) s.t s.c,sV w,slI (H.length+3) zs.length none] ⟨L,e'⟩=some (sV ((askAllW s.ls s.a s.b s.ss s.t w zs).getD [63]),⟨L,e'⟩):=by
     intro L e' g1 g2 g3
     cases zs with
     | nil=>exact absurd rfl hz0
     | cons n zs'=>exact ZC6 g1 g2 g3 hs (by simp only [RN] at hzl;omega) w
    unfold ZC7
    simp (maxSteps:=2000000) +contextual only [hak,Za h1,Za h2,Rk,Rp,Ru,RX,RN,Wk,WW,RD,htk,hp0,hl0,hxp,Za2,Zbt,Zbu,R9,RH,RJ,gt_iff_lt,Int.lt_irrefl,Zc,decide_true,decide_false,pp,go_sem,reduceIte,Ra,Rb,Rc,Rd]
    refine Wc.of_eq (Zfq (c1:=c1) (c2:=c2) (n1:=s.ls.length) (n2:=s.ss.length) s.a s.b s.t s.c _ ⟨_,rfl⟩ e _ ?_ hlt1 hlt2) ⟨rfl,rfl⟩
    exact Zk _ rfl (Zj rfl (by omega))
theorem ZIx {zs:List Int} (h:zs≠[]):(zs++[0,0,0])[0]?=some (zs.getD 0 0)∧(zs++[0,0,0])[1]?=some (zs.getD 1 0)∧(zs++[0,0,0])[2]?=some (zs.getD 2 0):=by
 match zs,h with
 | [a],_=>exact ⟨rfl,rfl,rfl⟩
 | [a,b],_=>exact ⟨rfl,rfl,rfl⟩
 | a::b::c::r,_=>exact ⟨rfl,rfl,rfl⟩
def ZdF (n:Nat) (L:List Blk) (e:Option Nat) (u:Nat) (rest:List AV) (r:Option Sd×Option By) (v:AV) (m:Mem):Prop :=
 ∃ (L':List Blk) (e':Option Nat),m=⟨L',e'⟩∧ZG0 r.2 v∧(∀ i,i<n→i≠u→L'[i]?=L[i]?)∧L.length≤L'.length∧(∀ B,B≤u→clean B e=true→clean B e'=true) ∧
  match r.1 with
  | some s'=>∃ p1 p2:Nat,n≤p1∧n≤p2∧p1≠p2∧L'[u]?=some (.cells (sdL (slL p1 s'.ls.length none) s'.a s'.b (slS p2 s'.ss.length none) s'.t s'.c rest) true)∧L'[p1]?=some (.cells (Zn s'.ls) true)∧L'[p2]?=some (.cells (Zw s'.ss) true)
  | none=>L'[u]?=L[u]?
set_option maxHeartbeats 2000000 in
theorem Zxc (hl:ZlH pr) {u q1 q2 qn:Nat} {c1 c2:Option Nat} {s:Sd} {rest:List AV} {zs:List Int} (hu:H[u]?=some (.cells (sdL (slL q1 s.ls.length c1) s.a s.b (slS q2 s.ss.length c2) s.t s.c rest) true)) (h1:Zb H q1=some (Zn s.ls)) (h2:Zb H q2=some (Zw s.ss)) (hn:H[qn]?=some (.cells (ZR zs) true)) (hnu:qn≠u) (hq1:q1≠qn) (hq2:q2≠qn) (hz0:zs≠[]) (hz:zs.length≤1000000) (hs:s.std=true) (k:Int) {n:Nat} (hnq:n≤qn) (hun:u<n) :
  Wc (call T pr KT [.ptr (some (u,0)),.int .i64 k,slI qn zs.length none] ⟨H,e⟩) (ZdF n H e u rest (if Zli s.ls s.ss s.a s.b s.t s.c k (zs.getD 0 0) (zs.getD 1 0) (zs.getD 2 0)=true then (some (doS s k (zs.getD 0 0) (zs.getD 1 0) (zs.getD 2 0)),some (ZgS (doS s k (zs.getD 0 0) (zs.getD 1 0) (zs.getD 2 0)) k)) else (none,none))):=by
 obtain ⟨hr,hc,hb,hss,hls,ht1,ht2,hk1,hk2,hre⟩:=XF hs
 have hul:u<H.length:=(Wl.mp hu).1
 have hst:ZnH s.ls s.ss s.a s.b s.t s.c=true:=hs
 obtain ⟨o1,o2,o3⟩:=ZIx hz0
 rw [Zr Zl6]
 simp (maxSteps:=2000000) +contextual only [Yq,Ze1,Zc,pp,go_sem,reduceIte,Ra,Rb,Rc,Rd]
 refine Zi3 (k:=3) (new:=[.int .i64 0,.int .i64 0,.int .i64 0]) (cs:=ZR zs) (ZY hn _) (Qx _ 3 1 _ _ H.length (by simp +contextual only [go_sem,reduceIte,Ra,Rb,Rc,Rd]) rfl) (by simp [ZR]) rfl (by unfold maxBytes;omega) (by simp) ?_
 intro L2 g1 g2 g3 g4
 have hqnl:qn<H.length:=(Wl.mp hn).1
 have hl2:L2.length=H.length+2:=by rw [g1];simp
 have hq1l:q1<H.length:=ZW h1
 have hq2l:q2<H.length:=ZW h2
 have keep:∀ i,i<H.length→i≠qn→L2[i]?=H[i]?:=fun i hi hq=>by
  rw [g2 i hq (by simp;omega),Ws hi]
 have hu2:L2[u]?=some (.cells (sdL (slL q1 s.ls.length c1) s.a s.b (slS q2 s.ss.length c2) s.t s.c rest) true):=by rw [keep u hul (Ne.symm hnu)];exact hu
 have hu2c:∀ G,Zb (L2++G) u=some (sdL (slL q1 s.ls.length c1) s.a s.b (slS q2 s.ss.length c2) s.t s.c rest):=fun G=>Za (Ze hu2) G
 have hu3:∀ G,(L2++G)[u]?=some (.cells (sdL (slL q1 s.ls.length c1) s.a s.b (slS q2 s.ss.length c2) s.t s.c rest) true):=fun G=>ZY hu2 G
 have h12:Zb L2 q1=some (Zn s.ls):=by unfold Zb at h1 ⊢;rw [keep q1 hq1l hq1];exact h1
 have h22:Zb L2 q2=some (Zw s.ss):=by unfold Zb at h2 ⊢;rw [keep q2 hq2l hq2];exact h2
 have g3':Zb L2 (H.length+1)=some (ZR (zs++[0,0,0])):=by
  refine Ze (w:=true) ?_
  have:ZR zs++[.int .i64 0,.int .i64 0,.int .i64 0]=ZR (zs++[0,0,0]):=by simp [ZR]
  rw [←this]
  simpa using g3
 have g3m:∀ G,Zb (L2++G) (H.length+1)=some (ZR (zs++[0,0,0])):=fun G=>Za g3' G
 have hx0:(0:Int)<((zs.length+3:Nat):Int):=by omega
 have hx1:(1:Int)<((zs.length+3:Nat):Int):=by omega
 have hx2:(2:Int)<((zs.length+3:Nat):Int):=by omega
 have i02:(0:Int)≤2:=by decide
 have t2:Int.toNat 2=2:=rfl
 have p1:=fun sz=>Zu sz o1
 have p2:=fun sz=>Zu sz o2
 have p3:=fun sz=>Zu sz o3
 generalize zs.getD 0 0=x at *
 generalize zs.getD 1 0=y at *
 generalize zs.getD 2 0=z at *
 have hdo:=fun L e' (f1:Zb L q1=some (Zn s.ls)) (f2:Zb L q2=some (Zw s.ss))=>ZCv (pr:=pr) (e:=e') (c1:=c1) (c2:=c2) hl.del f1 f2 (by omega) (by omega) k x y z hst
 cases hok:Zli s.ls s.ss s.a s.b s.t s.c k x y z with
 | false=>
  rw [hok] at hdo
  simp only [ZgB,RZ,if_false] at hdo ⊢
  simp (maxSteps:=2000000) +contextual only [Yq,Zy,Zs,hu2c,Ze hu2,h12,h22,g3',g3m,hx0,hx1,hx2,i02,t2,and_self,p1,p2,p3,hdo,Zc,Za2,Zbt,Zbu,R9,RH,RI,RJ,Rx,finish,pp,go_sem,reduceIte,Ra,Rb,Rc,Rd]
  exact ⟨_,joinEsc e (if (AV.under (L2.length+1) (AV.slice none 0 0 none)&&AV.under (L2.length+1) (AV.slice none 0 0 none))=true then none else Z8 none L2.length),rfl,⟨[],rfl,fun y h=>absurd h (by simp)⟩,fun i hi hne=>by rw [Ws (by omega)];exact keep i (by omega) (by omega),by rw [RX];omega,fun B hB hc=>Yk hc (Zk _ rfl (Zj rfl (by omega))),by rw [Ws (by omega),hu2,hu]⟩
 | true=>
  have hfa:=Zoa hok
  rw [hok] at hdo
  have hdo':∀ L e',Zb L q1=some (Zn s.ls)→Zb L q2=some (Zw s.ss)→call T pr Xv [stV (slL q1 s.ls.length c1) s.a s.b (slS q2 s.ss.length c2) s.t s.c,tkV k x y z] ⟨L,e'⟩ =
   some (.tup [stV (slL L.length (doS s k x y z).ls.length none) (doS s k x y z).a (doS s k x y z).b (slS (L.length+1) (doS s k x y z).ss.length none) (doS s k x y z).t (doS s k x y z).c,.bool true],⟨L++[.cells (Zn (doS s k x y z).ls) true,.cells (Zw (doS s k x y z).ss) true],e'⟩):=hdo
  clear hdo
  simp only [if_true]
  generalize doS s k x y z=s' at *
  obtain ⟨hr',hc',hb'⟩:=hfa
  have hset:∀ (X:List AV) (G:List Blk),Zb ((L2++G).set u (.cells X true)) u=some X:=fun X G=>Ze (w:=true) (by rw [WK (by rw [RX];omega)])
  have hcL:∀ (X:Blk) (G:List Blk),Zb ((L2++Blk.cells (Zn s'.ls) true::G).set u X) L2.length=some (Zn s'.ls):=fun X G=>Ze (w:=true) (by rw [Wz (by omega),Ry (Rq _),WG];rfl)
  have hcS:∀ (X B:Blk) (G:List Blk),Zb ((L2++B::Blk.cells (Zw s'.ss) true::G).set u X) (L2.length+1)=some (Zw s'.ss):=fun X B G=>Ze (w:=true) (by rw [Wz (by omega),Ry (by omega),show L2.length+1 - L2.length=1 by omega];rfl)
  have hrl:=Zca hr'
  have hss':s'.ss.length≤5:=by
   have:=hc'
   unfold ZA at this
   rw [Rs,decide_eq_true_eq] at this
   omega
  have hch:=fun L e' (g:Zb L (L2.length+1)=some (Zw s'.ss))=>ZnM (pr:=pr) (e:=e') (c:=none) g hc' (by omega)
  have hpa:=fun L e'=>QX (pr:=pr) (H:=L) (e:=e') hl.all.ito hl.all.joi (ZB 1 1 s'.ss) (ZC 1 1 s'.ss) (Zcc hc').1 (Zcc hc').2 true
  have hsi:=fun L e' (g:Zb L L2.length=some (Zn s'.ls))=>Zjv (pr:=pr) (e:=e') (c:=none) g (by omega) s'.a s'.b hr' hb'
  have hnu':=fun L e'=>ZP (pr:=pr) (H:=L) (e:=e') hl.all.ito (Zdp s'.ls s'.a s'.b) (ZaY _ _ _) true
  by_cases hk5:k=5
  ·have hsay:ZgS s' k=Xi 47 [(ZB 1 1 s'.ss:Int),(ZC 1 1 s'.ss:Int)]:=if_pos (.inl hk5)
   rw [hsay]
   subst hk5
   simp (maxSteps:=2000000) +contextual only [Yq,Zy,Zs,hu2c,Ze hu2,h12,h22,g3',g3m,hx0,hx1,hx2,i02,t2,and_self,p1,p2,p3,hdo',hu3,hset,hcL,hcS,Zc,Za2,Zbt,Zbu,R9,RH,RI,RJ,Rx,finish,RD,hch,hpa,decide_true,pp,go_sem,reduceIte,Ra,Rb,Rc,Rd]
   refine ⟨_,joinEsc e _,rfl,⟨_,rfl,fun y h=>by rw [←WH h]⟩,fun i hi hne => ?_,by rw [WX,RX];omega,fun B hB hc=>Yk hc (Zk _ (Zk _ rfl (Zj rfl (by omega))) (Zj (Zk _ rfl (Zj rfl (by omega))) hB)),L2.length,L2.length+1,by omega,by omega,by omega,?_,?_,?_⟩
   ·rw [Wz (by omega),Ws (by omega)];exact keep i (by omega) (by omega)
   ·rw [WK (by rw [RX];omega)]
   ·rw [Wz (by omega),Ry (Rq _),WG];rfl
   ·rw [Wz (by omega),Ry (by omega),show L2.length+1 - L2.length=1 by omega];rfl
  ·by_cases hk6:k=6
   ·have hsay:ZgS s' k=Xi 47 [(ZB 1 1 s'.ss:Int),(ZC 1 1 s'.ss:Int)]:=if_pos (.inr hk6)
    rw [hsay]
    subst hk6
    simp (maxSteps:=2000000) +contextual only [Yq,Zy,Zs,hu2c,Ze hu2,h12,h22,g3',g3m,hx0,hx1,hx2,i02,t2,and_self,p1,p2,p3,hdo',hu3,hset,hcL,hcS,Zc,Za2,Zbt,Zbu,R9,RH,RI,RJ,Rx,finish,RD,hch,hpa,decide_true,decide_false,show ¬ (6:Int)=5 by decide,pp,go_sem,reduceIte,Ra,Rb,Rc,Rd]
    refine ⟨_,joinEsc e _,rfl,⟨_,rfl,fun y h=>by rw [←WH h]⟩,fun i hi hne => ?_,by rw [WX,RX];omega,fun B hB hc=>Yk hc (Zk _ (Zk _ rfl (Zj rfl (by omega))) (Zj (Zk _ rfl (Zj rfl (by omega))) hB)),L2.length,L2.length+1,by omega,by omega,by omega,?_,?_,?_⟩
    ·rw [Wz (by omega),Ws (by omega)];exact keep i (by omega) (by omega)
    ·rw [WK (by rw [RX];omega)]
    ·rw [Wz (by omega),Ry (Rq _),WG];rfl
    ·rw [Wz (by omega),Ry (by omega),show L2.length+1 - L2.length=1 by omega];rfl
   ·have hsay:ZgS s' k=Lib.itoa (Zdp s'.ls s'.a s'.b):=if_neg (fun h=>h.elim hk5 hk6)
    rw [hsay]
    simp (maxSteps:=2000000) +contextual only [Yq,Zy,Zs,hu2c,Ze hu2,h12,h22,g3',g3m,hx0,hx1,hx2,i02,t2,and_self,p1,p2,p3,hdo',hu3,hset,hcL,hcS,Zc,Za2,Zbt,Zbu,R9,RH,RI,RJ,Rx,finish,RD,hk5,hk6,hsi,hnu',decide_true,decide_false,pp,go_sem,reduceIte,Ra,Rb,Rc,Rd]
    refine ⟨_,joinEsc e _,rfl,⟨_,rfl,fun y h=>by rw [←WH h]⟩,fun i hi hne => ?_,by rw [WX,RX];omega,fun B hB hc=>Yk hc (Zk _ (Zk _ rfl (Zj rfl (by omega))) (Zj (Zk _ rfl (Zj rfl (by omega))) hB)),L2.length,L2.length+1,by omega,by omega,by omega,?_,?_,?_⟩
    ·rw [Wz (by omega),Ws (by omega)];exact keep i (by omega) (by omega)
    ·rw [WK (by rw [RX];omega)]
    ·rw [Wz (by omega),Ry (Rq _),WG];rfl
    ·rw [Wz (by omega),Ry (by omega),show L2.length+1 - L2.length=1 by omega];rfl
theorem ZG4 {w:By} (h:0<(JI w).1) (ls:List Ld) (a b:Int) (ss:List Sg) (t:Int) (zs:List Int):askAllW ls a b ss t w zs=none:=by
 have key:∀ w:By,w=[108,111,97,100]∨w=[116,97,107,101]∨w=[109,111,118,101]∨w=[98,97,115,101]∨w=[115,116,97,103,101]∨w=[100,114,111,112]→askAllW ls a b ss t w zs=none:=by
  intro w hw
  match zs with
  | []=>rcases hw with rfl | rfl | rfl | rfl | rfl | rfl <;> simp [askAllW,askW]
  | [n]=>rcases hw with rfl | rfl | rfl | rfl | rfl | rfl <;> simp [askAllW,askOneW]
  | n::m::r=>rcases hw with rfl | rfl | rfl | rfl | rfl | rfl <;> simp [askAllW]
 apply key
 unfold JI at h
 by_cases w1:w=[108,111,97,100]
 ·exact .inl w1
 by_cases w2:w=[116,97,107,101]
 ·exact .inr (.inl w2)
 by_cases w3:w=[109,111,118,101]
 ·exact .inr (.inr (.inl w3))
 by_cases w4:w=[98,97,115,101]
 ·exact .inr (.inr (.inr (.inl w4)))
 by_cases w5:w=[115,116,97,103,101]
 ·exact .inr (.inr (.inr (.inr (.inl w5))))
 by_cases w6:w=[100,114,111,112]
 ·exact .inr (.inr (.inr (.inr (.inr w6))))
 rw [if_neg w1,if_neg w2,if_neg w3,if_neg w4,if_neg w5,if_neg w6] at h
 exact absurd h (by simp)
theorem ZFM {w:By} (h:0<(JI w).1):1≤(JI w).2:=by
 unfold JI at h ⊢
 split
 ·simp
 ·split
  ·simp
  ·split
   ·simp
   ·split
    ·simp
    ·split
     ·simp
     ·split
      ·simp
      ·rename_i h1 h2 h3 h4 h5 h6
       rw [if_neg h1,if_neg h2,if_neg h3,if_neg h4,if_neg h5,if_neg h6] at h
       exact absurd h (by simp)
theorem ZdF.grown {H L:List Blk} {u:Nat} {rest:List AV} {r:Option Sd×Option By} {v:AV} {m:Mem} (hL:ZT H L) (hu:u<H.length) (h:ZdF H.length L none u rest r v m):∃ L' e' x,v=.tup [sV x,.bool r.2.isSome]∧m=⟨L',e'⟩∧(∀ e,ZdF H.length H e u rest r v ⟨L',joinEsc e e'⟩):=by
 obtain ⟨L',e',rfl,⟨x,rfl,hx⟩,h1,h2,h3,h4⟩:=h
 refine ⟨L',e',x,rfl,rfl,fun e=>⟨L',joinEsc e e',rfl,⟨x,rfl,hx⟩,fun i hi hne => ?_,by have:=hL.le;omega,fun B hB hc=>Yk hc (h3 B hB rfl),?_⟩⟩
 ·rw [h1 i hi hne]
  obtain ⟨G,rfl⟩:=hL
  exact Ws hi
 ·cases hr:r.1 with
  | some s'=>rw [hr] at h4;exact h4
  | none=>
   rw [hr] at h4
   show L'[u]?=H[u]?
   have h4':L'[u]?=L[u]?:=h4
   rw [h4']
   obtain ⟨G,rfl⟩:=hL
   exact Ws hu
theorem ZdF.keep {L L':List Blk} {e e':Option Nat} {u:Nat} {rest:List AV} {r:Option By} {v:AV} (hL:ZT L L') (hu:u<L.length) (hc:∀ B,B≤u→clean B e=true→clean B e'=true) (hv:ZG0 r v):ZdF L.length L e u rest (none,r) v ⟨L',e'⟩:=by
 obtain ⟨G,rfl⟩:=hL
 exact ⟨_,e',rfl,hv,fun i hi _=>Ws hi,by simp,hc,Ws hu⟩
set_option maxHeartbeats 4000000 in
theorem Zxd (hl:ZlH pr) {u q1 q2:Nat} {c1 c2:Option Nat} {s:Sd} {rest:List AV} (hu:H[u]?=some (.cells (sdL (slL q1 s.ls.length c1) s.a s.b (slS q2 s.ss.length c2) s.t s.c rest) true)) (h1:Zb H q1=some (Zn s.ls)) (h2:Zb H q2=some (Zw s.ss)) (hs:s.std=true) (cmd:By) (hcm:cmd.length≤900000) :
  Wc (call T pr KR [.ptr (some (u,0)),sV cmd] ⟨H,e⟩) (ZdF H.length H e u rest (Kb s cmd)):=by
 obtain ⟨hr,hc,hb,hss,hls,ht1,ht2,hk1,hk2,hre⟩:=XF hs
 have hul:u<H.length:=(Wl.mp hu).1
 have hq1l:q1<H.length:=ZW h1
 have hq2l:q2<H.length:=ZW h2
 have hsp:=fun L e'=>hl.all.spl cmd 32 L e' (by omega)
 have hlen:=ZiO 32 cmd
 have hpl:=Zh8 32 cmd
 have hne:=ZhS 32 cmd
 have hx:Kb s cmd=Zrg s (ZX 32 cmd):=rfl
 rw [hx,Zr Zl5]
 generalize ZX 32 cmd=ps at *
 obtain ⟨w,ws,rfl⟩:∃ w ws,ps=w::ws:=by
  cases ps with
  | nil=>exact absurd rfl hne
  | cons w ws=>exact ⟨w,ws,rfl⟩
 simp only [RN] at hlen hsp
 have d1:decide (bs w=⟨#[119,101,105,103,104]⟩)=decide (w=[119,101,105,103,104]):=Zaf _ _
 have d2:decide (bs w=⟨#[104,111,119]⟩)=decide (w=[104,111,119]):=Zaf _ _
 have hl0:(0:Int)<((ws.length+1:Nat):Int):=by omega
 have hp0:∀ sz,Zcn false (Zcd (w::ws)) 0 sz=some (sV w):=fun sz=>Y2 sz rfl
 have hsl:ZbN 1 (slX H.length (ws.length+1) none) (.int .i64 1)=some (.slice (some (H.length,1)) 1 ws.length none):=Zdt 1 H.length 0 (ws.length+1) 1 (by omega)
 simp (maxSteps:=2000000) +contextual only [Zo,ZeZ,hsp,hl0,hp0,Zbw,hsl,Zc,Za2,Zbt,Zbu,R9,RH,RJ,pp,go_sem,reduceIte,Ra,Rb,Rc,Rd]
 generalize (⟨#[119,101,105,103,104]⟩:ByteArray)=k1 at *
 generalize (⟨#[104,111,119]⟩:ByteArray)=k2 at *
 have hxl:Zrg s (w::ws)=match Zcb ws with | none=>(none,none) | some zs=>execP s w zs:=rfl
 refine ZL (fun j st=>∃ (i b:Nat) (zs:List Int) (c:Option Nat) (L:List Blk) (w7 w8 w9 w15 w16:AV),i+j=ws.length∧ZT (H++[.cells (Zcd (w::ws)) true]) L∧H.length+1≤b∧L[b]?=some (.cells (ZR zs) true)∧zs.length=i∧(c=some 0→zs.length=0)∧(0<i→c=none)∧(Zcb (ws.drop i)).map (zs ++ ·)=Zcb ws ∧
  st=⟨[.ptr (some (u,0)),sV cmd,.str ⟨#[]⟩,.bool false,slX H.length (ws.length+1) none,sV w,slI b zs.length c,w7,w8,w9,.undef,.undef,.slice (some (H.length,1)) 1 ws.length none,.int .i64 ws.length,.int .i64 i,w15,w16,.undef,.undef,.undef,.undef,.undef,.undef],⟨L,none⟩⟩) ?_ ws.length _
  ⟨0,H.length+1,[],some 0,H++[.cells (Zcd (w::ws)) true,.cells [] true],_,_,_,_,_,by omega,⟨[.cells [] true],by rw [Rk];rfl⟩,Rq _,by rw [Ry (by omega),show H.length+1 - H.length=1 by omega];rfl,rfl,fun _=>rfl,fun h=>by omega,by simp,rfl⟩
 rintro j _ ⟨i,b,zs,c,L,w7,w8,w9,w15,w16,hij,hL,hb,hLb,hzl,hc0,hc1,hnum,rfl⟩
 have hLH:ZT H L:=Zdy ⟨_,rfl⟩ hL
 have hLe:=hL.le
 rw [RX,RY] at hLe
 have hpc:Zb L H.length=some (Zcd (w::ws)):=Xf hL (Ze (w:=true) (by rw [ZQ];rfl))
 by_cases hj:j=0
 ·have he:i=ws.length:=by omega
  subst he
  rw [Rn] at hnum
  have hnum':Zcb ws=some zs:=by rw [←hnum];simp [Zcb]
  have hres:Zrg s (w::ws)=execP s w zs:=by rw [hxl,hnum']
  rw [hres]
  clear hres hxl hnum hnum'
  have hts:=ZFL w zs.length
  have hu':L[u]?=some (.cells (sdL (slL q1 s.ls.length c1) s.a s.b (slS q2 s.ss.length c2) s.t s.c rest) true):=ZlE hLH hu
  have h1':=Xf hLH h1
  have h2':=Xf hLH h2
  have hno:∀ e,ZdF H.length H e u rest (none,none) (AV.tup [AV.str ⟨#[]⟩,AV.bool false]) ⟨L,e⟩:=fun e=>ZdF.keep hLH hul (fun B _ h=>h) ⟨[],rfl,fun y h=>absurd h (by simp)⟩
  by_cases hk:0<(JI w).1
  ·have hneed:=ZFM hk
   by_cases hm:((zs.length:Nat):Int)=(JI w).2
   ·rw [if_pos hm] at hts
    have hz0:zs≠[]:=by intro h;subst h;simp at hm;omega
    have hxp:execP s w zs=(if Zli s.ls s.ss s.a s.b s.t s.c (JI w).1 (zs.getD 0 0) (zs.getD 1 0) (zs.getD 2 0)=true then (some (doS s (JI w).1 (zs.getD 0 0) (zs.getD 1 0) (zs.getD 2 0)),some (ZgS (doS s (JI w).1 (zs.getD 0 0) (zs.getD 1 0) (zs.getD 2 0)) (JI w).1)) else (none,none)):=by
     unfold execP
     rw [hts,if_pos hk]
    rw [hxp]
    have hcn:c=none:=hc1 (by have:=WZ.mpr hz0;omega)
    subst hcn
    have hm':decide (((zs.length:Nat):Int)=(JI w).2)=true:=decide_eq_true hm
    simp (maxSteps:=2000000) +contextual only [ZF,Rh,decide_false,Kl,gt_iff_lt,hk,hm',decide_true,pp,go_sem,reduceIte,Ra,Rb,Rc,Rd]
    refine (Zxc hl hu' h1' h2' hLb (by omega) (by omega) (by omega) hz0 (by omega) hs (JI w).1 (n:=H.length) (by omega) hul).mono ?_
    intro v m hv
    obtain ⟨L',e',x,rfl,rfl,hfin⟩:=ZdF.grown hLH hul hv
    simp (maxSteps:=2000000) +contextual only [Zo,finish,pp,go_sem,reduceIte,Ra,Rb,Rc,Rd]
    exact hfin e
   ·rw [if_neg hm] at hts
    have hxp:execP s w zs=(none,none):=by
     unfold execP
     rw [hts,if_neg (by omega),ZG4 hk]
    rw [hxp]
    have hm':decide (((zs.length:Nat):Int)=(JI w).2)=false:=decide_eq_false hm
    simp (maxSteps:=2000000) +contextual only [ZF,Zo,Rh,decide_false,Kl,gt_iff_lt,hk,hm',decide_true,finish,pp,go_sem,reduceIte,Ra,Rb,Rc,Rd]
    exact hno e
  ·have htn:¬ 0<Zcj w zs.length:=by rw [hts];split <;> omega
   have hxp:execP s w zs=(none,askAllW s.ls s.a s.b s.ss s.t w zs):=if_neg htn
   rw [hxp]
   unfold askAllW
   have hbc:=Ze hLb
   have z00:((0:Nat):Int)=0:=rfl
   have z10:¬ ((1:Nat):Int)=0:=by omega
   have z11:((1:Nat):Int)=1:=rfl
   have z01:(0:Int)<((1:Nat):Int):=by omega
   have z20:¬ (2:Int)≤((0:Nat):Int):=by omega
   have z20':¬ (2:Int)≤0:=by omega
   have z21':¬ (2:Int)≤1:=by omega
   have z10':¬ (1:Int)=0:=by omega
   have z01':(0:Int)<1:=by omega
   have z21:¬ (2:Int)≤((1:Nat):Int):=by omega
   by_cases w1:w=[119,101,105,103,104]
   ·rw [decide_eq_true w1] at d1
    rw [if_pos w1]
    have hkr:=ZwZ (e:=none) hl.all hbc (by omega:zs.length≤1000000) (cap:=c)
    cases hB:Zch zs with
    | false=>
     simp only [hB,RZ,if_false] at hkr ⊢
     have hg:=fun L=>ZP (pr:=pr) (H:=L) (e:=none) hl.all.ito 0 (fit_small (by omega) (by omega)) false
     simp (maxSteps:=2000000) +contextual only [ZF,Zo,Rh,decide_false,Kl,gt_iff_lt,hk,decide_true,d1,hkr,hg,finish,pp,go_sem,reduceIte,Ra,Rb,Rc,Rd]
     exact ZdF.keep hLH hul (fun B _ h=>h) ⟨_,rfl,fun y h=>absurd h (by simp)⟩
    | true=>
     simp only [hB,if_true] at hkr ⊢
     have hg:=fun L=>ZP (pr:=pr) (H:=L) (e:=none) hl.all.ito (Zg4 zs) (Zqq hB) true
     simp (maxSteps:=2000000) +contextual only [ZF,Zo,Rh,decide_false,Kl,gt_iff_lt,hk,decide_true,d1,hkr,hg,finish,pp,go_sem,reduceIte,Ra,Rb,Rc,Rd]
     exact ZdF.keep hLH hul (fun B _ h=>h) ⟨_,rfl,fun y h=>by rw [←WH h]⟩
   rw [decide_eq_false w1] at d1
   rw [if_neg w1]
   by_cases w2:w=[104,111,119]
   ·rw [decide_eq_true w2] at d2
    rw [if_pos w2]
    match zs,hzl,hbc,hc1,hLb with
    | [],hzl,hbc,hc1,hLb=>
     have hask:askW s.ls s.a s.b s.ss s.t w=none:=by rw [w2];simp [askW]
     have hw:=ZAz (e:=none) hl.all (Ze hu') h1' h2' hs w
     rw [hask] at hw
     simp (maxSteps:=2000000) +contextual only [ZF,Zo,Rh,decide_false,Kl,gt_iff_lt,hk,decide_true,d1,d2,Wk,z00,z20,z20',ge_iff_le,finish,pp,go_sem,reduceIte,Ra,Rb,Rc,Rd]
     refine hw.mono ?_
     rintro v m ⟨⟨x,rfl,hx⟩,rfl⟩
     simp (maxSteps:=2000000) +contextual only [Zo,finish,pp,go_sem,reduceIte,Ra,Rb,Rc,Rd]
     exact ZdF.keep hLH hul (fun B _ h=>h) ⟨x,rfl,hx⟩
    | [n],hzl,hbc,hc1,hLb=>
     have hask:askOneW s.ls s.ss w n=none:=by rw [w2];simp [askOneW]
     have hw:=Zqp (e:=none) hl.all (Ze hu') h1' h2' hs w n
     rw [hask] at hw
     have hht:ZIN [n]=none:=by
      rw [Zh7,if_neg]
      rintro ⟨h,_⟩
      simp [Zch,Zqd] at h
     rw [hht]
     have hp:∀ sz,Zcn false (ZR [n]) 0 sz=some (.int .i64 n):=fun sz=>Zu sz rfl
     simp (maxSteps:=2000000) +contextual only [ZF,Zo,Rh,decide_false,Kl,gt_iff_lt,hk,decide_true,d1,d2,Wk,RN,WW,z10,z11,z01,z21,z21',z10',z01',ge_iff_le,hbc,hp,Za2,Zbt,Zbu,R9,RH,RJ,finish,pp,go_sem,reduceIte,Ra,Rb,Rc,Rd]
     refine hw.mono ?_
     rintro v m ⟨⟨x,rfl,hx⟩,rfl⟩
     simp (maxSteps:=2000000) +contextual only [Zo,finish,pp,go_sem,reduceIte,Ra,Rb,Rc,Rd]
     exact ZdF.keep hLH hul (fun B _ h=>h) ⟨x,rfl,hx⟩
    | n::m::k,hzl,hbc,hc1,hLb=>
     have hcn:c=none:=hc1 (by simp only [RN] at hzl;omega)
     subst hcn
     have hsl2:ZbN 1 (slI b (k.length+1+1) none) (.int .i64 1)=some (slO b [n] (m::k).length none):=Zdt 1 b 0 (k.length+1+1) 1 (by omega)
     have hge:(2:Int)≤((k.length+1+1:Nat):Int):=by omega
     have hp:∀ sz,Zcn false (ZR (n::m::k)) 0 sz=some (.int .i64 n):=fun sz=>Zu sz rfl
     have hlt:(0:Int)<((k.length+1+1:Nat):Int):=by omega
     have hkl:(m::k).length≤1000000:=by simp only [RN] at hzl ⊢;omega
     have hbP:Zb L b=some (ZR ([n]++(m::k))):=hbc
     rw [Zh7]
     simp only [RN]
     generalize hcs:ZR (n::m::k)=cs at *
     generalize (m::k)=kk at *
     simp (maxSteps:=2000000) +contextual only [ZF,Zo,Rh,decide_false,Kl,gt_iff_lt,hk,decide_true,d1,d2,hge,hlt,ge_iff_le,hbc,hp,Zbw,hsl2,Za2,Zbt,Zbu,R9,RH,RJ,pp,go_sem,reduceIte,Ra,Rb,Rc,Rd]
     by_cases hkb:Zch kk=true∧1≤n
     ·refine (ZnR (P:=[n]) (cap:=none) hbP hkl n hkb.1 hkb.2).mono ?_
      rintro v mm ⟨cc,wr,rfl,rfl⟩
      obtain ⟨f1,f2⟩:=ZzN hkb.1 n
      have hT:(if Zch kk=true∧1≤n∧0<(ZlB kk n).length then some (ZeL (ZlB kk n)) else none)=if 0<(ZlB kk n).length then some (ZeL (ZlB kk n)) else none:=by
       by_cases h0:0<(ZlB kk n).length
       ·rw [if_pos ⟨hkb.1,hkb.2,h0⟩,if_pos h0]
       ·rw [if_neg (fun h=>h0 h.2.2),if_neg h0]
      rw [hT]
      generalize ZlB kk n=g at *
      have hg:=fun x=>Zer (pr:=pr) (H:=L++[.cells (ZR g) wr]) (e:=none) (q:=L.length) (cap:=cc) hl.all.ito hl.all.joi (Ze (w:=wr) (by rw [ZQ];rfl)) (by omega) f2 x
      simp (maxSteps:=2000000) +contextual only [Zo,hg,finish,pp,go_sem,reduceIte,Ra,Rb,Rc,Rd]
      refine ZdF.keep (hLH.more _) hul (fun B _ h=>h) ⟨ZeL g,?_,?_⟩
      ·by_cases h0:0<g.length
       ·rw [if_pos h0,decide_eq_true (by omega)];rfl
       ·rw [if_neg h0,decide_eq_false (by omega)];rfl
      ·intro y hy
       split at hy
       ·exact WH hy
       ·exact absurd hy (by simp)
     ·have hnn:=ZlI (pr:=pr) (H:=L) (e:=none) (P:=[n]) (cap:=none) hbP hkl n hkb
      have hT:(if Zch kk=true∧1≤n∧0<(ZlB kk n).length then some (ZeL (ZlB kk n)) else none)=none:=if_neg fun h=>hkb ⟨h.1,h.2.1⟩
      rw [hT]
      have hg:=fun L e0=>Zh0 (pr:=pr) (H:=L) (e:=e0) false (p:=none) (s:=0) (cap:=none)
      simp (maxSteps:=2000000) +contextual only [Zo,hnn,hg,finish,pp,go_sem,reduceIte,Ra,Rb,Rc,Rd]
      exact ZdF.keep hLH hul (fun B _ h=>h) ⟨_,rfl,fun y h=>absurd h (by simp)⟩
   rw [decide_eq_false w2] at d2
   rw [if_neg w2]
   match zs,hzl,hbc with
   | [],hzl,hbc=>
    have hw:=ZAz (e:=none) hl.all (Ze hu') h1' h2' hs w
    simp (maxSteps:=2000000) +contextual only [ZF,Zo,Rh,decide_false,Kl,gt_iff_lt,hk,decide_true,d1,d2,Wk,z00,z20,z20',ge_iff_le,finish,pp,go_sem,reduceIte,Ra,Rb,Rc,Rd]
    refine hw.mono ?_
    rintro v m ⟨⟨x,rfl,hx⟩,rfl⟩
    simp (maxSteps:=2000000) +contextual only [Zo,finish,pp,go_sem,reduceIte,Ra,Rb,Rc,Rd]
    exact ZdF.keep hLH hul (fun B _ h=>h) ⟨x,rfl,hx⟩
   | [n],hzl,hbc=>
    have hw:=Zqp (e:=none) hl.all (Ze hu') h1' h2' hs w n
    have hp:∀ sz,Zcn false (ZR [n]) 0 sz=some (.int .i64 n):=fun sz=>Zu sz rfl
    simp (maxSteps:=2000000) +contextual only [ZF,Zo,Rh,decide_false,Kl,gt_iff_lt,hk,decide_true,d1,d2,Wk,RN,WW,z10,z11,z01,z21,z21',z10',z01',ge_iff_le,hbc,hp,Za2,Zbt,Zbu,R9,RH,RJ,finish,pp,go_sem,reduceIte,Ra,Rb,Rc,Rd]
    refine hw.mono ?_
    rintro v m ⟨⟨x,rfl,hx⟩,rfl⟩
    simp (maxSteps:=2000000) +contextual only [Zo,finish,pp,go_sem,reduceIte,Ra,Rb,Rc,Rd]
    exact ZdF.keep hLH hul (fun B _ h=>h) ⟨x,rfl,hx⟩
   | n::m::k,hzl,hbc=>
    have hz0:¬ ((k.length+1+1:Nat):Int)=0:=by omega
    have hz1:¬ ((k.length+1+1:Nat):Int)=1:=by omega
    simp (maxSteps:=2000000) +contextual only [ZF,Zo,Rh,decide_false,Kl,gt_iff_lt,hk,decide_true,d1,d2,RN,hz0,hz1,finish,pp,go_sem,reduceIte,Ra,Rb,Rc,Rd]
    exact hno e
 ·have hi:i<ws.length:=by omega
  obtain ⟨x,hxi⟩:∃ x,ws[i]?=some x:=⟨_,Rj hi⟩
  have hdr:ws.drop i=x::ws.drop (i+1):=by
   rw [Rm hi]
   rw [Rj hi,RS] at hxi
   rw [hxi]
  rw [hdr] at hnum
  have hpx:∀ sz,Zcn false (Zcd (w::ws)) (1+i) sz=some (sV x):=fun sz=>Y2 sz (ZAC (by rw [Nat.add_comm];exact hxi))
  have hrd:=fun L=>ZwK (pr:=pr) (H:=L) (e:=none) hl.all.ito hl.all.ato x (by have:=hpl x (Wt _ (WJ hxi));omega)
  have hiw:=Zi (show i<9223372036854775807 by omega)
  cases hr':ZhZ x with
  | none=>
   simp only [hr',WD,Option.isSome_none] at hrd
   rw [Zsu hr'] at hnum
   have hres:Zrg s (w::ws)=(none,none):=by rw [hxl,←hnum];rfl
   rw [hres]
   simp (maxSteps:=2000000) +contextual only [ZF,Zo,hi,hpc,hpx,hrd,Zc,finish,decide_true,pp,go_sem,reduceIte,Ra,Rb,Rc,Rd]
   exact ZdF.keep hLH hul (fun B _ h=>h) ⟨[],rfl,fun y h=>absurd h (by simp)⟩
  | some v=>
   simp only [hr',WV,Wn] at hrd
   rw [Zsv hr',ZAB] at hnum
   simp (maxSteps:=2000000) +contextual only [ZF,Zo,hi,hpc,hpx,hrd,Zc,decide_true,pp,go_sem,reduceIte,Ra,Rb,Rc,Rd]
   refine Zi3 (k:=1) (new:=[.int .i64 v]) (cs:=ZR zs) (ZY hLb _) (Qx _ 1 1 _ _ L.length (by simp +contextual only [go_sem,reduceIte,Ra,Rb,Rc,Rd]) rfl) (by simp [ZR]) rfl (by unfold maxBytes;omega) hc0 ?_
   intro L6 g1 g2 g3 g4
   rw [ZGV] at g3
   simp (maxSteps:=2000000) +contextual only [hiw,pp,go_sem,reduceIte,Ra,Rb,Rc,Rd]
   exact ⟨j - 1,by omega,i+1,L.length+1,zs++[v],none,L6,_,_,_,_,_,by omega,g4 _ (hL.more _) (by rw [RX,RY];omega),by omega,by simpa using g3,by simp;omega,by simp,fun _=>rfl,hnum,by rw [RX];rfl⟩
theorem Zqr {zs:List Int} (hz:∀ z∈zs,Zfk z) (hn:zs.length≤1000):(ZeL zs).length≤22004:=by
 unfold ZeL
 split
 ·simp
 ·have:=Zfl 32 zs hz
  omega
theorem Zxe {ls:List Ld} (h:Yu ls=true):(Zes ls).length≤10000:=by
 obtain ⟨hn,hf⟩:=ZzC h
 unfold Zes Zi4
 split
 ·simp
 ·have:=Zn5 [32] 44 (ls.map fun l=>Xi 58 [l.1,l.2]) fun x hx=>by
   obtain ⟨l,h1,rfl⟩:=List.mem_map.mp hx
   have:=Zfl 58 [l.1,l.2] (by
    intro z hz
    simp only [R6,List.not_mem_nil,or_false] at hz
    rcases hz with rfl | rfl
    ·exact (hf l h1).1
    ·exact (hf l h1).2)
   simpa using this
  rw [List.length_map] at this
  simp only [RY] at this
  omega
theorem Zt7 {c:UInt8} {a b:Int} (ha:Zfk a) (hb:Zfk b):(Xi c [a,b]).length≤44:=by
 have:=Zfl c [a,b] (by
  intro z hz
  simp only [R6,List.not_mem_nil,or_false] at hz
  rcases hz with rfl | rfl
  ·exact ha
  ·exact hb)
 simpa using this
theorem ZG5 {s:Sd} (hs:s.std=true) {w r:By} (h:askW s.ls s.a s.b s.ss s.t w=some r):r.length≤22004:=by
 obtain ⟨hr,hc,hb,hss,hls,ht1,ht2,hk1,hk2,hre⟩:=XF hs
 unfold askW at h
 split at h
 ·cases h;have:=Zxe hr;omega
 split at h
 ·cases h;have:=Y5 _ (ZiW hr);omega
 split at h
 ·split at h
  ·cases h
  ·cases h;have:=Zt7 (c:=47) (ZmA hr).1 (ZmA hr).2;omega
 split at h
 ·cases h;have:=Y5 _ (ZaY s.ls s.a s.b);omega
 split at h
 ·cases h;have:=Y5 s.t (fit_small (by omega) (by omega));omega
 split at h
 ·cases h;have:=Y5 _ (Zt1 hr hc);omega
 split at h
 ·obtain ⟨g,hg,rfl⟩:=Wy.mp h
  obtain ⟨f1,f2⟩:=Zqm hg hls
  refine Zqr f2 ?_
  unfold Zam at hg
  split at hg
  ·have:=(Zeu (List.mem_of_find?_eq_some hg)).2
   omega
  ·cases hg
 ·cases h
theorem ZzP {s:Sd} (hs:s.std=true) {w r:By} {n:Int} (h:askOneW s.ls s.ss w n=some r):r.length≤22004:=by
 obtain ⟨hr,hc,hb,hss,hls,ht1,ht2,hk1,hk2,hre⟩:=XF hs
 unfold askOneW at h
 split at h
 ·split at h
  ·rename_i hB;cases h;have:=Y5 _ (ZzL hr hB);omega
  ·cases h
 split at h
 ·split at h
  ·rename_i hB;cases h;have:=Y5 _ (Zt4 hc hB);omega
  ·cases h
 split at h
 ·split at h
  ·rename_i hB
   cases h
   obtain ⟨x,rfl,hx⟩:=Zt3 hB
   obtain ⟨f1,f2⟩:=Zqn (ss:=s.ss) hc x hx
   have:=Zt7 (c:=47) f1 f2
   rw [Int.toNat_natCast]
   omega
  ·cases h
 split at h
 ·split at h
  ·cases h;have:=Y5 _ (ZmB hls n);omega
  ·cases h
 split at h
 ·obtain ⟨g,hg,rfl⟩:=Wy.mp h
  have hf:=Zt5 s.ls n hls
  rw [hg] at hf
  exact Zqr (ZzM hf) (by simp)
 split at h
 ·split at h
  ·cases h;have:=Y5 _ (Zqo n);omega
  ·cases h
 ·cases h
theorem ZzQ {s:Sd} (hs:s.std=true) {w r:By} {zs:List Int} (h:askAllW s.ls s.a s.b s.ss s.t w zs=some r):r.length≤22004:=by
 unfold askAllW at h
 split at h
 ·split at h
  ·rename_i hB;cases h;have:=Y5 _ (Zqq hB);omega
  ·cases h
 split at h
 ·cases zs with
  | nil=>cases h
  | cons n k=>
   rw [Zh7] at h
   split at h
   ·rename_i hB
    cases h
    obtain ⟨f1,f2⟩:=ZzN hB.1 n
    exact Zqr f2 (by omega)
   ·cases h
 split at h
 ·exact ZG5 hs h
 ·exact ZzP hs h
 ·cases h
theorem Zxf {s:Sd} (hs:s.std=true) (cmd:By):((Kb s cmd).2.getD [63]).length≤22004:=by
 have key:∀ r,(Kb s cmd).2=some r→r.length≤22004:=by
  intro r h
  unfold Kb at h
  cases hps:ZX 32 cmd with
  | nil=>rw [hps] at h;cases h
  | cons w ws=>
   rw [hps] at h
   have hxl:Zrg s (w::ws)=match Zcb ws with | none=>(none,none) | some zs=>execP s w zs:=rfl
   rw [hxl] at h
   split at h
   ·cases h
   ·rename_i zs hz
    unfold execP at h
    split at h
    ·split at h
     ·rename_i hok
      obtain ⟨hr,hc,hb⟩:=Zoa hok
      simp only [RS] at h
      rw [←h]
      unfold ZgS
      split
      ·have:=Zt7 (c:=47) (Zcc hc).1 (Zcc hc).2;omega
      ·have:=Y5 _ (ZaY (doS s (Zcj w zs.length) (zs.getD 0 0) (zs.getD 1 0) (zs.getD 2 0)).ls (doS s (Zcj w zs.length) (zs.getD 0 0) (zs.getD 1 0) (zs.getD 2 0)).a (doS s (Zcj w zs.length) (zs.getD 0 0) (zs.getD 1 0) (zs.getD 2 0)).b);omega
     ·cases h
    ·exact ZzQ hs h
 cases h:(Kb s cmd).2 with
 | none=>simp
 | some r=>exact key r h
structure Cn where
 s:Sd
 d:By
 p:By
 n:Int
def Cn.ok (x:Cn):Bool:=x.s.std&&Zao x.d x.p x.n
def ZC8 (d p:By) (c:Int) (a r:By):By×By×Int :=
 if (Zao d p c&&Zi2 a r)=true then (if c=60 then (d,p,c) else (d,p++J1 c a r,c+1)) else (d,p,c)
theorem ZFN (d p:By) (c:Int) (a r:By):∃ k,ZIL d p c a r=.tup [lgV (ZC8 d p c a r).1 (ZC8 d p c a r).2.1 (ZC8 d p c a r).2.2,.int .i64 k]:=by
 unfold ZIL ZC8
 split
 ·split
  ·exact ⟨2,rfl⟩
  ·exact ⟨0,rfl⟩
 ·exact ⟨1,rfl⟩
def Zkl (x:Cn) (cmd:By):Cn×By :=
 if x.ok=true then
  (if Zi2 cmd []=true then
   (if x.n=60 then (x,[102,117,108,108])
   else (⟨(Kb x.s cmd).1.getD x.s,(ZC8 x.d x.p x.n cmd ((Kb x.s cmd).2.getD [63])).1,(ZC8 x.d x.p x.n cmd ((Kb x.s cmd).2.getD [63])).2.1,(ZC8 x.d x.p x.n cmd ((Kb x.s cmd).2.getD [63])).2.2⟩,(Kb x.s cmd).2.getD [63]))
  else (x,[98,97,100]))
 else (x,[110,111])
abbrev Cn.v (x:Cn) (b1 b2:Nat) (c1 c2:Option Nat):AV:=cnV (slL b1 x.s.ls.length c1) x.s.a x.s.b (slS b2 x.s.ss.length c2) x.s.t x.s.c x.d x.p x.n
theorem Km {L:List Blk} {b1 b2:Nat} {c1 c2:Option Nat} (x:Cn) (r:By) (hL:ZT H L) (e0 e1:Option Nat) (hc:clean H.length e1=true) (hb1:H.length≤b1) (hb2:H.length≤b2) (hne:b1≠b2) (h1:L[b1]?=some (.cells (Zn x.s.ls) true)) (h2:L[b2]?=some (.cells (Zw x.s.ss) true)) :
  finish 2 H.length e0 (.tup [x.v b1 b2 c1 c2,sV r]) ⟨L,e1⟩=some (.tup [x.v H.length (H.length+1) c1 c2,sV r],⟨H++[.cells (Zn x.s.ls) true,.cells (Zw x.s.ss) true],e0⟩):=by
 obtain ⟨G,rfl⟩:=hL
 have hlt1:¬ b1<H.length:=by omega
 have hlt2:¬ b2<H.length:=by omega
 have hne':¬ b2=b1:=fun h=>hne h.symm
 have hr:XL (AV.roots H.length (.tup [x.v b1 b2 c1 c2,sV r]))=[b1,b2]:=by
  simp only [AV.roots,AV.roots.go,if_neg hlt1,if_neg hlt2,Ru,Rp,Rv]
  simp [XL,hne',hne]
 unfold finish
 simp only [hr]
 have h3:([b1,b2].all fun b=>Xa H.length (H++G)[b]?)=true:=by
  simp only [List.all_cons,List.all_nil,Bool.and_true,h1,h2,Xa,ZS,Z0,Bool.and_self]
 simp only [hc,h3,and_self,if_true]
 have hq:(b1==b2)=false:=by simpa using hne
 simp [AV.rename,AV.rename.go,ZbP,h1,h2,List.idxOf_cons,hlt1,hlt2,hq]
theorem ZG6 {A B:List Blk} (h:A.length≤B.length) (hk:∀ i,i<A.length→B[i]?=A[i]?):ZT A B:=by
 refine ⟨B.drop A.length,?_⟩
 have:B.take A.length=A:=by
  apply List.ext_getElem?
  intro i
  by_cases hi:i<A.length
  ·rw [List.getElem?_take_of_lt hi,hk i hi]
  ·rw [List.getElem?_eq_none (by rw [Wm];omega),List.getElem?_eq_none (by omega)]
 conv=>lhs;rw [←List.take_append_drop A.length B,this]
theorem ZdF.out {M:List Blk} {e:Option Nat} {u q1 q2:Nat} {rest:List AV} {s:Sd} {r:Option Sd×Option By} {v:AV} {m:Mem} (h:ZdF M.length M e u rest r v m) (hu:M[u]?=some (.cells (sdL (slL q1 s.ls.length none) s.a s.b (slS q2 s.ss.length none) s.t s.c rest) true)) (g1:M[q1]?=some (.cells (Zn s.ls) true)) (g2:M[q2]?=some (.cells (Zw s.ss) true)) (h1:q1≠u) (h2:q2≠u) (h12:q1≠q2) :
  ∃ (L':List Blk) (e':Option Nat) (x:By) (p1 p2:Nat),m=⟨L',e'⟩∧v=.tup [sV x,.bool r.2.isSome]∧(∀ y,r.2=some y→x=y)∧(∀ i,i<M.length→i≠u→L'[i]?=M[i]?)∧M.length≤L'.length∧(∀ B,B≤u→clean B e=true→clean B e'=true)∧(p1=q1∨M.length≤p1)∧(p2=q2∨M.length≤p2)∧p1≠p2 ∧
   L'[u]?=some (.cells (sdL (slL p1 (r.1.getD s).ls.length none) (r.1.getD s).a (r.1.getD s).b (slS p2 (r.1.getD s).ss.length none) (r.1.getD s).t (r.1.getD s).c rest) true)∧L'[p1]?=some (.cells (Zn (r.1.getD s).ls) true)∧L'[p2]?=some (.cells (Zw (r.1.getD s).ss) true):=by
 obtain ⟨L',e',rfl,⟨x,rfl,hx⟩,k1,k2,k3,k4⟩:=h
 have l1:=(Wl.mp g1).1
 have l2:=(Wl.mp g2).1
 cases hr:r.1 with
 | some s'=>
  rw [hr] at k4
  obtain ⟨p1,p2,a1,a2,a3,a4,a5,a6⟩:=k4
  exact ⟨L',e',x,p1,p2,rfl,rfl,hx,k1,k2,k3,.inr a1,.inr a2,a3,a4,a5,a6⟩
 | none=>
  rw [hr] at k4
  have k4':L'[u]?=M[u]?:=k4
  exact ⟨L',e',x,q1,q2,rfl,rfl,hx,k1,k2,k3,.inl rfl,.inl rfl,h12,by rw [k4',hu];rfl,by rw [k1 q1 l1 h1,g1];rfl,by rw [k1 q2 l2 h2,g2];rfl⟩
def ZKC (H:List Blk) (e:Option Nat) (r:Cn×By) (v:AV) (m:Mem):Prop :=
 v=.tup [r.1.v H.length (H.length+1) none none,sV r.2]∧m=⟨H++[.cells (Zn r.1.s.ls) true,.cells (Zw r.1.s.ss) true],e⟩
set_option maxHeartbeats 4000000 in
theorem Zkh (hl:ZlH pr) {q1 q2:Nat} {c1 c2:Option Nat} {x:Cn} (h1:Zb H q1=some (Zn x.s.ls)) (h2:Zb H q2=some (Zw x.s.ss)) (hn:x.s.ls.length≤1048576) (hm:x.s.ss.length≤1048576) (hd:x.d.length≤1048576) (hp:x.p.length≤1048576) (cmd:By) (hcm:cmd.length≤1048576) :
  Wc (call T pr Yx [x.v q1 q2 c1 c2,sV cmd] ⟨H,e⟩) (ZKC H e (Zkl x cmd)):=by
 have hcp:=fun L e' (g1:Zb L q1=some (Zn x.s.ls)) (g2:Zb L q2=some (Zw x.s.ss))=>Zgx (pr:=pr) (e:=e') (c1:=c1) (c2:=c2) g1 g2 hn hm x.s.a x.s.b x.s.t x.s.c
 have hva:=fun L e' (g1:Zb L q1=some (Zn x.s.ls)) (g2:Zb L q2=some (Zw x.s.ss))=>Zev (pr:=pr) (e:=e') (c1:=c1) (c2:=c2) hl.all.ito hl.all.con hl.all.idx g1 g2 hm x.s.a x.s.b x.s.t x.s.c x.n hd hp
 have hok:(Zcm x.s.ls x.s.ss x.s.a x.s.b x.s.t x.s.c&&Zao x.d x.p x.n)=x.ok:=rfl
 rw [hok] at hva
 have hrc:=fun L e'=>Zbv (pr:=pr) (H:=L) (e:=e') (s:=bs cmd) (t:=bs []) hl.all.con (by rw [Jc];omega) (by rw [Jc];simp)
 have hrk:Zmk (bs cmd) (bs [])=Zi2 cmd []:=rfl
 rw [hrk] at hrc
 rw [Zr ZkS]
 unfold Zkl
 cases hA:x.ok with
 | false=>
  rw [hA] at hva
  simp only [RZ,if_false]
  simp (maxSteps:=2000000) +contextual only [YC,X0,Zc,Za h1,Za h2,hcp,hva,RD,pp,go_sem,reduceIte,Ra,Rb,Rc,Rd]
  refine Wc.of_eq (Km (b1:=H.length+2) (b2:=H.length+3) (c1:=none) (c2:=none) x _ ⟨_,rfl⟩ e _ ?_ (by omega) (by omega) (by omega) (by rw [Ry (by omega),show H.length+2 - H.length=2 by omega];rfl) (by rw [Ry (by omega),show H.length+3 - H.length=3 by omega];rfl)) ⟨rfl,rfl⟩
  exact Zk _ (Zk _ rfl (Zj rfl (by omega))) (Zj (Zk _ rfl (Zj rfl (by omega))) (by omega))
 | true=>
  rw [hA] at hva
  simp only [if_true]
  cases hB:Zi2 cmd [] with
  | false=>
   rw [hB] at hrc
   simp only [RZ,if_false]
   simp (maxSteps:=2000000) +contextual only [YC,X0,Zc,Za h1,Za h2,hcp,hva,hrc,RD,pp,go_sem,reduceIte,Ra,Rb,Rc,Rd]
   refine Wc.of_eq (Km (b1:=H.length+2) (b2:=H.length+3) (c1:=none) (c2:=none) x _ ⟨_,rfl⟩ e _ ?_ (by omega) (by omega) (by omega) (by rw [Ry (by omega),show H.length+2 - H.length=2 by omega];rfl) (by rw [Ry (by omega),show H.length+3 - H.length=3 by omega];rfl)) ⟨rfl,rfl⟩
   exact Zk _ (Zk _ rfl (Zj rfl (by omega))) (Zj (Zk _ rfl (Zj rfl (by omega))) (by omega))
  | true=>
   rw [hB] at hrc
   simp only [if_true]
   by_cases h60:x.n=60
   ·rw [if_pos h60]
    simp (maxSteps:=2000000) +contextual only [YC,X0,Zc,Za h1,Za h2,hcp,hva,hrc,RD,decide_eq_true h60,pp,go_sem,reduceIte,Ra,Rb,Rc,Rd]
    refine Wc.of_eq (Km (b1:=H.length+2) (b2:=H.length+3) (c1:=none) (c2:=none) x _ ⟨_,rfl⟩ e _ ?_ (by omega) (by omega) (by omega) (by rw [Ry (by omega),show H.length+2 - H.length=2 by omega];rfl) (by rw [Ry (by omega),show H.length+3 - H.length=3 by omega];rfl)) ⟨rfl,rfl⟩
    exact Zk _ (Zk _ rfl (Zj rfl (by omega))) (Zj (Zk _ rfl (Zj rfl (by omega))) (by omega))
   ·rw [if_neg h60]
    have hcl:=(ZcL hB).2.1
    simp (maxSteps:=2000000) +contextual only [YC,X0,Zc,Za h1,Za h2,hcp,hva,hrc,RD,decide_eq_false h60,pp,go_sem,reduceIte,Ra,Rb,Rc,Rd]
    have hA':=hA
    unfold Cn.ok at hA'
    rw [Rs] at hA'
    have hrl:=Zxf hA'.1 cmd
    obtain ⟨hlg1,hlg2⟩:=hA'
    have hap:=fun L e'=>ZnK (pr:=pr) (H:=L) (e:=e') hl.all.ito hl.all.con hl.all.idx x.d x.p x.n cmd ((Kb x.s cmd).2.getD [63]) hd hp hcm (by omega)
    obtain ⟨kk,hkk⟩:=ZFN x.d x.p x.n cmd ((Kb x.s cmd).2.getD [63])
    rw [hkk] at hap
    generalize ZC8 x.d x.p x.n cmd ((Kb x.s cmd).2.getD [63])=al at *
    refine (Zxd (u:=H.length+4) (q1:=H.length+2) (q2:=H.length+3) (c1:=none) (c2:=none) (s:=x.s) (rest:=[sV x.d,sV x.p,.int .i64 x.n]) hl (by rw [Ry (by omega),show H.length+4 - H.length=4 by omega];rfl) (Ze (w:=true) (by rw [Ry (by omega),show H.length+2 - H.length=2 by omega];rfl)) (Ze (w:=true) (by rw [Ry (by omega),show H.length+3 - H.length=3 by omega];rfl)) hlg1 cmd (by omega)).mono ?_
    intro v m hv
    obtain ⟨L',e',rp,p1,p2,rfl,rfl,hrp,k1,k2,k3,k4,k5,k6,k7,k8,k9⟩:=ZdF.out (q1:=H.length+2) (q2:=H.length+3) (s:=x.s) hv (by rw [Ry (by omega),show H.length+4 - H.length=4 by omega];rfl) (by rw [Ry (by omega),show H.length+2 - H.length=2 by omega];rfl) (by rw [Ry (by omega),show H.length+3 - H.length=3 by omega];rfl) (by omega) (by omega) (by omega)
    simp only [RX,RN,Wk] at k1 k2 k4 k5
    have kc:=k3 H.length (by omega) (Zk _ rfl (Zj rfl (by omega)))
    have k10:L'[H.length+1]?=some (.cells [.slice none 0 0 none,.int .i64 0,.int .i64 0,.slice none 0 0 none,.int .i64 0,.int .i64 0,.str ⟨#[]⟩,.str ⟨#[]⟩,.int .i64 0] true):=by
     rw [k1 (H.length+1) (by omega) (by omega),Ry (by omega),show H.length+1 - H.length=1 by omega];rfl
    have hLg:ZT H L':=ZG6 (by omega) fun i hi=>by rw [k1 i (by omega) (by omega),Ws hi]
    generalize hs':(Kb x.s cmd).1.getD x.s=s' at *
    generalize ho:(Kb x.s cmd).2=o at *
    clear k1 k3 hs' hkk
    have k7c:=Ze k7
    have hset:∀ X,Zb (L'.set (H.length+4) (.cells X true)) (H.length+4)=some X:=fun X=>ZwH (by omega) X true
    have hset1:∀ X:Blk,(L'.set (H.length+4) X)[H.length+1]?=some (.cells [.slice none 0 0 none,.int .i64 0,.int .i64 0,.slice none 0 0 none,.int .i64 0,.int .i64 0,.str ⟨#[]⟩,.str ⟨#[]⟩,.int .i64 0] true):=fun X=>by rw [Wz (by omega)];exact k10
    have hset2:∀ (X:Blk) Y,Zb ((L'.set (H.length+4) X).set (H.length+1) (.cells Y true)) (H.length+1)=some Y:=fun X Y=>ZwH (by rw [WX];omega) Y true
    cases o with
    | none=>
     simp only [WD] at hap ⊢
     simp (maxSteps:=2000000) +contextual only [k7c,k7,hap,hset,hset1,hset2,Option.isSome_none,WD,Zc,pp,go_sem,reduceIte,Ra,Rb,Rc,Rd]
     refine Wc.of_eq (Km (b1:=p1) (b2:=p2) (c1:=none) (c2:=none) ⟨s',al.1,al.2.1,al.2.2⟩ _ ((hLg.put (by omega) _).put (by omega) _) e _ (Zk _ kc (Zj kc (by omega))) (by omega) (by omega) k6 (by rw [Wz (by omega),Wz (by omega)];exact k8) (by rw [Wz (by omega),Wz (by omega)];exact k9)) ⟨rfl,rfl⟩
    | some y=>
     have hxy:=hrp y rfl
     subst hxy
     simp only [WV] at hap ⊢
     simp (maxSteps:=2000000) +contextual only [k7c,k7,hap,hset,hset1,hset2,Wn,WV,Zc,pp,go_sem,reduceIte,Ra,Rb,Rc,Rd]
     refine Wc.of_eq (Km (b1:=p1) (b2:=p2) (c1:=none) (c2:=none) ⟨s',al.1,al.2.1,al.2.2⟩ _ ((hLg.put (by omega) _).put (by omega) _) e _ (Zk _ kc (Zj kc (by omega))) (by omega) (by omega) k6 (by rw [Wz (by omega),Wz (by omega)];exact k8) (by rw [Wz (by omega),Wz (by omega)];exact k9)) ⟨rfl,rfl⟩
theorem ZG7 {s s':Sd} {cmd:By} (h:(Kb s cmd).1=some s'):Yu s'.ls=true∧ZA s'.ss=true:=by
 unfold Kb at h
 cases hps:ZX 32 cmd with
 | nil=>rw [hps] at h;cases h
 | cons w ws=>
  rw [hps] at h
  have hxl:Zrg s (w::ws)=match Zcb ws with | none=>(none,none) | some zs=>execP s w zs:=rfl
  rw [hxl] at h
  split at h
  ·cases h
  ·rename_i zs hz
   unfold execP at h
   split at h
   ·split at h
    ·rename_i hok
     obtain ⟨hr,hc,_⟩:=Zoa hok
     simp only [RS] at h
     rw [←h]
     exact ⟨hr,hc⟩
    ·cases h
   ·cases h
set_option maxHeartbeats 4000000 in
theorem Zki {q1 q2:Nat} {c1 c2:Option Nat} {x:Cn} (h1:Zb H q1=some (Zn x.s.ls)) (h2:Zb H q2=some (Zw x.s.ss)) (hn:x.s.ls.length≤1048576) (hm:x.s.ss.length≤1048576) (hd:x.d.length≤1048576) (hp:x.p.length≤1048576) (cmd:By) (hcm:cmd.length≤1048576) :
  Wc (call T pr Yy [x.v q1 q2 c1 c2,sV cmd] ⟨H,e⟩) (ZKC H e (Zkl x cmd)):=by
 have hcp:=fun L e' (g1:Zb L q1=some (Zn x.s.ls)) (g2:Zb L q2=some (Zw x.s.ss))=>ZiK (pr:=pr) (e:=e') (c1:=c1) (c2:=c2) g1 g2 hn hm x.s.a x.s.b x.s.t x.s.c
 have hva:=fun L e' (g1:Zb L q1=some (Zn x.s.ls)) (g2:Zb L q2=some (Zw x.s.ss))=>Zew (pr:=pr) (e:=e') (c1:=c1) (c2:=c2) g1 g2 hm x.s.a x.s.b x.s.t x.s.c x.n hd hp
 have hok:(Zcm x.s.ls x.s.ss x.s.a x.s.b x.s.t x.s.c&&Zao x.d x.p x.n)=x.ok:=rfl
 rw [hok] at hva
 have hrc:=fun L e'=>ZgH (pr:=pr) (H:=L) (e:=e') (s:=bs cmd) (t:=bs []) (by rw [Jc];omega) (by rw [Jc];simp)
 have hrk:Zmk (bs cmd) (bs [])=Zi2 cmd []:=rfl
 rw [hrk] at hrc
 rw [Zr ZkT]
 unfold Zkl
 cases hA:x.ok with
 | false=>
  rw [hA] at hva
  simp only [RZ,if_false]
  simp (maxSteps:=2000000) +contextual only [YD,X1,Zc,Za h1,Za h2,hcp,hva,hrc,RD,pp,go_sem,reduceIte,Ra,Rb,Rc,Rd]
  refine Wc.of_eq (Km (b1:=H.length+2) (b2:=H.length+3) (c1:=none) (c2:=none) x _ ⟨_,rfl⟩ e _ ?_ (by omega) (by omega) (by omega) (by rw [Ry (by omega),show H.length+2 - H.length=2 by omega];rfl) (by rw [Ry (by omega),show H.length+3 - H.length=3 by omega];rfl)) ⟨rfl,rfl⟩
  exact Zk _ (Zk _ rfl (Zj rfl (by omega))) (Zj (Zk _ rfl (Zj rfl (by omega))) (by omega))
 | true=>
  rw [hA] at hva
  simp only [if_true]
  cases hB:Zi2 cmd [] with
  | false=>
   rw [hB] at hrc
   simp only [RZ,if_false]
   simp (maxSteps:=2000000) +contextual only [YD,X1,Zc,Za h1,Za h2,hcp,hva,hrc,RD,pp,go_sem,reduceIte,Ra,Rb,Rc,Rd]
   refine Wc.of_eq (Km (b1:=H.length+2) (b2:=H.length+3) (c1:=none) (c2:=none) x _ ⟨_,rfl⟩ e _ ?_ (by omega) (by omega) (by omega) (by rw [Ry (by omega),show H.length+2 - H.length=2 by omega];rfl) (by rw [Ry (by omega),show H.length+3 - H.length=3 by omega];rfl)) ⟨rfl,rfl⟩
   exact Zk _ (Zk _ rfl (Zj rfl (by omega))) (Zj (Zk _ rfl (Zj rfl (by omega))) (by omega))
  | true=>
   rw [hB] at hrc
   simp only [if_true]
   by_cases h60:x.n=60
   ·rw [if_pos h60]
    simp (maxSteps:=2000000) +contextual only [YD,X1,Zc,Za h1,Za h2,hcp,hva,hrc,RD,decide_eq_true h60,pp,go_sem,reduceIte,Ra,Rb,Rc,Rd]
    refine Wc.of_eq (Km (b1:=H.length+2) (b2:=H.length+3) (c1:=none) (c2:=none) x _ ⟨_,rfl⟩ e _ ?_ (by omega) (by omega) (by omega) (by rw [Ry (by omega),show H.length+2 - H.length=2 by omega];rfl) (by rw [Ry (by omega),show H.length+3 - H.length=3 by omega];rfl)) ⟨rfl,rfl⟩
    exact Zk _ (Zk _ rfl (Zj rfl (by omega))) (Zj (Zk _ rfl (Zj rfl (by omega))) (by omega))
   ·rw [if_neg h60]
    have hcl:=(ZcL hB).2.1
    simp (maxSteps:=2000000) +contextual only [YD,X1,Zc,Za h1,Za h2,hcp,hva,hrc,RD,decide_eq_false h60,pp,go_sem,reduceIte,Ra,Rb,Rc,Rd]
    have hA':=hA
    unfold Cn.ok at hA'
    rw [Rs] at hA'
    have hrl:=Zxf hA'.1 cmd
    obtain ⟨hlg1,hlg2⟩:=hA'
    have hap:=fun L e'=>ZnL (pr:=pr) (H:=L) (e:=e') x.d x.p x.n cmd ((Kb x.s cmd).2.getD [63]) hd hp hcm (by omega)
    obtain ⟨kk,hkk⟩:=ZFN x.d x.p x.n cmd ((Kb x.s cmd).2.getD [63])
    rw [hkk] at hap
    generalize ZC8 x.d x.p x.n cmd ((Kb x.s cmd).2.getD [63])=al at *
    refine (Zxb (s:=x.s) (c1:=c1) (c2:=c2) (Za h1 _) (Za h2 _) hlg1 cmd (by omega)).mono ?_
    intro v m hv
    have hnw:=fun s'=>ZG7 (s:=x.s) (s':=s') (cmd:=cmd)
    unfold ZC7 at hv
    cases ho:(Kb x.s cmd).1 with
    | none=>
     rw [ho] at hv
     obtain ⟨rfl,rfl⟩:=hv
     simp only [WD]
     generalize hs':x.s=s' at *
     simp (maxSteps:=2000000) +contextual only [Za h1,Za h2,hcp,hap,Zc,Rk,Rp,Ru,RX,RN,Wk,WW,RD,pp,go_sem,reduceIte,Ra,Rb,Rc,Rd]
     refine Wc.of_eq (Km (b1:=H.length+7) (b2:=H.length+8) (c1:=none) (c2:=none) ⟨s',al.1,al.2.1,al.2.2⟩ _ ⟨_,rfl⟩ e _ ?_ (by omega) (by omega) (by omega) (by rw [Ry (by omega),show H.length+7 - H.length=7 by omega];rfl) (by rw [Ry (by omega),show H.length+8 - H.length=8 by omega];rfl)) ⟨rfl,rfl⟩
     exact Zk _ (Zk _ (Zk _ rfl (Zj rfl (by omega))) (Zj (Zk _ rfl (Zj rfl (by omega))) (by omega))) (Zj (Zk _ (Zk _ rfl (Zj rfl (by omega))) (Zj (Zk _ rfl (Zj rfl (by omega))) (by omega))) (by omega))
    | some s'=>
     rw [ho] at hv
     obtain ⟨rfl,rfl⟩:=hv
     obtain ⟨hr',hc'⟩:=hnw s' ho
     have hrl':=Zca hr'
     have hss':s'.ss.length≤5:=by
      have:=hc'
      unfold ZA at this
      rw [Rs,decide_eq_true_eq] at this
      omega
     have hcp':=fun L e' (g1:Zb L (H.length+5)=some (Zn s'.ls)) (g2:Zb L (H.length+6)=some (Zw s'.ss))=>ZiK (pr:=pr) (e:=e') (c1:=none) (c2:=none) g1 g2 (by omega) (by omega) s'.a s'.b s'.t s'.c
     simp only [WV]
     simp (maxSteps:=2000000) +contextual only [hcp',hap,Zc,Rk,Rp,Ru,RX,RN,Wk,WW,RD,pp,go_sem,reduceIte,Ra,Rb,Rc,Rd]
     refine Wc.of_eq (Km (b1:=H.length+9) (b2:=H.length+10) (c1:=none) (c2:=none) ⟨s',al.1,al.2.1,al.2.2⟩ _ ⟨_,rfl⟩ e _ ?_ (by omega) (by omega) (by omega) (by rw [Ry (by omega),show H.length+9 - H.length=9 by omega];rfl) (by rw [Ry (by omega),show H.length+10 - H.length=10 by omega];rfl)) ⟨rfl,rfl⟩
     exact Zk _ (Zk _ (Zk _ rfl (Zj rfl (by omega))) (Zj (Zk _ rfl (Zj rfl (by omega))) (by omega))) (Zj (Zk _ (Zk _ rfl (Zj rfl (by omega))) (Zj (Zk _ rfl (Zj rfl (by omega))) (by omega))) (by omega))
theorem ZlK (hl:ZlH pr) {q1 q2:Nat} {c1 c2:Option Nat} {x:Cn} (h1:Zb H q1=some (Zn x.s.ls)) (h2:Zb H q2=some (Zw x.s.ss)) (hn:x.s.ls.length≤1048576) (hm:x.s.ss.length≤1048576) (hd:x.d.length≤1048576) (hp:x.p.length≤1048576) (cmd:By) (hcm:cmd.length≤1048576) :
  call T pr Yx [x.v q1 q2 c1 c2,sV cmd] ⟨H,e⟩=some (.tup [(Zkl x cmd).1.v H.length (H.length+1) none none,sV (Zkl x cmd).2],⟨H++[.cells (Zn (Zkl x cmd).1.s.ls) true,.cells (Zw (Zkl x cmd).1.s.ss) true],e⟩) :=
 Wc.eq (Zkh hl h1 h2 hn hm hd hp cmd hcm)
theorem ZlL {q1 q2:Nat} {c1 c2:Option Nat} {x:Cn} (h1:Zb H q1=some (Zn x.s.ls)) (h2:Zb H q2=some (Zw x.s.ss)) (hn:x.s.ls.length≤1048576) (hm:x.s.ss.length≤1048576) (hd:x.d.length≤1048576) (hp:x.p.length≤1048576) (cmd:By) (hcm:cmd.length≤1048576) :
  call T pr Yy [x.v q1 q2 c1 c2,sV cmd] ⟨H,e⟩=some (.tup [(Zkl x cmd).1.v H.length (H.length+1) none none,sV (Zkl x cmd).2],⟨H++[.cells (Zn (Zkl x cmd).1.s.ls) true,.cells (Zw (Zkl x cmd).1.s.ss) true],e⟩) :=
 Wc.eq (Zki h1 h2 hn hm hd hp cmd hcm)
section
variable {C : FuncId → List AV → Mem → Option (AV × Mem)} {g : X → AV} {m : Mem}
end
theorem Zrh (hi:Ko pr) (hc:YW pr) (hx:QW pr) (d p:By) (c:Int) (hd:d.length≤1048576) (hp:p.length≤1048576):call T pr ZbA [lgV d p c] ⟨H,e⟩ =
  if Zao d p c=true then some (.tup [slR H.length (Z7 60 0 (d++p)).length (ZpW (Z7 60 0 (d++p)).length),.bool true],⟨H++[.cells (ZnJ (Z7 60 0 (d++p))) true],e⟩)
  else some (.tup [.slice none 0 0 none,.bool false],⟨H,e⟩):=by
 have hl:=fun L=>Zjt (pr:=pr) (H:=L) (e:=none) hi hc hx d p c hd hp
 cases ho:Zao d p c with
 | true=>
  rw [if_pos rfl]
  apply Wc.eq
  rw [Zr Zjg]
  have hgo:=ZgM ho
  simp only [ho,if_pos hgo.1] at hl
  simp +contextual only [Kd,ZbE,hl,Y9 JF,RD,if_true,pp,ff,go_sem,reduceIte,Ra,Rb,Rc,Rd]
 | false=>
  rw [if_neg Bool.false_ne_true]
  apply Wc.eq
  rw [Zr Zjg]
  by_cases h3:d.length+p.length≤30000
  ·simp only [ho,if_pos h3] at hl
   simp +contextual only [Kd,ZbE,hl,Y9 JF,RD,if_false,RZ,pp,ff,go_sem,reduceIte,Ra,Rb,Rc,Rd]
  ·simp only [ho,if_neg h3] at hl
   simp +contextual only [Kd,ZbE,hl,Y9 JF,RD,if_false,RZ,pp,ff,go_sem,reduceIte,Ra,Rb,Rc,Rd]
theorem Zxg {l:By} (h:Za5 (bs l)=true) {b:UInt8} (hb:b∈l):32≤b.toNat∧b.toNat≤126:=by
 have:=List.all_eq_true.mp h b hb
 unfold okB at this
 simp at this
 omega
theorem Zxh {k:Int} {c r:By} (h0:0≤k) (h:Zi2 c r=true) {b:UInt8} (hb:b∈Zdw (J0 k c r)):32≤b.toNat∧b.toNat≤126:=by
 obtain ⟨_,_,_,h4,h5,_⟩:=ZcL h
 unfold Zdw J0 at hb
 simp only [Wa,R3] at hb
 rcases hb with ((((((hb | rfl) | hb) | rfl) | hb) | rfl) | hb)
 ·have:=Zfh h0 hb;omega
 ·decide
 ·exact Zxg h4 hb
 ·decide
 ·exact Zxg h5 hb
 ·decide
 ·have:=Zfh (Int.natCast_nonneg _) hb;omega
theorem ZFO {k:Nat} {c r:By} (hk:k≤59) (h:Zi2 c r=true):ZaU k (J1 k c r)=some ((c,r),(J1 k c r).length):=by
 have hno:(Zdw (J0 k c r)).contains 10=false:=Zb8 fun b hb he=>by
  have:=(Zxh (Int.natCast_nonneg k) h hb).1
  subst he
  simp at this
 have hcut:Y4 (J1 k c r) 10=Zdw (J0 k c r):=(ZpS (q:=[]) hno).1
 have hdec:Zwx k (Zdw (J0 k c r))=some (c,r):=(ZgL (by omega) (by omega)).mpr ⟨h,rfl⟩
 have hc:(J1 k c r).contains 10=true:=by unfold J1;simp
 unfold ZaU
 rw [if_pos hc,hcut,hdec]
 simp [J1]
theorem ZAD {k:Int} {c r:By} (h0:0≤k) (h1:k≤59) (h:Zi2 c r=true):(J1 k c r).length≤422:=by
 obtain ⟨_,h2,h3,_⟩:=ZcL h
 have hbl:=Zn3 (k:=k) (c:=c) (r:=r) h0 h1
 have hsl:=Zfg (J0 k c r)
 unfold J1
 rw [RX,RY]
 omega
theorem ZC9 {k:Nat} {l:By} {p:Rc} {n:Nat} (hk:k≤59) (h:ZaU k l=some (p,n)):n≤422∧∀ b∈l.take n,b.toNat≤126:=by
 obtain ⟨h1,h2,h3,h4⟩:=ZcM h
 obtain ⟨c,r⟩:=p
 obtain ⟨hr,hl⟩:=(ZgL (by omega) (by omega)).mp h3
 have hll:=ZAD (k:=(k:Int)) (c:=c) (r:=r) (by omega) (by omega) hr
 have htk:l.take n=Y4 l 10++[10]:=by
  have hw:=Zfi 10 l h2
  conv=>lhs;rw [hw]
  rw [h4]
  rw [List.take_append,List.take_of_length_le (by omega)]
  simp
 constructor
 ·rw [hl,RX,RY] at hll
  omega
 ·intro b hb
  rw [htk,←hl] at hb
  unfold J1 at hb
  rcases Wa.mp hb with hb | hb
  ·exact (Zxh (by omega) hr hb).2
  ·rw [R3.mp hb];decide
theorem Zsx:∀ (f k:Nat) (l:By),k+f≤60→XE f k l≤422*(Z7 f k l).length∧∀ b∈l.take (XE f k l),b.toNat≤126
 | 0,k,l,_=>by simp [XE,Z7]
 | f+1,k,l,hk=>by
  rw [XE,Z7]
  cases hh:ZaU k l with
  | none=>simp
  | some q=>
   obtain ⟨p,n⟩:=q
   obtain ⟨h1,h2⟩:=ZC9 (by omega) hh
   obtain ⟨h3,h4⟩:=Zsx f (k+1) (l.drop n) (by omega)
   refine ⟨by simp only [RN];omega,fun b hb => ?_⟩
   simp only at hb
   rw [List.take_add] at hb
   rcases Wa.mp hb with hb | hb
   ·exact h2 b hb
   ·exact h4 b hb
theorem Zxi:∀ (f k:Nat) (l t:By),XE f k l=l.length→(Z7 f k l).length<f→Z7 f k (l++t)=Z7 f k l++Z7 (f - (Z7 f k l).length) (k+(Z7 f k l).length) t∧XE f k (l++t)=l.length+XE (f - (Z7 f k l).length) (k+(Z7 f k l).length) t
 | 0,k,l,t,h1,h2=>by simp at h2
 | f+1,k,l,t,h1,h2=>by
  cases hh:ZaU k l with
  | none=>
   have hl:l=[]:=by
    rw [XE,hh] at h1
    exact List.eq_nil_of_length_eq_zero h1.symm
   subst hl
   have ho:Z7 (f+1) k []=[]:=by rw [Z7,hh]
   rw [ho]
   simp
  | some q=>
   obtain ⟨p,n⟩:=q
   have hn:=(ZcM hh).1
   have ho:Z7 (f+1) k l=p::Z7 f (k+1) (l.drop n):=by rw [Z7,hh]
   have hc:XE (f+1) k l=n+XE f (k+1) (l.drop n):=by rw [XE,hh]
   have hd:(l++t).drop n=l.drop n++t:=by rw [List.drop_append,show n - l.length=0 by omega,List.drop_zero]
   rw [ho,RN] at h2
   have hdl:(l.drop n).length=l.length - n:=List.length_drop
   obtain ⟨i1,i2⟩:=Zxi f (k+1) (l.drop n) t (by omega) (by omega)
   rw [ho,RN,show f+1 - ((Z7 f (k+1) (l.drop n)).length+1)=f - (Z7 f (k+1) (l.drop n)).length by omega,show k+((Z7 f (k+1) (l.drop n)).length+1)=k+1+(Z7 f (k+1) (l.drop n)).length by omega]
   constructor
   ·rw [Z7,ZpZ t hh]
    simp only
    rw [hd,i1,Rp]
   ·rw [XE,ZpZ t hh]
    simp only
    rw [hd,i2]
    omega
theorem ZAE (f k:Nat):Z7 f k []=[]∧XE f k []=0:=by
 cases f with
 | zero=>simp [Z7,XE]
 | succ f=>rw [Z7,XE,ZpU];simp
theorem ZIy {d p a r:By} {c:Int} (h:Zao d p c=true) (hr:Zi2 a r=true) (hc:c≠60) :
  Zao d (p++J1 c a r) (c+1)=true∧Z7 60 0 (d++(p++J1 c a r))=Z7 60 0 (d++p)++[(a,r)]:=by
 obtain ⟨g1,g2,g3,g4,g5⟩:=ZgM h
 obtain ⟨n,rfl⟩:∃ n:Nat,c=(n:Int):=⟨_,g4⟩
 have hn:n=(Z7 60 0 (d++p)).length:=by omega
 have hn59:n≤59:=by omega
 have hll:(d++p).length=d.length+p.length:=RX
 obtain ⟨i1,i2⟩:=Zxi 60 0 (d++p) (J1 n a r) (by omega) (by omega)
 have hh:=ZFO (k:=n) (c:=a) (r:=r) hn59 hr
 obtain ⟨f,hf⟩:∃ f,60 - n=f+1:=⟨59 - n,by omega⟩
 rw [←hn,hf,WW] at i1 i2
 have ho1:Z7 (f+1) n (J1 n a r)=[(a,r)]:=by
  rw [Z7,hh]
  simp only [Rn]
  rw [(ZAE f (n+1)).1]
 have hc1:XE (f+1) n (J1 n a r)=(J1 n a r).length:=by
  rw [XE,hh]
  simp only [Rn]
  rw [(ZAE f (n+1)).2,Nat.add_zero]
 rw [ho1] at i1
 rw [hc1] at i2
 have hb:=(Zsx 60 0 (d++p) (by omega)).1
 have hl:=ZAD (k:=(n:Int)) (c:=a) (r:=r) (by omega) (by omega) hr
 rw [Rk] at i1 i2
 refine ⟨?_,i1⟩
 have hol:(Z7 60 0 (d++p)++[(a,r)]).length=n+1:=by rw [RX,RY,hn]
 unfold Zao
 rw [i1,i2,RX,RX,hol,g3]
 simp only [Rs,decide_eq_true_eq]
 refine ⟨by omega,by omega,trivial,by omega⟩
theorem Zqs (z:Int) {b:UInt8} (hb:b∈Lib.itoa z):45≤b.toNat∧b.toNat≤57:=by
 unfold Lib.itoa at hb
 split at hb
 ·rcases R6.mp hb with rfl | hb
  ·decide
  ·have:=Zfh (n:=(z.natAbs:Int)) (by omega) (b:=b) (by unfold Lib.itoa;rw [if_neg (by omega),Int.toNat_natCast];exact hb)
   omega
 ·rename_i hz
  have:=Zfh (n:=z) (by omega) (b:=b) (by unfold Lib.itoa;rw [if_neg hz];exact hb)
  omega
theorem Zsy (s:Sd) (k:Int):∀ b∈ZgS s k,45≤b.toNat∧b.toNat≤57:=by
 unfold ZgS
 split
 ·intro b hb
  rw [Zly] at hb
  rcases Wa.mp hb with hb | hb
  ·exact Zqs _ hb
  ·rcases R6.mp hb with rfl | hb
   ·decide
   ·exact Zqs _ hb
 ·exact fun b hb=>Zqs _ hb
theorem Zqt {s:Sd} (hs:s.std=true) (k:Int):Za5 (bs (ZgS s k))=true∧(ZgS s k).length≤44∧ZgS s k≠[63]:=by
 obtain ⟨hr,hc,hb,hss,hls,ht1,ht2,hk1,hk2,hre⟩:=XF hs
 refine ⟨?_,?_,?_⟩
 ·unfold Za5
  refine List.all_eq_true.mpr fun b hb => ?_
  have:=Zsy s k b hb
  unfold okB
  simp
  omega
 ·unfold ZgS
  split
  ·exact Zt7 (c:=47) (Zcc hc).1 (Zcc hc).2
  ·have:=Y5 _ (ZaY s.ls s.a s.b);omega
 ·intro h
  have:=Zsy s k 63 (by rw [h];simp)
  have h63:(63:UInt8).toNat=63:=rfl
  omega
theorem Zt8 {s s':Sd} {cmd:By} (hs:s.std=true) (h:(Kb s cmd).1=some s'):s'.std=true∧∃ k:Int,(Kb s cmd).2=some (ZgS s' k):=by
 unfold Kb at h ⊢
 cases hps:ZX 32 cmd with
 | nil=>rw [hps] at h;cases h
 | cons w ws=>
  rw [hps] at h
  have hxl:Zrg s (w::ws)=match Zcb ws with | none=>(none,none) | some zs=>execP s w zs:=rfl
  rw [hxl] at h ⊢
  cases hz:Zcb ws with
  | none=>rw [hz] at h;cases h
  | some zs=>
   rw [hz] at h
   simp only at h ⊢
   unfold execP at h ⊢
   split at h
   ·rename_i hk
    rw [if_pos hk]
    split at h
    ·rename_i hok
     rw [if_pos hok]
     simp only [RS] at h
     subst h
     refine ⟨?_,_,rfl⟩
     exact ZGJ (s:=s) (m:=(Zcj w zs.length,zs.getD 0 0,zs.getD 1 0,zs.getD 2 0)) hs (by unfold ZH0;rw [if_pos hok];rfl)
    ·cases h
   ·cases h
def Cn.recs (x:Cn):List Rc:=Z7 60 0 (x.d++x.p)
theorem ZG8 {c r:By} (h:Zi2 c []=true) (h1:Za5 (bs r)=true) (h2:r.length≤250):Zi2 c r=true:=by
 unfold Zi2 Zmk at *
 simp only [Rs,decide_eq_true_eq] at *
 exact ⟨⟨h.1.1,by rw [Z1];omega⟩,h.2.1,h1,h.2.2.2⟩
theorem ZG9 {x:Cn} (hx:x.ok=true) (cmd:By):(Zkl x cmd).1.ok=true∧((Zkl x cmd).1=x∨((Zkl x cmd).1.recs=x.recs++[(cmd,(Zkl x cmd).2)]∧(Zkl x cmd).1.n=x.n+1∧((Zkl x cmd).2=[63]→(Zkl x cmd).1.s=x.s))):=by
 have hx':=hx
 unfold Cn.ok at hx'
 rw [Rs] at hx'
 obtain ⟨hs,hlg⟩:=hx'
 unfold Zkl
 rw [if_pos hx]
 by_cases hB:Zi2 cmd []=true
 ·rw [if_pos hB]
  by_cases h60:x.n=60
  ·rw [if_pos h60]
   exact ⟨hx,.inl rfl⟩
  ·rw [if_neg h60]
   have hst:((Kb x.s cmd).1.getD x.s).std=true:=by
    cases ho:(Kb x.s cmd).1 with
    | none=>exact hs
    | some s'=>exact (Zt8 hs ho).1
   by_cases hrc:Zi2 cmd ((Kb x.s cmd).2.getD [63])=true
   ·obtain ⟨l1,l2⟩:=ZIy hlg hrc h60
    have hap:ZC8 x.d x.p x.n cmd ((Kb x.s cmd).2.getD [63])=(x.d,x.p++J1 x.n cmd ((Kb x.s cmd).2.getD [63]),x.n+1):=by
     unfold ZC8
     rw [if_pos (by rw [hlg,hrc];rfl),if_neg h60]
    rw [hap]
    refine ⟨?_,.inr ⟨l2,rfl,fun h => ?_⟩⟩
    ·unfold Cn.ok
     rw [Rs]
     exact ⟨hst,l1⟩
    ·cases ho:(Kb x.s cmd).1 with
     | none=>rfl
     | some s'=>
      obtain ⟨h1,k,h2⟩:=Zt8 hs ho
      simp only [h2,WV] at h
      exact absurd h (Zqt h1 k).2.2
   ·have hap:ZC8 x.d x.p x.n cmd ((Kb x.s cmd).2.getD [63])=(x.d,x.p,x.n):=by
     unfold ZC8
     rw [if_neg (by rw [Rs];exact fun h=>hrc h.2)]
    rw [hap]
    have hno:(Kb x.s cmd).1=none:=by
     cases ho:(Kb x.s cmd).1 with
     | none=>rfl
     | some s'=>
      obtain ⟨h1,k,h2⟩:=Zt8 hs ho
      obtain ⟨f1,f2,_⟩:=Zqt h1 k
      rw [h2] at hrc
      exact absurd (ZG8 hB f1 (by omega)) hrc
    rw [hno]
    exact ⟨hx,.inl rfl⟩
 ·rw [if_neg hB]
  exact ⟨hx,.inl rfl⟩
theorem ZIz {x:Cn} (hx:¬ x.ok=true) (cmd:By):Zkl x cmd=(x,[110,111]):=by
 unfold Zkl
 rw [if_neg hx]
def ZeM:Nat→Cn→List Rc→Nat
 | i,x,[]=>i
 | i,x,e::es=>if (Zkl x e.1).2=e.2 then ZeM (i+1) (Zkl x e.1).1 es else i
def Cn.new (s:Sd):Cn:=⟨s,[],[],0⟩
def ZIA (z:Bool) (n:Nat) (L:List Blk) (rv:AV) (ls:List Ld):Prop :=
 (z=true∧rv=.slice none 0 0 none∧ls=[])∨∃ q c,n≤q∧rv=slL q ls.length c∧Zb L q=some (Zn ls)
def ChV (z:Bool) (n:Nat) (L:List Blk) (cv:AV) (ss:List Sg):Prop :=
 (z=true∧cv=.slice none 0 0 none∧ss=[])∨∃ q c,n≤q∧cv=slS q ss.length c∧Zb L q=some (Zw ss)
theorem ZIA.keep {z:Bool} {n:Nat} {L L':List Blk} {rv:AV} {ls:List Ld} (h:ZIA z n L rv ls) (hk:∀ i,n≤i→i<L.length→L'[i]?=L[i]?):ZIA z n L' rv ls:=by
 rcases h with h | ⟨q,c,h1,h2,h3⟩
 ·exact .inl h
 ·refine .inr ⟨q,c,h1,h2,?_⟩
  have hlt:=ZW h3
  unfold Zb at h3 ⊢
  rw [hk q h1 hlt]
  exact h3
theorem ChV.keep {z:Bool} {n:Nat} {L L':List Blk} {cv:AV} {ss:List Sg} (h:ChV z n L cv ss) (hk:∀ i,n≤i→i<L.length→L'[i]?=L[i]?):ChV z n L' cv ss:=by
 rcases h with h | ⟨q,c,h1,h2,h3⟩
 ·exact .inl h
 ·refine .inr ⟨q,c,h1,h2,?_⟩
  have hlt:=ZW h3
  unfold Zb at h3 ⊢
  rw [hk q h1 hlt]
  exact h3
theorem ZIA.low {z:Bool} {n m:Nat} {L:List Blk} {rv:AV} {ls:List Ld} (h:ZIA z n L rv ls) (hm:m≤n):ZIA z m L rv ls:=by
 rcases h with h | ⟨q,c,h1,h2,h3⟩
 ·exact .inl h
 ·exact .inr ⟨q,c,by omega,h2,h3⟩
theorem ChV.low {z:Bool} {n m:Nat} {L:List Blk} {cv:AV} {ss:List Sg} (h:ChV z n L cv ss) (hm:m≤n):ChV z m L cv ss:=by
 rcases h with h | ⟨q,c,h1,h2,h3⟩
 ·exact .inl h
 ·exact .inr ⟨q,c,by omega,h2,h3⟩
abbrev Cn.w (x:Cn) (rv cv:AV):AV:=cnV rv x.s.a x.s.b cv x.s.t x.s.c x.d x.p x.n
abbrev Cn.cs (x:Cn) (rv cv:AV):List AV:=[rv,.int .i64 x.s.a,.int .i64 x.s.b,cv,.int .i64 x.s.t,.int .i64 x.s.c,sV x.d,sV x.p,.int .i64 x.n]
def ZlM (z:Bool) (n:Nat) (L:List Blk) (rv cv:AV) (s:Sd):Prop:=ZIA z n L rv s.ls∧ChV z n L cv s.ss
theorem ZlM.keep {z:Bool} {n:Nat} {L L':List Blk} {rv cv:AV} {s:Sd} (h:ZlM z n L rv cv s) (hk:∀ i,n≤i→i<L.length→L'[i]?=L[i]?):ZlM z n L' rv cv s:=⟨h.1.keep hk,h.2.keep hk⟩
theorem ZlM.low {z:Bool} {n m:Nat} {L:List Blk} {rv cv:AV} {s:Sd} (h:ZlM z n L rv cv s) (hm:m≤n):ZlM z m L rv cv s:=⟨h.1.low hm,h.2.low hm⟩
theorem ZlM.more {z:Bool} {n:Nat} {L:List Blk} {rv cv:AV} {s:Sd} (h:ZlM z n L rv cv s) (G:List Blk):ZlM z n (L++G) rv cv s:=h.keep fun i _ hi=>Ws hi
theorem ZlM.grown {z:Bool} {n:Nat} {L L':List Blk} {rv cv:AV} {s:Sd} (h:ZlM z n L rv cv s) (hL:ZT L L'):ZlM z n L' rv cv s:=by
 obtain ⟨G,rfl⟩:=hL
 exact h.more G
theorem ZlM.of {z:Bool} {n:Nat} {L:List Blk} {s:Sd} {q1 q2:Nat} {c1 c2:Option Nat} (g1:n≤q1) (g2:n≤q2) (h1:Zb L q1=some (Zn s.ls)) (h2:Zb L q2=some (Zw s.ss)):ZlM z n L (slL q1 s.ls.length c1) (slS q2 s.ss.length c2) s:=⟨.inr ⟨q1,c1,g1,rfl,h1⟩,.inr ⟨q2,c2,g2,rfl,h2⟩⟩
def Sd.small (s:Sd):Prop:=s.ls.length≤1048576∧s.ss.length≤1048576
def Cn.small (x:Cn):Prop:=x.s.small∧x.d.length≤1048576∧x.p.length≤1048576
theorem ZFP {s:Sd} (h:s.std=true):s.small:=by
 obtain ⟨hr,hc,hb,hss,hls,_⟩:=XF h
 exact ⟨by omega,by omega⟩
theorem ZHa {x:Cn} (h:x.ok=true):x.small:=by
 unfold Cn.ok at h
 rw [Rs] at h
 obtain ⟨g1,_⟩:=ZgM h.2
 exact ⟨ZFP h.1,by omega,by omega⟩
theorem Zxj {x:Cn} (h:x.small) (cmd:By):(Zkl x cmd).1.small:=by
 by_cases hx:x.ok=true
 ·exact ZHa (ZG9 hx cmd).1
 ·rw [ZIz hx]
  exact h
theorem Zxk {s:Sd} (h:s.small):(Cn.new s).small:=⟨h,by simp [Cn.new],by simp [Cn.new]⟩
structure Exe (pr:Zt) (z:Bool) (fV fX fN:FuncId):Prop where
 val:∀ {L:List Blk} {e:Option Nat} {rv cv:AV} {x:Cn},ZlM z 0 L rv cv x.s→x.small→call T pr fV [x.w rv cv] ⟨L,e⟩=some (.bool x.ok,⟨L,e⟩)
 cmd:∀ {L:List Blk} {e:Option Nat} {rv cv:AV} {x:Cn} (c:By),ZlM z 0 L rv cv x.s→x.small→c.length≤1048576 →
  Wc (call T pr fX [x.w rv cv,sV c] ⟨L,e⟩) (fun v m=>∃ rv' cv' G,v=.tup [(Zkl x c).1.w rv' cv',sV (Zkl x c).2]∧m=⟨L++G,e⟩∧ZlM z L.length (L++G) rv' cv' (Zkl x c).1.s)
 new:∀ {L:List Blk} {e:Option Nat} {rv cv:AV} {s:Sd},ZlM z 0 L rv cv s→s.small →
  Wc (call T pr fN [stV rv s.a s.b cv s.t s.c] ⟨L,e⟩) (fun v m=>if s.std=true then ∃ rv' cv' G,v=.tup [(Cn.new s).w rv' cv',.bool true]∧m=⟨L++G,e⟩∧ZlM z L.length (L++G) rv' cv' s
   else v=.tup [cnV (.slice none 0 0 none) 0 0 (.slice none 0 0 none) 0 0 [] [] 0,.bool false]∧m=⟨L,e⟩)
theorem Zob {L:List Blk} {s:Sd} {c1 c2:Option Nat} {z:Bool}:ZlM z L.length (L++[.cells (Zn s.ls) true,.cells (Zw s.ss) true]) (slL L.length s.ls.length c1) (slS (L.length+1) s.ss.length c2) s :=
 ZlM.of (Rq _) (Nat.le_succ _) (Ze (w:=true) (by rw [ZQ];rfl)) (Ze (w:=true) (by rw [Ry (by omega),show L.length+1 - L.length=1 by omega];rfl))
theorem ZKi (hl:ZlH pr):Exe pr false XV Yx Jg where
 val:=by
  rintro L e rv cv x ⟨h1,h2⟩ ⟨⟨hn,hm⟩,hd,hp⟩
  rcases h1 with ⟨h,_⟩|⟨q1,c1,_,rfl,h1⟩
  ·cases h
  rcases h2 with ⟨h,_⟩|⟨q2,c2,_,rfl,h2⟩
  ·cases h
  exact Zev hl.all.ito hl.all.con hl.all.idx h1 h2 hm x.s.a x.s.b x.s.t x.s.c x.n hd hp
 cmd:=by
  rintro L e rv cv x c ⟨h1,h2⟩ ⟨⟨hn,hm⟩,hd,hp⟩ hc
  rcases h1 with ⟨h,_⟩|⟨q1,c1,_,rfl,h1⟩
  ·cases h
  rcases h2 with ⟨h,_⟩|⟨q2,c2,_,rfl,h2⟩
  ·cases h
  exact Wc.of_eq (ZlK hl h1 h2 hn hm hd hp c hc) ⟨_,_,_,rfl,rfl,Zob⟩
 new:=by
  rintro L e rv cv s ⟨h1,h2⟩ ⟨hn,hm⟩
  rcases h1 with ⟨h,_⟩|⟨q1,c1,_,rfl,h1⟩
  ·cases h
  rcases h2 with ⟨h,_⟩|⟨q2,c2,_,rfl,h2⟩
  ·cases h
  cases hs:s.std with
  | true=>exact Wc.of_eq (Zq8 h1 h2 hn hm s.a s.b s.t s.c hs) (by rw [if_pos rfl];exact ⟨_,_,_,rfl,rfl,Zob⟩)
  | false=>exact Wc.of_eq (Zmi h1 h2 hm s.a s.b s.t s.c hs) (by rw [if_neg (by simp)];exact ⟨rfl,rfl⟩)
theorem ZKj:Exe pr false XW Yy Jh where
 val:=by
  rintro L e rv cv x ⟨h1,h2⟩ ⟨⟨hn,hm⟩,hd,hp⟩
  rcases h1 with ⟨h,_⟩|⟨q1,c1,_,rfl,h1⟩
  ·cases h
  rcases h2 with ⟨h,_⟩|⟨q2,c2,_,rfl,h2⟩
  ·cases h
  exact Zew h1 h2 hm x.s.a x.s.b x.s.t x.s.c x.n hd hp
 cmd:=by
  rintro L e rv cv x c ⟨h1,h2⟩ ⟨⟨hn,hm⟩,hd,hp⟩ hc
  rcases h1 with ⟨h,_⟩|⟨q1,c1,_,rfl,h1⟩
  ·cases h
  rcases h2 with ⟨h,_⟩|⟨q2,c2,_,rfl,h2⟩
  ·cases h
  exact Wc.of_eq (ZlL h1 h2 hn hm hd hp c hc) ⟨_,_,_,rfl,rfl,Zob⟩
 new:=by
  rintro L e rv cv s ⟨h1,h2⟩ ⟨hn,hm⟩
  rcases h1 with ⟨h,_⟩|⟨q1,c1,_,rfl,h1⟩
  ·cases h
  rcases h2 with ⟨h,_⟩|⟨q2,c2,_,rfl,h2⟩
  ·cases h
  cases hs:s.std with
  | true=>exact Wc.of_eq (Zq9 h1 h2 hn hm s.a s.b s.t s.c hs) (by rw [if_pos rfl];exact ⟨_,_,_,rfl,rfl,Zob⟩)
  | false=>exact Wc.of_eq (Zmj h1 h2 hm s.a s.b s.t s.c hs) (by rw [if_neg (by simp)];exact ⟨rfl,rfl⟩)
def Zg5 (z:Bool) (L:List Blk) (rv cv:AV) (s:Sd) (u b:Nat):Prop:=∀ L':List Blk,(∀ i,i≠u→i≠b→i<L.length→L'[i]?=L[i]?)→ZlM z 0 L' rv cv s
theorem Zg5.now {z:Bool} {L:List Blk} {rv cv:AV} {s:Sd} {u b:Nat} (h:Zg5 z L rv cv s u b):ZlM z 0 L rv cv s:=h L fun _ _ _ _=>rfl
theorem Zg5.old {z:Bool} {rv cv:AV} {s:Sd} {u b:Nat} (h:ZlM z 0 H rv cv s) (hu:H.length≤u) (hb:H.length≤b) (G:List Blk):Zg5 z (H++G) rv cv s u b:=fun L' hk=>h.keep fun i _ hi=>by
 rw [hk i (by omega) (by omega) (by rw [RX];omega),Ws hi]
theorem Zg5.fresh {z:Bool} {n:Nat} {L L6:List Blk} {rv cv:AV} {s:Sd} {u b:Nat} (h:ZlM z n L rv cv s) (hu:u<n) (hb:L.length≤b∨b<n) (hl:L.length≤L6.length) (hk:∀ i,n≤i→i<L.length→L6[i]?=L[i]?):Zg5 z L6 rv cv s u b:=fun L' hk'=>
 (h.keep fun i hi hi2=>by rw [hk' i (by omega) (by omega) (by omega),hk i hi hi2]).low (WY _)
variable {pr : Zt} {H : List Blk} {e : Option Nat}
variable {pr : Zt} {H : List Blk} {e : Option Nat}
def ZdA (s:Sd) (d p:By) (n:Int):Option Nat :=
 if s.std=true then (if Zao d p n=true then some (ZeM 0 (Cn.new s) (Z7 60 0 (d++p))) else none) else none
theorem ZzR:∀ (f k:Nat) (l:By),k+f≤60→∀ x∈Z7 f k l,Zi2 x.1 x.2=true
 | 0,k,l,_,x,hx=>by simp [Z7] at hx
 | f+1,k,l,hk,x,hx=>by
  rw [Z7] at hx
  cases hh:ZaU k l with
  | none=>rw [hh] at hx;simp at hx
  | some q=>
   obtain ⟨⟨c,r⟩,n⟩:=q
   rw [hh] at hx
   obtain ⟨h1,h2,h3,h4⟩:=ZcM hh
   rcases R6.mp hx with rfl | hx
   ·exact ((ZgL (by omega) (by omega)).mp h3).1
   ·exact ZzR f (k+1) (l.drop n) (by omega) x hx
theorem ZlN {α:Type} {ps:List α} {i:Nat} (hi:i<ps.length):∃ w,ps[i]?=some w∧ps.drop i=w::ps.drop (i+1) :=
 ⟨ps[i],Rj hi,Rm hi⟩
set_option maxHeartbeats 4000000 in
theorem Zri (hl:ZlH pr) {z:Bool} {fV:FuncId} (E:Exe pr z fV Yx Jg) {rv cv:AV} {s:Sd} (h:ZlM z 0 H rv cv s) (hs:s.small) (d p:By) (n:Int) (hd:d.length≤1048576) (hp:p.length≤1048576) :
  Wc (call T pr Zar [stV rv s.a s.b cv s.t s.c,lgV d p n] ⟨H,e⟩) (fun v m=>v=.tup [.int .i64 (((ZdA s d p n).getD 0:Nat):Int),.bool (ZdA s d p n).isSome]∧m=⟨H,e⟩):=by
 have hli:=fun L e'=>Zrh (pr:=pr) (H:=L) (e:=e') hl.all.ito hl.all.con hl.all.idx d p n hd hp
 rw [Zr ZsI]
 unfold ZdA
 simp (maxSteps:=2000000) +contextual only [YZ,Zkx,pp,go_sem,reduceIte,Ra,Rb,Rc,Rd]
 refine (E.new (h.more _) hs).mono ?_
 intro v m hv
 cases hsd:s.std with
 | false=>
  rw [hsd,if_neg (by simp)] at hv
  obtain ⟨rfl,rfl⟩:=hv
  cases ho:Zao d p n with
  | false=>
   simp only [ho,RZ,if_false] at hli ⊢
   simp (maxSteps:=2000000) +contextual only [YZ,Zc,hli,RD,pp,ff,go_sem,reduceIte,Ra,Rb,Rc,Rd]
   simp
   exact Zk _ rfl (by rw [XT];exact decide_eq_true (by omega))
  | true=>
   simp only [ho,if_true,RZ,if_false] at hli ⊢
   simp (maxSteps:=2000000) +contextual only [YZ,Zc,hli,RD,pp,ff,go_sem,reduceIte,Ra,Rb,Rc,Rd]
   simp
   exact Zk _ rfl (by rw [XT];exact decide_eq_true (by omega))
 | true=>
  rw [hsd,if_pos rfl] at hv
  obtain ⟨rv',cv',G,rfl,rfl,hcv⟩:=hv
  simp only [if_true]
  have k1:∀ X,Zb (H++[Blk.cells [rv,.int .i64 s.a,.int .i64 s.b,cv,.int .i64 s.t,.int .i64 s.c] true,Blk.cells [sV d,sV p,.int .i64 n] true]++G++X) (H.length+1)=some [sV d,sV p,.int .i64 n]:=fun X=>Za (Za (Ze (w:=true) (by rw [Ry (by omega),show H.length+1 - H.length=1 by omega];rfl)) G) X
  have hL1:ZT H (H++[Blk.cells [rv,.int .i64 s.a,.int .i64 s.b,cv,.int .i64 s.t,.int .i64 s.c] true,Blk.cells [sV d,sV p,.int .i64 n] true]++G):=⟨_,by rw [Rk]⟩
  have hl1:H.length+2≤(H++[Blk.cells [rv,.int .i64 s.a,.int .i64 s.b,cv,.int .i64 s.t,.int .i64 s.c] true,Blk.cells [sV d,sV p,.int .i64 n] true]++G).length:=by simp only [RX,RN,Wk];omega
  have hcv:=hcv.low (WY _)
  generalize H++[Blk.cells [rv,.int .i64 s.a,.int .i64 s.b,cv,.int .i64 s.t,.int .i64 s.c] true,Blk.cells [sV d,sV p,.int .i64 n] true]++G=L1 at *
  have k2:Zb L1 (H.length+1)=some [sV d,sV p,.int .i64 n]:=by have:=k1 [];rw [Rv] at this;exact this
  cases ho:Zao d p n with
  | false=>
   simp only [ho,RZ,if_false] at hli ⊢
   simp (maxSteps:=2000000) +contextual only [YZ,Zc,k1,k2,hli,RD,pp,go_sem,reduceIte,Ra,Rb,Rc,Rd]
   exact Wc.of_eq (ZFp (hL1.more _) e _ _ (by simp [AV.under,AV.under.go]) (Zk _ rfl (Zj rfl (by omega)))) ⟨rfl,rfl⟩
  | true=>
   simp only [ho,if_true] at hli ⊢
   have hxl:=(ZgM ho).2.2.2.2
   have hrc:=ZzR 60 0 (d++p) (by omega)
   generalize Z7 60 0 (d++p)=xs at *
   simp (maxSteps:=2000000) +contextual only [YZ,Zc,k1,k2,hli,RD,Rk,Rp,Ru,RX,RN,Wk,WW,pp,go_sem,reduceIte,Ra,Rb,Rc,Rd]
   obtain ⟨u,hu⟩:∃ u,u=L1.length:=⟨_,rfl⟩
   rw [←hu]
   have hns:=Zxk hs
   have hfin:∀ (i:Nat) (ok:Bool) (L:List Blk) (e0 e1:Option Nat),ZT H L→clean H.length e1=true→finish 1 H.length e0 (.tup [.int .i64 (i:Int),.bool ok]) ⟨L,e1⟩=some (.tup [.int .i64 (i:Int),.bool ok],⟨H,e0⟩):=fun i ok L e0 e1 g c=>ZFp g e0 e1 _ (by simp [AV.under,AV.under.go]) c
   refine ZL (fun j st=>∃ (i:Nat) (y:Cn) (rv cv:AV) (L:List Blk) (e':Option Nat) (w10 w11 w12 w13 w18 w19:AV),i+j=xs.length∧ZT H L∧clean H.length e'=true∧y.small∧Zg5 z L rv cv y.s u u∧L[u]?=some (.cells (y.cs rv cv) true)∧Zb L (u+1)=some (ZnJ xs)∧ZeM i y (xs.drop i)=ZeM 0 (Cn.new s) xs ∧
     st=⟨_::_::_::_::.int .i64 0::.bool false::.ptr (some (u,0))::.bool true::slR (u+1) xs.length (ZpW xs.length)::.bool true::w10::w11::w12::w13::.bool false::slR (u+1) xs.length (ZpW xs.length)::.int .i64 xs.length::.int .i64 i::w18::[w19],⟨L,e'⟩⟩) ?_ xs.length _
     ⟨0,Cn.new s,rv',cv',_,_,_,_,_,_,_,_,by omega,hL1.more _,Zk _ rfl (Zj rfl (by omega)),hns,Zg5.old (H:=L1) hcv (by omega) (by omega) _,by rw [hu,ZQ];rfl,Ze (w:=true) (by rw [hu,Ry (by omega),show L1.length+1 - L1.length=1 by omega];rfl),by rw [List.drop_zero],rfl⟩
   rintro j _ ⟨i,y,rv,cv,L,e',w10,w11,w12,w13,w18,w19,hij,hL,he',hy,hcon,hLu,hLx,hre,rfl⟩
   have hlx:=ZW hLx
   by_cases hj:j=0
   ·have hip:i=xs.length:=by omega
    subst hip
    rw [Rn] at hre
    simp (maxSteps:=2000000) +contextual only [Zc5,YZ,Rh,decide_false,hfin,hL,he',←hre,ZeM,WV,Wn,pp,go_sem,reduceIte,Ra,Rb,Rc,Rd]
   ·have hi:i<xs.length:=by omega
    obtain ⟨w,hwi,hdr⟩:=ZlN hi
    have hiw:=Zi (show i<9223372036854775807 by omega)
    have hp2:Zcn true (ZnJ xs) (i*2) 2=some (rcV (bs w.1) (bs w.2)):=ZEQ Zfj hwi
    simp (maxSteps:=2000000) +contextual only [Zc5,hi,hLx,hp2,Za hLx,hLu,Ze hLu,ZY hLu,Za (Ze hLu),Zc,decide_true,pp,go_sem,reduceIte,Ra,Rb,Rc,Rd]
    have hwr:=ZcL (hrc w (WJ hwi))
    refine (E.cmd w.1 (hcon.now.more _) hy (by omega)).mono ?_
    rintro v m ⟨rv2,cv2,G2,rfl,rfl,hcv2⟩
    rw [hdr,ZeM] at hre
    have hy2:=Zxj hy w.1
    generalize Zkl y w.1=r at *
    obtain ⟨y2,sd⟩:=r
    simp only at hre hy2 hcv2 ⊢
    have k3:∀ i,i<L.length→(L++[Blk.cells [sV w.1,sV w.2] true]++G2)[i]?=L[i]?:=fun i hi=>by rw [Rk];exact Ws hi
    have k4:(L++[Blk.cells [sV w.1,sV w.2] true]++G2)[L.length]?=some (.cells [sV w.1,sV w.2] true):=by rw [Rk,Ry (Rq _),WG];rfl
    have hl2:L.length<(L++[Blk.cells [sV w.1,sV w.2] true]++G2).length:=by simp only [RX,RN,Wk];omega
    have hL2:ZT H (L++[Blk.cells [sV w.1,sV w.2] true]++G2):=by rw [Rk];exact hL.more _
    rw [RX,RY] at hcv2
    have hlL:=hL.le
    generalize L++[Blk.cells [sV w.1,sV w.2] true]++G2=L2 at *
    have hu1:∀ X,(L2++X)[u]?=some (.cells (y.cs rv cv) true):=fun X=>ZY (by rw [k3 _ (by omega)];exact hLu) X
    have hsu:∀ x X,(L2++X).set u x=L2.set u x++X:=fun x X=>ZFh (by omega) x X
    have hb1:∀ X,Zb (L2++X) L.length=some [sV w.1,sV w.2]:=fun X=>Za (Ze k4) X
    by_cases hsd:sd=w.2
    ·rw [if_pos hsd] at hre
     have hD:decide (bs sd=bs w.2)=true:=by rw [hsd];simp
     simp (maxSteps:=2000000) +contextual only [Zc,hu1,hsu,hb1,hD,hsd,hiw,ne_eq,not_true_eq_false,decide_true,decide_false,WX,pp,go_sem,reduceIte,Ra,Rb,Rc,Rd]
     have hA:=Zk ((AV.under (L2.length+1) rv2&&AV.under (L2.length+1) cv2)=true) he' (Zj (k:=L2.length) he' (by omega))
     exact ⟨j - 1,by omega,i+1,y2,rv2,cv2,_,_,_,_,_,_,_,_,by omega,(hL2.put (by omega) _).more _,Zk _ hA (Zj hA (by omega)),hy2,Zg5.fresh (L:=L2) hcv2 (by omega) (.inr (by omega)) (by simp) (fun i h1 h2=>by rw [Ws (by rw [WX];exact h2),Wz (by omega)]),ZY (WK (by omega)) _,Za (by unfold Zb at hLx ⊢;rw [Wz (by omega),k3 _ (by omega)];exact hLx) _,hre,rfl⟩
    ·rw [if_neg hsd] at hre
     have hD:decide (bs sd=bs w.2)=false:=decide_eq_false fun h=>hsd (Zln.mp h)
     have hD':¬ bs sd=bs w.2:=fun h=>hsd (Zln.mp h)
     simp (maxSteps:=2000000) +contextual only [Zc,hu1,hsu,hb1,hD,hD',ne_eq,not_false_eq_true,decide_true,decide_false,YZ,WX,pp,go_sem,reduceIte,Ra,Rb,Rc,Rd]
     have hA:=Zk ((AV.under (L2.length+1) rv2&&AV.under (L2.length+1) cv2)=true) he' (Zj (k:=L2.length) he' (by omega))
     have hf:=fun X=>hfin i true (L2++X) e _ (hL2.more X) hA
     rw [hf]
     exact ⟨_,_,rfl,by rw [←hre];rfl,rfl⟩
set_option maxHeartbeats 4000000 in
theorem Zrj {z:Bool} {fV:FuncId} (E:Exe pr z fV Yy Jh) {rv cv:AV} {s:Sd} (h:ZlM z 0 H rv cv s) (hs:s.small) (d p:By) (n:Int) (hd:d.length≤1048576) (hp:p.length≤1048576) :
  Wc (call T pr Zas [stV rv s.a s.b cv s.t s.c,lgV d p n] ⟨H,e⟩) (fun v m=>v=.tup [.int .i64 (((ZdA s d p n).getD 0:Nat):Int),.bool (ZdA s d p n).isSome]∧m=⟨H,e⟩):=by
 have hva:=fun L e'=>ZhV (pr:=pr) (H:=L) (e:=e') d p n hd hp
 have hll:d.length+p.length≤140737488355328:=by omega
 rw [Zr ZsJ]
 unfold ZdA
 simp (maxSteps:=2000000) +contextual only [Y0,Zky,pp,go_sem,reduceIte,Ra,Rb,Rc,Rd]
 refine (E.new (h.more _) hs).mono ?_
 intro v m hv
 cases hsd:s.std with
 | false=>
  rw [hsd,if_neg (by simp)] at hv
  obtain ⟨rfl,rfl⟩:=hv
  cases ho:Zao d p n with
  | false=>
   rw [ho] at hva
   simp only [RZ,if_false]
   simp (maxSteps:=2000000) +contextual only [Y0,Zc,hva,ZD,hll,RD,pp,ff,go_sem,reduceIte,Ra,Rb,Rc,Rd]
   simp
   exact Zk _ rfl (by rw [XT];exact decide_eq_true (by omega))
  | true=>
   rw [ho] at hva
   simp only [RZ,if_false]
   simp (maxSteps:=2000000) +contextual only [Y0,Zc,hva,ZD,hll,RD,pp,ff,go_sem,reduceIte,Ra,Rb,Rc,Rd]
   simp
   exact Zk _ rfl (by rw [XT];exact decide_eq_true (by omega))
 | true=>
  rw [hsd,if_pos rfl] at hv
  obtain ⟨rv',cv',G,rfl,rfl,hcv⟩:=hv
  simp only [if_true]
  have k1:∀ X,Zb (H++[Blk.cells [rv,.int .i64 s.a,.int .i64 s.b,cv,.int .i64 s.t,.int .i64 s.c] true,Blk.cells [sV d,sV p,.int .i64 n] true]++G++X) (H.length+1)=some [sV d,sV p,.int .i64 n]:=fun X=>Za (Za (Ze (w:=true) (by rw [Ry (by omega),show H.length+1 - H.length=1 by omega];rfl)) G) X
  have hL1:ZT H (H++[Blk.cells [rv,.int .i64 s.a,.int .i64 s.b,cv,.int .i64 s.t,.int .i64 s.c] true,Blk.cells [sV d,sV p,.int .i64 n] true]++G):=⟨_,by rw [Rk]⟩
  have hl1:H.length+2≤(H++[Blk.cells [rv,.int .i64 s.a,.int .i64 s.b,cv,.int .i64 s.t,.int .i64 s.c] true,Blk.cells [sV d,sV p,.int .i64 n] true]++G).length:=by simp only [RX,RN,Wk];omega
  have hcv:=hcv.low (WY _)
  generalize H++[Blk.cells [rv,.int .i64 s.a,.int .i64 s.b,cv,.int .i64 s.t,.int .i64 s.c] true,Blk.cells [sV d,sV p,.int .i64 n] true]++G=L1 at *
  have k2:Zb L1 (H.length+1)=some [sV d,sV p,.int .i64 n]:=by have:=k1 [];rw [Rv] at this;exact this
  cases ho:Zao d p n with
  | false=>
   rw [ho] at hva
   simp only [RZ,if_false]
   simp (maxSteps:=2000000) +contextual only [Y0,Zc,k1,k2,hva,ZD,hll,RD,pp,go_sem,reduceIte,Ra,Rb,Rc,Rd]
   exact Wc.of_eq (ZFp (hL1.more _) e _ _ (by simp [AV.under,AV.under.go]) (Zk _ rfl (Zj rfl (by omega)))) ⟨rfl,rfl⟩
  | true=>
   rw [ho] at hva
   simp only [if_true]
   have hgo:=ZgM ho
   have hxl:=hgo.2.2.2.2
   have hli:=fun L e'=>Zkc (pr:=pr) (H:=L) (e:=e') (d++p) (by rw [RX];omega)
   have hrc:=ZzR 60 0 (d++p) (by omega)
   generalize Z7 60 0 (d++p)=xs at *
   generalize XE 60 0 (d++p)=sz at *
   simp (maxSteps:=2000000) +contextual only [Y0,Zc,k1,k2,hva,hli,ZD,hll,RD,Rk,Rp,Ru,RX,RN,Wk,WW,pp,go_sem,reduceIte,Ra,Rb,Rc,Rd]
   obtain ⟨u,hu⟩:∃ u,u=L1.length:=⟨_,rfl⟩
   rw [←hu]
   have hns:=Zxk hs
   have hfin:∀ (i:Nat) (ok:Bool) (L:List Blk) (e0 e1:Option Nat),ZT H L→clean H.length e1=true→finish 1 H.length e0 (.tup [.int .i64 (i:Int),.bool ok]) ⟨L,e1⟩=some (.tup [.int .i64 (i:Int),.bool ok],⟨H,e0⟩):=fun i ok L e0 e1 g c=>ZFp g e0 e1 _ (by simp [AV.under,AV.under.go]) c
   refine ZL (fun j st=>∃ (i:Nat) (y:Cn) (rv cv:AV) (L:List Blk) (e':Option Nat) (w10 w11 w12 w13:AV),i+j=xs.length∧ZT H L∧clean H.length e'=true∧y.small∧Zg5 z L rv cv y.s u u∧L[u]?=some (.cells (y.cs rv cv) true)∧Zb L (u+1)=some (ZnJ xs)∧ZeM i y (xs.drop i)=ZeM 0 (Cn.new s) xs ∧
     st=⟨_::_::_::_::.int .i64 0::.bool false::.ptr (some (u,0))::.bool true::slR (u+1) xs.length (ZpW xs.length)::.int .i64 i::w10::w11::.bool false::w12::[w13],⟨L,e'⟩⟩) ?_ xs.length _
     ⟨0,Cn.new s,rv',cv',_,_,_,_,_,_,by omega,hL1.more _,Zk _ rfl (Zj rfl (by omega)),hns,Zg5.old (H:=L1) hcv (by omega) (by omega) _,by rw [hu,ZQ];rfl,Ze (w:=true) (by rw [hu,Ry (by omega),show L1.length+1 - L1.length=1 by omega];rfl),by rw [List.drop_zero],rfl⟩
   rintro j _ ⟨i,y,rv,cv,L,e',w10,w11,w12,w13,hij,hL,he',hy,hcon,hLu,hLx,hre,rfl⟩
   have hlx:=ZW hLx
   by_cases hj:j=0
   ·have hip:i=xs.length:=by omega
    subst hip
    rw [Rn] at hre
    simp (maxSteps:=2000000) +contextual only [Zc6,Y0,Rh,decide_false,hfin,hL,he',←hre,ZeM,WV,Wn,pp,go_sem,reduceIte,Ra,Rb,Rc,Rd]
   ·have hi:i<xs.length:=by omega
    obtain ⟨w,hwi,hdr⟩:=ZlN hi
    have hiw:=Zi (show i<9223372036854775807 by omega)
    have p1:Zcn false (ZnJ xs) (i*2) 1=some (sV w.1):=ZCx Zfj 1 hwi rfl
    have p2:Zcn false (ZnJ xs) (i*2+1) 1=some (sV w.2):=Zsi Zfj 1 hwi rfl
    simp (maxSteps:=2000000) +contextual only [Zc6,hi,hLx,p1,p2,Za hLx,hLu,Ze hLu,ZY hLu,Za (Ze hLu),Zc,decide_true,pp,go_sem,reduceIte,Ra,Rb,Rc,Rd]
    have hwr:=ZcL (hrc w (WJ hwi))
    refine (E.cmd w.1 hcon.now hy (by omega)).mono ?_
    rintro v m ⟨rv2,cv2,G2,rfl,rfl,hcv2⟩
    rw [hdr,ZeM] at hre
    have hy2:=Zxj hy w.1
    generalize Zkl y w.1=r at *
    obtain ⟨y2,sd⟩:=r
    simp only at hre hy2 hcv2 ⊢
    have k3:∀ i,i<L.length→(L++G2)[i]?=L[i]?:=fun i hi=>Ws hi
    have hl2:L.length≤(L++G2).length:=by simp
    have hL2:ZT H (L++G2):=hL.more _
    have hlL:=hL.le
    generalize L++G2=L2 at *
    have hx2:Zb L2 (u+1)=some (ZnJ xs):=by unfold Zb at hLx ⊢;rw [k3 _ (by omega)];exact hLx
    have hx3:∀ x,Zb (L2.set u x) (u+1)=some (ZnJ xs):=fun x=>by unfold Zb at hx2 ⊢;rw [Wz (by omega)];exact hx2
    have hb1:∀ X,Zb (L2++X) (u+1)=some (ZnJ xs):=fun X=>Za hx2 X
    have hb2:∀ x X,Zb (L2.set u x++X) (u+1)=some (ZnJ xs):=fun x X=>Za (hx3 x) X
    have hu1:∀ X,(L2++X)[u]?=some (.cells (y.cs rv cv) true):=fun X=>ZY (by rw [k3 _ (by omega)];exact hLu) X
    have hsu:∀ x X,(L2++X).set u x=L2.set u x++X:=fun x X=>ZFh (by omega) x X
    by_cases hsd:sd=w.2
    ·rw [if_pos hsd] at hre
     have hD:decide (bs sd=bs w.2)=true:=by rw [hsd];simp
     simp (maxSteps:=2000000) +contextual only [Zc,hi,hu1,Ze (hu1 _),hsu,hb1,hb2,p1,p2,hD,hsd,hiw,ne_eq,not_true_eq_false,decide_true,decide_false,WX,pp,go_sem,reduceIte,Ra,Rb,Rc,Rd]
     have hA:=Zk ((AV.under (L2.length+1) rv2&&AV.under (L2.length+1) cv2)=true) he' (Zj (k:=L2.length) he' (by omega))
     exact ⟨j - 1,by omega,i+1,y2,rv2,cv2,_,_,_,_,_,_,by omega,(hL2.put (by omega) _).more _,Zk _ hA (Zj hA (by omega)),hy2,Zg5.fresh (L:=L2) hcv2 (by omega) (.inr (by omega)) (by simp) (fun i h1 h2=>by rw [Ws (by rw [WX];exact h2),Wz (by omega)]),ZY (WK (by omega)) _,Za (by unfold Zb at hLx ⊢;rw [Wz (by omega),k3 _ (by omega)];exact hLx) _,hre,rfl⟩
    ·rw [if_neg hsd] at hre
     have hD:decide (bs sd=bs w.2)=false:=decide_eq_false fun h=>hsd (Zln.mp h)
     have hD':¬ bs sd=bs w.2:=fun h=>hsd (Zln.mp h)
     simp (maxSteps:=2000000) +contextual only [Zc,hi,hu1,Ze (hu1 _),hsu,hb1,hb2,p1,p2,hD,hD',ne_eq,not_false_eq_true,decide_true,decide_false,Y0,WX,pp,go_sem,reduceIte,Ra,Rb,Rc,Rd]
     have hA:=Zk ((AV.under (L2.length+1) rv2&&AV.under (L2.length+1) cv2)=true) he' (Zj (k:=L2.length) he' (by omega))
     have hf:=fun x X=>hfin i true (L2.set u x++X) e _ ((hL2.put (by omega) x).more X) (Zk ((AV.under (u+1) rv2&&AV.under (u+1) cv2)=true) hA (Zj (k:=u) hA (by omega)))
     rw [hf]
     exact ⟨_,_,rfl,by rw [←hre];rfl,rfl⟩
theorem Zt9 (hl:ZlH pr) {q1 q2:Nat} {c1 c2:Option Nat} {s:Sd} (h1:Zb H q1=some (Zn s.ls)) (h2:Zb H q2=some (Zw s.ss)) (hs:s.small) (d p:By) (n:Int) (hd:d.length≤1048576) (hp:p.length≤1048576) :
  call T pr Zar [stV (slL q1 s.ls.length c1) s.a s.b (slS q2 s.ss.length c2) s.t s.c,lgV d p n] ⟨H,e⟩=some (.tup [.int .i64 (((ZdA s d p n).getD 0:Nat):Int),.bool (ZdA s d p n).isSome],⟨H,e⟩) :=
 Wc.eq (Zri hl (ZKi hl) (ZlM.of (WY _) (WY _) h1 h2) hs d p n hd hp)
theorem Zua {q1 q2:Nat} {c1 c2:Option Nat} {s:Sd} (h1:Zb H q1=some (Zn s.ls)) (h2:Zb H q2=some (Zw s.ss)) (hs:s.small) (d p:By) (n:Int) (hd:d.length≤1048576) (hp:p.length≤1048576) :
  call T pr Zas [stV (slL q1 s.ls.length c1) s.a s.b (slS q2 s.ss.length c2) s.t s.c,lgV d p n] ⟨H,e⟩=some (.tup [.int .i64 (((ZdA s d p n).getD 0:Nat):Int),.bool (ZdA s d p n).isSome],⟨H,e⟩) :=
 Wc.eq (Zrj ZKj (ZlM.of (WY _) (WY _) h1 h2) hs d p n hd hp)
set_option maxHeartbeats 4000000 in
theorem Zub (hl:ZlH pr) {row chain:AV} {ls:List Ld} {ss:List Sg} (ha:ZHT H row ls) (hs:ZHV H chain ss) {s u:ByteArray} (hs1:s.size≤maxLen) (hu1:u.size≤maxLen) (a b t k c:Int):∃ m',call T pr Qu [.agg [row,.int .i64 a,.int .i64 b,chain,.int .i64 t,.int .i64 k],.agg [.str s,.str u,.int .i64 c]] ⟨H,none⟩=some (.bool true,m'):=by
 obtain ⟨d,rfl⟩:=ZJd s
 obtain ⟨p,rfl⟩:=ZJd u
 refine ⟨⟨H,none⟩,?_⟩
 have hst:∀ G e',call T pr ZcY [stV row a b chain t k,.int .i64 1048576] ⟨G,e'⟩=some (.int .i64 (if ls.length+ss.length≤1048576 then 1048576 - ((ls.length+ss.length:Nat):Int) else -1),⟨G,e'⟩):=by
  obtain ⟨p,sz,c,rfl,h2,h3⟩:=ha
  obtain ⟨p',sz',c',rfl,h2',h3'⟩:=hs
  exact fun G e'=>Zzd h2 h2' a b t k
 apply Wc.eq
 rw [Zr ZiZ]
 by_cases h1:ls.length+ss.length≤1048576
 ·have hneg:¬ (1048576 - ((ls.length+ss.length:Nat):Int)<0):=by omega
  have hlg:=fun G e'=>ZEY (pr:=pr) (H:=G) (e:=e') (1048576 - ((ls.length+ss.length:Nat):Int)) c (by omega) hs1 hu1
  simp only [if_pos h1] at hst
  obtain ⟨left,hle⟩:∃ left:Int,left=1048576 - ((ls.length+ss.length:Nat):Int):=⟨_,rfl⟩
  rw [←hle] at hst hlg hneg
  by_cases h3:((d.length+p.length:Nat):Int)≤left
  ·have h5:¬ (left - ((d.length+p.length:Nat):Int)<0):=by omega
   simp only [if_pos h3] at hlg
   have hto:=fun G=>Zze (pr:=pr) (e:=none) (ha.more G) (hs.more G) (by omega) (by omega) a b t k
   have hii:=fun L q q' c1 c2 (h1:Zb L q=some (Zn ls)) (h2:Zb L q'=some (Zw ss))=>Zt9 (pr:=pr) (H:=L) (e:=none) (c1:=c1) (c2:=c2) hl (s:=⟨ls,ss,a,b,t,k⟩) h1 h2 ⟨by show ls.length≤_;omega,by show ss.length≤_;omega⟩ d p c (by omega) (by omega)
   have hsi:=fun L q q' c1 c2 (h1:Zb L q=some (Zn ls)) (h2:Zb L q'=some (Zw ss))=>Zua (pr:=pr) (H:=L) (e:=none) (c1:=c1) (c2:=c2) (s:=⟨ls,ss,a,b,t,k⟩) h1 h2 ⟨by show ls.length≤_;omega,by show ss.length≤_;omega⟩ d p c (by omega) (by omega)
   have heq:=fun L q1 q2 q3 q4 k1 k2 k3 k4 (h1:Zb L q1=some (Zn ls)) (h2:Zb L q2=some (Zn ls)) (h3:Zb L q3=some (Zw ss)) (h4:Zb L q4=some (Zw ss))=>Zzf (pr:=pr) (H:=L) (e:=none) (r1:=slL q1 ls.length k1) (r2:=slL q2 ls.length k2) (c1:=slS q3 ss.length k3) (c2:=slS q4 ss.length k4) (fun G=>Zza (Za h1 G) (Za h2 G) (by omega)) (fun G=>Zv3 (Za h3 G) (Za h4 G) (by omega)) a b t k
   simp only at hii hsi
   generalize ZdA ⟨ls,ss,a,b,t,k⟩ d p c=o at *
   simp (maxSteps:=2000000) +contextual only [YK,Jt,hst,hlg,hneg,h5,hto,hii,hsi,heq,ZEZ,ne_eq,not_true_eq_false,Zv,Zz,RD,Nat.add_lt_add_iff_left,Nat.lt_add_right_iff_pos,decide_true,decide_false,beq_self_eq_true,pp,go_sem,reduceIte,Ra,Rb,Rc,Rd]
  ·simp only [if_neg h3] at hlg
   simp (maxSteps:=2000000) +contextual only [YK,Jt,hst,hlg,hneg,decide_true,decide_false,show ((-1:Int)<0) by omega,pp,go_sem,reduceIte,Ra,Rb,Rc,Rd]
 ·simp only [if_neg h1] at hst
  simp (maxSteps:=2000000) +contextual only [YK,Jt,hst,decide_true,show ((-1:Int)<0) by omega,pp,go_sem,reduceIte,Ra,Rb,Rc,Rd]
end Go.Proofs.YtemcdiajejekoaaGreatDoor.Slim
