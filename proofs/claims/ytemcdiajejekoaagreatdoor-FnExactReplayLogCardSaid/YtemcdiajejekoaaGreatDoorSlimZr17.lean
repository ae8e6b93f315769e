/- Parts of the proof. -/
import Derived.Test.YtemcdiajejekoaaGreatDoorSlimZr16
import Derived.WalkKit
import Derived.Deep.LoopGhost
import Derived.Deep.Draws
import Derived.Shelf.RegionOpenPlain
import Derived.Lib.Walk
import Derived.Lib.Slices
import Derived.Lib.ItoaMem
import Derived.Lib.SlicesCompact
set_option linter.unusedSimpArgs false
set_option linter.unusedVariables false
namespace Go.Proofs.YtemcdiajejekoaaGreatDoor.Slim
open Go Go.Lib Go.RowKit Go.Shelf
theorem Zzv (x y:Int) (w:World):Calls Tryz.prog 270 #[.int .i64 x,.int .i64 y] w fun e w'=>e=.returned (.int .i64 (if x<y then -1 else if y<x then 1 else 0))∧w'=w:=by
 have mixed:Tryz.prog.follows .mixedOrders=true:=by kernel_rfl
 go_enter Tryz.func270,Tryz.ntmps270
 go_wp2_with (go_at_call 299;refine (Tryz.cmp_isNaN_int2 _ _).mono ?_;rintro e w' ⟨rfl,hw⟩;rw [hw])
 all_goals (go_ret;refine ⟨?_,rfl⟩;(repeat' split) <;> first | rfl | (exfalso;omega))
theorem Zlu:∀ (k:Nat) (A B:List Int),k≤A.length→k≤B.length→(∀ j,j<k→A.getD j 0=B.getD j 0)→Zxn A B=Zxn (A.drop k) (B.drop k)
 | 0,_,_,_,_,_=>rfl
 | k+1,[],_,h,_,_=>by simp at h
 | k+1,_::_,[],_,h,_=>by simp at h
 | k+1,a::x,b::y,h1,h2,h=>by
  have e:a=b:=h 0 (by omega)
  subst e
  have ih:=Zlu k x y (by simpa using h1) (by simpa using h2) fun j hj=>by simpa using h (j+1) (by omega)
  rw [List.drop_succ_cons,List.drop_succ_cons,←ih]
  conv=>lhs;unfold Zxn
  rw [if_neg (Int.lt_irrefl a),if_neg (Int.lt_irrefl a)]
theorem ZH2 (A B:List Int) (k:Nat) (x y:Int) (h1:k<A.length) (h2:k<B.length) (hx:A.getD k 0=x) (hy:B.getD k 0=y) (h:∀ j,j<k→A.getD j 0=B.getD j 0) (hne:x≠y):Zxn A B=if x<y then -1 else 1:=by
 have e1:A[k]=x:=by rw [←hx];simp [List.getD_eq_getElem?_getD,h1]
 have e2:B[k]=y:=by rw [←hy];simp [List.getD_eq_getElem?_getD,h2]
 rw [Zlu k A B (by omega) (by omega) h,List.drop_eq_getElem_cons h1,List.drop_eq_getElem_cons h2,e1,e2]
 unfold Zxn
 by_cases hlt:x<y
 ·rw [if_pos hlt,if_pos hlt]
 ·rw [if_neg hlt,if_neg hlt,if_pos (by omega)]
theorem ZGR (A B:List Int) (h1:A.length≤B.length) (h:∀ j,j<A.length→A.getD j 0=B.getD j 0):Zxn A B=if A.length<B.length then -1 else 0:=by
 rw [Zlu A.length A B (Nat.le_refl _) h1 h,List.drop_length]
 by_cases hlt:A.length<B.length
 ·rw [if_pos hlt,List.drop_eq_getElem_cons hlt];rfl
 ·rw [if_neg hlt,List.drop_eq_nil_of_le (by omega)];rfl
theorem ZFg (A B:List Int) (h1:B.length<A.length) (h:∀ j,j<B.length→A.getD j 0=B.getD j 0):Zxn A B=1:=by
 rw [Zlu B.length A B (by omega) (Nat.le_refl _) h,List.drop_length,List.drop_eq_getElem_cons h1];rfl
set_option maxHeartbeats 2000000 in
set_option maxRecDepth 100000 in
theorem ZCK (b1 o1 c1 b2 o2 c2 n m:Nat) (A B:List Int) (w:World) (hA:A.length=n) (hB:B.length=m) (hbig:n≤1073741824) (hbig2:m≤1073741824) (hc1:∀ j,j<n→w.cell? ⟨b1,o1+j,none⟩=some (.int .i64 (A.getD j 0))) (hc2:∀ j,j<m→w.cell? ⟨b2,o2+j,none⟩=some (.int .i64 (B.getD j 0))) :
  Calls Tryz.prog 211 #[.slice (some ⟨b1,o1,none⟩) n c1,.slice (some ⟨b2,o2,none⟩) m c2] w fun e w'=>e=.returned (.int .i64 (Zxn A B))∧∃ q,w'=w.drewN q:=by
 have mixed:Tryz.prog.follows .mixedOrders=true:=by kernel_rfl
 go_enter Tryz.func211,Tryz.ntmps211
 go_wp2
 go_loopg [11] n (fun g s11 wr=>∃ k q:Nat,k≤n∧k≤m∧n - k≤g∧s11=.int .i64 k∧wr=w.drewN q∧∀ j,j<k→A.getD j 0=B.getD j 0)
 case atStart=>exact ⟨0,0,Nat.zero_le _,Nat.zero_le _,by omega,rfl,rfl,fun j hj=>absurd hj (Nat.not_lt_zero _)⟩
 case round=>
  obtain ⟨k,q,hk,hkm,hg,rfl,rfl,heq⟩:=hrel
  by_cases hlt:k<n
  ·have g1:w.cell? ⟨b1,o1+k,none⟩=some (.int .i64 (A.getD k 0)):=hc1 k (by omega)
   by_cases hltm:k<m
   ·have g2:w.cell? ⟨b2,o2+k,none⟩=some (.int .i64 (B.getD k 0)):=hc2 k (by omega)
    have AS:Aside (∀ j,j<k→A.getD j 0=B.getD j 0):=heq
    clear heq hc1 hc2
    generalize hxk:A.getD k 0=x at g1
    generalize hyk:B.getD k 0=y at g2
    have BS:Aside (A.getD k 0=x∧B.getD k 0=y):=⟨hxk,hyk⟩
    clear hxk hyk
    by_cases hxy:x=y
    ·subst hxy
     have hcmp:=fun w'=>Zzv x x w'
     simp only [Int.lt_irrefl,if_false] at hcmp
     go_wp2_with (go_at_call 270;refine (hcmp _).mono ?_;rintro e w' ⟨rfl,hw⟩;rw [hw])
     go_roundg (n - (k+1))
     case measure=>omega
     case rel=>
      refine ⟨k+1,q,by omega,by omega,by omega,by go_num,rfl,fun j hj => ?_⟩
      by_cases e:j=k
      ·subst e
       rw [BS.out.1,BS.out.2]
      ·exact AS.out j (by omega)
    ·have hat:=ZH2 A B k x y (by omega) (by omega) BS.out.1 BS.out.2 AS.out hxy
     by_cases hxlt:x<y
     ·rw [if_pos hxlt] at hat
      have hcmp:=fun w'=>Zzv x y w'
      simp only [if_pos hxlt] at hcmp
      go_wp2_with (go_at_call 270;refine (hcmp _).mono ?_;rintro e w' ⟨rfl,hw⟩;rw [hw])
      go_ret
      refine ⟨?_,q,rfl⟩
      rw [hat]
      rfl
     ·rw [if_neg hxlt] at hat
      have hyx:y<x:=by omega
      have hcmp:=fun w'=>Zzv x y w'
      simp only [if_neg hxlt,if_pos hyx] at hcmp
      go_wp2_with (go_at_call 270;refine (hcmp _).mono ?_;rintro e w' ⟨rfl,hw⟩;rw [hw])
      go_ret
      refine ⟨?_,q,rfl⟩
      rw [hat]
      rfl
   ·have hov:=ZFg A B (by omega) fun j hj=>heq j (by omega)
    have hge:((m:Nat):Int)≤((k:Nat):Int):=by omega
    clear hc1 hc2
    go_wp2
    go_ret
    refine ⟨?_,q,rfl⟩
    rw [hov]
    rfl
  ·have hkn:k=n:=by omega
   subst hkn
   have hen:=ZGR A B (by omega) fun j hj=>heq j (by omega)
   rw [hA,hB] at hen
   clear hc1 hc2
   by_cases hlm:k<m
   ·rw [if_pos hlm] at hen
    go_wp2
    go_ret
    refine ⟨?_,q,rfl⟩
    rw [hen]
    rfl
   ·rw [if_neg hlm] at hen
    go_wp2
    go_ret
    refine ⟨?_,q,rfl⟩
    rw [hen]
    rfl
set_option maxHeartbeats 2000000 in
set_option maxRecDepth 100000 in
theorem ZGS:ZFf Tryz.prog:=by
 intro w b1 o1 k1 b2 o2 k2 A B hA hB hc1 hc2
 have mixed:Tryz.prog.follows .mixedOrders=true:=by kernel_rfl
 have hs:=fun w' hc1 hc2=>ZCK b1 o1 k1 b2 o2 k2 A.length B.length A B w' rfl rfl hA hB hc1 hc2
 show Calls Tryz.prog 147 _ _ _
 unfold cfG
 by_cases h:A.length=B.length
 ·rw [if_pos h]
  have h':((A.length:Nat):Int)=((B.length:Nat):Int):=by omega
  have hs':=hs w hc1 hc2
  clear hs hc1 hc2
  generalize Zxn A B=z at *
  rw [←h] at hs' ⊢
  clear h h'
  go_enter Tryz.func147,Tryz.ntmps147
  go_wp2_with (go_at_call 211;refine hs'.mono ?_;rintro e w' ⟨rfl,q,hw⟩;rw [hw])
  go_ret
  exact ⟨rfl,q,rfl⟩
 ·rw [if_neg h]
  have h':¬ ((A.length:Nat):Int)=((B.length:Nat):Int):=by omega
  have hw:IntKind.i64.wrap (((A.length:Nat):Int) - ((B.length:Nat):Int))=((A.length:Nat):Int) - ((B.length:Nat):Int):=ZN (by omega) (by omega)
  clear hs hc1 hc2
  go_enter Tryz.func147,Tryz.ntmps147
  go_wp2
  go_ret
  exact ⟨rfl,0,rfl⟩
end Go.Proofs.YtemcdiajejekoaaGreatDoor.Slim
namespace Go.Proofs.YtemcdiajejekoaaGreatDoor.Slim
open Go
open Nat renaming reduceAdd → Ra, reduceLeDiff → Rb, reduceLT → Rc, reduceEqDiff → Rd
open Nat renaming lt_irrefl → Rh, le_refl → Rq, one_mul → Rx, div_le_self → Rr, pow_le_pow_right → RP, zero_mul → RJ, le_trans → WE, sub_self → WG, mul_comm → WL, mul_left_comm → WM, pow_succ → WN, mul_pos → WS, mul_le_mul → WT
open Bool renaming and_eq_true → Rs, false_eq_true → RZ, false_and → RR
open List renaming getElem?_eq_getElem → Rj, length_append → RX, getElem?_append_right → Ry, getElem?_eq_some_iff → Wl, length_cons → RN, mem_cons_of_mem → Wt, getElem?_append_left → Ws, mem_map → Wd, mem_cons_self → Wb, getElem?_set_ne → Wz, length_map → WA, length_take → Wm, take_length → Wi, take_succ_eq_append_getElem → RM, getElem_mem → WB, range → WC, drop_eq_getElem_cons → Rm, replicate → Rw, drop_zero → Rl, length_nil → Wk, drop_length → Rn, length_filter_le → WF, append_assoc → Rk, mem_of_getElem? → WJ, getElem?_set_self → WK, append_nil → Rv, map_append → WO, all_eq_true → WP, getD_eq_getElem?_getD → WQ, filter_append → WR, mem_filter → Wr, all_cons → Ro, mem_flatMap → WU
open Int renaming toNat_natCast → Rz, le_refl → R9, toNat_zero → RH, toNat_one → RI, natCast_mul → RA, tdiv → WI
open Option renaming some.injEq → RS, getD_none → WD, isSome_none → Wg, some.inj → WH
variable {pr : Zt} {H : List Blk} {e : Option Nat}
section
variable {C : FuncId → List AV → Mem → Option (AV × Mem)} {g : X → AV} {m : Mem}
def Zp5 (v:AV):Option AV:=match v with
 | .ptr (some p)=>some (.ptr (some p))
 | .fn f a b=>some (.fn f a b)
 | _=>none
theorem Zy (x:X):aop C g m (.nilCheck x)=K7 m (Zp5 (g x)):=by
 rw [ZI rfl]
 simp only [JO,Zp5]
 generalize g x=v
 cases v with
 | ptr p=>cases p <;> rfl
 | _=>rfl
theorem Zs (p:Nat×Nat):Zp5 (.ptr (some p))=some (.ptr (some p)):=rfl
end
def Zp6 (L:List Blk) (av:AV):Prop :=
 ∃ zs:List Int,zs.length≤70000∧(∀ z∈zs,0≤z∧z≤255)∧((av=.slice none 0 0 none∧zs=[])∨∃ b c,av=.slice (some (b,0)) 1 zs.length c∧Zb L b=some (zs.map (AV.int .u8)))
theorem Zp6.more {L:List Blk} {av:AV} (h:Zp6 L av) (G:List Blk):Zp6 (L++G) av:=by
 obtain ⟨zs,h1,h2,h3 | ⟨b,c,h3,h4⟩⟩:=h
 ·exact ⟨zs,h1,h2,.inl h3⟩
 ·exact ⟨zs,h1,h2,.inr ⟨b,c,h3,Za h4 G⟩⟩
abbrev ZJj (av:AV) (p h:Int):Blk:=.cells [av,.int .i64 p,.int .u64 h] true
def Cu (L:List Blk) (q:Nat) (av:AV) (p:Int):Prop:=(∃ h,L[q]?=some (ZJj av p h))∧Zp6 L av∧0≤p
theorem Cu.lt {L:List Blk} {q:Nat} {av:AV} {p:Int} (h:Cu L q av p):q<L.length:=by
 obtain ⟨⟨_,h⟩,_⟩:=h
 exact (Wl.mp h).1
theorem Cu.more {L:List Blk} {q:Nat} {av:AV} {p:Int} (h:Cu L q av p) (G:List Blk):Cu (L++G) q av p:=by
 have hl:=h.lt
 obtain ⟨⟨z,h1⟩,h2,h3⟩:=h
 exact ⟨⟨z,by rw [Ws hl,h1]⟩,h2.more G,h3⟩
theorem Cu.step {L:List Blk} {q:Nat} {av:AV} {p:Int} (h:Cu L q av p) {y:Int} (hy:0≤y) (z:Int):Cu (L.set q (ZJj av y z)) q av y:=by
 have hl:=h.lt
 obtain ⟨⟨w,h1⟩,⟨zs,g1,g2,g3⟩,h3⟩:=h
 refine ⟨⟨z,WK hl⟩,⟨zs,g1,g2,?_⟩,hy⟩
 rcases g3 with g3 | ⟨b,c,e2,e3⟩
 ·exact .inl g3
 refine .inr ⟨b,c,e2,?_⟩
 have hbq:b≠q:=by
  rintro rfl
  unfold Zb at e3
  rw [h1] at e3
  simp at e3
  match zs with
  | []=>simp at e3
  | [_]=>simp at e3
  | _::_::_=>simp at e3
 unfold Zb at e3 ⊢
 rw [Wz (fun h=>hbq h.symm)]
 exact e3
theorem ZFh {L:List Blk} {q:Nat} (h:q<L.length) (x:Blk) (G:List Blk):(L++G).set q x=L.set q x++G:=List.set_append_left _ _ h
theorem Cu.new {G:List Blk} {k:Nat} {av:AV} {y z:Int} (hG:G[k]?=some (ZJj av y z)) (hc:Zp6 H av) (hy:0≤y):Cu (H++G) (H.length+k) av y :=
 ⟨⟨z,by rw [Ry (by omega),Nat.add_sub_cancel_left,hG]⟩,hc.more G,hy⟩
theorem Cu.cells {L:List Blk} {q:Nat} {av:AV} {p:Int} (h:Cu L q av p):∃ w,L[q]?=some (ZJj av p w)∧Zb L q=some [av,.int .i64 p,.int .u64 w]:=by
 obtain ⟨⟨w,h1⟩,_⟩:=h
 exact ⟨w,h1,by unfold Zb;rw [h1]⟩
theorem ZwH {L:List Blk} {q:Nat} (h:q<L.length) (cs:List AV) (wr:Bool):Zb (L.set q (.cells cs wr)) q=some cs:=by
 unfold Zb
 rw [WK h]
def ZCL:Zg→Zg
 | .seq a _=>a
 | c=>c
def Zlv:Zg→Zg
 | .seq _ c=>c
 | c=>c
section
variable {C : FuncId → List AV → Mem → Option (AV × Mem)} {g : X → AV} {m : Mem}
end
theorem Qx (L:List Blk) (n sz:Nat) (cap:Option Nat) (cs:List AV) (b:Nat) (h:Zb L b=some cs) (hl:cs.length=n*sz):Y7 false L (.slice (some (b,0)) sz n cap)=some (n,cs):=by
 unfold Y7
 simp [h,←hl]
theorem Zp6.new {G:List Blk} {k:Nat} {zs:List Int} {c:Option Nat} (hG:G[k]?=some (.cells (zs.map (AV.int .u8)) true)) (h1:zs.length≤70000) (h2:∀ z∈zs,0≤z∧z≤255):Zp6 (H++G) (.slice (some (H.length+k,0)) 1 zs.length c):=by
 refine ⟨zs,h1,h2,.inr ⟨_,_,rfl,?_⟩⟩
 rw [KL]
 unfold Zb
 rw [hG]
section
variable {C : FuncId → List AV → Mem → Option (AV × Mem)} {g : X → AV} {m : Mem}
end
variable {pr : Zt} {H : List Blk} {e : Option Nat}
variable {pr : Zt} {H : List Blk} {e : Option Nat}
variable {pr : Zt} {H : List Blk} {e : Option Nat}
theorem Zp7 {q:Nat} {c:Option Nat} {ls:List Ld} (h:Zb H q=some (Zn ls)) (hn:ls.length≤1048576) (hr:Yu ls=true):call T pr ZdP [slL q ls.length c] ⟨H,e⟩=some (.tup [.int .i64 (Zab ls),.bool true],⟨H,e⟩):=by
 have h1:=fun G=>Ka (pr:=pr) (e:=none) (c:=c) (Za h G)
 have h2:=fun G=>Zem (pr:=pr) (e:=none) (c:=c) (Za h G) (by omega)
 have h10:=h1 []
 have h20:=h2 []
 rw [Rv] at h10 h20
 rw [hr] at h1 h10
 rw [Zh ZuT]
 simp +contextual only [Zea,ZmZ,h1,h2,h10,h20,go_sem,reduceIte,Ra,Rb,Rc,Rd]
theorem ZnM {q:Nat} {c:Option Nat} {ss:List Sg} (h:Zb H q=some (Zw ss)) (hc:ZA ss=true) (hn:ss.length≤1048576):call T pr Zcs [slS q ss.length c] ⟨H,e⟩=some (.tup [fvV (ZB 1 1 ss) (ZC 1 1 ss),.bool true],⟨H,e⟩):=by
 have h1:=fun G=>Jq (pr:=pr) (e:=none) (c:=c) (Za h G) (by omega)
 have h2:=fun G=>Zgv (pr:=pr) (e:=none) (c:=c) (Za h G) hc
 rw [hc] at h1
 rw [Zh ZsP]
 simp +contextual only [ZcB,ZkG,Zc,h1,h2,go_sem,reduceIte,Ra,Rb,Rc,Rd]
theorem Zjv {q:Nat} {c:Option Nat} {ls:List Ld} (h:Zb H q=some (Zn ls)) (hn:ls.length≤1048576) (a b:Int) (hr:Yu ls=true) (hb:ZgX a b=true):call T pr Zc2 [slL q ls.length c,.int .i64 a,.int .i64 b] ⟨H,e⟩=some (.tup [.int .i64 (Zdp ls a b),.bool true],⟨H,e⟩):=by
 have h1:=fun G=>Ka (pr:=pr) (e:=none) (c:=c) (Za h G)
 have h2:=fun G=>ZpA (pr:=pr) (e:=none) (c:=c) (Za h G) (by omega) a b
 have h10:=h1 []
 have h20:=h2 []
 rw [Rv] at h10 h20
 rw [hr] at h1 h10
 rw [Zh Zx6]
 simp +contextual only [Zgc,ZoV,h1,h2,h10,h20,Ze9,hb,go_sem,reduceIte,Ra,Rb,Rc,Rd]
theorem ZiQ (x y:Nat):fracA x y*y=x*fracB x y:=by
 obtain ⟨x',hx'⟩:=Nat.gcd_dvd_right y x
 obtain ⟨y',hy'⟩:=Nat.gcd_dvd_left y x
 unfold fracA fracB
 by_cases hg:Nat.gcd y x=0
 ·have e1:=Nat.eq_zero_of_gcd_eq_zero_left hg
  have e2:=Nat.eq_zero_of_gcd_eq_zero_right hg
  subst e1;subst e2
  simp
 ·have hg:0<Nat.gcd y x:=by omega
  generalize Nat.gcd y x=g at *
  subst hx';subst hy'
  rw [Nat.mul_div_cancel_left _ hg,Nat.mul_div_cancel_left _ hg]
  simp [WL,WM,Nat.mul_assoc]
theorem Zno (x y:Nat) (hy:0<y):Nat.Coprime (fracB x y) (fracA x y):=Nat.coprime_div_gcd_div_gcd (Nat.gcd_pos_of_pos_left _ hy)
theorem ZhX (x y:Nat) (hy:0<y):0<fracB x y:=Nat.div_pos (Nat.le_of_dvd hy (Nat.gcd_dvd_left _ _)) (Nat.gcd_pos_of_pos_left _ hy)
theorem ZFi {x y x' y':Nat} (hy:0<y) (hy':0<y') (h:x*y'=x'*y):fracA x y=fracA x' y'∧fracB x y=fracB x' y':=by
 have c1:=ZiQ x y
 have c2:=ZiQ x' y'
 have p1:=Zno x y hy
 have p2:=Zno x' y' hy'
 have b1:=ZhX x y hy
 have b2:=ZhX x' y' hy'
 generalize fracA x y=a at *
 generalize fracB x y=b at *
 generalize fracA x' y'=a' at *
 generalize fracB x' y'=b' at *
 have key:a*b'=a'*b:=by
  have h1:(a*b')*(y*y')=(a'*b)*(y*y'):=by
   calc (a*b')*(y*y')=(a*y)*(b'*y'):=by simp [WL,WM]
    _=(x*b)*(b'*y'):=by rw [c1]
    _=(x*y')*(b*b'):=by simp [WL,WM]
    _=(x'*y)*(b*b'):=by rw [h]
    _=(x'*b')*(b*y):=by simp [WL,WM]
    _=(a'*y')*(b*y):=by rw [c2]
    _=(a'*b)*(y*y'):=by simp [WL,WM]
  exact Nat.eq_of_mul_eq_mul_right (WS hy hy') h1
 have d1:b ∣ b':=p1.dvd_of_dvd_mul_left (by rw [key];exact Nat.dvd_mul_left _ _)
 have d2:b' ∣ b:=p2.dvd_of_dvd_mul_left (by rw [←key];exact Nat.dvd_mul_left _ _)
 have e:b=b':=Nat.dvd_antisymm d1 d2
 subst e
 exact ⟨Nat.eq_of_mul_eq_mul_right b1 key,rfl⟩
theorem ZCM (x y:Nat) (hy:0<y):fracA x y / fracB x y=x / y:=by
 obtain ⟨x',hx'⟩:=Nat.gcd_dvd_right y x
 obtain ⟨y',hy'⟩:=Nat.gcd_dvd_left y x
 have hg:0<Nat.gcd y x:=Nat.gcd_pos_of_pos_left _ hy
 unfold fracA fracB
 generalize Nat.gcd y x=g at *
 subst hx';subst hy'
 rw [Nat.mul_div_cancel_left _ hg,Nat.mul_div_cancel_left _ hg,Nat.mul_div_mul_left _ _ hg]
def Znp:Nat→Nat→List Sg→Nat
 | a,_,[]=>a
 | a,b,s::ss=>Znp (fracA (a*gainB s) (b*gainA s)) (fracB (a*gainB s) (b*gainA s)) ss
def Znq:Nat→Nat→List Sg→Nat
 | _,b,[]=>b
 | a,b,s::ss=>Znq (fracA (a*gainB s) (b*gainA s)) (fracB (a*gainB s) (b*gainA s)) ss
theorem Zsp (n:Nat):∀ (ss:List Sg) (P Q:Nat),ss.all YM=true→0<P→0<Q →
  Znp (fracA (n*Q) P) (fracB (n*Q) P) ss=fracA (n*ZC P Q ss) (ZB P Q ss)∧Znq (fracA (n*Q) P) (fracB (n*Q) P) ss=fracB (n*ZC P Q ss) (ZB P Q ss)
 | [],P,Q,_,_,_=>⟨rfl,rfl⟩
 | s::ss,P,Q,h,hP,hQ=>by
  rw [Ro,Rs] at h
  obtain ⟨g1,_,g3,_⟩:=Zj3 h.1
  have hPg:0<P*gainA s:=WS hP g1
  have hQg:0<Q*gainB s:=WS hQ g3
  obtain ⟨f1,f2,_,_⟩:=Zgu hPg hQg
  have ih:=Zsp n ss (fracA (P*gainA s) (Q*gainB s)) (fracB (P*gainA s) (Q*gainB s)) h.2 f1 f2
  have c1:=ZiQ (n*Q) P
  have c2:=ZiQ (P*gainA s) (Q*gainB s)
  have b1:=ZhX (n*Q) P hP
  have e:=ZFi (x:=fracA (n*Q) P*gainB s) (y:=fracB (n*Q) P*gainA s) (x':=n*fracB (P*gainA s) (Q*gainB s)) (y':=fracA (P*gainA s) (Q*gainB s)) (WS b1 g1) f1 (by
   generalize fracA (n*Q) P=a at *
   generalize fracB (n*Q) P=b at *
   generalize fracA (P*gainA s) (Q*gainB s)=P' at *
   generalize fracB (P*gainA s) (Q*gainB s)=Q' at *
   generalize gainA s=gA at *
   generalize gainB s=gB at *
   refine Nat.eq_of_mul_eq_mul_right (WS hP hQ) ?_
   calc a*gB*P'*(P*Q)=(a*P)*(P'*(Q*gB)):=by simp [WL,WM]
    _=(n*Q*b)*(P*gA*Q'):=by rw [c1,c2]
    _=n*Q'*(b*gA)*(P*Q):=by simp [WL,WM])
  simp only [Znp,Znq,ZB,ZC]
  rw [e.1,e.2]
  exact ih
theorem ZFj (n:Nat) (ss:List Sg) (h:ss.all YM=true):Znp n 1 ss=fracA (n*ZC 1 1 ss) (ZB 1 1 ss)∧Znq n 1 ss=fracB (n*ZC 1 1 ss) (ZB 1 1 ss):=by
 have e:=Zsp n ss 1 1 h (by decide) (by decide)
 have e1:fracA (n*1) 1=n:=by simp [fracA]
 have e2:fracB (n*1) 1=1:=by simp [fracB]
 rw [e1,e2] at e
 exact e
def ZtS (L:List Blk) (b:Nat) (keep:Bool):List Blk:=if keep=true then L else L.set b .dead
theorem ZhY (L:List Blk) (b:Nat) (k:Bool):(ZtS L b k).length=L.length:=by unfold ZtS;split <;> simp
theorem ZFk {L:List Blk} {b i:Nat} (k:Bool) (h:i≠b):(ZtS L b k)[i]?=L[i]?:=by
 unfold ZtS
 split
 ·rfl
 ·exact Wz (fun e=>h e.symm)
theorem apG {L:List Blk} {b sz bytes n k:Nat} {cs new:List AV} {cap:Option Nat} {src:AV} (hb:L[b]?=some (.cells cs true)) (hs:Y7 false L src=some (k,new)) (hcs:cs.length=n*sz) (hnew:new.length=k*sz) (hm:(n+k)*bytes≤maxBytes) (hcap:cap=some 0→n=0) :
  Zaa L e false sz bytes (.slice (some (b,0)) sz n cap) src=some (.slice (some (L.length,0)) sz (n+k) none,⟨ZtS L b (decide (cap=some 0∧0<k))++[.cells (cs++new) true],e⟩):=by
 unfold Zaa
 simp only [hb,hs]
 rw [if_pos ⟨trivial,hm,hnew,by omega⟩]
 by_cases h:cap=some 0∧0<k
 ·have hn:=hcap h.1
  subst hn
  have:cs=[]:=List.eq_nil_of_length_eq_zero (by omega)
  subst this
  rw [if_pos h]
  simp [ZtS,h]
 ·rw [if_neg h,if_pos trivial,Rl,List.take_of_length_le (by omega)]
  simp [ZtS,h]
def ZT (H L:List Blk):Prop:=∃ G,L=H++G
theorem ZT.refl (H:List Blk):ZT H H:=⟨[],by simp⟩
theorem ZT.le {H L:List Blk} (h:ZT H L):H.length≤L.length:=by
 obtain ⟨G,rfl⟩:=h
 simp
theorem ZT.more {H L:List Blk} (h:ZT H L) (X:List Blk):ZT H (L++X):=by
 obtain ⟨G,rfl⟩:=h
 exact ⟨G++X,by simp⟩
theorem ZT.put {H L:List Blk} (h:ZT H L) {b:Nat} (hb:H.length≤b) (x:Blk):ZT H (L.set b x):=by
 obtain ⟨G,rfl⟩:=h
 exact ⟨G.set (b - H.length) x,List.set_append_right _ _ hb⟩
theorem ZT.kill {H L:List Blk} (h:ZT H L) {b:Nat} (hb:H.length≤b) (k:Bool):ZT H (ZtS L b k):=by
 unfold ZtS
 split
 ·exact h
 ·exact h.put hb _
theorem ZT.cur {H L:List Blk} {q:Nat} {x:Blk} (h:ZT (H.set q x) L) (hq:q<H.length) (y:Blk):ZT (H.set q y) (L.set q y):=by
 obtain ⟨G,rfl⟩:=h
 exact ⟨G,by rw [List.set_append_left _ _ (by simpa using hq),List.set_set]⟩
theorem ZT.get {H L:List Blk} (h:ZT H L) {i:Nat} (hi:i<H.length):L[i]?=H[i]?:=by
 obtain ⟨G,rfl⟩:=h
 exact Ws hi
theorem ZT.cells {H L:List Blk} {q:Nat} {x:Blk} (h:ZT (H.set q x) L) {b:Nat} {cs:List AV} (hb:Zb H b=some cs) (hne:b≠q):Zb L b=some cs:=by
 have hl:b<H.length:=by
  unfold Zb at hb
  rcases Nat.lt_or_ge b H.length with h | h
  ·exact h
  ·rw [List.getElem?_eq_none h] at hb;cases hb
 unfold Zb at hb ⊢
 rw [h.get (by simpa using hl),Wz (fun e=>hne e.symm)]
 exact hb
theorem ZT.curs {H L:List Blk} {q:Nat} {av:AV} {p y z:Int} (h:ZT (H.set q (ZJj av y z)) L) (hc:Cu H q av p) (hy:0≤y):Cu L q av y:=by
 obtain ⟨G,rfl⟩:=h
 exact (hc.step hy z).more G
theorem Zi3 {L:List Blk} {b sz bytes n k:Nat} {cs new:List AV} {cap:Option Nat} {src:AV} {Q:AV→Mem→Prop} (hb:L[b]?=some (.cells cs true)) (hs:Y7 false L src=some (k,new)) (hcs:cs.length=n*sz) (hnew:new.length=k*sz) (hm:(n+k)*bytes≤maxBytes) (hcap:cap=some 0→n=0)
  (hQ:∀ L':List Blk,L'.length=L.length+1→(∀ i,i≠b→i<L.length→L'[i]?=L[i]?)→L'[L.length]?=some (.cells (cs++new) true)→(∀ H0,ZT H0 L→H0.length≤b→ZT H0 L')→Q (.slice (some (L.length,0)) sz (n+k) none) ⟨L',e⟩) :
  Wc (Zaa L e false sz bytes (.slice (some (b,0)) sz n cap) src) Q:=by
 refine Wc.of_eq (apG hb hs hcs hnew hm hcap) (hQ _ ?_ ?_ ?_ ?_)
 ·rw [RX,ZhY];rfl
 ·intro i h1 h2
  rw [Ws (by rw [ZhY];exact h2),ZFk _ h1]
 ·have hl:=ZhY L b (decide (cap=some 0∧0<k))
  rw [Ry (by omega),hl,WG]
  rfl
 ·exact fun H0 hg hb=>(hg.kill hb _).more _
theorem ZFl {L:List Blk} {b sz n:Nat} {c:Option Nat} {cs:List AV} {w:Bool} (hL:ZT H L) (e0 e1:Option Nat) (hc:clean H.length e1=true) (hb:H.length≤b) (hG:L[b]?=some (.cells cs w)) (hu:(cs.all fun c=>c.under H.length)=true) :
  finish 2 H.length e0 (.slice (some (b,0)) sz n c) ⟨L,e1⟩=some (.slice (some (H.length,0)) sz n c,⟨H++[.cells cs w],e0⟩):=by
 obtain ⟨G,rfl⟩:=hL
 obtain ⟨j,rfl⟩:∃ j,b=H.length+j:=⟨b - H.length,by omega⟩
 have hlt:¬ H.length+j<H.length:=by omega
 have hr:XL (AV.roots H.length (.slice (some (H.length+j,0)) sz n c))=[H.length+j]:=by simp [AV.roots,XL,hlt]
 unfold finish
 simp only [hr]
 have h2:([H.length+j].all fun b=>Xa H.length (H++G)[b]?)=true:=by
  simp only [Ro,List.all_nil,Bool.and_true,hG,Xa,hu]
 simp only [hc,h2,and_self,if_true]
 simp [AV.rename,ZbP,hlt,hG]
variable {pr : Zt} {H : List Blk} {e : Option Nat}
def ZnN:Nat→By→Option Nat
 | acc,[]=>some acc
 | acc,c::r=>if 48≤c.toNat∧c.toNat≤57 then ZnN (acc*10+(c.toNat - 48)) r else none
theorem Zn4:∀ (a b:By) (acc:Nat),ZnN acc (a++b)=(ZnN acc a).bind fun x=>ZnN x b
 | [],b,acc=>rfl
 | c::a,b,acc=>by
  simp only [List.cons_append,ZnN]
  split
  ·exact Zn4 a b _
  ·rfl
theorem Zlw (u:Nat):ZnN 0 (Lib.decDigits u)=some u:=by
 induction u using Nat.strongRecOn with
 | _ u ih=>
  rw [Lib.decDigits]
  split
  ·rename_i h
   have h1:(UInt8.ofNat (48+u)).toNat=48+u:=by simp;omega
   simp only [ZnN,h1]
   rw [if_pos (by omega)]
   simp
  ·rename_i h
   have h1:(UInt8.ofNat (48+u % 10)).toNat=48+u % 10:=by simp;omega
   rw [Zn4,ih (u / 10) (by omega)]
   simp only [Option.bind_some,ZnN,h1]
   rw [if_pos (by omega)]
   congr 1
   omega
theorem ZFm:∀ (l:By) (acc x:Nat),ZnN acc l=some x→acc≤x
 | [],acc,x,h=>by simp only [ZnN,RS] at h;omega
 | c::r,acc,x,h=>by
  simp only [ZnN] at h
  split at h
  ·have:=ZFm r _ x h;omega
  ·cases h
theorem Zzw:∀ (l:By) (acc x k:Nat),ZnN acc l=some x→acc<10 ^ k→x<10 ^ (k+l.length)
 | [],acc,x,k,h,ha=>by simp only [ZnN,RS] at h;subst h;simpa using ha
 | c::r,acc,x,k,h,ha=>by
  simp only [ZnN] at h
  split at h
  ·have:=Zzw r _ x (k+1) h (by rw [WN];omega)
   rw [RN,show k+(r.length+1)=k+1+r.length by omega]
   exact this
  ·cases h
theorem Zp8:∀ (l:By) (acc x:Nat),ZnN acc l=some x→x≤999999→Lib.parseUint10 acc l=.ok x
 | [],acc,x,h,_=>by simp only [ZnN,RS] at h;subst h;rfl
 | c::r,acc,x,h,hx=>by
  have h0:=h
  simp only [ZnN] at h
  split at h
  ·rename_i hc
   have h1:=ZFm r _ x h
   simp only [Lib.parseUint10]
   rw [if_pos hc,if_neg (by omega),if_neg (by omega)]
   exact Zp8 r _ x h hx
  ·cases h
theorem Zlx (u:Nat):∃ c r,Lib.decDigits u=c::r∧48≤c.toNat∧c.toNat≤57:=by
 have h:=Zlw u
 cases hd:Lib.decDigits u with
 | nil=>
  rw [Lib.decDigits] at hd
  split at hd <;> simp at hd
 | cons c r=>
  rw [hd] at h
  simp only [ZnN] at h
  split at h
  ·rename_i hc;exact ⟨c,r,rfl,hc⟩
  ·cases h
theorem ZFn (u:Nat):∀ k,u<10 ^ (k+1)→(Lib.decDigits u).length≤k+1:=by
 induction u using Nat.strongRecOn with
 | _ u ih=>
  intro k hk
  rw [Lib.decDigits]
  split
  ·simp
  ·rename_i h
   cases k with
   | zero=>simp at hk;omega
   | succ k=>
    have:=ih (u / 10) (by omega) k (by rw [WN] at hk;omega)
    simp only [RX,List.length_singleton]
    omega
def ZhZ (l:By):Option Int:=match Lib.atoiAll l with
 | .ok v=>if Lib.itoa v=l ∧ -999999≤v∧v≤999999 then some v else none
 | _=>none
theorem ZFo (v:Int) (h1 : -999999≤v) (h2:v≤999999):Lib.atoiAll (Lib.itoa v)=.ok v:=by
 by_cases hv:v<0
 ·obtain ⟨u,hu⟩:∃ u:Nat,v = -(u:Int):=⟨v.natAbs,by omega⟩
  subst hu
  rw [Lib.itoa_neg u (by omega)]
  obtain ⟨c,r,hd,_⟩:=Zlx u
  have hp:Lib.parseMag (Lib.decDigits u)=.ok u:=by
   unfold Lib.parseMag
   rw [if_neg (by rw [hd];simp)]
   exact Zp8 _ 0 u (Zlw u) (by omega)
  have e1:(45:UInt8).toNat=45:=rfl
  simp only [Lib.atoiAll,e1,or_true,if_true,hp]
  rw [if_neg (by simp),if_neg (by simp;omega)]
 ·obtain ⟨u,hu⟩:∃ u:Nat,v=(u:Int):=⟨v.toNat,by omega⟩
  subst hu
  rw [Lib.itoa_nonneg]
  obtain ⟨c,r,hd,hc⟩:=Zlx u
  have hp:Lib.parseMag (Lib.decDigits u)=.ok u:=by
   unfold Lib.parseMag
   rw [if_neg (by rw [hd];simp)]
   exact Zp8 _ 0 u (Zlw u) (by omega)
  rw [hd] at hp ⊢
  have n1:¬ (c.toNat=43∨c.toNat=45):=by omega
  have n2:¬ c.toNat=45:=by omega
  simp only [Lib.atoiAll,if_neg n1,hp]
  rw [if_neg (by omega),if_neg (by rintro ⟨h,_⟩;exact n2 h),if_neg n2]
theorem ZwI (l:By) (v:Int):ZhZ l=some v↔Lib.itoa v=l ∧ -999999≤v∧v≤999999:=by
 constructor
 ·intro h
  unfold ZhZ at h
  split at h
  ·split at h
   ·rename_i hh;cases h;exact hh
   ·cases h
  ·cases h
 ·rintro ⟨rfl,h1,h2⟩
  unfold ZhZ
  rw [ZFo v h1 h2]
  simp [h1,h2]
def ZaV (l:By):By:=if 1<l.length∧l.head?=some 45 then l.drop 1 else l
def Zrd (l:By):Option Int:=if 1≤(ZaV l).length∧(ZaV l).length≤6 then (match ZnN 0 (ZaV l) with
 | some x=>if Lib.itoa (if (ZaV l).length<l.length then -(x:Int) else x)=l then some (if (ZaV l).length<l.length then -(x:Int) else x) else none
 | none=>none) else none
theorem Zzx (l:By):Zrd l=ZhZ l:=by
 have h1:∀ v,Zrd l=some v→ZhZ l=some v:=by
  intro v h
  unfold Zrd at h
  split at h
  ·rename_i hl
   split at h
   ·rename_i x hx
    have hb:=Zzw _ 0 x 0 hx (by decide)
    have hp:10 ^ (0+(ZaV l).length)≤10 ^ 6:=RP (by omega) (by omega)
    have:x≤999999:=by have h10:(10:Nat) ^ 6=1000000:=(by decide);omega
    have hz:∀ z:Int,(if (ZaV l).length<l.length then -(x:Int) else (x:Int))=z → -999999≤z∧z≤999999:=by
     intro z hz
     rw [←hz]
     split <;> omega
    generalize (if (ZaV l).length<l.length then -(x:Int) else (x:Int))=z at h hz
    have hz:=hz z rfl
    split at h
    ·rename_i hi
     rw [←WH h,ZwI]
     exact ⟨hi,hz⟩
    ·cases h
   ·cases h
  ·cases h
 have h2:∀ v,ZhZ l=some v→Zrd l=some v:=by
  intro v h
  obtain ⟨rfl,g1,g2⟩:=(ZwI l v).mp h
  by_cases hv:v<0
  ·obtain ⟨u,hu⟩:∃ u:Nat,v = -(u:Int):=⟨v.natAbs,by omega⟩
   subst hu
   obtain ⟨c,r,hd,_⟩:=Zlx u
   have hlen:=ZFn u 5 (by have h10:(10:Nat) ^ 6=1000000:=(by decide);omega)
   have e:=Lib.itoa_neg u (by omega)
   have ht:ZaV (45::Lib.decDigits u)=Lib.decDigits u:=by
    unfold ZaV
    rw [if_pos ⟨by rw [hd];simp,rfl⟩]
    rfl
   have hlt:(Lib.decDigits u).length<((45:UInt8)::Lib.decDigits u).length:=by simp
   have hpos:1≤(Lib.decDigits u).length:=by rw [hd];simp
   unfold Zrd
   rw [e,ht,if_pos ⟨hpos,hlen⟩,Zlw]
   simp only [if_pos hlt]
   rw [if_pos e]
  ·obtain ⟨u,hu⟩:∃ u:Nat,v=(u:Int):=⟨v.toNat,by omega⟩
   subst hu
   obtain ⟨c,r,hd,hc⟩:=Zlx u
   have hlen:=ZFn u 5 (by have h10:(10:Nat) ^ 6=1000000:=(by decide);omega)
   have e:=Lib.itoa_nonneg u
   have ht:ZaV (Lib.decDigits u)=Lib.decDigits u:=by
    unfold ZaV
    rw [if_neg]
    rintro ⟨_,h⟩
    rw [hd] at h
    simp only [List.head?_cons,RS] at h
    subst h
    exact absurd hc.1 (by decide)
   have hpos:1≤(Lib.decDigits u).length:=by rw [hd];simp
   unfold Zrd
   rw [e,ht,if_pos ⟨hpos,hlen⟩,Zlw]
   simp only [Rh,if_false]
   rw [if_pos e]
 cases h:ZhZ l with
 | some v=>exact h2 v h
 | none=>
  cases g:Zrd l with
  | none=>rfl
  | some v=>rw [h1 v g] at h;cases h
theorem ZFp {L:List Blk} (hL:ZT H L) (e0 e1:Option Nat) (v:AV) (hv:v.under H.length=true) (hc:clean H.length e1=true):finish 1 H.length e0 v ⟨L,e1⟩=some (v,⟨H,e0⟩):=by
 obtain ⟨G,rfl⟩:=hL
 rw [ZgF,if_pos ⟨hv,hc⟩]
def Zfk (z:Int):Prop := -9223372036854775807≤z∧z≤9223372036854775807
def Xi (c:UInt8) (zs:List Int):By:=Lib.join (zs.map Lib.itoa) [c]
theorem Y5 (z:Int) (h:Zfk z):(Lib.itoa z).length≤21:=by
 unfold Lib.itoa
 split
 ·have:=Zal z.natAbs (by have:=h.1;omega)
  simp only [RN]
  omega
 ·have:=Zal z.toNat (by have:=h.2;omega)
  omega
theorem Zn5 (sep:By) (k:Nat):∀ (xs:List By),(∀ x∈xs,x.length≤k)→(Lib.join xs sep).length≤xs.length*(k+sep.length)
 | [],_=>by simp [Lib.join_nil]
 | [x],h=>by
  rw [Lib.join_one]
  have:=h x (by simp)
  simp only [List.length_singleton,Rx]
  omega
 | x::y::xs,h=>by
  have ih:=Zn5 sep k (y::xs) fun z hz=>h z (Wt _ hz)
  have h1:=h x Wb
  have e:Lib.join (x::y::xs) sep=x++sep++Lib.join (y::xs) sep:=by
   rw [Lib.join_cons,Lib.join_cons]
   simp [Lib.joinTail]
  rw [e]
  simp only [RX,RN] at ih ⊢
  rw [Nat.add_mul (xs.length+1) 1,Rx]
  omega
theorem Zfl (c:UInt8) (zs:List Int) (hz:∀ z∈zs,Zfk z):(Xi c zs).length≤zs.length*22:=by
 have:=Zn5 [c] 21 (zs.map Lib.itoa) fun x hx=>by
  obtain ⟨z,h1,rfl⟩:=Wd.mp hx
  exact Y5 z (hz z h1)
 simpa [Xi] using this
theorem ZaW (hi:Ko pr) (hj:Zmz pr) {q:Nat} {cap:Option Nat} {zs:List Int} (h:Zb H q=some (ZR zs)) (hn:zs.length≤1000000) (hz:∀ z∈zs,Zfk z) (c:UInt8):call T pr Yl [slI q zs.length cap,sV [c]] ⟨H,e⟩=some (sV (Xi c zs),⟨H,e⟩):=by
 apply Wc.eq
 rw [Zr Zo8]
 simp +contextual only [KD,Zhl,Zc,pp,go_sem,reduceIte,Ra,Rb,Rc,Rd]
 refine ZL (fun k st=>∃ (i b:Nat) (cc:Option Nat) (L:List Blk) (w4 w8:AV),i+k=zs.length∧(cc=some 0→i=0)∧ZT H L∧H.length≤b∧L[b]?=some (.cells (Zcd ((zs.take i).map Lib.itoa)) true) ∧
  st=⟨[slI q zs.length cap,sV [c],.str ⟨#[]⟩,slX b i cc,w4,slI q zs.length cap,.int .i64 zs.length,.int .i64 i,w8],⟨L,none⟩⟩) ?_ zs.length _ ?_
 ·rintro k _ ⟨i,b,cc,L,w4,w8,hik,hcc,hL,hb,hLb,rfl⟩
  have hq:Zb L q=some (ZR zs):=by
   obtain ⟨G,rfl⟩:=hL
   exact Za h G
  by_cases hk:k=0
  ·have he:i=zs.length:=by omega
   subst he
   rw [Wi] at hLb
   have hjn:=hj (zs.map Lib.itoa) c b cc L none (Ze hLb) (by simp;omega) (by have:=Zfl c zs hz;unfold Xi at this;omega)
   rw [WA] at hjn
   unfold Xi
   simp (maxSteps:=2000000) +contextual only [Zbl,KD,Rh,decide_false,hjn,ZFp hL,ZvX,Zm,pp,go_sem,reduceIte,Ra,Rb,Rc,Rd]
  ·have hi':i<zs.length:=by omega
   have hl:zs[i]?=some zs[i]:=Rj hi'
   have hf:=hz zs[i] (WB hi')
   have hit:=fun m=>hi zs[i] m (by have:=hf.1;omega) hf.2
   have htk:(zs.take i).map Lib.itoa++[Lib.itoa zs[i]]=(zs.take (i+1)).map Lib.itoa:=by
    rw [RM hi',WO]
    rfl
   simp (maxSteps:=2000000) +contextual only [Zbl,Zc,hi',hq,Zu _ hl,hit,Nat.mul_one,Zi (show i<9223372036854775807 by omega),decide_true,pp,go_sem,reduceIte,Ra,Rb,Rc,Rd]
   refine Zi3 (k:=1) (new:=[sV (Lib.itoa zs[i])]) (ZY hLb _) (Qx _ 1 1 _ _ L.length (by simp +contextual only [go_sem,reduceIte,Ra,Rb,Rc,Rd]) rfl) (by rw [ZgJ];simp;omega) rfl (by unfold maxBytes;omega) hcc ?_
   intro L2 e1 e2 e3 e4
   have e3':Zcd ((zs.take i).map Lib.itoa)++[sV (Lib.itoa zs[i])]=Zcd ((zs.take (i+1)).map Lib.itoa):=by rw [←htk,ZgK];rfl
   rw [e3'] at e3
   simp (maxSteps:=2000000) +contextual only [Zi (show i<9223372036854775807 by omega),pp,go_sem,reduceIte,Ra,Rb,Rc,Rd]
   exact ⟨k - 1,by omega,i+1,_,none,L2,_,_,by omega,by simp,e4 _ (hL.more _) hb,by have:=hL.le;simp;omega,by simpa using e3,rfl⟩
 ·exact ⟨0,H.length,some 0,_,_,_,by omega,fun _=>rfl,⟨_,rfl⟩,Rq _,by rw [ZQ];rfl,rfl⟩
theorem ZP (hi:Ko pr) (n:Int) (hn:Zfk n) (ok:Bool):call T pr ZZ [.int .i64 n,.bool ok] ⟨H,e⟩=some (.tup [sV (Lib.itoa n),.bool ok],⟨H,e⟩):=by
 have hit:=fun m=>hi n m (by have:=hn.1;omega) hn.2
 rw [Zh ZqB]
 simp +contextual only [ZbG,Zjd,hit,go_sem,reduceIte,Ra,Rb,Rc,Rd]
def saV (L:List Blk) (n sz:Nat) (v:AV):Option AV:=match v with
 | .ptr (some (b,o))=>(match L[b]? with
  | some (.cells cs true)=>if 0<cs.length∧o+n*sz≤cs.length then QO sz (some (b,o)) sz n (some n) 0 n none else none
  | _=>none)
 | _=>none
theorem ZwJ {C:FuncId→List AV→Mem→Option (AV×Mem)} {g:X→AV} (L:List Blk) (e:Option Nat) (n sz:Nat) (x:X):aop C g ⟨L,e⟩ (.sliceArr n sz x none none none)=K7 ⟨L,e⟩ (saV L n sz (g x)):=by
 rw [Zei rfl]
 simp only [Zce,saV,ZeN,Zoc]
 generalize g x=v
 congr 1
 cases v with
 | ptr p=>
  cases p with
  | none=>rfl
  | some p=>
   obtain ⟨b,o⟩:=p
   simp only
   generalize L[b]?=k
   match k with
   | none=>rfl
   | some .dead=>rfl
   | some (.mp _)=>rfl
   | some (.cells cs true)=>simp
   | some (.cells cs false)=>rfl
 | _=>rfl
theorem ZH3 (L:List Blk) (a b:Int):saV (L++[.cells [.int .i64 a,.int .i64 b] true]) 2 1 (.ptr (some (L.length,0)))=some (.slice (some (L.length,0)) 1 2 (some 2)):=by
 simp [saV,QO]
theorem QX (hi:Ko pr) (hj:Zmz pr) (a b:Int) (ha:Zfk a) (hb:Zfk b) (ok:Bool):call T pr XP [.agg [.int .i64 a,.int .i64 b],.bool ok] ⟨H,e⟩=some (.tup [sV (Xi 47 [a,b]),.bool ok],⟨H,e⟩):=by
 have hnt:∀ (L:List Blk) (q:Nat) (cap:Option Nat),Zb L q=some [.int .i64 a,.int .i64 b]→call T pr Yl [.slice (some (q,0)) 1 2 cap,.str ⟨#[47]⟩] ⟨L,none⟩=some (sV (Xi 47 [a,b]),⟨L,none⟩) :=
  fun L q cap h=>ZaW (zs:=[a,b]) hi hj h (by simp) (by intro z hz;simp at hz;rcases hz with rfl | rfl <;> assumption) 47
 rw [Zh Znw]
 simp +contextual only [QV,ZgW,hnt,Zc,ZwJ,ZH3,go_sem,reduceIte,Ra,Rb,Rc,Rd]
def ZeL (zs:List Int):By:=if zs.length=0 then [110,111,110,101] else Xi 32 zs
theorem Zer (hi:Ko pr) (hj:Zmz pr) {q:Nat} {cap:Option Nat} {zs:List Int} (h:Zb H q=some (ZR zs)) (hn:zs.length≤1000000) (hz:∀ z∈zs,Zfk z) (ok:Bool):call T pr XX [slI q zs.length cap,.bool ok] ⟨H,e⟩=some (.tup [sV (ZeL zs),.bool ok],⟨H,e⟩):=by
 have hnt:∀ G,call T pr Yl [slI q zs.length cap,.str ⟨#[32]⟩] ⟨H++G,none⟩=some (sV (Xi 32 zs),⟨H++G,none⟩):=fun G=>ZaW hi hj (Za h G) hn hz 32
 have hnt0:call T pr Yl [slI q zs.length cap,.str ⟨#[32]⟩] ⟨H,none⟩=some (sV (Xi 32 zs),⟨H,none⟩):=ZaW hi hj h hn hz 32
 rw [Zh Zm6]
 unfold ZeL
 by_cases h0:zs.length=0
 ·have h0':((zs.length:Nat):Int)=0:=by omega
  simp +contextual only [Zaj,Zd4,h0,h0',decide_true,hnt,hnt0,go_sem,reduceIte,Ra,Rb,Rc,Rd]
  rfl
 ·have h0':¬ ((zs.length:Nat):Int)=0:=by omega
  simp +contextual only [Zaj,Zd4,h0,h0',decide_false,hnt,hnt0,go_sem,reduceIte,Ra,Rb,Rc,Rd]
theorem Zh0 (ok:Bool) {p:Option (Nat×Nat)} {s:Nat} {cap:Option Nat}:call T pr XX [.slice p s 0 cap,.bool ok] ⟨H,e⟩=some (.tup [sV (ZeL []),.bool ok],⟨H,e⟩):=by
 rw [Zh Zm6]
 have h0':((0:Nat):Int)=0:=rfl
 simp +contextual only [Zaj,Zd4,h0',decide_true,go_sem,reduceIte,Ra,Rb,Rc,Rd]
 rfl
theorem JG (n:Int) (hn:Zfk n) (ok:Bool):call T pr KV [.int .i64 n,.bool ok] ⟨H,e⟩=some (sV (if ok=true then Lib.itoa n else [63]),⟨H,e⟩):=by
 have hnum:=fun (L:List Blk)=>XD (pr:=pr) (H:=L) (e:=none) n hn.1 hn.2
 rw [Zh ZBd]
 cases ok <;> simp +contextual only [ZiC,ZrH,hnum,RZ,if_true,if_false,go_sem,reduceIte,Ra,Rb,Rc,Rd]
theorem Zly (c:UInt8) (a b:Int):Xi c [a,b]=Lib.itoa a++c::Lib.itoa b:=by
 simp [Xi,Lib.join_cons,Lib.joinTail]
theorem ZgO (a b:Int) (ha:Zfk a) (hb:Zfk b) (ok:Bool):call T pr Zbe [.agg [.int .i64 a,.int .i64 b],.bool ok] ⟨H,e⟩=some (sV (if ok=true then Xi 47 [a,b] else [63]),⟨H,e⟩):=by
 have hna:=fun (L:List Blk)=>XD (pr:=pr) (H:=L) (e:=none) a ha.1 ha.2
 have hnb:=fun (L:List Blk)=>XD (pr:=pr) (H:=L) (e:=none) b hb.1 hb.2
 have la:=Y5 a ha
 have lb:=Y5 b hb
 rw [Zh Zya]
 have e47:(AV.str ⟨#[47]⟩)=sV [47]:=rfl
 cases ok
 ·simp +contextual only [Zde,ZjJ,RZ,if_true,if_false,go_sem,reduceIte,Ra,Rb,Rc,Rd]
 ·have h1:(Lib.itoa a).length+([47]:By).length≤140737488355328:=by simp;omega
  have h2:(Lib.itoa a++[47]).length+(Lib.itoa b).length≤140737488355328:=by simp;omega
  rw [Zly]
  simp +contextual only [Zde,ZjJ,hna,hnb,e47,ZD,h1,h2,Zbt,Zbu,Za2,R9,RH,RI,RJ,Rx,RZ,if_true,if_false,go_sem,reduceIte,Ra,Rb,Rc,Rd]
  simp
  omega
theorem ZCN (c:UInt8):∀ (zs:List Int) (z:Int),Xi c (zs++[z])=if zs=[] then Lib.itoa z else Xi c zs++[c]++Lib.itoa z
 | [],z=>by simp [Xi,Lib.join_one]
 | x::zs,z=>by
  rw [if_neg (by simp)]
  simp [Xi,Lib.join_cons,Lib.joinTail]
theorem ZH4 (z:Int):Lib.itoa z≠[]:=by
 unfold Lib.itoa
 split
 ·simp
 ·obtain ⟨c,r,h,_⟩:=Zlx z.toNat
  rw [h];simp
theorem ZgP {q:Nat} {cap:Option Nat} {zs:List Int} (h:Zb H q=some (ZR zs)) (hn:zs.length≤1000000) (hz:∀ z∈zs,Zfk z) (ok:Bool):call T pr XB [slI q zs.length cap,.bool ok] ⟨H,e⟩=some (sV (if ok=true then ZeL zs else [63]),⟨H,e⟩):=by
 apply Wc.eq
 rw [Zr Zpc]
 simp +contextual only [KH,ZjL,pp,go_sem,reduceIte,Ra,Rb,Rc,Rd]
 refine ZL (fun k st=>∃ (i:Nat) (w5 w6 w7 w8:AV),i+k=zs.length∧st=⟨[slI q zs.length cap,.bool ok,.str ⟨#[]⟩,sV (Xi 32 (zs.take i)),.int .i64 i,w5,w6,w7,w8],⟨H,none⟩⟩) ?_ zs.length _ ?_
 ·rintro k _ ⟨i,w5,w6,w7,w8,hik,rfl⟩
  by_cases hk:k=0
  ·have he:i=zs.length:=by omega
   subst he
   have e0:(AV.str ⟨#[]⟩)=sV []:=rfl
   have e63:(AV.str ⟨#[63]⟩)=sV [63]:=rfl
   have en:(AV.str ⟨#[110,111,110,101]⟩)=sV [110,111,110,101]:=rfl
   rw [Wi]
   unfold ZeL
   cases ok
   ·simp +contextual only [JY,KH,Rh,decide_false,e63,RZ,if_false,pp,go_sem,reduceIte,Ra,Rb,Rc,Rd]
   ·by_cases h0:zs.length=0
    ·have h1:Xi 32 zs=[]:=by rw [List.length_eq_zero_iff.mp h0];rfl
     rw [h1,if_pos h0]
     simp +contextual only [JY,KH,Rh,decide_false,decide_true,e0,en,if_true,pp,go_sem,reduceIte,Ra,Rb,Rc,Rd]
    ·have h1:¬ bs (Xi 32 zs)=bs []:=by
      rw [Zln]
      obtain ⟨z,zs',rfl⟩:∃ z zs',zs=z::zs':=by cases zs with | nil=>simp at h0 | cons z zs'=>exact ⟨z,zs',rfl⟩
      intro hh
      unfold Xi at hh
      rw [List.map_cons,Lib.join_cons] at hh
      exact ZH4 z (List.append_eq_nil_iff.mp hh).1
     rw [if_neg h0]
     simp +contextual only [JY,KH,Rh,decide_false,e0,h1,if_true,pp,go_sem,reduceIte,Ra,Rb,Rc,Rd]
  ·have hi':i<zs.length:=by omega
   have hl:zs[i]?=some zs[i]:=Rj hi'
   have hf:=hz zs[i] (WB hi')
   have hnum:=fun (L:List Blk)=>XD (pr:=pr) (H:=L) (e:=none) zs[i] hf.1 hf.2
   have hlen:=Zfl 32 (zs.take i) fun z hm=>hz z (List.mem_of_mem_take hm)
   have hli:=Y5 zs[i] hf
   have e32:(AV.str ⟨#[32]⟩)=sV [32]:=rfl
   have hle:(Xi 32 (zs.take i)).length≤22000000:=by
    have:(zs.take i).length≤1000000:=by rw [Wm];omega
    omega
   have hs:=ZCN 32 (zs.take i) zs[i]
   rw [←RM hi'] at hs
   by_cases h0:i=0
   ·subst h0
    have hz0:((0:Nat):Int)=0:=rfl
    rw [List.take_zero,if_pos rfl] at hs
    have h2:(Xi 32 (zs.take 0)).length+(Lib.itoa zs[0]).length≤140737488355328:=by rw [List.take_zero];simp [Xi,Lib.join_nil];omega
    have hj0:Xi 32 (zs.take 0)++Lib.itoa zs[0]=Xi 32 (zs.take 1):=by rw [hs];rfl
    have hpos:(0:Int)<(zs.length:Int):=by omega
    have hp0:Zcn false (ZR zs) 0 1=some (.int .i64 zs[0]):=Zu _ hl
    rw [List.take_zero] at h2 hj0
    simp +contextual only [JY,List.take_zero,hi',h,hp0,hpos,hnum,gt_iff_lt,Rh,hz0,Int.lt_irrefl,R9,RH,RJ,Nat.zero_add,Nat.mul_one,decide_true,decide_false,ZD,h2,hj0,Zi (show 0<9223372036854775807 by omega),pp,go_sem,reduceIte,Ra,Rb,Rc,Rd]
    exact ⟨k - 1,by omega,1,_,_,_,_,by omega,rfl⟩
   ·have hp:(0:Int)<(i:Int):=by omega
    rw [if_neg (by intro hh;have:=congrArg List.length hh;rw [Wm,Wk] at this;omega)] at hs
    have h1:(Xi 32 (zs.take i)).length≤140737488355327:=by omega
    have h2:(Xi 32 (zs.take i)).length+1+(Lib.itoa zs[i]).length≤140737488355328:=by omega
    simp +contextual only [JY,hi',h,Zu _ hl,hnum,gt_iff_lt,hp,e32,decide_true,decide_false,ZD,h1,h2,←hs,Zi (show i<9223372036854775807 by omega),pp,go_sem,reduceIte,Ra,Rb,Rc,Rd]
    exact ⟨k - 1,by omega,i+1,_,_,_,_,by omega,rfl⟩
 ·exact ⟨0,_,_,_,_,by omega,rfl⟩
theorem ZH5 {l:By} {v:Int} (h:Lib.atoiAll l=.ok v) : -9223372036854775808≤v∧v≤9223372036854775807:=by
 unfold Lib.atoiAll at h
 split at h
 ·cases h
 ·simp only at h
  split at h
  ·cases h
  ·cases h
  ·split at h
   ·cases h
   ·split at h
    ·cases h
    ·rename_i u _ n1 n2
     have:=Lib.NumEnd.ok.inj h
     split at this <;> omega
theorem Zh1:Xz 4 .neq .nilif .nilif=some (.bool false):=rfl
theorem Zfm:Xz 4 .neq .someif .nilif=some (.bool true):=rfl
theorem ZwK (hi:Ko pr) (ha:Zzu pr) (l:By) (hl:l.length≤1000000):call T pr ZdM [sV l] ⟨H,e⟩=some (.tup [.int .i64 ((ZhZ l).getD 0),.bool (ZhZ l).isSome],⟨H,e⟩):=by
 have hat:=fun (L:List Blk)=>ha l ⟨L,none⟩ (by omega)
 have hw:=fun (L:List Blk) (x:Int)=>Yd (pr:=pr) (H:=L) (e:=none) x (-999999) 999999
 rw [Zh ZuN]
 unfold ZhZ
 cases hh:Lib.atoiAll l
 ·rename_i v
  rw [hh] at hat
  have hin : -9223372036854775808≤v∧v≤9223372036854775807:=ZH5 hh
  have hit:=fun m=>hi v m hin.1 hin.2
  have hd:decide (bs (Lib.itoa v)=bs l)=decide (Lib.itoa v=l):=Zff _ _
  by_cases h1:Lib.itoa v=l
  ·have h1':bs (Lib.itoa v)=bs l:=by rw [h1]
   cases h2:(decide (-999999≤v)&&decide (v≤999999))
   ·have h3:¬ (Lib.itoa v=l ∧ -999999≤v∧v≤999999):=by
     rintro ⟨_,g1,g2⟩
     rw [decide_eq_true g1,decide_eq_true g2] at h2
     cases h2
    have hw':=fun (L:List Blk)=>hw L v
    rw [h2] at hw'
    simp +contextual only [JL,Zai,hat,Zh1,Zfm,hit,h1',hw',if_neg h3,decide_true,WD,Wg,go_sem,reduceIte,Ra,Rb,Rc,Rd]
   ·have h3:Lib.itoa v=l ∧ -999999≤v∧v≤999999:=by
     simp only [Rs,decide_eq_true_eq] at h2
     exact ⟨h1,h2⟩
    have hw':=fun (L:List Blk)=>hw L v
    rw [h2] at hw'
    simp +contextual only [JL,Zai,hat,Zh1,Zfm,hit,h1',hw',if_pos h3,decide_true,Option.getD_some,Option.isSome_some,go_sem,reduceIte,Ra,Rb,Rc,Rd]
  ·have h1':¬ bs (Lib.itoa v)=bs l:=fun g=>h1 (Zln.mp g)
   have h3:¬ (Lib.itoa v=l ∧ -999999≤v∧v≤999999):=fun g=>h1 g.1
   simp +contextual only [JL,Zai,hat,Zh1,Zfm,hit,h1',if_neg h3,decide_false,WD,Wg,go_sem,reduceIte,Ra,Rb,Rc,Rd]
 ·rw [hh] at hat
  simp +contextual only [JL,Zai,hat,Zh1,Zfm,WD,Wg,go_sem,reduceIte,Ra,Rb,Rc,Rd]
 ·rw [hh] at hat
  simp +contextual only [JL,Zai,hat,Zh1,Zfm,WD,Wg,go_sem,reduceIte,Ra,Rb,Rc,Rd]
theorem ZFq (t:By) (i:Nat) (hi:i<t.length) (acc:Nat) (h:ZnN 0 (t.take i)=some acc):ZnN 0 (t.take (i+1))=if 48≤t[i].toNat∧t[i].toNat≤57 then some (acc*10+(t[i].toNat - 48)) else none:=by
 rw [RM hi,Zn4,h]
 simp only [Option.bind_some,ZnN]
theorem ZFr (t:By) (i:Nat) (hi:i<t.length) (h:ZnN 0 (t.take (i+1))=none):ZnN 0 t=none:=by
 conv=>lhs;rw [←List.take_append_drop (i+1) t]
 rw [Zn4,h]
 rfl
theorem Zzy (l:By) (w6 w7 w8 w9 w10 w11:AV) (hl:l.length≤1000000):Wp (run T pr (Zlv (Zlv (Zlv Xy))) ⟨[sV l,.int .i64 0,.bool false,sV (ZaV l),.undef,.undef,w6,w7,w8,w9,w10,w11],⟨H,none⟩⟩)
  (retQ YU ⟨H,e⟩ fun v m=>v=.tup [.int .i64 ((Zrd l).getD 0),.bool (Zrd l).isSome]∧m=⟨H,e⟩):=by
 have hin:=fun (L:List Blk)=>Ye (pr:=pr) (H:=L) (e:=none) ((ZaV l).length:Nat) 1 6
 have htl:(ZaV l).length≤l.length:=by unfold ZaV;split <;> simp
 unfold Zrd
 cases hb:(decide ((1:Int)≤((ZaV l).length:Nat))&&decide (((ZaV l).length:Int)≤6)) with
 | false=>
  have h1:¬ (1≤(ZaV l).length∧(ZaV l).length≤6):=by
   rintro ⟨g1,g2⟩
   rw [decide_eq_true (by omega),decide_eq_true (by omega)] at hb
   cases hb
  rw [hb] at hin
  rw [if_neg h1]
  simp +contextual only [Zlv,Xy,YU,XU,hin,WD,Wg,pp,go_sem,reduceIte,Ra,Rb,Rc,Rd]
 | true=>
  have h1:1≤(ZaV l).length∧(ZaV l).length≤6:=by
   simp only [Rs,decide_eq_true_eq] at hb
   omega
  rw [hb] at hin
  rw [if_pos h1]
  generalize ZaV l=t at *
  simp +contextual only [Zlv,Xy,YU,XU,hin,pp,go_sem,reduceIte,Ra,Rb,Rc,Rd]
  refine ZL (fun k st=>∃ (i acc:Nat) (v6 v7 v8 v9 v10 v11:AV),i+k=t.length∧ZnN 0 (t.take i)=some acc∧st=⟨[sV l,.int .i64 0,.bool false,sV t,.int .i64 acc,.int .i64 i,v6,v7,v8,v9,v10,v11],⟨H,none⟩⟩) ?_ t.length _ ?_
  ·rintro k _ ⟨i,acc,v6,v7,v8,v9,v10,v11,hik,hacc,rfl⟩
   have hlt:=Zzw _ 0 acc 0 hacc (by decide)
   have hp6:10 ^ (0+(t.take i).length)≤10 ^ 6:=RP (by omega) (by rw [Wm];omega)
   have hp:(10:Nat) ^ 6=1000000:=by decide
   have hacc6:acc≤999999:=by omega
   by_cases hk:k=0
   ·have he:i=t.length:=by omega
    subst he
    rw [Wi] at hacc
    rw [hacc]
    have hneg:IntKind.i64.wrap (0 - (acc:Int)) = -(acc:Int):=by rw [ZN (by omega) (by omega)];omega
    by_cases hs:t.length<l.length
    ·have hs':((t.length:Nat):Int)<((l.length:Nat):Int):=by omega
     have hnum:=fun (L:List Blk)=>XD (pr:=pr) (H:=L) (e:=none) (-(acc:Int)) (by omega) (by omega)
     simp only [if_pos hs]
     by_cases hi:Lib.itoa (-(acc:Int))=l
     ·have hi':bs (Lib.itoa (-(acc:Int)))=bs l:=by rw [hi]
      simp +contextual only [JM,YU,XU,Rh,hs,hs',hneg,hnum,hi',if_pos hi,decide_true,decide_false,Option.getD_some,Option.isSome_some,pp,go_sem,reduceIte,Ra,Rb,Rc,Rd]
     ·have hi':¬ bs (Lib.itoa (-(acc:Int)))=bs l:=fun g=>hi (Zln.mp g)
      simp +contextual only [JM,YU,XU,Rh,hs,hs',hneg,hnum,hi',if_neg hi,decide_true,decide_false,WD,Wg,pp,go_sem,reduceIte,Ra,Rb,Rc,Rd]
    ·have hs':¬ ((t.length:Nat):Int)<((l.length:Nat):Int):=by omega
     have hnum:=fun (L:List Blk)=>XD (pr:=pr) (H:=L) (e:=none) (acc:Int) (by omega) (by omega)
     simp only [if_neg hs]
     by_cases hi:Lib.itoa (acc:Int)=l
     ·have hi':bs (Lib.itoa (acc:Int))=bs l:=by rw [hi]
      simp +contextual only [JM,YU,XU,Rh,hs,hs',hnum,hi',if_pos hi,decide_true,decide_false,Option.getD_some,Option.isSome_some,pp,go_sem,reduceIte,Ra,Rb,Rc,Rd]
     ·have hi':¬ bs (Lib.itoa (acc:Int))=bs l:=fun g=>hi (Zln.mp g)
      simp +contextual only [JM,YU,XU,Rh,hs,hs',hnum,hi',if_neg hi,decide_true,decide_false,WD,Wg,pp,go_sem,reduceIte,Ra,Rb,Rc,Rd]
   ·have hi:i<t.length:=by omega
    have hg:=Zsj (l:=t) (i:=i) (b:=t[i]) (Rj hi)
    have hsn:=ZFq t i hi acc hacc
    have hu:=ZI3 t[i]
    by_cases hd:48≤t[i].toNat∧t[i].toNat≤57
    ·rw [if_pos hd] at hsn
     have d1:¬ ((t[i].toNat:Nat):Int)<48:=by omega
     have d2:¬ ((57:Int)<((t[i].toNat:Nat):Int)):=by omega
     have hw1:IntKind.i64.wrap (10*(acc:Int))=((acc*10:Nat):Int):=by rw [ZN (by omega) (by omega)];omega
     have hw2:IntKind.u8.wrap (((t[i].toNat:Nat):Int) - 48)=((t[i].toNat - 48:Nat):Int):=by
      have:((t[i].toNat:Nat):Int) - 48=((t[i].toNat - 48:Nat):Int):=by omega
      rw [this]
      simp [IntKind.wrap,IntKind.bits,IntKind.signed]
      omega
     have hw3:IntKind.i64.wrap ((t[i].toNat - 48:Nat):Int)=((t[i].toNat - 48:Nat):Int):=Kn (by omega)
     have hw4:IntKind.i64.wrap (((acc*10:Nat):Int)+((t[i].toNat - 48:Nat):Int))=((acc*10+(t[i].toNat - 48):Nat):Int):=by rw [←Int.natCast_add];exact Kn (by omega)
     simp +contextual only [JM,XU,hi,hg,d1,d2,gt_iff_lt,hw1,hw2,hw3,hw4,Zi (show i<9223372036854775807 by omega),decide_true,decide_false,pp,go_sem,reduceIte,Ra,Rb,Rc,Rd]
     exact ⟨k - 1,by omega,i+1,_,_,_,_,_,_,_,by omega,hsn,rfl⟩
    ·rw [if_neg hd] at hsn
     rw [ZFr t i hi hsn]
     by_cases d1:t[i].toNat<48
     ·have d1':((t[i].toNat:Nat):Int)<48:=by omega
      simp +contextual only [JM,YU,XU,hi,hg,d1',decide_true,WD,Wg,pp,go_sem,reduceIte,Ra,Rb,Rc,Rd]
     ·have d1':¬ ((t[i].toNat:Nat):Int)<48:=by omega
      have d2':((57:Int)<((t[i].toNat:Nat):Int)):=by omega
      simp +contextual only [JM,YU,XU,hi,hg,d1',d2',gt_iff_lt,decide_true,decide_false,WD,Wg,pp,go_sem,reduceIte,Ra,Rb,Rc,Rd]
  ·exact ⟨0,0,_,_,_,_,_,_,by omega,rfl,rfl⟩
theorem ZCO (l:By) (hl:l.length≤1000000):call T pr Zik [sV l] ⟨H,e⟩=some (.tup [.int .i64 ((ZhZ l).getD 0),.bool (ZhZ l).isSome],⟨H,e⟩):=by
 rw [←Zzx]
 apply Wc.eq
 rw [Zr ZBe]
 have r:=fun (w6 w7 w8 w9 w10 w11:AV)=>Zzy (pr:=pr) (H:=H) (e:=e) l w6 w7 w8 w9 w10 w11 hl
 obtain ⟨R,hR⟩:∃ R,R=Zlv (Zlv (Zlv Xy)):=⟨_,rfl⟩
 have hc:Xy=.seq (ZCL Xy) (.seq (ZCL (Zlv Xy)) (.seq (ZCL (Zlv (Zlv Xy))) R)):=by rw [hR];rfl
 rw [←hR] at r
 clear hR
 show Wp (run T pr Xy _) _
 rw [hc]
 by_cases h1:1<l.length
 ·have h1':(1:Int)<((l.length:Nat):Int):=by omega
  have hg:=Zsj (l:=l) (i:=0) (b:=l[0]) (Rj (by omega))
  have h0i:(0:Int)<((l.length:Nat):Int):=by omega
  by_cases h2:l[0]=45
  ·have ht:ZaV l=l.drop 1:=by
    unfold ZaV
    rw [if_pos ⟨h1,by rw [List.head?_eq_getElem?,Rj (by omega),h2]⟩]
   have h2':((l[0].toNat:Nat):Int)=45:=by rw [h2];rfl
   have hle:1≤l.length:=by omega
   rw [ht] at r
   have hsub:ZCy (sV l) (some (.int .i64 1)) none=some (sV (l.drop 1)):=by
    have:=ZhQ l 1
    rw [if_pos hle] at this
    exact this
   simp +contextual only [YU,Xy,Zlv,ZCL,XU,gt_iff_lt,h1',hg,h0i,h2',hle,R9,RH,ZaT,hsub,decide_true,pp,go_sem,reduceIte,Ra,Rb,Rc,Rd]
   exact r _ _ _ _ _ _
  ·have ht:ZaV l=l:=by
    unfold ZaV
    rw [if_neg]
    rintro ⟨_,g⟩
    rw [List.head?_eq_getElem?,Rj (by omega),RS] at g
    exact h2 g
   have h2':¬ ((l[0].toNat:Nat):Int)=45:=fun g=>h2 (UInt8.toNat_inj.mp (by
    have:(45:UInt8).toNat=45:=rfl
    omega))
   rw [ht] at r
   simp +contextual only [YU,Xy,Zlv,ZCL,XU,gt_iff_lt,h1',hg,h0i,h2',R9,RH,decide_true,decide_false,pp,go_sem,reduceIte,Ra,Rb,Rc,Rd]
   exact r _ _ _ _ _ _
 ·have h1':¬ (1:Int)<((l.length:Nat):Int):=by omega
  have ht:ZaV l=l:=by
   unfold ZaV
   rw [if_neg]
   rintro ⟨g,_⟩
   exact h1 g
  rw [ht] at r
  simp +contextual only [YU,Xy,Zlv,ZCL,XU,gt_iff_lt,h1',decide_false,pp,go_sem,reduceIte,Ra,Rb,Rc,Rd]
  exact r _ _ _ _ _ _
def Zha (p:Int):Bool:=decide (0≤p)&&decide (p≤60)
def Zn6 (p:Int):Bool:=decide (0≤p)&&decide (p≤1000000)
theorem Zh2 {q:Nat} {cap:Option Nat} {ls:List Ld} (h:Zb H q=some (Zn ls)) (hr:Yu ls=true) (hn:ls.length≤1048576) (p:Int):call T pr Ju [slL q ls.length cap,.int .i64 p] ⟨H,e⟩=some (.tup [.int .i64 (if Zha p=true then Zk8 ls p else 0),.bool (Zha p)],⟨H,e⟩):=by
 have h1:=fun (L:List Blk) (hL:Zb L q=some (Zn ls))=>Ka (pr:=pr) (H:=L) (e:=none) (c:=cap) hL
 have h2:=fun (L:List Blk) (hL:Zb L q=some (Zn ls))=>ZaQ (pr:=pr) (H:=L) (e:=none) (c:=cap) hL (by omega) p
 have h3:=fun G=>Zdo (pr:=pr) (H:=G) (e:=none) p
 rw [hr] at h1
 rw [Zh Zo7]
 unfold Zha
 cases hp:(decide (0≤p)&&decide (p≤60)) <;> rw [hp] at h3 <;> simp +contextual only [ZaE,Zhj,h,Za h,h1,h2,h3,RZ,if_false,if_true,go_sem,reduceIte,Ra,Rb,Rc,Rd]
theorem Zp9 {q:Nat} {cap:Option Nat} {ls:List Ld} (h:Zb H q=some (Zn ls)) (hr:Yu ls=true) (hn:ls.length≤1048576) (p:Int):call T pr ZaC [slL q ls.length cap,.int .i64 p] ⟨H,e⟩=some (.tup [.int .i64 (if Zha p=true then Zk8 ls p else 0),.bool (Zha p)],⟨H,e⟩):=by
 have h1:=fun (L:List Blk) (hL:Zb L q=some (Zn ls))=>KM (pr:=pr) (H:=L) (e:=none) (c:=cap) hL
 have h2:=fun (L:List Blk) (hL:Zb L q=some (Zn ls))=>Zb6 (pr:=pr) (H:=L) (e:=none) (c:=cap) hL (by omega) p
 have h3:=fun G=>Zgt (pr:=pr) (H:=G) (e:=none) p
 rw [hr] at h1
 rw [Zh Zpf]
 unfold Zha
 cases hp:(decide (0≤p)&&decide (p≤60)) <;> rw [hp] at h3 <;> simp +contextual only [ZaL,Zhy,h,Za h,h1,h2,h3,RZ,if_false,if_true,go_sem,reduceIte,Ra,Rb,Rc,Rd]
theorem ZwL:∀ (ls:List Ld) (a:Nat),ls.all okL=true→a+ls.length*5940≤1000000→∃ n:Nat,ls.foldl (ZaP 0) (a:Int)=(n:Int)∧n≤a+ls.length*5940
 | [],a,_,_=>⟨a,rfl,by simp⟩
 | l::ls,a,h,hb=>by
  rw [Ro,Rs] at h
  simp only [RN] at hb
  have h1:=h.1
  unfold okL at h1
  simp only [Rs,decide_eq_true_eq] at h1
  obtain ⟨x,hx⟩:∃ x:Nat,l.1=x:=⟨l.1.toNat,by omega⟩
  obtain ⟨y,hy⟩:∃ y:Nat,l.2=y:=⟨l.2.toNat,by omega⟩
  have hxy:y*x≤99*60:=WT (by omega) (by omega)
  have e1:ZaP 0 (a:Int) l=((a+y*x:Nat):Int):=by
   unfold ZaP
   rw [hx,hy,Int.sub_zero,Kn (by omega:x≤9223372036854775807),←RA,Kn (by omega),←Int.natCast_add,Kn (by omega)]
  obtain ⟨n,n1,n2⟩:=ZwL ls (a+y*x) h.2 (by omega)
  refine ⟨n,?_,by simp only [RN];omega⟩
  rw [List.foldl_cons,e1,n1]
theorem ZwM {ls:List Ld} (h:Yu ls=true):∃ n:Nat,Zk8 ls 0=n∧n≤1000000:=by
 unfold Yu at h
 rw [Rs,decide_eq_true_eq] at h
 obtain ⟨n,n1,n2⟩:=ZwL ls 0 h.2 (by omega)
 exact ⟨n,n1,by omega⟩
theorem ZiR {ls:List Ld} (h:Yu ls=true) (h0:ls.length≠0):0<(Zab ls).toNat:=by
 unfold Yu at h
 rw [Rs,decide_eq_true_eq] at h
 have key:∀ (ls:List Ld) (a:Nat),ls.all okL=true→a+ls.length*99≤1000000→a+ls.length≤(ls.foldl (fun a l=>IntKind.i64.wrap (a+l.2)) (a:Int)).toNat:=by
  intro ls
  induction ls with
  | nil=>intro a _ _;simp
  | cons l ls ih=>
   intro a h hb
   rw [Ro,Rs] at h
   simp only [RN] at hb
   have h1:=h.1
   unfold okL at h1
   simp only [Rs,decide_eq_true_eq] at h1
   obtain ⟨y,hy⟩:∃ y:Nat,l.2=y:=⟨l.2.toNat,by omega⟩
   have e1:IntKind.i64.wrap ((a:Int)+l.2)=((a+y:Nat):Int):=by
    rw [hy,←Int.natCast_add,Kn (by omega)]
   have:=ih (a+y) h.2 (by omega)
   rw [List.foldl_cons,e1]
   simp only [RN]
   omega
 have:=key ls 0 h.2 (by omega)
 unfold Zab
 have e:((0:Nat):Int)=0:=rfl
 rw [e] at this
 omega
def cenA (ls:List Ld):Nat:=fracA (Zk8 ls 0).toNat (Zab ls).toNat
def cenB (ls:List Ld):Nat:=fracB (Zk8 ls 0).toNat (Zab ls).toNat
theorem ZwN {q:Nat} {cap:Option Nat} {ls:List Ld} (h:Zb H q=some (Zn ls)) (hr:Yu ls=true) (hn:ls.length≤1048576):call T pr ZdQ [slL q ls.length cap] ⟨H,e⟩=some (if ls.length=0 then .tup [.agg [.int .i64 0,.int .i64 0],.bool false] else .tup [fvV (cenA ls) (cenB ls),.bool true],⟨H,e⟩):=by
 have h1:=fun (L:List Blk) (hL:Zb L q=some (Zn ls))=>Ka (pr:=pr) (H:=L) (e:=none) (c:=cap) hL
 have h2:=fun (L:List Blk) (hL:Zb L q=some (Zn ls))=>ZaQ (pr:=pr) (H:=L) (e:=none) (c:=cap) hL (by omega) 0
 have h3:=fun (L:List Blk) (hL:Zb L q=some (Zn ls))=>Zem (pr:=pr) (H:=L) (e:=none) (c:=cap) hL (by omega)
 rw [hr] at h1
 obtain ⟨m,hm,hm1⟩:=ZwM hr
 obtain ⟨w,hw,hw1⟩:=ZaS hr
 rw [Zh ZuU]
 by_cases h0:ls.length=0
 ·have h0':((ls.length:Nat):Int)=0:=by omega
  rw [if_pos h0]
  simp +contextual only [ZbX,Zhq,Zc,h,Za h,h1,h0',decide_true,go_sem,reduceIte,Ra,Rb,Rc,Rd]
 ·have h0':¬ ((ls.length:Nat):Int)=0:=by omega
  have hp:=ZiR hr h0
  rw [hw] at h3 hp
  rw [hm] at h2
  have h4:=fun (L:List Blk)=>KP (pr:=pr) (H:=L) (e:=none) (x:=m) (y:=w) (by simpa using hp) (by omega) (by omega)
  rw [if_neg h0]
  unfold cenA cenB
  rw [hm,hw]
  simp +contextual only [ZbX,Zhq,Zc,h,Za h,h1,h2,h3,h4,h0',decide_false,Rz,go_sem,reduceIte,Ra,Rb,Rc,Rd]
theorem ZwO {q:Nat} {cap:Option Nat} {ls:List Ld} (h:Zb H q=some (Zn ls)) (hr:Yu ls=true) (hn:ls.length≤1048576):call T pr ZdS [slL q ls.length cap] ⟨H,e⟩=some (if ls.length=0 then .tup [.agg [.int .i64 0,.int .i64 0],.bool false] else .tup [fvV (cenA ls) (cenB ls),.bool true],⟨H,e⟩):=by
 have h1:=fun (L:List Blk) (hL:Zb L q=some (Zn ls))=>KM (pr:=pr) (H:=L) (e:=none) (c:=cap) hL
 have h2:=fun (L:List Blk) (hL:Zb L q=some (Zn ls))=>Zb6 (pr:=pr) (H:=L) (e:=none) (c:=cap) hL (by omega) 0
 have h3:=fun (L:List Blk) (hL:Zb L q=some (Zn ls))=>Zen (pr:=pr) (H:=L) (e:=none) (c:=cap) hL (by omega)
 rw [hr] at h1
 obtain ⟨m,hm,hm1⟩:=ZwM hr
 obtain ⟨w,hw,hw1⟩:=ZaS hr
 rw [Zh ZuW]
 by_cases h0:ls.length=0
 ·have h0':((ls.length:Nat):Int)=0:=by omega
  rw [if_pos h0]
  simp +contextual only [ZbZ,Zhs,Zc,h,Za h,h1,h0',decide_true,go_sem,reduceIte,Ra,Rb,Rc,Rd]
 ·have h0':¬ ((ls.length:Nat):Int)=0:=by omega
  have hp:=ZiR hr h0
  rw [hw] at h3 hp
  rw [hm] at h2
  have h4:=fun (L:List Blk)=>Zfb (pr:=pr) (H:=L) (e:=none) (x:=m) (y:=w) (by simpa using hp) (by omega) (by omega)
  rw [if_neg h0]
  unfold cenA cenB
  rw [hm,hw]
  simp +contextual only [ZbZ,Zhs,Zc,h,Za h,h1,h2,h3,h4,h0',decide_false,Rz,go_sem,reduceIte,Ra,Rb,Rc,Rd]
def mostW (ss:List Sg) (n:Nat):Nat:=n*ZB 1 1 ss / ZC 1 1 ss
theorem Zad {ss:List Sg} (hc:ZA ss=true) (n:Nat) (hn:n≤1000000):0<ZB 1 1 ss∧ZB 1 1 ss≤254803968∧0<ZC 1 1 ss∧ZC 1 1 ss≤254803968∧n*ZB 1 1 ss≤254803968000000:=by
 have hc':=hc
 unfold ZA at hc'
 rw [Rs,decide_eq_true_eq] at hc'
 obtain ⟨a1,a2,b1,b2⟩:=Zel ss 0 1 1 hc'.1 (by omega) (by decide) (by decide)
 exact ⟨a1,a2,b1,b2,WE (WT hn a2) (by decide)⟩
theorem ZwP {q:Nat} {c:Option Nat} {ss:List Sg} (h:Zb H q=some (Zw ss)) (hc:ZA ss=true) (hm:ss.length≤1048576) (x:Int):call T pr ZdR [slS q ss.length c,.int .i64 x] ⟨H,e⟩=some (.tup [.int .i64 (if Zn6 x=true then (mostW ss x.toNat:Int) else 0),.bool (Zn6 x)],⟨H,e⟩):=by
 have h1:∀ L,Zb L q=some (Zw ss)→call T pr YR [slS q ss.length c] ⟨L,none⟩=some (.bool true,⟨L,none⟩):=fun L hL=>by have:=Jq (pr:=pr) (e:=none) (c:=c) hL (by omega);rw [hc] at this;exact this
 have h2:∀ L,Zb L q=some (Zw ss)→call T pr XZ [slS q ss.length c] ⟨L,none⟩=some (fvV (ZB 1 1 ss) (ZC 1 1 ss),⟨L,none⟩):=fun L hL=>Zgv hL hc
 have h3:=fun (L:List Blk)=>ZiI (pr:=pr) (H:=L) (e:=none) x
 unfold Zn6
 cases hx:(decide (0≤x)&&decide (x≤1000000)) with
 | false=>
  rw [hx] at h3
  have h4:∀ L e',Zb L q=some (Zw ss)→call T pr Zc4 [slS q ss.length c,.int .i64 x] ⟨L,e'⟩=some (.tup [.agg [.int .i64 0,.int .i64 0],.bool false],⟨L,e'⟩):=fun L e' hL=>by
   rw [Zh Zpe]
   simp +contextual only [Zdh,ZjO,Zc,hL,Za hL,h1,h3,go_sem,reduceIte,Ra,Rb,Rc,Rd]
  rw [Zh Zm7]
  simp +contextual only [ZbY,Zhr,Zc,h,Za h,h4,RZ,if_false,go_sem,reduceIte,Ra,Rb,Rc,Rd]
 | true=>
  rw [hx] at h3
  have hx':0≤x∧x≤1000000:=by simpa [Rs,decide_eq_true_eq] using hx
  obtain ⟨n,rfl⟩:∃ n:Nat,x=n:=⟨x.toNat,by omega⟩
  obtain ⟨a1,a2,b1,b2,ab⟩:=Zad hc n (by omega)
  have w1:IntKind.i64.wrap ((n:Int)*(ZB 1 1 ss:Int))=((n*ZB 1 1 ss:Nat):Int):=by rw [←RA];exact Kn (by omega)
  have h5:=fun (L:List Blk)=>KP (pr:=pr) (H:=L) (e:=none) (x:=n*ZB 1 1 ss) (y:=ZC 1 1 ss) b1 (by omega) (by omega)
  have h4:∀ L e',Zb L q=some (Zw ss)→call T pr Zc4 [slS q ss.length c,.int .i64 n] ⟨L,e'⟩=some (.tup [fvV (fracA (n*ZB 1 1 ss) (ZC 1 1 ss)) (fracB (n*ZB 1 1 ss) (ZC 1 1 ss)),.bool true],⟨L,e'⟩):=fun L e' hL=>by
   rw [Zh Zpe]
   simp +contextual only [Zdh,ZjO,Zc,hL,Za hL,h1,h2,h3,w1,h5,Zbt,Zbu,Za2,R9,RH,RI,RJ,Rx,go_sem,reduceIte,Ra,Rb,Rc,Rd]
  have hfl:=ZCM (n*ZB 1 1 ss) (ZC 1 1 ss) b1
  have hbp:=ZhX (n*ZB 1 1 ss) (ZC 1 1 ss) b1
  have hq0:¬ ((fracB (n*ZB 1 1 ss) (ZC 1 1 ss):Nat):Int)=0:=by omega
  have hml:n*ZB 1 1 ss / ZC 1 1 ss≤254803968000000:=WE (Rr _ _) ab
  have w2:IntKind.i64.wrap (WI (fracA (n*ZB 1 1 ss) (ZC 1 1 ss):Int) (fracB (n*ZB 1 1 ss) (ZC 1 1 ss):Int))=(mostW ss n:Int):=by
   rw [←Int.ofNat_tdiv,hfl]
   exact Kn (by omega)
  rw [Zh Zm7]
  simp +contextual only [ZbY,Zhr,Zc,h,Za h,h4,hq0,w2,Zbt,Zbu,Za2,R9,RH,RI,RJ,Rx,if_true,Rz,go_sem,reduceIte,Ra,Rb,Rc,Rd]
theorem Zqa {q:Nat} {c:Option Nat} {ss:List Sg} (h:Zb H q=some (Zw ss)) (hc:ZA ss=true) (hm:ss.length≤1048576) (x:Int):call T pr QG [slS q ss.length c,.int .i64 x] ⟨H,e⟩=some (.bool (Zn6 x),⟨H,e⟩):=by
 have h1:∀ L,Zb L q=some (Zw ss)→call T pr JJ [slS q ss.length c,.int .i64 5] ⟨L,none⟩=some (.bool true,⟨L,none⟩):=fun L hL=>by have:=KO (pr:=pr) (e:=none) (c:=c) hL (by omega);rw [hc] at this;exact this
 have h3:=fun (L:List Blk)=>Ye (pr:=pr) (H:=L) (e:=none) x 0 1000000
 rw [Zh Zu4]
 unfold Zn6
 simp +contextual only [ZhA,Zo5,h,h1,h3,go_sem,reduceIte,Ra,Rb,Rc,Rd]
theorem ZwQ {q:Nat} {c:Option Nat} {ss:List Sg} (h:Zb H q=some (Zw ss)) (hc:ZA ss=true) (hm:ss.length≤1048576) (x:Int):call T pr ZdW [slS q ss.length c,.int .i64 x] ⟨H,e⟩=some (.tup [.int .i64 (if Zn6 x=true then (mostW ss x.toNat:Int) else 0),.bool (Zn6 x)],⟨H,e⟩):=by
 have h1:∀ L,Zb L q=some (Zw ss)→call T pr QG [slS q ss.length c,.int .i64 x] ⟨L,none⟩=some (.bool (Zn6 x),⟨L,none⟩):=fun L hL=>Zqa hL hc hm x
 have h2:∀ L,Zb L q=some (Zw ss)→call T pr Jj [slS q ss.length c] ⟨L,none⟩=some (fvV (ZB 1 1 ss) (ZC 1 1 ss),⟨L,none⟩):=fun L hL=>Zgw hL hc
 rw [Zh Zu3]
 cases hx:Zn6 x with
 | false=>
  rw [hx] at h1
  simp +contextual only [Zb3,Zhz,Zc,h,Za h,h1,RZ,if_false,go_sem,reduceIte,Ra,Rb,Rc,Rd]
 | true=>
  rw [hx] at h1
  unfold Zn6 at hx
  have hx':0≤x∧x≤1000000:=by simpa [Rs,decide_eq_true_eq] using hx
  obtain ⟨n,rfl⟩:∃ n:Nat,x=n:=⟨x.toNat,by omega⟩
  obtain ⟨a1,a2,b1,b2,ab⟩:=Zad hc n (by omega)
  have w1:IntKind.i64.wrap ((n:Int)*(ZB 1 1 ss:Int))=((n*ZB 1 1 ss:Nat):Int):=by rw [←RA];exact Kn (by omega)
  have hq0:¬ ((ZC 1 1 ss:Nat):Int)=0:=by omega
  have hml:n*ZB 1 1 ss / ZC 1 1 ss≤254803968000000:=WE (Rr _ _) ab
  have w2:IntKind.i64.wrap (WI ((n*ZB 1 1 ss:Nat):Int) (ZC 1 1 ss:Int))=(mostW ss n:Int):=by
   rw [←Int.ofNat_tdiv]
   exact Kn (by omega)
  simp +contextual only [Zb3,Zhz,Zc,h,Za h,h1,h2,w1,hq0,w2,Zbt,Zbu,Za2,R9,RH,RI,RJ,Rx,if_true,Rz,go_sem,reduceIte,Ra,Rb,Rc,Rd]
def Zg3 (n:Int):Int:=if n≤3 then 1 else if n≤9 then 2 else if n≤27 then 3 else 4
def Zzz (n:Int):Bool:=decide (2≤n)&&decide (n≤40)
def ZwR (n k p:Int) (j:Nat):Prop:=(k=0∧p=1∧j=4)∨(k=1∧p=3∧j=3)∨(k=2∧p=9∧3<n∧j=2)∨(k=3∧p=27∧9<n∧j=1)∨(k=4∧p=81∧27<n∧j=0)
theorem ZwS {n k p:Int} {j:Nat} (h:ZwR n k p j) (hn:n≤40) (hp:p<n):ZwR n (k+1) (p*3) (j - 1)∧0<j∧0≤k∧k≤3∧0<p∧p≤27:=by
 rcases h with ⟨rfl,rfl,rfl⟩|⟨rfl,rfl,rfl⟩|⟨rfl,rfl,h1,rfl⟩|⟨rfl,rfl,h1,rfl⟩|⟨rfl,rfl,h1,rfl⟩
 ·exact ⟨.inr (.inl ⟨rfl,rfl,rfl⟩),by omega,by omega,by omega,by omega,by omega⟩
 ·exact ⟨.inr (.inr (.inl ⟨rfl,rfl,hp,rfl⟩)),by omega,by omega,by omega,by omega,by omega⟩
 ·exact ⟨.inr (.inr (.inr (.inl ⟨rfl,rfl,hp,rfl⟩))),by omega,by omega,by omega,by omega,by omega⟩
 ·exact ⟨.inr (.inr (.inr (.inr ⟨rfl,rfl,hp,rfl⟩))),by omega,by omega,by omega,by omega,by omega⟩
 ·omega
theorem ZAq {n k p:Int} {j:Nat} (h:ZwR n k p j) (hn1:2≤n) (hn:n≤40) (hp:¬ p<n):k=Zg3 n:=by
 unfold Zg3
 rcases h with ⟨rfl,rfl,rfl⟩|⟨rfl,rfl,rfl⟩|⟨rfl,rfl,h1,rfl⟩|⟨rfl,rfl,h1,rfl⟩|⟨rfl,rfl,h1,rfl⟩
 ·omega
 ·rw [if_pos (by omega)]
 ·rw [if_neg (by omega),if_pos (by omega)]
 ·rw [if_neg (by omega),if_neg (by omega),if_pos (by omega)]
 ·rw [if_neg (by omega),if_neg (by omega),if_neg (by omega)]
theorem Zke (n:Int):call T pr JR [.int .i64 n] ⟨H,e⟩=some (.tup [.int .i64 (if Zzz n=true then Zg3 n else 0),.bool (Zzz n)],⟨H,e⟩):=by
 have h1:∀ L,call T pr ZdU [.int .i64 n] ⟨L,none⟩=some (.bool (Zzz n),⟨L,none⟩):=fun L=>by
  have h2:=fun (L:List Blk)=>Yd (pr:=pr) (H:=L) (e:=none) n 2 40
  rw [Zh ZuZ]
  unfold Zzz
  simp +contextual only [Zed,Zm2,h2,go_sem,reduceIte,Ra,Rb,Rc,Rd]
 apply Wc.eq
 rw [Zr ZjT]
 cases hn:Zzz n with
 | false=>
  rw [hn] at h1
  simp +contextual only [YT,Q6,h1,RZ,if_false,pp,go_sem,reduceIte,Ra,Rb,Rc,Rd]
 | true=>
  rw [hn] at h1
  have hn':2≤n∧n≤40:=by unfold Zzz at hn;simpa [Rs,decide_eq_true_eq] using hn
  simp +contextual only [YT,Q6,h1,if_true,pp,go_sem,reduceIte,Ra,Rb,Rc,Rd]
  refine ZL (fun j st=>∃ (k p:Int) (w6:AV),ZwR n k p j∧st=⟨[.int .i64 n,.int .i64 0,.bool false,.int .i64 k,.int .i64 p,.bool false,w6],⟨H,none⟩⟩) ?_ 4 _ ⟨0,1,_,.inl ⟨rfl,rfl,rfl⟩,rfl⟩
  rintro j _ ⟨k,p,w6,hj,rfl⟩
  by_cases hp:p<n
  ·have hj':=ZwS hj hn'.2 hp
   obtain ⟨g1,g2,g3,g4,g5,g6⟩:=hj'
   have e1:IntKind.i64.wrap (k+1)=k+1:=ZN (by omega) (by omega)
   have e2:IntKind.i64.wrap (p*3)=p*3:=ZN (by omega) (by omega)
   simp +contextual only [KG,hp,e1,e2,decide_true,pp,go_sem,reduceIte,Ra,Rb,Rc,Rd]
   exact ⟨j - 1,by omega,_,_,_,g1,rfl⟩
  ·have hk:k=Zg3 n:=ZAq hj hn'.1 hn'.2 hp
   subst hk
   simp +contextual only [KG,YT,hp,decide_false,pp,go_sem,reduceIte,Ra,Rb,Rc,Rd]
theorem Zkf (n:Int):call T pr JT [.int .i64 n] ⟨H,e⟩=some (.tup [.int .i64 (if Zzz n=true then Zg3 n else 0),.bool (Zzz n)],⟨H,e⟩):=by
 have h1:∀ L,call T pr ZfV [.int .i64 n] ⟨L,none⟩=some (.bool (Zzz n),⟨L,none⟩):=fun L=>by
  have h2:=fun (L:List Blk)=>Ye (pr:=pr) (H:=L) (e:=none) n 2 40
  rw [Zh Zyk]
  unfold Zzz
  simp +contextual only [Zgp,Zo6,h2,go_sem,reduceIte,Ra,Rb,Rc,Rd]
 cases hn:Zzz n with
 | false=>
  rw [hn] at h1
  rw [Zh Zdk]
  simp +contextual only [XC,Q9,h1,RZ,if_false,go_sem,reduceIte,Ra,Rb,Rc,Rd]
 | true=>
  rw [hn] at h1
  have hn':2≤n∧n≤40:=by unfold Zzz at hn;simpa [Rs,decide_eq_true_eq] using hn
  have h2:∀ L,call T pr ZdX [.int .i64 n] ⟨L,none⟩=some (.int .i64 (Zg3 n),⟨L,none⟩):=fun L=>by
   apply Wc.eq
   rw [Zr Zu5]
   simp +contextual only [Zb4,Zm5,if_true,pp,go_sem,reduceIte,Ra,Rb,Rc,Rd]
   refine ZL (fun j st=>∃ (k p:Int) (w6:AV),ZwR n k p j∧st=⟨[.int .i64 n,.int .i64 0,.int .i64 k,.int .i64 p,w6],⟨L,none⟩⟩) ?_ 4 _ ⟨0,1,_,.inl ⟨rfl,rfl,rfl⟩,rfl⟩
   rintro j _ ⟨k,p,w6,hj,rfl⟩
   by_cases hp:p<n
   ·have hj':=ZwS hj hn'.2 hp
    rw [Int.mul_comm p 3] at hj'
    obtain ⟨g1,g2,g3,g4,g5,g6⟩:=hj'
    have e1:IntKind.i64.wrap (k+1)=k+1:=ZN (by omega) (by omega)
    have e2:IntKind.i64.wrap (3*p)=3*p:=ZN (by omega) (by omega)
    simp +contextual only [ZeJ,hp,e1,e2,decide_true,pp,go_sem,reduceIte,Ra,Rb,Rc,Rd]
    exact ⟨j - 1,by omega,_,_,_,g1,rfl⟩
   ·have hk:k=Zg3 n:=ZAq hj hn'.1 hn'.2 hp
    subst hk
    simp +contextual only [ZeJ,Zb4,hp,decide_false,pp,go_sem,reduceIte,Ra,Rb,Rc,Rd]
  rw [Zh Zdk]
  simp +contextual only [XC,Q9,h1,h2,if_true,go_sem,reduceIte,Ra,Rb,Rc,Rd]
def mvF (m:Int):Nat→List Ld→Option (Nat×Int)
 | _,[]=>none
 | i,l::ls=>if Int.tmod m l.2=0∧Zha (IntKind.i64.wrap (l.1 - IntKind.i64.wrap (WI m l.2)))=true then some (i,IntKind.i64.wrap (l.1 - IntKind.i64.wrap (WI m l.2))) else mvF m (i+1) ls
def Zre (ls:List Ld) (p:Int):Option (Nat×Int):=if Zha p=true∧¬ Zk8 ls p=0 then mvF (Zk8 ls p) 0 ls else none
def mvV:Option (Nat×Int)→AV
 | some (i,p)=>.tup [.int .i64 i,.int .i64 p,.bool true]
 | none=>.tup [.int .i64 0,.int .i64 0,.bool false]
theorem ZHv {m:Int}:∀ {ls:List Ld} {i j:Nat} {p:Int},mvF m i ls=some (j,p)→j<i+ls.length∧0≤p∧p≤60
 | [],_,_,_,h=>by cases h
 | l::ls,i,j,p,h=>by
  unfold mvF at h
  split at h
  ·rename_i hc
   cases h
   have:=hc.2
   unfold Zha at this
   simp only [Rs,decide_eq_true_eq] at this
   exact ⟨by simp,this⟩
  ·have:=ZHv h
   simp only [RN]
   omega
theorem ZzA {q:Nat} {cap:Option Nat} {ls:List Ld} (h:Zb H q=some (Zn ls)) (hr:Yu ls=true) (hn:ls.length≤1048576) (p:Int):call T pr ZfO [slL q ls.length cap,.int .i64 p] ⟨H,e⟩=some (mvV (Zre ls p),⟨H,e⟩):=by
 have h1:∀ L,Zb L q=some (Zn ls)→call T pr Ju [slL q ls.length cap,.int .i64 p] ⟨L,none⟩=some (.tup [.int .i64 (if Zha p=true then Zk8 ls p else 0),.bool (Zha p)],⟨L,none⟩):=fun L hL=>Zh2 hL hr hn p
 have h3:∀ L x,call T pr Ji [.int .i64 x] ⟨L,none⟩=some (.bool (Zha x),⟨L,none⟩):=fun L x=>Zdo x
 have h2:∀ L,Zb L q=some (Zn ls)→call T pr ZaA [slL q ls.length cap,.int .i64 p] ⟨L,none⟩=some (.tup [.int .i64 (if Zha p=true then Zk8 ls p else 0),.bool (Zha p&&decide (¬ Zk8 ls p=0))],⟨L,none⟩):=fun L hL=>by
  rw [Zh ZsV]
  cases hp:Zha p <;> rw [hp] at h1 <;> simp +contextual only [ZcG,ZkM,hL,h1,RZ,if_true,if_false,RR,Bool.true_and,go_sem,reduceIte,Ra,Rb,Rc,Rd]
  by_cases hm:Zk8 ls p=0 <;> simp [hm]
 unfold Zre
 by_cases hp:Zha p=true∧¬ Zk8 ls p=0
 ·rw [if_pos hp]
  rw [hp.1,decide_eq_true hp.2] at h2
  simp only [if_true,Bool.and_self] at h2
  generalize Zk8 ls p=m at *
  apply Wc.eq
  rw [Zr Zpb]
  simp +contextual only [Q5,ZjI,h,h2,pp,go_sem,reduceIte,Ra,Rb,Rc,Rd]
  refine ZL (fun k st=>∃ (i:Nat) (L:List Blk) (w7 w8 w9 w14 w15:AV),i+k=ls.length∧ZT H L∧mvF m i (ls.drop i)=mvF m 0 ls ∧
   st=⟨[slL q ls.length cap,.int .i64 p,.int .i64 0,.int .i64 0,.bool false,.int .i64 m,.bool true,w7,w8,w9,.bool false,slL q ls.length cap,.int .i64 ls.length,.int .i64 i,w14,w15],⟨L,none⟩⟩) ?_ ls.length _ ⟨0,H,_,_,_,_,_,by omega,ZT.refl H,by rw [Rl],rfl⟩
  rintro k _ ⟨i,L,w7,w8,w9,w14,w15,hik,hL,hmv,rfl⟩
  by_cases hk:k=0
  ·have he:i=ls.length:=by omega
   subst he
   rw [Rn] at hmv
   rw [←hmv]
   simp +contextual only [ZaJ,Q5,Rh,decide_false,mvF,mvV,ZFp hL,Zm,pp,go_sem,reduceIte,Ra,Rb,Rc,Rd]
  ·have hi':i<ls.length:=by omega
   have hl:ls[i]?=some ls[i]:=Rj hi'
   have hq:Zb L q=some (Zn ls):=by
    obtain ⟨G,rfl⟩:=hL
    exact Za h G
   have hok:okL ls[i]=true:=by
    unfold Yu at hr
    rw [Rs] at hr
    exact (WP.mp hr.2) _ (WB hi')
   have hw0:¬ ls[i].2=0:=by
    unfold okL at hok
    simp only [Rs,decide_eq_true_eq] at hok
    omega
   rw [Rm hi',mvF] at hmv
   generalize ls[i]=l at *
   have hsw:=Zi (show i<9223372036854775807 by omega)
   generalize hat:IntKind.i64.wrap (l.1 - IntKind.i64.wrap (WI m l.2))=at' at *
   by_cases hm:Int.tmod m l.2=0
   ·cases hpl:Zha at' with
    | true=>
     rw [if_pos ⟨hm,hpl⟩] at hmv
     rw [←hmv]
     simp (maxSteps:=2000000) +contextual only [ZaJ,Q5,Zc,hi',hq,Ja hl,hw0,hat,hm,h3,hpl,mvV,(hL.more _).more,ZFp ((hL.more _)),Zm,decide_true,pp,go_sem,reduceIte,Ra,Rb,Rc,Rd]
    | false=>
     rw [if_neg (by rintro ⟨_,g⟩;rw [hpl] at g;cases g)] at hmv
     simp (maxSteps:=2000000) +contextual only [ZaJ,Zc,hi',hq,Ja hl,hw0,hat,hm,h3,hpl,hsw,decide_true,decide_false,pp,go_sem,reduceIte,Ra,Rb,Rc,Rd]
     exact ⟨k - 1,by omega,i+1,_,_,_,_,_,_,by omega,hL.more _,hmv,rfl⟩
   ·rw [if_neg (by rintro ⟨g,_⟩;exact hm g)] at hmv
    simp (maxSteps:=2000000) +contextual only [ZaJ,Zc,hi',hq,Ja hl,hw0,hat,hm,h3,hsw,decide_true,decide_false,pp,go_sem,reduceIte,Ra,Rb,Rc,Rd]
    exact ⟨k - 1,by omega,i+1,_,_,_,_,_,_,by omega,hL.more _,hmv,rfl⟩
 ·rw [if_neg hp]
  have h2':∃ x,call T pr ZaA [slL q ls.length cap,.int .i64 p] ⟨H,none⟩=some (.tup [.int .i64 x,.bool false],⟨H,none⟩):=by
   refine ⟨if Zha p=true then Zk8 ls p else 0,?_⟩
   rw [h2 H h]
   have:(Zha p&&decide (¬ Zk8 ls p=0))=false:=by
    rw [Bool.eq_false_iff]
    intro g
    simp only [Rs,decide_eq_true_eq] at g
    exact hp g
   rw [this]
  obtain ⟨x,hx⟩:=h2'
  rw [Zh Zpb]
  simp +contextual only [Q5,ZjI,hx,mvV,go_sem,reduceIte,Ra,Rb,Rc,Rd]
theorem ZzB {q:Nat} {cap:Option Nat} {ls:List Ld} (h:Zb H q=some (Zn ls)) (hr:Yu ls=true) (hn:ls.length≤1048576) (p:Int):call T pr ZfS [slL q ls.length cap,.int .i64 p] ⟨H,e⟩=some (mvV (Zre ls p),⟨H,e⟩):=by
 have h1:∀ L,Zb L q=some (Zn ls)→call T pr Jw [slL q ls.length cap] ⟨L,none⟩=some (.bool true,⟨L,none⟩):=fun L hL=>by rw [←hr];exact KM hL
 have h2:∀ L,Zb L q=some (Zn ls)→call T pr YL [slL q ls.length cap,.int .i64 p] ⟨L,none⟩=some (.int .i64 (Zk8 ls p),⟨L,none⟩):=fun L hL=>Zb6 hL (by omega) p
 have h3:∀ L x,call T pr Zax [.int .i64 x] ⟨L,none⟩=some (.bool (Zha x),⟨L,none⟩):=fun L x=>Zgt x
 have h3p:=fun L=>h3 L p
 unfold Zre
 apply Wc.eq
 rw [Zr Zyh]
 cases hp:Zha p with
 | false=>
  rw [hp] at h3p
  rw [if_neg (by rintro ⟨g,_⟩;cases g)]
  simp (maxSteps:=2000000) +contextual only [KK,Zgm,h,h1,h3p,mvV,pp,go_sem,reduceIte,Ra,Rb,Rc,Rd]
 | true=>
  rw [hp] at h3p
  by_cases hm0:Zk8 ls p=0
  ·rw [if_neg (by rintro ⟨_,g⟩;exact g hm0)]
   rw [hm0] at h2
   simp (maxSteps:=2000000) +contextual only [KK,Zgm,h,h1,h2,h3p,mvV,decide_true,pp,go_sem,reduceIte,Ra,Rb,Rc,Rd]
  ·rw [if_pos ⟨rfl,hm0⟩]
   generalize Zk8 ls p=m at *
   simp (maxSteps:=2000000) +contextual only [KK,Zgm,h,h1,h2,h3p,hm0,decide_false,pp,go_sem,reduceIte,Ra,Rb,Rc,Rd]
   refine ZL (fun k st=>∃ (i:Nat) (w6 w7 w8 w9 w10 w11:AV),i+k=ls.length∧mvF m i (ls.drop i)=mvF m 0 ls ∧
    st=⟨[slL q ls.length cap,.int .i64 p,.int .i64 0,.int .i64 0,.bool false,.int .i64 i,w6,w7,w8,w9,w10,w11],⟨H,none⟩⟩) ?_ ls.length _ ⟨0,_,_,_,_,_,_,by omega,by rw [Rl],rfl⟩
   rintro k _ ⟨i,w6,w7,w8,w9,w10,w11,hik,hmv,rfl⟩
   by_cases hk:k=0
   ·have he:i=ls.length:=by omega
    subst he
    rw [Rn] at hmv
    rw [←hmv]
    simp +contextual only [ZaM,KK,Rh,decide_false,mvF,mvV,pp,go_sem,reduceIte,Ra,Rb,Rc,Rd]
   ·have hi':i<ls.length:=by omega
    have hl:ls[i]?=some ls[i]:=Rj hi'
    have hok:okL ls[i]=true:=by
     unfold Yu at hr
     rw [Rs] at hr
     exact (WP.mp hr.2) _ (WB hi')
    have hw0:¬ ls[i].2=0:=by
     unfold okL at hok
     simp only [Rs,decide_eq_true_eq] at hok
     omega
    rw [Rm hi',mvF] at hmv
    generalize ls[i]=l at *
    have hsw:=Zi (show i<9223372036854775807 by omega)
    generalize hat:IntKind.i64.wrap (l.1 - IntKind.i64.wrap (WI m l.2))=at' at *
    by_cases hm:Int.tmod m l.2=0
    ·cases hpl:Zha at' with
     | true=>
      rw [if_pos ⟨hm,hpl⟩] at hmv
      rw [←hmv]
      simp (maxSteps:=2000000) +contextual only [ZaM,KK,hi',h,h2,Kk _ hl,JE _ hl,hw0,hat,hm,h3,hpl,mvV,decide_true,decide_false,pp,go_sem,reduceIte,Ra,Rb,Rc,Rd]
     | false=>
      rw [if_neg (by rintro ⟨_,g⟩;rw [hpl] at g;cases g)] at hmv
      simp (maxSteps:=2000000) +contextual only [ZaM,hi',h,h2,Kk _ hl,JE _ hl,hw0,hat,hm,h3,hpl,hsw,decide_true,decide_false,pp,go_sem,reduceIte,Ra,Rb,Rc,Rd]
      exact ⟨k - 1,by omega,i+1,_,_,_,_,_,_,by omega,hmv,rfl⟩
    ·rw [if_neg (by rintro ⟨g,_⟩;exact hm g)] at hmv
     simp (maxSteps:=2000000) +contextual only [ZaM,hi',h,h2,Kk _ hl,JE _ hl,hw0,hat,hm,h3,hsw,decide_true,decide_false,pp,go_sem,reduceIte,Ra,Rb,Rc,Rd]
     exact ⟨k - 1,by omega,i+1,_,_,_,_,_,_,by omega,hmv,rfl⟩
def Zi4 (ls:List Ld):By:=Lib.join (ls.map fun l=>Xi 58 [l.1,l.2]) [32]
def Zes (ls:List Ld):By:=if ls.length=0 then [110,111,110,101] else Zi4 ls
theorem ZzC {ls:List Ld} (hr:Yu ls=true):ls.length≤12∧∀ l∈ls,Zfk l.1∧Zfk l.2:=by
 unfold Yu at hr
 rw [Rs,decide_eq_true_eq] at hr
 refine ⟨by omega,fun l hl => ?_⟩
 have:=(WP.mp hr.2) l hl
 unfold okL at this
 simp only [Rs,decide_eq_true_eq] at this
 unfold Zfk
 omega
theorem ZGT (l:Ld) (h:Zfk l.1∧Zfk l.2):(Xi 58 [l.1,l.2]).length≤44:=by
 have:=Zfl 58 [l.1,l.2] (by intro z hz;simp at hz;rcases hz with rfl | rfl;exact h.1;exact h.2)
 simpa using this
theorem ZwT (ls:List Ld) (h:∀ l∈ls,Zfk l.1∧Zfk l.2):(Zi4 ls).length≤ls.length*45:=by
 have:=Zn5 [32] 44 (ls.map fun l=>Xi 58 [l.1,l.2]) fun x hx=>by
  obtain ⟨l,h1,rfl⟩:=Wd.mp hx
  exact ZGT l (h l h1)
 simpa [Zi4] using this
theorem ZzD (hi:Ko pr) (hj:Zmz pr) {q:Nat} {cap:Option Nat} {ls:List Ld} (h:Zb H q=some (Zn ls)) (hr:Yu ls=true):call T pr Zfz [slL q ls.length cap] ⟨H,e⟩=some (.tup [sV (Zes ls),.bool true],⟨H,e⟩):=by
 obtain ⟨hn,hf⟩:=ZzC hr
 have h1:∀ L,Zb L q=some (Zn ls)→call T pr Jv [slL q ls.length cap] ⟨L,none⟩=some (.bool true,⟨L,none⟩):=fun L hL=>by rw [←hr];exact Ka hL
 have hnt:∀ (L:List Blk) (q:Nat) (cap:Option Nat) (a b:Int),Zfk a→Zfk b→Zb L q=some [.int .i64 a,.int .i64 b]→call T pr Yl [.slice (some (q,0)) 1 2 cap,.str ⟨#[58]⟩] ⟨L,none⟩=some (sV (Xi 58 [a,b]),⟨L,none⟩) :=
  fun L q cap a b ha hb h=>ZaW (zs:=[a,b]) hi hj h (by simp) (by intro z hz;simp at hz;rcases hz with rfl | rfl <;> assumption) 58
 unfold Zes
 apply Wc.eq
 rw [Zr ZxI]
 by_cases h0:ls.length=0
 ·have h0':((ls.length:Nat):Int)=0:=by omega
  rw [if_pos h0]
  simp (maxSteps:=2000000) +contextual only [Zbi,ZjF,h,h1,h0',decide_true,pp,go_sem,reduceIte,Ra,Rb,Rc,Rd]
 ·have h0':¬ ((ls.length:Nat):Int)=0:=by omega
  rw [if_neg h0]
  simp (maxSteps:=2000000) +contextual only [Zbi,ZjF,Zc,h,h1,h0',decide_false,pp,go_sem,reduceIte,Ra,Rb,Rc,Rd]
  refine ZL (fun k st=>∃ (i b:Nat) (cc:Option Nat) (L:List Blk) (w4 w10:AV),i+k=ls.length∧(cc=some 0→i=0)∧ZT H L∧H.length≤b∧L[b]?=some (.cells (Zcd ((ls.take i).map fun l=>Xi 58 [l.1,l.2])) true) ∧
   st=⟨[slL q ls.length cap,.str ⟨#[]⟩,.bool false,slX b i cc,w4,.bool false,.bool false,slL q ls.length cap,.int .i64 ls.length,.int .i64 i,w10],⟨L,none⟩⟩) ?_ ls.length _ ⟨0,H.length,some 0,_,_,_,by omega,fun _=>rfl,⟨_,rfl⟩,Rq _,by rw [ZQ];rfl,rfl⟩
  rintro k _ ⟨i,b,cc,L,w4,w10,hik,hcc,hL,hb,hLb,rfl⟩
  have hq:Zb L q=some (Zn ls):=by
   obtain ⟨G,rfl⟩:=hL
   exact Za h G
  by_cases hk:k=0
  ·have he:i=ls.length:=by omega
   subst he
   rw [Wi] at hLb
   have hrl:=ZwT ls hf
   have hjn:=hj (ls.map fun l=>Xi 58 [l.1,l.2]) 32 b cc L none (Ze hLb) (by simp;omega) (by unfold Zi4 at hrl;omega)
   rw [WA] at hjn
   unfold Zi4
   simp (maxSteps:=2000000) +contextual only [ZfW,Zbi,Rh,decide_false,hjn,ZFp hL,Zm,pp,go_sem,reduceIte,Ra,Rb,Rc,Rd]
  ·have hi':i<ls.length:=by omega
   have hl:ls[i]?=some ls[i]:=Rj hi'
   obtain ⟨f1,f2⟩:=hf ls[i] (WB hi')
   have htk:(ls.take i).map (fun l=>Xi 58 [l.1,l.2])++[Xi 58 [ls[i].1,ls[i].2]]=(ls.take (i+1)).map fun l=>Xi 58 [l.1,l.2]:=by
    rw [RM hi',WO]
    rfl
   generalize ls[i]=l at *
   have hnt':=fun L q cap hc=>hnt L q cap l.1 l.2 f1 f2 hc
   simp (maxSteps:=2000000) +contextual only [ZfW,Zc,hi',hq,Ja hl,hnt',Zi (show i<9223372036854775807 by omega),decide_true,pp,go_sem,reduceIte,Ra,Rb,Rc,Rd]
   refine Zi3 (k:=1) (new:=[sV (Xi 58 [l.1,l.2])]) (ZY hLb _) (Qx _ 1 1 _ _ (L.length+2) (by simp +contextual only [go_sem,reduceIte,Ra,Rb,Rc,Rd]) rfl) (by rw [ZgJ];simp;omega) rfl (by unfold maxBytes;omega) hcc ?_
   intro L2 e1 e2 e3 e4
   have e3':Zcd ((ls.take i).map fun l=>Xi 58 [l.1,l.2])++[sV (Xi 58 [l.1,l.2])]=Zcd ((ls.take (i+1)).map fun l=>Xi 58 [l.1,l.2]):=by rw [←htk,ZgK];rfl
   rw [e3'] at e3
   simp (maxSteps:=2000000) +contextual only [Zi (show i<9223372036854775807 by omega),pp,go_sem,reduceIte,Ra,Rb,Rc,Rd]
   exact ⟨k - 1,by omega,i+1,_,none,L2,_,_,by omega,by simp,e4 _ (hL.more _) hb,by have:=hL.le;simp;omega,by simpa using e3,rfl⟩
theorem ZCP (ls:List Ld) (l:Ld):Zi4 (ls++[l])=if ls=[] then Lib.itoa l.1++58::Lib.itoa l.2 else Zi4 ls++32::(Lib.itoa l.1++58::Lib.itoa l.2):=by
 unfold Zi4
 cases ls with
 | nil=>simp [Lib.join_one,Zly]
 | cons x xs=>
  rw [if_neg (by simp)]
  simp [Lib.join_cons,Lib.joinTail,Zly]
theorem ZzE {q:Nat} {cap:Option Nat} {ls:List Ld} (h:Zb H q=some (Zn ls)) (hr:Yu ls=true):call T pr ZfP [slL q ls.length cap] ⟨H,e⟩=some (.tup [sV (Zes ls),.bool true],⟨H,e⟩):=by
 obtain ⟨hn,hf⟩:=ZzC hr
 have h1:∀ L,Zb L q=some (Zn ls)→call T pr Jw [slL q ls.length cap] ⟨L,none⟩=some (.bool true,⟨L,none⟩):=fun L hL=>by rw [←hr];exact KM hL
 have h2:call T pr Zip [slL q ls.length cap] ⟨H,none⟩=some (sV (Zes ls),⟨H,none⟩):=by
  unfold Zes
  apply Wc.eq
  rw [Zr ZBl]
  simp (maxSteps:=2000000) +contextual only [ZcQ,ZrM,pp,go_sem,reduceIte,Ra,Rb,Rc,Rd]
  refine ZL (fun k st=>∃ (i:Nat) (w4 w5 w6:AV),i+k=ls.length∧st=⟨[slL q ls.length cap,.str ⟨#[]⟩,sV (Zi4 (ls.take i)),.int .i64 i,w4,w5,w6],⟨H,none⟩⟩) ?_ ls.length _ ⟨0,_,_,_,by omega,rfl⟩
  rintro k _ ⟨i,w4,w5,w6,hik,rfl⟩
  by_cases hk:k=0
  ·have he:i=ls.length:=by omega
   subst he
   rw [Wi]
   by_cases h0:ls.length=0
   ·have h0':((ls.length:Nat):Int)=0:=by omega
    rw [if_pos h0]
    have hd2:decide (((ls.length:Nat):Int)=0)=true:=decide_eq_true h0'
    clear h0'
    simp (maxSteps:=2000000) only [Zb1,ZcQ,Rh,decide_false,hd2,pp,go_sem,reduceIte,Ra,Rb,Rc,Rd]
   ·have h0':¬ ((ls.length:Nat):Int)=0:=by omega
    rw [if_neg h0]
    simp (maxSteps:=2000000) +contextual only [Zb1,ZcQ,Rh,decide_false,h0',pp,go_sem,reduceIte,Ra,Rb,Rc,Rd]
  ·have hi':i<ls.length:=by omega
   have hl:ls[i]?=some ls[i]:=Rj hi'
   obtain ⟨f1,f2⟩:=hf ls[i] (WB hi')
   have hs:=ZCP (ls.take i) ls[i]
   rw [←RM hi'] at hs
   have hle:(Zi4 (ls.take i)).length≤600:=by
    have:=ZwT (ls.take i) fun l hl=>hf l (List.mem_of_mem_take hl)
    rw [Wm] at this
    omega
   generalize ls[i]=l at *
   have la:=Y5 l.1 f1
   have lb:=Y5 l.2 f2
   have hna:=fun (L:List Blk)=>XD (pr:=pr) (H:=L) (e:=none) l.1 f1.1 f1.2
   have hnb:=fun (L:List Blk)=>XD (pr:=pr) (H:=L) (e:=none) l.2 f2.1 f2.2
   have e32:(AV.str ⟨#[32]⟩)=sV [32]:=rfl
   have e58:(AV.str ⟨#[58]⟩)=sV [58]:=rfl
   have hsw:=Zi (show i<9223372036854775807 by omega)
   generalize Lib.itoa l.1=A at *
   generalize Lib.itoa l.2=B at *
   by_cases h0:i=0
   ·have hp:¬ (0:Int)<(i:Int):=by omega
    rw [if_pos (by rw [h0];rfl)] at hs
    have hr0:Zi4 (ls.take i)=[]:=by rw [h0];rfl
    generalize Zi4 (ls.take i)=S at *
    have b1:S.length+A.length≤140737488355328:=by omega
    have b2:S.length+A.length≤140737488355327:=by omega
    have b3:S.length+(A.length+1)+B.length≤140737488355328:=by omega
    have ha2:S++(A++58::B)=Zi4 (ls.take (i+1)):=by rw [hs,hr0];rfl
    simp (maxSteps:=2000000) +contextual only [Zb1,hi',h,Kk _ hl,JE _ hl,hna,hnb,hp,gt_iff_lt,e58,ZD,b1,b2,b3,ha2,hsw,decide_true,decide_false,pp,go_sem,reduceIte,Ra,Rb,Rc,Rd]
    exact ⟨k - 1,by omega,i+1,_,_,_,by omega,rfl⟩
   ·have hp:(0:Int)<(i:Int):=by omega
    rw [if_neg (by intro hh;have:=congrArg List.length hh;rw [Wm,Wk] at this;omega)] at hs
    generalize Zi4 (ls.take i)=S at *
    have b0:S.length≤140737488355327:=by omega
    have b1:S.length+1+A.length≤140737488355328:=by omega
    have b2:S.length+(A.length+1)≤140737488355327:=by omega
    have b3:S.length+(A.length+1+1)+B.length≤140737488355328:=by omega
    have ha2:S++32::(A++58::B)=Zi4 (ls.take (i+1)):=by rw [hs]
    simp (maxSteps:=2000000) +contextual only [Zb1,hi',h,Kk _ hl,JE _ hl,hna,hnb,hp,gt_iff_lt,e32,e58,ZD,b0,b1,b2,b3,ha2,hsw,decide_true,decide_false,pp,go_sem,reduceIte,Ra,Rb,Rc,Rd]
    exact ⟨k - 1,by omega,i+1,_,_,_,by omega,rfl⟩
 rw [Zh Zx9]
 simp +contextual only [Zgf,ZoY,h,h1,h2,go_sem,reduceIte,Ra,Rb,Rc,Rd]
def stepA (ss:List Sg) (n:Nat):Nat:=fracA (n*ZC 1 1 ss) (ZB 1 1 ss)
def stepBW (ss:List Sg) (n:Nat):Nat:=fracB (n*ZC 1 1 ss) (ZB 1 1 ss)
def ZAr (ss:List Sg) (n:Nat) (ps:List Ld):Prop:=ps.length=ss.length+1∧ps[ss.length]?=some ((stepA ss n:Int),(stepBW ss n:Int))
theorem ZFs {s:Sg} {a b i:Nat} (h:YM s=true) (ha:a≤1000000*24 ^ i) (hb:0<b∧b≤48 ^ i) (hi:i<5) :
  a*gainB s≤1000000*24 ^ (i+1)∧0<b*gainA s∧b*gainA s≤48 ^ (i+1)∧1000000*24 ^ (i+1)≤7962624000000∧48 ^ (i+1)≤254803968:=by
 obtain ⟨g1,g2,g3,g4⟩:=Zj3 h
 refine ⟨?_,WS hb.1 g1,?_,?_,?_⟩
 ·rw [WN,←Nat.mul_assoc]
  exact WT ha g4
 ·rw [WN]
  exact WT hb.2 g2
 ·have:(24:Nat) ^ (i+1)≤24 ^ 5:=RP (by omega) (by omega)
  have e:(24:Nat) ^ 5=7962624:=by decide
  omega
 ·have:(48:Nat) ^ (i+1)≤48 ^ 5:=RP (by omega) (by omega)
  have e:(48:Nat) ^ 5=254803968:=by decide
  omega
theorem ZwU (ps:List Ld) (a b:Int):Zn ps++[.int .i64 a,.int .i64 b]=Zn (ps++[(a,b)]):=by
 rw [Zdn];rfl
theorem ZCQ {L:List Blk} {b sz n:Nat} {c:Option Nat} {cs:List AV} {w:Bool} (v0:AV) (h0:AV.roots H.length v0=[]) (h0':∀ f,AV.rename f v0=v0) (hL:ZT H L) (e0 e1:Option Nat) (hc:clean H.length e1=true) (hb:H.length≤b) (hG:L[b]?=some (.cells cs w)) (hu:(cs.all fun c=>c.under H.length)=true) :
  finish 2 H.length e0 (.tup [.slice (some (b,0)) sz n c,v0]) ⟨L,e1⟩=some (.tup [.slice (some (H.length,0)) sz n c,v0],⟨H++[.cells cs w],e0⟩):=by
 obtain ⟨G,rfl⟩:=hL
 obtain ⟨j,rfl⟩:∃ j,b=H.length+j:=⟨b - H.length,by omega⟩
 have hlt:¬ H.length+j<H.length:=by omega
 have hr:XL (AV.roots H.length (.tup [.slice (some (H.length+j,0)) sz n c,v0]))=[H.length+j]:=by
  simp only [AV.roots,AV.roots.go,h0,if_neg hlt,Rv]
  simp [XL]
 unfold finish
 simp only [hr]
 have h2:([H.length+j].all fun b=>Xa H.length (H++G)[b]?)=true:=by
  simp only [Ro,List.all_nil,Bool.and_true,hG,Xa,hu]
 simp only [hc,h2,and_self,if_true]
 simp [AV.rename,AV.rename.go,ZbP,hlt,hG,h0']
theorem Yf {L:List Blk} {b sz n:Nat} {c:Option Nat} {cs:List AV} {w:Bool} (x:Bool) (hL:ZT H L) (e0 e1:Option Nat) (hc:clean H.length e1=true) (hb:H.length≤b) (hG:L[b]?=some (.cells cs w)) (hu:(cs.all fun c=>c.under H.length)=true) :
  finish 2 H.length e0 (.tup [.slice (some (b,0)) sz n c,.bool x]) ⟨L,e1⟩=some (.tup [.slice (some (H.length,0)) sz n c,.bool x],⟨H++[.cells cs w],e0⟩) :=
 ZCQ (.bool x) (by simp [AV.roots]) (fun f=>by simp [AV.rename]) hL e0 e1 hc hb hG hu
theorem ZnO {q:Nat} {c:Option Nat} {ss:List Sg} (h:Zb H q=some (Zw ss)) (hc:ZA ss=true) (hm:ss.length≤1048576) (x:Int) (hx:Zn6 x=false):call T pr Zav [slS q ss.length c,.int .i64 x] ⟨H,e⟩=some (.tup [Z2,.bool false],⟨H,e⟩):=by
 have h1:∀ L,Zb L q=some (Zw ss)→call T pr YR [slS q ss.length c] ⟨L,none⟩=some (.bool true,⟨L,none⟩):=fun L hL=>by have:=Jq (pr:=pr) (e:=none) (c:=c) hL (by omega);rw [hc] at this;exact this
 have h3:∀ L,call T pr Zah [.int .i64 x] ⟨L,none⟩=some (.bool false,⟨L,none⟩):=fun L=>by have:=ZiI (pr:=pr) (H:=L) (e:=none) x;unfold Zn6 at hx;rw [hx] at this;exact this
 apply Wc.eq
 rw [Zr ZkY]
 simp (maxSteps:=2000000) +contextual only [K0,Zge,Zc,h,h1,h3,pp,go_sem,reduceIte,Ra,Rb,Rc,Rd,ff]
theorem ZtT {q:Nat} {c:Option Nat} {ss:List Sg} (h:Zb H q=some (Zw ss)) (hc:ZA ss=true) (n:Nat) (hn:n≤1000000):Wc (call T pr Zav [slS q ss.length c,.int .i64 n] ⟨H,e⟩) (fun v m=>∃ (cap:Option Nat) (ps:List Ld),v=.tup [slL H.length (ss.length+1) cap,.bool true]∧m=⟨H++[.cells (Zn ps) true],e⟩∧ZAr ss n ps):=by
 have hc':=hc
 unfold ZA at hc'
 rw [Rs,decide_eq_true_eq] at hc'
 have hlen:=hc'.2
 have h1:∀ L,Zb L q=some (Zw ss)→call T pr YR [slS q ss.length c] ⟨L,none⟩=some (.bool true,⟨L,none⟩):=fun L hL=>by have:=Jq (pr:=pr) (e:=none) (c:=c) hL (by omega);rw [hc] at this;exact this
 have h3:∀ L,call T pr Zah [.int .i64 n] ⟨L,none⟩=some (.bool true,⟨L,none⟩):=fun L=>by
  have:=ZiI (pr:=pr) (H:=L) (e:=none) (n:Int)
  rw [decide_eq_true (by omega),decide_eq_true (by omega)] at this
  exact this
 obtain ⟨pa,pb⟩:=ZFj n ss hc'.1
 rw [Zr ZkY]
 simp (maxSteps:=2000000) +contextual only [K0,Zge,Zc,h,h1,h3,pp,go_sem,reduceIte,Ra,Rb,Rc,Rd]
 refine ZL (fun k st=>∃ (i a b j:Nat) (cc:Option Nat) (ps:List Ld) (G:List Blk) (w6 w7 w12:AV),i+k=ss.length∧a≤1000000*24 ^ i∧(0<b∧b≤48 ^ i)∧Znp a b (ss.drop i)=Znp n 1 ss∧Znq a b (ss.drop i)=Znq n 1 ss ∧
   (cc=some 0→ps.length=0)∧G[j]?=some (.cells (Zn ps) true)∧ps.length=i+1∧ps[i]?=some ((a:Int),(b:Int)) ∧
   st=⟨[slS q ss.length c,.int .i64 n,.slice none 0 0 none,.bool false,.ptr (some (H.length,0)),slL (H.length+(j+1)) (i+1) cc,w6,w7,.bool false,slS q ss.length c,.int .i64 ss.length,.int .i64 i,w12],⟨H++(.cells [.int .i64 a,.int .i64 b] true::G),none⟩⟩) ?_ ss.length _
  ⟨0,n,1,0,some 1,[((n:Int),1)],_,_,_,_,by omega,by simpa using hn,by decide,by rw [Rl],by rw [Rl],by simp,rfl,rfl,rfl,rfl⟩
 rintro k _ ⟨i,a,b,j,cc,ps,G,w6,w7,w12,hik,ha,hb,hpa,hpb,hcc,hG,hps,hlast,rfl⟩
 by_cases hk:k=0
 ·have he:i=ss.length:=by omega
  subst he
  rw [Rn] at hpa hpb
  simp only [Znp,Znq] at hpa hpb
  have hf:∀ (e0 e1:Option Nat),clean H.length e1=true→finish 2 H.length e0 (.tup [slL (H.length+(j+1)) (ss.length+1) cc,.bool true]) ⟨H++(.cells [.int .i64 a,.int .i64 b] true::G),e1⟩=some (.tup [slL H.length (ss.length+1) cc,.bool true],⟨H++[.cells (Zn ps) true],e0⟩):=fun e0 e1 hc=>
   Yf true ⟨_,rfl⟩ e0 e1 hc (by omega) (by rw [Ry (by omega)];simpa using hG) (ZS _ _)
  simp (maxSteps:=2000000) +contextual only [Zdd,K0,Rh,decide_false,hf,Zm,pp,go_sem,reduceIte,Ra,Rb,Rc,Rd]
  exact ⟨cc,ps,rfl,rfl,hps,by rw [hlast,hpa,hpb,pa,pb];rfl⟩
 ·have hi':i<ss.length:=by omega
  have hl:ss[i]?=some ss[i]:=Rj hi'
  have hs:YM ss[i]=true:=(WP.mp hc'.1) _ (WB hi')
  rw [Rm hi'] at hpa hpb
  simp only [Znp,Znq] at hpa hpb
  generalize ss[i]=s at *
  obtain ⟨g1,g2,g3,g4,g5⟩:=ZFs hs ha hb (by omega)
  have w1:IntKind.i64.wrap ((a:Int)*(gainB s:Int))=((a*gainB s:Nat):Int):=by rw [←RA];exact Kn (by omega)
  have w2:IntKind.i64.wrap ((b:Int)*(gainA s:Int))=((b*gainA s:Nat):Int):=by rw [←RA];exact Kn (by omega)
  have hf:=fun L=>KP (pr:=pr) (H:=L) (e:=none) (x:=a*gainB s) (y:=b*gainA s) g2 (by omega) (by omega)
  simp (maxSteps:=2000000) +contextual only [Zdd,Zc,Za h,hi',QM hl,Zlc s hs,Zbt,Zbu,Za2,R9,RH,RI,RJ,Rx,w1,w2,hf,Zi (show i<9223372036854775807 by omega),decide_true,pp,go_sem,reduceIte,Ra,Rb,Rc,Rd]
  have f1:fracA (a*gainB s) (b*gainA s)≤a*gainB s:=Rr _ _
  have f2:=ZhX (a*gainB s) (b*gainA s) g2
  have f3:fracB (a*gainB s) (b*gainA s)≤b*gainA s:=Rr _ _
  generalize fracA (a*gainB s) (b*gainA s)=a' at *
  generalize fracB (a*gainB s) (b*gainA s)=b' at *
  refine Zi3 (k:=1) (new:=[.int .i64 a',.int .i64 b']) (cs:=Zn ps) (by rw [Ry (by omega)];simpa using ZY hG _) (Qx _ 1 2 _ _ (H.length+(G.length+2+1)) (by simp +contextual only [go_sem,reduceIte,Ra,Rb,Rc,Rd]) rfl) (by rw [YG];omega) rfl (by unfold maxBytes;omega) (fun g=>by have:=hcc g;omega) ?_
  intro L2 e1 e2 e3 e4
  obtain ⟨G2,rfl⟩:=e4 (H++[.cells [.int .i64 a',.int .i64 b'] true]) ⟨_,List.append_cons _ _ _⟩ (by simp)
  rw [ZwU] at e3
  simp (maxSteps:=2000000) +contextual only [Zi (show i<9223372036854775807 by omega),pp,go_sem,reduceIte,Ra,Rb,Rc,Rd]
  have e3':G2[G.length+3]?=some (.cells (Zn (ps++[((a':Int),(b':Int))])) true):=by
   rw [Ry (by simp)] at e3
   simp only [RX,RN,Wk] at e3
   rw [show H.length+(G.length+(0+1+1+1)+1) - (H.length+(0+1))=G.length+3 by omega] at e3
   exact e3
  have hla:(ps++[((a':Int),(b':Int))])[i+1]?=some ((a':Int),(b':Int)):=by
   rw [Ry (by omega),hps]
   simp
  exact ⟨k - 1,by omega,i+1,a',b',G.length+3,none,ps++[((a':Int),(b':Int))],G2,_,_,_,by omega,WE f1 g1,⟨f2,WE f3 g3⟩,hpa,hpb,by simp,e3',by simp [hps],hla,rfl⟩
theorem ZnP {q m:Nat} {c:Option Nat} {ss:List Sg} (h:Zb H q=some (Zw ss)) (hc:ZA ss=true) (hm:m≤ss.length):call T pr Jj [slS q m c] ⟨H,e⟩=some (fvV (ZB 1 1 (ss.take m)) (ZC 1 1 (ss.take m)),⟨H,e⟩):=by
 have hc':=hc
 unfold ZA at hc'
 rw [Rs,decide_eq_true_eq] at hc'
 apply Wc.eq
 rw [Zr Zpd]
 simp (maxSteps:=2000000) +contextual only [Zbn,ZjM,Zc,pp,go_sem,reduceIte,Ra,Rb,Rc,Rd]
 refine ZL (fun k st=>∃ (i P Q:Nat) (G:List Blk) (y4 y5:AV),i+k=m∧(0<P∧P≤48 ^ i)∧(0<Q∧Q≤24 ^ i)∧ZB P Q ((ss.take m).drop i)=ZB 1 1 (ss.take m)∧ZC P Q ((ss.take m).drop i)=ZC 1 1 (ss.take m) ∧
   st=⟨[slS q m c,.ptr (some (H.length,0)),.ptr (some (H.length+1,0)),.int .i64 i,y4,y5],⟨H++(.cells [.int .i64 0,.int .i64 0] true::.cells [.int .i64 P,.int .i64 Q] true::G),none⟩⟩) ?_ m _
  ⟨0,1,1,[],_,_,by omega,by decide,by decide,by rw [Rl],by rw [Rl],rfl⟩
 rintro k _ ⟨i,P,Q,G,y4,y5,hik,hP,hQ,hA,hB,rfl⟩
 have htl:(ss.take m).length=m:=by rw [Wm];omega
 by_cases hk:k=0
 ·have he:i=m:=by omega
  subst he
  rw [List.drop_eq_nil_of_le (by omega)] at hA hB
  simp only [ZB,ZC] at hA hB
  subst hA
  subst hB
  simp (maxSteps:=2000000) +contextual only [X8,Zbn,Rh,decide_false,pp,go_sem,reduceIte,Ra,Rb,Rc,Rd]
 ·have hi:i<ss.length:=by omega
  have him:i<m:=by omega
  have hl:ss[i]?=some ss[i]:=Rj hi
  have hs:YM ss[i]=true:=(WP.mp hc'.1) _ (WB hi)
  rw [Rm (by omega),List.getElem_take] at hA hB
  simp only [ZB,ZC] at hA hB
  generalize ss[i]=s at *
  obtain ⟨⟨g1,g2⟩,⟨g3,g4⟩,g5,g6⟩:=Zld hs hP hQ (by omega)
  obtain ⟨f1,f2,f3,f4⟩:=Zgu g1 g3
  have w1:IntKind.i64.wrap ((P:Int)*(gainA s:Int))=((P*gainA s:Nat):Int):=by rw [←RA];exact Kn (by omega)
  have w2:IntKind.i64.wrap ((Q:Int)*(gainB s:Int))=((Q*gainB s:Nat):Int):=by rw [←RA];exact Kn (by omega)
  have hf:=fun L=>Zfb (pr:=pr) (H:=L) (e:=none) (x:=P*gainA s) (y:=Q*gainB s) g3 (by omega) (by omega)
  simp (maxSteps:=2000000) +contextual only [X8,Za h,him,QM hl,ZrZ s hs,Zbt,Zbu,Za2,R9,RH,RI,RJ,Rx,w1,w2,hf,Zi (show i<9223372036854775807 by omega),decide_true,pp,go_sem,reduceIte,Ra,Rb,Rc,Rd]
  exact ⟨k - 1,by omega,i+1,_,_,_,_,_,by omega,⟨f1,by omega⟩,⟨f2,by omega⟩,hA,hB,rfl⟩
theorem ZnQ {q:Nat} {c:Option Nat} {ss:List Sg} (h:Zb H q=some (Zw ss)) (hc:ZA ss=true) (hm:ss.length≤1048576) (x:Int) (hx:Zn6 x=false):∃ G cap,call T pr ZaD [slS q ss.length c,.int .i64 x] ⟨H,e⟩=some (.tup [.slice (some (H.length,0)) 2 0 cap,.bool false],⟨H++G,e⟩):=by
 have h1:∀ L,Zb L q=some (Zw ss)→call T pr QG [slS q ss.length c,.int .i64 x] ⟨L,none⟩=some (.bool false,⟨L,none⟩):=fun L hL=>by rw [←hx];exact Zqa hL hc hm x
 refine ⟨[.cells [] true],some 0,?_⟩
 apply Wc.eq
 rw [Zr Zk0]
 have hf:∀ (e0 e1:Option Nat) (cap:Option Nat),clean H.length e1=true→finish 2 H.length e0 (.tup [.slice (some (H.length,0)) 2 0 cap,.bool false]) ⟨H++[.cells [] true],e1⟩=some (.tup [.slice (some (H.length,0)) 2 0 cap,.bool false],⟨H++[.cells [] true],e0⟩) :=
  fun e0 e1 cap hc=>Yf false ⟨_,rfl⟩ e0 e1 hc (Rq _) (by rw [Ry (by omega)];simp) rfl
 simp (maxSteps:=2000000) +contextual only [K4,Zgk,Zc,h,h1,hf,Zm,pp,go_sem,reduceIte,Ra,Rb,Rc,Rd]
theorem ZtU {q:Nat} {c:Option Nat} {ss:List Sg} (h:Zb H q=some (Zw ss)) (hc:ZA ss=true) (n:Nat) (hn:n≤1000000):Wc (call T pr ZaD [slS q ss.length c,.int .i64 n] ⟨H,e⟩) (fun v m=>∃ (cap:Option Nat) (ps:List Ld),v=.tup [slL H.length (ss.length+1) cap,.bool true]∧m=⟨H++[.cells (Zn ps) true],e⟩∧ZAr ss n ps):=by
 have hc':=hc
 unfold ZA at hc'
 rw [Rs,decide_eq_true_eq] at hc'
 have hlen:=hc'.2
 have hx:Zn6 (n:Int)=true:=by unfold Zn6;rw [decide_eq_true (by omega),decide_eq_true (by omega)];rfl
 have h1:∀ L,Zb L q=some (Zw ss)→call T pr QG [slS q ss.length c,.int .i64 n] ⟨L,none⟩=some (.bool true,⟨L,none⟩):=fun L hL=>by rw [←hx];exact Zqa hL hc (by omega) n
 rw [Zr Zk0]
 simp (maxSteps:=2000000) +contextual only [K4,Zgk,Zc,h,h1,pp,go_sem,reduceIte,Ra,Rb,Rc,Rd]
 refine ZL (fun k st=>∃ (i b:Nat) (cc:Option Nat) (ps:List Ld) (L:List Blk) (w6 w7 w8:AV),i+k=ss.length∧ZT H L∧H.length≤b∧(cc=some 0→ps.length=0)∧L[b]?=some (.cells (Zn ps) true)∧ps.length=i+1∧ps[i]?=some ((stepA (ss.take i) n:Int),(stepBW (ss.take i) n:Int)) ∧
   st=⟨[slS q ss.length c,.int .i64 n,Z2,.bool false,slL b (i+1) cc,.int .i64 i,w6,w7,w8],⟨L,none⟩⟩) ?_ ss.length _
  ⟨0,_,some 1,[((n:Int),1)],_,_,_,_,by omega,⟨_,rfl⟩,Rq _,by simp,by rw [ZQ];rfl,rfl,by simp [stepA,stepBW,ZB,ZC,fracA,fracB],rfl⟩
 rintro k _ ⟨i,b,cc,ps,L,w6,w7,w8,hik,hL,hb,hcc,hLb,hps,hlast,rfl⟩
 have hq:Zb L q=some (Zw ss):=by
  obtain ⟨G,rfl⟩:=hL
  exact Za h G
 by_cases hk:k=0
 ·have he:i=ss.length:=by omega
  subst he
  rw [Wi] at hlast
  have hf:∀ (e0 e1:Option Nat),clean H.length e1=true→finish 2 H.length e0 (.tup [slL b (ss.length+1) cc,.bool true]) ⟨L,e1⟩=some (.tup [slL H.length (ss.length+1) cc,.bool true],⟨H++[.cells (Zn ps) true],e0⟩):=fun e0 e1 hc=>
   Yf true hL e0 e1 hc hb hLb (ZS _ _)
  simp (maxSteps:=2000000) +contextual only [Zdj,K4,Rh,decide_false,hf,Zm,pp,go_sem,reduceIte,Ra,Rb,Rc,Rd]
  exact ⟨cc,ps,rfl,rfl,hps,hlast⟩
 ·have hi':i<ss.length:=by omega
  have hall:(ss.take (i+1)).all YM=true:=WP.mpr fun s hs=>(WP.mp hc'.1) s (List.mem_of_mem_take hs)
  have hck:ZA (ss.take (i+1))=true:=by
   unfold ZA
   rw [hall,decide_eq_true (by rw [Wm];omega)];rfl
  obtain ⟨a1,a2,b1,b2,_⟩:=Zad hck n hn
  have hch:∀ L,Zb L q=some (Zw ss)→∀ cap,call T pr Jj [slS q (i+1) cap] ⟨L,none⟩=some (fvV (ZB 1 1 (ss.take (i+1))) (ZC 1 1 (ss.take (i+1))),⟨L,none⟩):=fun L hL cap=>ZnP hL hc (by omega)
  have hnb:n*ZC 1 1 (ss.take (i+1))≤254803968000000:=WE (WT hn b2) (by decide)
  have w1:IntKind.i64.wrap ((n:Int)*(ZC 1 1 (ss.take (i+1)):Int))=((n*ZC 1 1 (ss.take (i+1)):Nat):Int):=by rw [←RA];exact Kn (by omega)
  have hf:=fun L=>Zfb (pr:=pr) (H:=L) (e:=none) (x:=n*ZC 1 1 (ss.take (i+1))) (y:=ZB 1 1 (ss.take (i+1))) a1 (by omega) (by omega)
  have hsw:=Zi (show i<9223372036854775807 by omega)
  have hle:i+1≤ss.length:=by omega
  have hsl:Zlh 3 (slS q ss.length c) (.int .i64 ((i+1:Nat):Int))=some (slS q (i+1) c):=Zj5 3 q 0 ss.length (i+1) c hle
  simp (maxSteps:=2000000) +contextual only [Zdj,Zc,hq,Za hq,hi',hsw,Zj4,hsl,hch,Zbt,Zbu,Za2,R9,RH,RI,RJ,Rx,w1,hf,decide_true,pp,go_sem,reduceIte,Ra,Rb,Rc,Rd]
  have eA:fracA (n*ZC 1 1 (ss.take (i+1))) (ZB 1 1 (ss.take (i+1)))=stepA (ss.take (i+1)) n:=rfl
  have eB:fracB (n*ZC 1 1 (ss.take (i+1))) (ZB 1 1 (ss.take (i+1)))=stepBW (ss.take (i+1)) n:=rfl
  rw [eA,eB]
  refine Zi3 (k:=1) (new:=[.int .i64 (stepA (ss.take (i+1)) n:Nat),.int .i64 (stepBW (ss.take (i+1)) n:Nat)]) (cs:=Zn ps) (ZY hLb _) (Qx _ 1 2 _ _ (L.length+1) (by simp +contextual only [go_sem,reduceIte,Ra,Rb,Rc,Rd]) rfl) (by rw [YG];omega) rfl (by unfold maxBytes;omega) (fun g=>by have:=hcc g;omega) ?_
  intro L2 e1 e2 e3 e4
  rw [ZwU] at e3
  simp (maxSteps:=2000000) +contextual only [hsw,pp,go_sem,reduceIte,Ra,Rb,Rc,Rd]
  have hla:(ps++[((stepA (ss.take (i+1)) n:Int),(stepBW (ss.take (i+1)) n:Int))])[i+1]?=some ((stepA (ss.take (i+1)) n:Int),(stepBW (ss.take (i+1)) n:Int)):=by
   rw [Ry (by omega),hps]
   simp
  exact ⟨k - 1,by omega,i+1,_,none,_,L2,_,_,_,by omega,e4 _ (hL.more _) hb,by have:=hL.le;simp;omega,by simp,by simpa using e3,by simp [hps],hla,rfl⟩
def XJ:Nat→List (List Int)
 | 0=>[[]]
 | n+1=>[-1,0,1].flatMap fun s=>(XJ n).map (s :: ·)
theorem ZwV:∀ n,(XJ n).flatMap (fun l=>[l++[-1],l++[0],l++[1]])=XJ (n+1)
 | 0=>rfl
 | n+1=>by
  have ih:=ZwV n
  conv=>lhs;rw [XJ]
  conv=>rhs;rw [XJ]
  rw [List.flatMap_assoc]
  congr 1;funext s
  rw [List.flatMap_map,←ih,List.map_flatMap]
  rfl
theorem ZiS:∀ n,∀ l∈XJ n,l.length=n∧∀ x∈l,x = -1∨x=0∨x=1
 | 0,l,h=>by
  simp only [XJ,List.mem_singleton] at h
  subst h
  simp
 | n+1,l,h=>by
  simp only [XJ,WU,Wd] at h
  obtain ⟨s,hs,t,ht,rfl⟩:=h
  obtain ⟨h1,h2⟩:=ZiS n t ht
  refine ⟨by simp [h1],fun x hx => ?_⟩
  rcases List.mem_cons.mp hx with rfl | hx
  ·simpa using hs
  ·exact h2 x hx
def dotZ:List Int→List Int→Int
 | w::k,s::l=>w*s+dotZ k l
 | _,_=>0
def usedZ (l:List Int):Int:=((l.filter fun s=>decide (s≠0)).length:Nat)
def sqZ:List Int→Int
 | []=>0
 | s::l=>s*s+sqZ l
theorem ZtV:∀ (l:List Int),(∀ x∈l,x = -1∨x=0∨x=1)→sqZ l=usedZ l
 | [],_=>rfl
 | s::l,h=>by
  have ih:=ZtV l fun x hx=>h x (Wt _ hx)
  rcases h s Wb with rfl | rfl | rfl <;> simp [sqZ,ih,usedZ,Int.add_comm]
theorem ZtW (l:List Int):0≤usedZ l∧usedZ l≤l.length:=by
 have:=WF (fun s:Int=>decide (s≠0)) l
 unfold usedZ
 omega
def ZdD (kit:List Int) (n:Int) (best l:List Int):List Int:=if dotZ kit l=n∧(best.length=0∨usedZ l<usedZ best) then l else best
def ZdE (kit:List Int) (n:Int) (p:List Int×Int) (l:List Int):List Int×Int:=if dotZ kit l=n∧sqZ l<p.2 then (l,sqZ l) else p
theorem Zh3 (kit:List Int) (n:Int) (k:Nat) (hk:0<k):∀ (L:List (List Int)),(∀ l∈L,l.length=k∧∀ x∈l,x = -1∨x=0∨x=1)→∀ (best:List Int) (few:Int),
  (best=[]∧few=k+1∨best≠[]∧few=usedZ best)→(L.foldl (ZdE kit n) (best,few)).1=L.foldl (ZdD kit n) best
 | [],_,best,few,_=>rfl
 | l::L,hL,best,few,hb=>by
  obtain ⟨h1,h2⟩:=hL l Wb
  have hsq:=ZtV l h2
  have hle:=ZtW l
  simp only [List.foldl_cons]
  have hl0:l≠[]:=by intro h;subst h;simp at h1;omega
  by_cases hd:dotZ kit l=n
  ·rcases hb with ⟨rfl,rfl⟩|⟨hb1,rfl⟩
   ·have e1:ZdE kit n ([],(k:Int)+1) l=(l,usedZ l):=by
     unfold ZdE;rw [if_pos ⟨hd,by show sqZ l<(k:Int)+1;omega⟩,hsq]
    have e2:ZdD kit n [] l=l:=by unfold ZdD;rw [if_pos ⟨hd,.inl rfl⟩]
    rw [e1,e2]
    exact Zh3 kit n k hk L (fun x hx=>hL x (Wt _ hx)) l (usedZ l) (.inr ⟨hl0,rfl⟩)
   ·have hbl:best.length≠0:=by simpa using hb1
    by_cases hu:usedZ l<usedZ best
    ·have e1:ZdE kit n (best,usedZ best) l=(l,usedZ l):=by
      unfold ZdE;rw [if_pos ⟨hd,by show sqZ l<usedZ best;omega⟩,hsq]
     have e2:ZdD kit n best l=l:=by unfold ZdD;rw [if_pos ⟨hd,.inr hu⟩]
     rw [e1,e2]
     exact Zh3 kit n k hk L (fun x hx=>hL x (Wt _ hx)) l (usedZ l) (.inr ⟨hl0,rfl⟩)
    ·have e1:ZdE kit n (best,usedZ best) l=(best,usedZ best):=by
      unfold ZdE;rw [if_neg];rintro ⟨_,h⟩;have h:sqZ l<usedZ best:=h;omega
     have e2:ZdD kit n best l=best:=by unfold ZdD;rw [if_neg];rintro ⟨_,h | h⟩;exact hbl h;exact hu h
     rw [e1,e2]
     exact Zh3 kit n k hk L (fun x hx=>hL x (Wt _ hx)) best (usedZ best) (.inr ⟨hb1,rfl⟩)
  ·have e1:ZdE kit n (best,few) l=(best,few):=by unfold ZdE;rw [if_neg];rintro ⟨h,_⟩;exact hd h
   have e2:ZdD kit n best l=best:=by unfold ZdD;rw [if_neg];rintro ⟨h,_⟩;exact hd h
   rw [e1,e2]
   exact Zh3 kit n k hk L (fun x hx=>hL x (Wt _ hx)) best few hb
def ZCR:Int→List Int→Int
 | r,[]=>r
 | r,n::l=>if n=r+1 then ZCR n l else r
theorem Zqb:∀ (L:List Int) (r:Int),L.Pairwise (· < ·)→(∀ x∈L,r<x)→r≤ZCR r L∧(∀ i,r<i→i≤ZCR r L→i∈L)∧ZCR r L+1 ∉ L
 | [],r,_,_=>⟨R9 _,fun i h1 h2=>by simp only [ZCR] at h2;omega,by simp⟩
 | n::L,r,hp,hr=>by
  obtain ⟨hp1,hp2⟩:=List.pairwise_cons.mp hp
  have hn:=hr n Wb
  unfold ZCR
  split
  ·rename_i e
   obtain ⟨g1,g2,g3⟩:=Zqb L n hp2 hp1
   refine ⟨by omega,fun i h1 h2 => ?_,?_⟩
   ·by_cases hi:i=n
    ·subst hi;exact Wb
    ·exact Wt _ (g2 i (by omega) h2)
   ·intro h
    rcases List.mem_cons.mp h with h | h
    ·omega
    ·exact g3 h
  ·rename_i e
   refine ⟨R9 _,fun i h1 h2=>by omega,fun h => ?_⟩
   rcases List.mem_cons.mp h with h | h
   ·omega
   ·have:=hp1 _ h;omega
theorem ZGU {R:Int→Prop} {a b:Int} (ha:0≤a) (hb:0≤b) (h1:∀ i,0<i→i≤a→R i) (h2:¬ R (a+1)) (h3:∀ i,0<i→i≤b→R i) (h4:¬ R (b+1)):a=b:=by
 rcases Int.lt_trichotomy a b with h | h | h
 ·exact absurd (h3 (a+1) (by omega) (by omega)) h2
 ·exact h
 ·exact absurd (h1 (b+1) (by omega) (by omega)) h4
def Zxo (f:Nat→Bool) (i:Nat):Nat→Bool:=fun x=>if x=i then true else f x
def Zkg (now:Nat→Bool) (w T2:Nat):Nat→Nat→Bool
 | 0=>fun _=>false
 | k+1=>if now k then Zxo (Zxo (Zxo (Zkg now w T2 k) k) (min (k+w) T2)) (k - w) else Zkg now w T2 k
theorem ZwW (now:Nat→Bool) (w T2:Nat):∀ k x,Zkg now w T2 k x=true↔∃ s,s<k∧now s=true∧(x=s∨x=min (s+w) T2∨x=s - w)
 | 0,x=>by simp [Zkg]
 | k+1,x=>by
  have ih:=ZwW now w T2 k x
  have key:(∃ s,s<k+1∧now s=true∧(x=s∨x=min (s+w) T2∨x=s - w))↔(∃ s,s<k∧now s=true∧(x=s∨x=min (s+w) T2∨x=s - w))∨(now k=true∧(x=k∨x=min (k+w) T2∨x=k - w)):=by
   constructor
   ·rintro ⟨s,h1,h2⟩
    by_cases hs:s=k
    ·subst hs;exact .inr h2
    ·exact .inl ⟨s,by omega,h2⟩
   ·rintro (⟨s,h1,h2⟩ | h2)
    ·exact ⟨s,by omega,h2⟩
    ·exact ⟨k,by omega,h2⟩
  rw [key,←ih]
  have hs:Zkg now w T2 (k+1)=if now k then Zxo (Zxo (Zxo (Zkg now w T2 k) k) (min (k+w) T2)) (k - w) else Zkg now w T2 k:=rfl
  rw [hs]
  clear key ih hs
  generalize Zkg now w T2 k=g
  generalize min (k+w) T2=u
  generalize k - w=v
  cases hk:now k with
  | false=>simp
  | true=>
   simp only [if_true,true_and]
   unfold Zxo
   by_cases e1:x=v
   ·simp [e1]
   ·by_cases e2:x=u
    ·simp [e1,e2]
    ·by_cases e3:x=k
     ·simp [e3]
     ·simp [e1,e2,e3]
def ZHw (T:Nat):(Nat→Bool)→List Int→Nat→Bool
 | f,[]=>f
 | f,w::k=>ZHw T (Zkg f w.toNat (2*T) (2*T+1)) k
def sumK:List Int→Int
 | []=>0
 | w::k=>w+sumK k
theorem ZAs (T:Nat):∀ (kit:List Int) (f:Nat→Bool) (P:Int→Prop) (A:Int),(∀ w∈kit,0≤w)→(∀ s:Nat,f s=true↔∃ q,P q∧(s:Int)=T+q)→(∀ q,P q → -A≤q∧q≤A)→A+sumK kit≤T →
  ∀ s:Nat,ZHw T f kit s=true↔∃ q l,P q∧l∈XJ kit.length∧(s:Int)=T+(q+dotZ kit l)
 | [],f,P,A,_,hf,hP,_,s=>by
  simp only [ZHw,hf,Wk,XJ,List.mem_singleton]
  constructor
  ·rintro ⟨q,h1,h2⟩;exact ⟨q,[],h1,rfl,by simp [dotZ];omega⟩
  ·rintro ⟨q,l,h1,rfl,h2⟩;exact ⟨q,h1,by simp [dotZ] at h2;omega⟩
 | w::kit,f,P,A,hw,hf,hP,hA,s=>by
  have hw0:=hw w Wb
  obtain ⟨v,rfl⟩:∃ v:Nat,w=v:=⟨w.toNat,by omega⟩
  have hA':A+v+sumK kit≤T:=by simp only [sumK] at hA;omega
  have hs0:0≤sumK kit:=by
   have:∀ (k:List Int),(∀ w∈k,0≤w)→0≤sumK k:=by
    intro k
    induction k with
    | nil=>intro _;simp [sumK]
    | cons a k ih=>
     intro h
     have h1:=h a Wb
     have h2:=ih fun x hx=>h x (Wt _ hx)
     simp only [sumK];omega
   exact this kit fun x hx=>hw x (Wt _ hx)
  have ih:=ZAs T kit (Zkg f v (2*T) (2*T+1)) (fun q'=>∃ q g,P q∧(g = -1∨g=0∨g=1)∧q'=q+v*g) (A+v) (fun x hx=>hw x (Wt _ hx))
   (fun x=>by
    rw [ZwW]
    constructor
    ·rintro ⟨s,h1,h2,h3⟩
     obtain ⟨q,hq,hs⟩:=(hf s).mp h2
     have hq':=hP q hq
     rcases h3 with rfl | rfl | rfl
     ·exact ⟨q,⟨q,0,hq,by simp,by simp⟩,hs⟩
     ·exact ⟨q+v,⟨q,1,hq,by simp,by simp⟩,by omega⟩
     ·exact ⟨q - v,⟨q,-1,hq,by simp,by omega⟩,by omega⟩
    ·rintro ⟨q',⟨q,g,hq,hg,rfl⟩,hs⟩
     have hq':=hP q hq
     refine ⟨(T+q).toNat,by omega,(hf _).mpr ⟨q,hq,by omega⟩,?_⟩
     rcases hg with rfl | rfl | rfl
     ·right;right;omega
     ·left;omega
     ·right;left;omega)
   (fun q'=>by
    rintro ⟨q,g,hq,hg,rfl⟩
    have hq':=hP q hq
    rcases hg with rfl | rfl | rfl <;> omega) hA' s
  simp only [ZHw,Rz,ih,RN,XJ,WU,Wd]
  constructor
  ·rintro ⟨q',l,⟨q,g,hq,hg,rfl⟩,hl,hs⟩
   exact ⟨q,g::l,hq,⟨g,by simpa using hg,l,hl,rfl⟩,by simp only [dotZ];omega⟩
  ·rintro ⟨q,_,hq,⟨g,hg,l,hl,rfl⟩,hs⟩
   exact ⟨q+v*g,l,⟨q,g,hq,by simpa using hg,rfl⟩,hl,by simp only [dotZ] at hs;omega⟩
theorem ZzF:∀ (kit l:List Int),(∀ w∈kit,0≤w)→(∀ x∈l,x = -1∨x=0∨x=1) → -sumK kit≤dotZ kit l∧dotZ kit l≤sumK kit
 | [],l,_,_=>by simp [sumK,dotZ]
 | w::k,[],hw,_=>by
  have h0:=ZzF k [] (fun x hx=>hw x (Wt _ hx)) (by simp)
  have h1:=hw w Wb
  have e:dotZ k []=0:=by cases k <;> rfl
  rw [e] at h0
  simp only [dotZ,sumK];omega
 | w::k,s::l,hw,hl=>by
  have h0:=ZzF k l (fun x hx=>hw x (Wt _ hx)) (fun x hx=>hl x (Wt _ hx))
  have h1:=hw w Wb
  rcases hl s Wb with rfl | rfl | rfl <;> simp only [dotZ,sumK] <;> omega
theorem Zqc (zs:List Int) (x:Int):x∈Lib.compact zs↔x∈zs:=by
 have key:∀ m,m≤zs.length→(x∈Lib.compactUpTo zs.toArray m↔∃ j,j<m∧zs.toArray[j]! = x):=by
  intro m
  induction m with
  | zero=>intro _;simp [Lib.compactUpTo]
  | succ m ih=>
   intro hm
   rw [Lib.compactUpTo_succ,List.mem_append,ih (by omega)]
   constructor
   ·rintro (⟨j,h1,h2⟩ | h)
    ·exact ⟨j,by omega,h2⟩
    ·split at h
     ·simp only [List.mem_singleton] at h
      exact ⟨m,by omega,h.symm⟩
     ·simp at h
   ·rintro ⟨j,h1,h2⟩
    by_cases hj:j=m
    ·subst hj
     by_cases hk:Lib.keeps zs.toArray j=true
     ·right;rw [if_pos hk];simp [h2]
     ·left
      have:¬ (j=0∨zs.toArray[j]! ≠ zs.toArray[j - 1]!):=by
       intro h;apply hk;simp only [Lib.keeps,decide_eq_true_eq];exact h
      have h0:j≠0:=fun h=>this (.inl h)
      have h3:zs.toArray[j]! = zs.toArray[j - 1]! := by
       by_cases h:zs.toArray[j]! = zs.toArray[j - 1]!
       ·exact h
       ·exact absurd (.inr h) this
      exact ⟨j - 1,by omega,by rw [←h3,h2]⟩
    ·left;exact ⟨j,by omega,h2⟩
 unfold Lib.compact
 rw [key _ (Rq _),List.mem_iff_getElem]
 constructor
 ·rintro ⟨j,h1,h2⟩
  exact ⟨j,h1,by simpa [h1] using h2⟩
 ·rintro ⟨j,h1,h2⟩
  exact ⟨j,h1,by simpa [h1] using h2⟩
theorem Zrf (zs:List Int) (h:zs.Pairwise (· ≤ ·)):(Lib.compact zs).Pairwise (· < ·):=by
 have mono:∀ i j,i≤j→j<zs.length→zs.toArray[i]! ≤ zs.toArray[j]! := by
  intro i j hij hj
  by_cases e:i=j
  ·subst e;exact R9 _
  ·have:=List.pairwise_iff_getElem.mp h i j (by omega) hj (by omega)
   simpa [show i<zs.length by omega,hj] using this
 unfold Lib.compact Lib.compactUpTo
 rw [List.pairwise_map,List.pairwise_filter]
 refine List.Pairwise.imp_of_mem ?_ (List.pairwise_lt_range (n:=zs.length))
 intro a b ha hb hab hka hkb
 have hb':=List.mem_range.mp hb
 simp only [Lib.keeps,decide_eq_true_eq] at hkb
 have h1:=mono a (b - 1) (by omega) (by omega)
 have h2:=mono (b - 1) b (by omega) hb'
 rcases hkb with h3 | h3
 ·omega
 ·omega
def Zn7 (x:Int):Bool:=decide (1≤x)&&decide (x≤99)
def Zqd:Int→List Int→Bool
 | _,[]=>true
 | p,w::k=>Zn7 w&&(decide (p≤w)&&Zqd w k)
def Zch (k:List Int):Bool:=Zqd 0 k&&(decide ((1:Int)≤(k.length:Nat))&&decide (((k.length:Nat):Int)≤6))
def Zg9 (k:List Int) (i:Nat):Int:=if i=0 then 0 else k.getD (i - 1) 0
theorem ZiT (k:List Int) (i:Nat) (x:Int) (h:k[i]?=some x):Zg9 k (i+1)=x:=by
 unfold Zg9
 simp [WQ,h]
theorem Zci {w p:Int} {k:List Int} (h:(Zn7 w&&decide (p≤w))=false):Zqd p (w::k)=false:=by
 unfold Zqd
 rw [←Bool.and_assoc,h];rfl
theorem Zet {w p:Int} {k:List Int} (h:(Zn7 w&&decide (p≤w))=true):Zqd p (w::k)=Zqd w k:=by
 conv=>lhs;unfold Zqd
 rw [←Bool.and_assoc,h];rfl
theorem ZFt {q:Nat} {cap:Option Nat} {k:List Int} (h:Zb H q=some (ZR k)) (hn:k.length≤1000000):call T pr Zau [slI q k.length cap] ⟨H,e⟩=some (.bool (Zch k),⟨H,e⟩):=by
 have hw:∀ L x,call T pr Kz [.int .i64 x] ⟨L,none⟩=some (.bool (Zn7 x),⟨L,none⟩):=fun L x=>ZhE x
 have h16:=fun L=>Yd (pr:=pr) (H:=L) (e:=none) ((k.length:Nat):Int) 1 6
 apply Wc.eq
 rw [Zr ZuS]
 simp (maxSteps:=2000000) +contextual only [Jz,ZoW,pp,go_sem,reduceIte,Ra,Rb,Rc,Rd]
 refine ZL (fun j st=>∃ (i:Nat) (w2 w3 w7 w8:AV),i+j=k.length∧Zqd (Zg9 k i) (k.drop i)=Zqd 0 k ∧
  st=⟨[slI q k.length cap,.bool false,w2,w3,slI q k.length cap,.int .i64 k.length,.int .i64 i,w7,w8],⟨H,none⟩⟩) ?_ k.length _ ⟨0,_,_,_,_,by omega,rfl,rfl⟩
 rintro j _ ⟨i,w2,w3,w7,w8,hij,hk,rfl⟩
 by_cases hj:j=0
 ·have he:i=k.length:=by omega
  subst he
  rw [Rn] at hk
  unfold Zch
  rw [←hk]
  simp (maxSteps:=2000000) +contextual only [YS,Jz,Rh,decide_false,h16,Zqd,Bool.true_and,pp,go_sem,reduceIte,Ra,Rb,Rc,Rd]
 ·have hi:i<k.length:=by omega
  have hl:k[i]?=some k[i]:=Rj hi
  rw [Rm hi] at hk
  have hps:=ZiT k i k[i] hl
  generalize k[i]=x at *
  have hsw:=Zi (show i<9223372036854775807 by omega)
  by_cases h0:i=0
  ·have hp:Zg9 k i=0:=by rw [h0];rfl
   have hi0:¬ (0:Int)<(i:Int):=by omega
   rw [hp] at hk
   cases hx:Zn7 x with
   | false=>
    rw [Zci (by rw [hx];rfl)] at hk
    unfold Zch
    rw [←hk]
    simp (maxSteps:=2000000) +contextual only [YS,Jz,hi,h,Zu _ hl,hw,hx,hi0,gt_iff_lt,decide_true,decide_false,RR,pp,go_sem,reduceIte,Ra,Rb,Rc,Rd]
   | true=>
    have hx':(Zn7 x&&decide (0≤x))=true:=by
     rw [hx]
     unfold Zn7 at hx
     simp only [Rs,decide_eq_true_eq] at hx
     simp;omega
    rw [Zet hx',←hps] at hk
    simp (maxSteps:=2000000) +contextual only [YS,hi,h,Zu _ hl,hw,hx,hi0,gt_iff_lt,hsw,decide_true,decide_false,pp,go_sem,reduceIte,Ra,Rb,Rc,Rd]
    exact ⟨j - 1,by omega,i+1,_,_,_,_,by omega,hk,rfl⟩
  ·have hip:(0:Int)<(i:Int):=by omega
   have hl1:k[i - 1]?=some k[i - 1]:=Rj (by omega)
   have hp:Zg9 k i=k[i - 1]:=by
    unfold Zg9
    rw [if_neg h0,WQ,hl1];rfl
   have hwi:IntKind.i64.wrap ((i:Int) - 1)=((i - 1:Nat):Int):=by rw [ZN (by omega) (by omega)];omega
   have hi1:i - 1<k.length:=by omega
   rw [hp] at hk
   generalize k[i - 1]=p at *
   cases hx:Zn7 x with
   | false=>
    rw [Zci (by rw [hx];rfl)] at hk
    unfold Zch
    rw [←hk]
    simp (maxSteps:=2000000) +contextual only [YS,Jz,hi,h,Zu _ hl,hw,hx,hip,gt_iff_lt,decide_true,decide_false,RR,pp,go_sem,reduceIte,Ra,Rb,Rc,Rd]
   | true=>
    by_cases hxp:x<p
    ·rw [Zci (by rw [hx,decide_eq_false (by omega)];rfl)] at hk
     unfold Zch
     rw [←hk]
     simp (maxSteps:=2000000) +contextual only [YS,Jz,hi,hi1,h,Zu _ hl,Zu _ hl1,hw,hx,hip,hwi,hxp,gt_iff_lt,decide_true,decide_false,RR,pp,go_sem,reduceIte,Ra,Rb,Rc,Rd]
    ·rw [Zet (by rw [hx,decide_eq_true (by omega)];rfl),←hps] at hk
     simp (maxSteps:=2000000) +contextual only [YS,hi,hi1,h,Zu _ hl,Zu _ hl1,hw,hx,hip,hwi,hxp,gt_iff_lt,hsw,decide_true,decide_false,pp,go_sem,reduceIte,Ra,Rb,Rc,Rd]
     exact ⟨j - 1,by omega,i+1,_,_,_,_,by omega,hk,rfl⟩
theorem ZFu {q:Nat} {cap:Option Nat} {k:List Int} (h:Zb H q=some (ZR k)) (hn:k.length≤1000000):call T pr ZaB [slI q k.length cap] ⟨H,e⟩=some (.bool (Zch k),⟨H,e⟩):=by
 have hw:∀ L x,call T pr YX [.int .i64 x,.int .i64 1,.int .i64 99] ⟨L,none⟩=some (.bool (Zn7 x),⟨L,none⟩):=fun L x=>Ye x 1 99
 have h16:=fun L=>Ye (pr:=pr) (H:=L) (e:=none) ((k.length:Nat):Int) 1 6
 apply Wc.eq
 rw [Zr Zu2]
 simp (maxSteps:=2000000) +contextual only [JC,Zo1,pp,go_sem,reduceIte,Ra,Rb,Rc,Rd]
 refine ZL (fun j st=>∃ (i:Nat) (w3 w4:AV),i+j=k.length∧Zqd (Zg9 k i) (k.drop i)=Zqd 0 k ∧
  st=⟨[slI q k.length cap,.bool false,.int .i64 i,w3,w4],⟨H,none⟩⟩) ?_ k.length _ ⟨0,_,_,by omega,rfl,rfl⟩
 rintro j _ ⟨i,w3,w4,hij,hk,rfl⟩
 by_cases hj:j=0
 ·have he:i=k.length:=by omega
  subst he
  rw [Rn] at hk
  unfold Zch
  rw [←hk]
  simp (maxSteps:=2000000) +contextual only [YV,JC,Rh,decide_false,h16,Zqd,Bool.true_and,pp,go_sem,reduceIte,Ra,Rb,Rc,Rd]
 ·have hi:i<k.length:=by omega
  have hl:k[i]?=some k[i]:=Rj hi
  rw [Rm hi] at hk
  have hps:=ZiT k i k[i] hl
  generalize k[i]=x at *
  have hsw:=Zi (show i<9223372036854775807 by omega)
  by_cases h0:i=0
  ·have hp:Zg9 k i=0:=by rw [h0];rfl
   have hi0:¬ (0:Int)<(i:Int):=by omega
   rw [hp] at hk
   cases hx:Zn7 x with
   | false=>
    rw [Zci (by rw [hx];rfl)] at hk
    unfold Zch
    rw [←hk]
    simp (maxSteps:=2000000) +contextual only [YV,JC,hi,h,Zu _ hl,hw,hx,hi0,gt_iff_lt,decide_true,decide_false,RR,pp,go_sem,reduceIte,Ra,Rb,Rc,Rd]
   | true=>
    have hx':(Zn7 x&&decide (0≤x))=true:=by
     rw [hx]
     unfold Zn7 at hx
     simp only [Rs,decide_eq_true_eq] at hx
     simp;omega
    rw [Zet hx',←hps] at hk
    simp (maxSteps:=2000000) +contextual only [YV,hi,h,Zu _ hl,hw,hx,hi0,gt_iff_lt,hsw,decide_true,decide_false,pp,go_sem,reduceIte,Ra,Rb,Rc,Rd]
    exact ⟨j - 1,by omega,i+1,_,_,by omega,hk,rfl⟩
  ·have hip:(0:Int)<(i:Int):=by omega
   have hl1:k[i - 1]?=some k[i - 1]:=Rj (by omega)
   have hp:Zg9 k i=k[i - 1]:=by
    unfold Zg9
    rw [if_neg h0,WQ,hl1];rfl
   have hwi:IntKind.i64.wrap ((i:Int) - 1)=((i - 1:Nat):Int):=by rw [ZN (by omega) (by omega)];omega
   have hi1:i - 1<k.length:=by omega
   rw [hp] at hk
   generalize k[i - 1]=p at *
   cases hx:Zn7 x with
   | false=>
    rw [Zci (by rw [hx];rfl)] at hk
    unfold Zch
    rw [←hk]
    simp (maxSteps:=2000000) +contextual only [YV,JC,hi,h,Zu _ hl,hw,hx,hip,gt_iff_lt,decide_true,decide_false,RR,pp,go_sem,reduceIte,Ra,Rb,Rc,Rd]
   | true=>
    by_cases hxp:x<p
    ·rw [Zci (by rw [hx,decide_eq_false (by omega)];rfl)] at hk
     unfold Zch
     rw [←hk]
     simp (maxSteps:=2000000) +contextual only [YV,JC,hi,hi1,h,Zu _ hl,Zu _ hl1,hw,hx,hip,hwi,hxp,gt_iff_lt,decide_true,decide_false,RR,pp,go_sem,reduceIte,Ra,Rb,Rc,Rd]
    ·rw [Zet (by rw [hx,decide_eq_true (by omega)];rfl),←hps] at hk
     simp (maxSteps:=2000000) +contextual only [YV,hi,hi1,h,Zu _ hl,Zu _ hl1,hw,hx,hip,hwi,hxp,gt_iff_lt,hsw,decide_true,decide_false,pp,go_sem,reduceIte,Ra,Rb,Rc,Rd]
     exact ⟨j - 1,by omega,i+1,_,_,by omega,hk,rfl⟩
structure ZDb (b0 q n:Nat) (cap:Option Nat) (kit:List Int) (g:FuncId) (caps:List AV) (sg:List Int) (L:List Blk):Prop where
 kc:Zb L q=some (ZR kit)
 k0:L[b0]?=some (.cells [slI q n cap] true)
 k1:L[b0+1]?=some (.cells [.int .i64 (-1)] true)
 k2:L[b0+2]?=some (.cells [.fn g [] caps] true)
 k3:L[b0+3]?=some (.cells (ZR sg) true)
 k4:L[b0+4]?=some (.cells [slI (b0+3) n (some n)] true)
 k5:L[b0+5]?=some (.cells [.fn YB [] [.ptr (some (b0,0)),.ptr (some (b0+2,0)),.ptr (some (b0+4,0)),.ptr (some (b0+1,0)),.ptr (some (b0+5,0))]] true)
 len:sg.length=n
 kl:kit.length=n
 ql:q<b0
theorem ZDb.put {b0 q n:Nat} {cap:Option Nat} {kit:List Int} {g:FuncId} {caps:List AV} {sg:List Int} {L:List Blk} (h:ZDb b0 q n cap kit g caps sg L) (sg':List Int) (hl:sg'.length=n):ZDb b0 q n cap kit g caps sg' (L.set (b0+3) (.cells (ZR sg') true)):=by
 have hlt:b0+3<L.length:=(Wl.mp h.k3).1
 have hq:=h.ql
 refine ⟨?_,?_,?_,?_,?_,?_,?_,hl,h.kl,hq⟩
 ·have:=h.kc
  unfold Zb at this ⊢
  rw [Wz (by omega)]
  exact this
 ·rw [Wz (by omega)];exact h.k0
 ·rw [Wz (by omega)];exact h.k1
 ·rw [Wz (by omega)];exact h.k2
 ·rw [WK hlt]
 ·rw [Wz (by omega)];exact h.k4
 ·rw [Wz (by omega)];exact h.k5
def ZH6 (pr:Zt) (b0 q n B:Nat) (cap:Option Nat) (kit:List Int) (g:FuncId) (caps:List AV) (Inv:List (List Int)→List Blk→Prop):Prop :=
 ∀ (L:List Blk) (sg:List Int) (e:Option Nat) (done:List (List Int)),ZDb b0 q n cap kit g caps sg L→Inv done L→done.length<3 ^ n→Wc (call T pr g ([slI (b0+3) n (some n),.int .i64 (dotZ kit sg)]++caps) ⟨L,e⟩)
  (fun v m=>v=.tup []∧∃ L' e',m=⟨L',e'⟩∧ZDb b0 q n cap kit g caps sg L'∧Inv (done++[sg]) L'∧(clean B e=true→clean B e'=true))
theorem Zlz:∀ (kit sg:List Int) (i:Nat) (w s:Int),kit[i]?=some w→sg.length=i→dotZ kit (sg++[s])=dotZ kit sg+w*s
 | [],_,_,_,_,h,_=>by simp at h
 | w0::kit,[],i,w,s,h,hl=>by
  simp only [Wk] at hl
  subst hl
  simp only [List.getElem?_cons_zero,RS] at h
  subst h
  have:dotZ kit []=0:=by cases kit <;> rfl
  simp [dotZ,this]
 | w0::kit,s0::sg,i,w,s,h,hl=>by
  cases i with
  | zero=>simp at hl
  | succ i=>
   have ih:=Zlz kit sg i w s (by simpa using h) (by simpa using hl)
   simp only [List.cons_append,dotZ,ih]
   omega
theorem ZlA (sg:List Int) (i:Nat) (s:Int) (h:i<sg.length):(sg.set i s).take (i+1)=sg.take i++[s]:=by
 rw [RM (by simpa using h),List.take_set_of_le (Rq _)]
 simp
theorem Yk {B:Nat}:∀ {a b:Option Nat},clean B a=true→clean B b=true→clean B (joinEsc a b)=true
 | none,none,_,_=>rfl
 | none,some b,_,h=>h
 | some a,none,h,_=>h
 | some a,some b,h1,h2=>by
  rw [XT,decide_eq_true_eq] at h1 h2
  show clean B (some (min a b))=true
  rw [XT,decide_eq_true_eq]
  omega
theorem Zh4:∀ (kit sg:List Int),(∀ w∈kit,0≤w∧w≤99)→(∀ x∈sg,x = -1∨x=0∨x=1) → -(99*(kit.length:Int))≤dotZ kit sg∧dotZ kit sg≤99*(kit.length:Int)
 | [],sg,_,_=>by simp [dotZ]
 | w::k,[],hk,_=>by
  simp only [dotZ,RN];omega
 | w::k,s::sg,hk,hs=>by
  have ih:=Zh4 k sg (fun x hx=>hk x (Wt _ hx)) (fun x hx=>hs x (Wt _ hx))
  have h1:=hk w Wb
  rcases hs s Wb with rfl | rfl | rfl <;> simp only [dotZ,RN] <;> omega
theorem Zbx:∀ d,(XJ d).length=3 ^ d
 | 0=>rfl
 | d+1=>by
  have ih:=Zbx d
  simp only [XJ,List.flatMap_cons,List.flatMap_nil,RX,WA,ih,Wk,WN]
  omega
set_option maxHeartbeats 1000000 in
theorem ZFv {b0 q n B:Nat} {cap:Option Nat} {kit:List Int} {g:FuncId} {caps:List AV} {Inv:List (List Int)→List Blk→Prop} (hT:ZH6 pr b0 q n B cap kit g caps Inv)
  (hS:∀ L x done,Inv done L→Inv done (L.set (b0+3) x)) (hn:n≤1000000) (hk:∀ w∈kit,0≤w∧w≤99) :
  ∀ (d at':Nat) (sg:List Int) (L:List Blk) (e:Option Nat) (done:List (List Int)),at'+d=n→ZDb b0 q n cap kit g caps sg L→(∀ x∈sg.take at',x = -1∨x=0∨x=1)→Inv done L→done.length+3 ^ d≤3 ^ n →
  Wc (call T pr YB [.int .i64 at',.int .i64 (dotZ kit (sg.take at')),.ptr (some (b0,0)),.ptr (some (b0+2,0)),.ptr (some (b0+4,0)),.ptr (some (b0+1,0)),.ptr (some (b0+5,0))] ⟨L,e⟩)
   (fun v m=>v=.tup []∧∃ L' e' sg',m=⟨L',e'⟩∧ZDb b0 q n cap kit g caps sg' L'∧sg'.take at'=sg.take at'∧Inv (done++(XJ d).map (sg.take at' ++ ·)) L'∧(clean B e=true→clean B e'=true))
 | 0,at',sg,L,e,done,hat,hE,hsg,hI,hdl=>by
  have hat':at'=n:=by omega
  subst hat'
  have htk:sg.take at'=sg:=by rw [←hE.len,Wi]
  rw [htk]
  rw [Zr ZaO]
  simp (maxSteps:=2000000) +contextual only [Z9,KJ,Ze hE.k0,Ze hE.k2,Ze hE.k4,decide_true,pp,go_sem,reduceIte,Ra,Rb,Rc,Rd]
  refine (hT L sg none done hE hI (by have:3 ^ 0=1:=rfl;omega)).mono ?_
  rintro v m ⟨rfl,L',e',rfl,hE',hI',hcl⟩
  simp (maxSteps:=2000000) +contextual only [Z9,finish,pp,go_sem,reduceIte,Ra,Rb,Rc,Rd]
  have hm:(XJ 0).map (sg ++ ·)=[sg]:=by simp [XJ]
  rw [hm]
  have hl':sg.take at'=sg:=htk
  exact ⟨L',joinEsc e e',sg,rfl,hE',hl',hI',fun h=>Yk h (hcl rfl)⟩
 | d+1,at',sg,L,e,done,hat,hE,hsg,hI,hdl=>by
  rw [Zr ZaO]
  have hne:¬ ((at':Nat):Int)=((n:Nat):Int):=by omega
  simp (maxSteps:=2000000) +contextual only [Z9,KJ,Ze hE.k0,Ze hE.k1,hne,decide_false,pp,go_sem,reduceIte,Ra,Rb,Rc,Rd]
  refine ZL (fun k st=>∃ (L':List Blk) (e1:Option Nat) (sg':List Int) (w9:AV),k≤3∧ZDb b0 q n cap kit g caps sg' L'∧sg'.take at'=sg.take at'∧Inv (done++(([-1,0,1]:List Int).take (3 - k)).flatMap fun s=>(XJ d).map fun x=>sg.take at'++s::x) L'∧clean B e1=true ∧
   st=⟨[.int .i64 at',.int .i64 (dotZ kit (sg.take at')),.ptr (some (b0,0)),.ptr (some (b0+2,0)),.ptr (some (b0+4,0)),.ptr (some (b0+1,0)),.ptr (some (b0+5,0)),.int .i64 (2 - (k:Int)),.bool false,w9],⟨L',e1⟩⟩) ?_ 3 _ ⟨L,none,sg,_,Rq _,hE,rfl,by simpa using hI,rfl,rfl⟩
  rintro k _ ⟨L',e1,sg',w9,hk3,hE',htk,hI',hcl,rfl⟩
  by_cases hk0:k=0
  ·subst hk0
   have hc:¬ (2 - ((0:Nat):Int)≤1):=by omega
   simp (maxSteps:=2000000) +contextual only [JB,Z9,finish,hc,decide_false,pp,go_sem,reduceIte,Ra,Rb,Rc,Rd]
   have hall:(([-1,0,1]:List Int).take (3 - 0)).flatMap (fun s=>(XJ d).map fun x=>sg.take at'++s::x)=(XJ (d+1)).map (sg.take at' ++ ·):=by
    simp [XJ]
    rfl
   rw [hall] at hI'
   exact ⟨L',joinEsc e e1,sg',rfl,hE',htk,hI',fun h=>Yk h hcl⟩
  ·have hc:2 - (k:Int)≤1:=by omega
   have hi:at'<n:=by omega
   obtain ⟨w,hw⟩:∃ w,kit[at']?=some w:=⟨kit[at']'(by rw [hE.kl];exact hi),Rj _⟩
   have hwk:=hk w (WJ hw)
   have hsl:sg'.length=n:=hE'.len
   have hsv:2 - (k:Int) = -1∨2 - (k:Int)=0∨2 - (k:Int)=1:=by omega
   have hF:(([-1,0,1]:List Int).take (3 - (k - 1))).flatMap (fun s=>(XJ d).map fun x=>sg.take at'++s::x)=(([-1,0,1]:List Int).take (3 - k)).flatMap (fun s=>(XJ d).map fun x=>sg.take at'++s::x)++(XJ d).map fun x=>sg.take at'++(2 - (k:Int))::x:=by
    have:k=1∨k=2∨k=3:=by omega
    rcases this with rfl | rfl | rfl <;> simp
   have hnx:2 - (k:Int)+1=2 - ((k - 1:Nat):Int):=by omega
   generalize hs:2 - (k:Int)=s at *
   have hls:=ZlA sg' at' s (by omega)
   rw [htk] at hls
   have hd:=Zlz kit (sg.take at') at' w s hw (by rw [Wm,hE.len];omega)
   rw [←hls] at hd
   have hb:=Zh4 kit (sg.take at') hk hsg
   rw [hE.kl] at hb
   have hws : -99≤w*s∧w*s≤99:=by rcases hsv with h | h | h <;> rw [h] <;> omega
   have w1:IntKind.i64.wrap (s*w)=w*s:=by rw [Int.mul_comm];exact ZN (by omega) (by omega)
   have w2:IntKind.i64.wrap (dotZ kit (sg.take at')+w*s)=dotZ kit ((sg'.set at' s).take (at'+1)):=by rw [hd];exact ZN (by omega) (by omega)
   have w3:=Zi (show at'<9223372036854775807 by omega)
   have w4:IntKind.i64.wrap (s+1)=2 - ((k - 1:Nat):Int):=by rw [←hnx];exact ZN (by omega) (by omega)
   have hse:=Zk9 (X:=sg') (i:=at') (a:=s) (by omega)
   have hle:at'+1≤(ZR sg').length:=by rw [ZR,WA];omega
   have E2:=hE'.put (sg'.set at' s) (by rw [List.length_set];exact hsl)
   simp (maxSteps:=2000000) +contextual only [JB,Ze hE'.k0,Ze hE'.k1,Ze hE'.k4,Ze hE'.k5,Ze hE'.k3,hE'.kc,hE'.k3,hc,hi,hse,hle,Ze E2.k0,Ze E2.k5,E2.kc,Zu _ hw,w1,w2,w3,decide_true,pp,go_sem,reduceIte,Ra,Rb,Rc,Rd]
   refine (ZFv hT hS hn hk d (at'+1) (sg'.set at' s) _ e1 _ (by omega) E2 ?_ (hS _ _ _ hI') ?_).mono ?_
   ·rw [hls]
    intro x hx
    rcases List.mem_append.mp hx with h | h
    ·exact hsg x h
    ·simp only [List.mem_singleton] at h
     rw [h]
     exact hsv
   ·have hfl:∀ l:List Int,(l.flatMap fun s=>(XJ d).map fun x=>sg.take at'++s::x).length=l.length*3 ^ d:=by
     intro l
     induction l with
     | nil=>simp
     | cons a l ih=>
      simp only [List.flatMap_cons,RX,WA,Zbx,ih,RN,Nat.add_mul,Rx]
      omega
    rw [RX,hfl,Wm]
    have:min (3 - k) ([-1,0,1]:List Int).length≤2:=by simp;omega
    have h2:=Nat.mul_le_mul_right (3 ^ d) this
    rw [WN] at hdl
    omega
   ·rintro v m ⟨rfl,L3,e3,sg3,rfl,E3,htk3,hI3,hcl3⟩
    simp (maxSteps:=2000000) +contextual only [w4,pp,go_sem,reduceIte,Ra,Rb,Rc,Rd]
    have htk3':sg3.take at'=sg.take at':=by
     have:=congrArg (List.take at') htk3
     rw [List.take_take,List.take_take,Nat.min_eq_left (by omega)] at this
     rw [this,List.take_set_of_le (Rq _)]
     exact htk
    rw [hls] at hI3
    have hI4:Inv (done++(([-1,0,1]:List Int).take (3 - (k - 1))).flatMap fun s=>(XJ d).map fun x=>sg.take at'++s::x) L3:=by
     rw [hF]
     rw [Rk] at hI3
     have e5:(XJ d).map (fun x=>sg.take at'++[s]++x)=(XJ d).map fun x=>sg.take at'++s::x:=by
      congr 1
      funext x
      simp
     rw [←e5]
     exact hI3
    exact ⟨k - 1,by omega,L3,e3,sg3,_,by omega,E3,htk3',hI4,hcl3 hcl,rfl⟩
theorem ZDb.of {b0 q n:Nat} {cap:Option Nat} {kit:List Int} {g:FuncId} {caps:List AV} {sg:List Int} {L L':List Blk} (h:ZDb b0 q n cap kit g caps sg L) (hL:∀ i,i=q∨(b0≤i∧i≤b0+5)→L'[i]?=L[i]?):ZDb b0 q n cap kit g caps sg L':=by
 refine ⟨?_,?_,?_,?_,?_,?_,?_,h.len,h.kl,h.ql⟩
 ·have:=h.kc
  unfold Zb at this ⊢
  rw [hL q (.inl rfl)]
  exact this
 ·rw [hL _ (.inr ⟨by omega,by omega⟩)];exact h.k0
 ·rw [hL _ (.inr ⟨by omega,by omega⟩)];exact h.k1
 ·rw [hL _ (.inr ⟨by omega,by omega⟩)];exact h.k2
 ·rw [hL _ (.inr ⟨by omega,by omega⟩)];exact h.k3
 ·rw [hL _ (.inr ⟨by omega,by omega⟩)];exact h.k4
 ·rw [hL _ (.inr ⟨by omega,by omega⟩)];exact h.k5
theorem Zj {B k:Nat}:∀ {a:Option Nat},clean B a=true→B≤k→clean B (Z8 a k)=true
 | none,_,h=>by rw [Zj9,XT];exact decide_eq_true h
 | some a,h1,h=>by
  rw [XT,decide_eq_true_eq] at h1
  rw [Zka,XT]
  exact decide_eq_true (by omega)
theorem Zk {B:Nat} {a b:Option Nat} (c:Prop) [Decidable c] (h1:clean B a=true) (h2:clean B b=true):clean B (if c then a else b)=true:=by
 split
 ·exact h1
 ·exact h2
theorem ZwX {L:List Blk} {q B:Nat} {cap:Option Nat} {kit:List Int} {g:FuncId} {caps:List AV} {Inv:List (List Int)→List Blk→Prop} (hq:Zb L q=some (ZR kit)) (hB:B≤L.length) (hn:kit.length≤1000000) (hk:∀ w∈kit,0≤w∧w≤99) (hT:ZH6 pr L.length q kit.length B cap kit g caps Inv)
  (hS:∀ L' x done,Inv done L'→Inv done (L'.set (L.length+3) x)) (hI:∀ G,Inv [] (L++G)) (e:Option Nat) :
  Wc (call T pr KU [slI q kit.length cap,.int .i64 (-1),.fn g [] caps] ⟨L,e⟩) (fun v m=>v=.tup []∧∃ L' e',m=⟨L',e'⟩∧Inv (XJ kit.length) L'∧(clean B e=true→clean B e'=true)):=by
 have hql:q<L.length:=ZW hq
 rw [Zr ZkX]
 simp (maxSteps:=2000000) +contextual only [JX,Zgd,Zc,Zmh,pp,go_sem,reduceIte,Ra,Rb,Rc,Rd]
 refine ⟨fun _ => ?_,fun h=>absurd (show ((kit.length:Nat):Int)*((8:Nat):Int)≤((maxBytes:Nat):Int) by unfold maxBytes;omega) h⟩
 have hE:ZDb L.length q kit.length cap kit g caps (Rw kit.length 0) (L++[.cells [.slice (some (q,0)) 1 kit.length cap] true,.cells [.int .i64 (-1)] true,.cells [.fn g [] caps] true,.cells (ZR (Rw kit.length 0)) true,.cells [.slice (some (L.length+3,0)) 1 kit.length (some kit.length)] true,
   .cells [.fn YB [] [.ptr (some (L.length,0)),.ptr (some (L.length+2,0)),.ptr (some (L.length+4,0)),.ptr (some (L.length+1,0)),.ptr (some (L.length+5,0))]] true]):=by
  refine ⟨Za hq _,?_,?_,?_,?_,?_,?_,List.length_replicate,rfl,hql⟩
  ·rw [Ry (by omega)];simp
  all_goals (rw [Ry (by omega)];simp)
 have hz:dotZ kit ((Rw kit.length (0:Int)).take 0)=0:=by cases kit <;> rfl
 have hw:=fun e1=>ZFv (B:=B) hT hS hn hk kit.length 0 (Rw kit.length 0) _ e1 [] (by omega) hE (by simp) (hI _) (by simp)
 have h0:((0:Nat):Int)=0:=rfl
 rw [hz,h0] at hw
 refine (hw _).mono ?_
 rintro v m ⟨rfl,L',e',sg',rfl,hE',_,hI',hcl⟩
 simp (maxSteps:=2000000) +contextual only [JX,finish,pp,go_sem,reduceIte,Ra,Rb,Rc,Rd]
 have hm:(XJ kit.length).map ((Rw kit.length (0:Int)).take 0 ++ ·)=XJ kit.length:=by simp
 rw [hm] at hI'
 refine ⟨L',joinEsc e e',rfl,hI',fun h=>Yk h (hcl ?_)⟩
 have c4:∀ (c:Prop) [Decidable c],clean B (if c then none else Z8 none (L.length+4))=true:=fun c _=>Zk c rfl (Zj rfl (by omega))
 exact Zk _ (c4 _) (Zj (c4 _) (by omega))
def ZaX (kit:List Int) (done:List (List Int)):List Int:=(done.map (dotZ kit)).filter fun x=>decide (0<x)
def ZJY (q b0 o:Nat) (kit:List Int) (H:List Blk) (done:List (List Int)) (L:List Blk):Prop :=
 ZT H L∧b0+6≤L.length+6∧∃ b cc,L[o]?=some (.cells [slI b (ZaX kit done).length cc] true)∧L[b]?=some (.cells (ZR (ZaX kit done)) true)∧(cc=some 0→(ZaX kit done).length=0)∧H.length≤b∧b≠q∧b≠o∧(b<b0∨b0+6≤b)
theorem ZGV (zs:List Int) (z:Int):ZR zs++[.int .i64 z]=ZR (zs++[z]):=by simp [ZR]
theorem ZtX {q o b0 n:Nat} {cap:Option Nat} {kit:List Int} (ho:H.length≤o) (ho0:o<b0) (hqH:q<H.length) (hn:n≤6) (hk:∀ w∈kit,0≤w∧w≤99):ZH6 pr b0 q n H.length cap kit Zay [.ptr (some (o,0))] (ZJY q b0 o kit H):=by
 intro L sg e done hE hI hdn
 obtain ⟨hL,hb6,b,cc,h1,h2,h3,h4,h5,h6,h7⟩:=hI
 show Wc (call T pr Zay [slI (b0+3) n (some n),.int .i64 (dotZ kit sg),.ptr (some (o,0))] ⟨L,e⟩) _
 have hm:(done++[sg]).map (dotZ kit)=done.map (dotZ kit)++[dotZ kit sg]:=by simp
 rw [Zr ZsS]
 by_cases hs:0<dotZ kit sg
 ·have hout:ZaX kit (done++[sg])=ZaX kit done++[dotZ kit sg]:=by
   unfold ZaX
   rw [hm,WR]
   simp [hs]
  simp (maxSteps:=2000000) +contextual only [K2,Zgi,Zc,gt_iff_lt,hs,Ze h1,decide_true,pp,go_sem,reduceIte,Ra,Rb,Rc,Rd]
  have hp3:3 ^ n≤3 ^ 6:=RP (by omega) hn
  have h36:(3:Nat) ^ 6=729:=by decide
  have holen:(ZaX kit done).length≤done.length:=by
   unfold ZaX
   have:=WF (fun x:Int=>decide (0<x)) (done.map (dotZ kit))
   simpa using this
  refine Zi3 (k:=1) (new:=[.int .i64 (dotZ kit sg)]) (ZY h2 _) (Qx _ 1 1 _ _ L.length (by simp +contextual only [go_sem,reduceIte,Ra,Rb,Rc,Rd]) rfl) (by simp) rfl (by unfold maxBytes;omega) h3 ?_
  intro L2 e1 e2 e3 e4
  rw [ZGV,←hout] at e3
  have hol:o<L.length:=(Wl.mp h1).1
  have ho2:L2[o]?=some (.cells [slI b (ZaX kit done).length cc] true):=by
   rw [e2 o (by omega) (by simp;omega),Ws hol]
   exact h1
  simp (maxSteps:=2000000) +contextual only [K2,finish,Ze ho2,ho2,pp,go_sem,reduceIte,Ra,Rb,Rc,Rd]
  have hl2:L2.length=L.length+2:=by rw [e1];simp
  have e3':L2[L.length+1]?=some (.cells (ZR (ZaX kit (done++[sg]))) true):=by simpa using e3
  have hb5:b0+5<L.length:=(Wl.mp hE.k5).1
  have hlen:(ZaX kit (done++[sg])).length=(ZaX kit done).length+1:=by rw [hout];simp
  refine ⟨_,joinEsc e (if AV.under (o+1) (AV.slice (some (L.length+1,0)) 1 ((ZaX kit done).length+1) none)=true then none else Z8 none o),rfl,hE.of ?_,?_,fun h=>Yk h (Zk _ rfl (Zj rfl ho))⟩
  ·intro i hi
   have hiq:i<L.length:=by
    rcases hi with rfl | ⟨_,h⟩
    ·exact ZW hE.kc
    ·omega
   have hio:o≠i:=by
    rcases hi with rfl | ⟨h,_⟩ <;> omega
   have hib:i≠b:=by
    rcases hi with rfl | ⟨h8,h9⟩
    ·exact fun h=>h5 h.symm
    ·rcases h7 with h | h <;> omega
   rw [Wz hio,e2 i hib (by simp;omega),Ws hiq]
  ·unfold ZJY
   rw [hlen]
   refine ⟨(e4 _ (hL.more _) h4).put ho _,by rw [List.length_set];omega,L.length+1,none,by rw [WK (by omega)],by rw [Wz (by omega)];exact e3',by simp,by have:=hL.le;omega,by have:=ZW hE.kc;omega,by omega,.inr (by omega)⟩
 ·have hout:ZaX kit (done++[sg])=ZaX kit done:=by
   unfold ZaX
   rw [hm,WR]
   simp [hs]
  simp (maxSteps:=2000000) +contextual only [K2,Zgi,finish,gt_iff_lt,hs,decide_false,pp,go_sem,reduceIte,Ra,Rb,Rc,Rd]
  refine ⟨L,_,rfl,hE,?_,fun h=>h⟩
  unfold ZJY
  rw [hout]
  exact ⟨hL,hb6,b,cc,h1,h2,h3,h4,h5,h6,h7⟩
def Zb9 (kit:List Int):List Int:=Lib.compact ((ZaX kit (XJ kit.length)).mergeSort fun x y=>decide (x≤y))
theorem ZGW {kit:List Int} (h1:kit≠[]) (hk:∀ w∈kit,1≤w∧w≤99):0<(ZaX kit (XJ kit.length)).length:=by
 have hall:∀ (k:List Int),(∀ w∈k,1≤w∧w≤99)→k≠[]→0<dotZ k (Rw k.length 1):=by
  intro k
  induction k with
  | nil=>intro _ h;exact absurd rfl h
  | cons w k ih=>
   intro hk _
   have hw:=hk w Wb
   simp only [RN,List.replicate_succ,dotZ,Int.mul_one]
   cases k with
   | nil=>simp [dotZ];omega
   | cons w' k'=>
    have:=ih (fun x hx=>hk x (Wt _ hx)) (by simp)
    omega
 have hmem:∀ n,Rw n (1:Int)∈XJ n:=by
  intro n
  induction n with
  | zero=>simp [XJ]
  | succ n ih=>
   simp only [XJ,WU,Wd]
   exact ⟨1,by simp,_,ih,rfl⟩
 have:dotZ kit (Rw kit.length 1)∈ZaX kit (XJ kit.length):=by
  unfold ZaX
  rw [Wr]
  exact ⟨Wd.mpr ⟨_,hmem _,rfl⟩,decide_eq_true (hall kit hk h1)⟩
 exact List.length_pos_of_mem this
theorem ZCS (hl:ZtQ pr) {q:Nat} {cap:Option Nat} {kit:List Int} (h:Zb H q=some (ZR kit)) (h0:kit≠[]) (hn:kit.length≤6) (hk:∀ w∈kit,1≤w∧w≤99):Wc (call T pr ZfM [slI q kit.length cap,.int .i64 (-1)] ⟨H,e⟩)
  (fun v m=>∃ X,v=slI H.length (Zb9 kit).length none∧m=⟨H++[.cells (ZR (Zb9 kit++X)) true],e⟩):=by
 have hql:q<H.length:=ZW h
 have hk0:∀ w∈kit,0≤w∧w≤99:=fun w hw=>by have:=hk w hw;omega
 have hpos:=ZGW h0 hk
 have hle:(ZaX kit (XJ kit.length)).length≤729:=by
  unfold ZaX
  have:=WF (fun x:Int=>decide (0<x)) ((XJ kit.length).map (dotZ kit))
  rw [WA,Zbx] at this
  have hp3:3 ^ kit.length≤3 ^ 6:=RP (by omega) hn
  have h36:(3:Nat) ^ 6=729:=by decide
  omega
 rw [Zr Zx7]
 simp (maxSteps:=2000000) +contextual only [Zdb,ZoX,Zc,pp,go_sem,reduceIte,Ra,Rb,Rc,Rd]
 have hb0:(H++[Blk.cells [] true,.cells [AV.slice (some (H.length,0)) 1 0 (some 0)] true]).length=H.length+2:=by simp
 refine (ZwX (B:=H.length) (Inv:=ZJY q (H++[Blk.cells [] true,.cells [AV.slice (some (H.length,0)) 1 0 (some 0)] true]).length (H.length+1) kit H) (Za h _) (by rw [hb0];omega) (by omega) hk0 (ZtX (by omega) (by rw [hb0];omega) hql hn hk0) ?_ ?_ _).mono ?_
 ·rintro L' x done ⟨hL,g0,b,cc,g1,g2,g3,g4,g5,g6,g7⟩
  rw [hb0] at g7 ⊢
  exact ⟨hL.put (by omega) _,by rw [List.length_set];rw [hb0] at g0;omega,b,cc,by rw [Wz (by omega)];exact g1,by rw [Wz (by omega)];exact g2,g3,g4,g5,g6,g7⟩
 ·intro G
  rw [hb0]
  refine ⟨⟨_,Rk _ _ _⟩,by simp,H.length,some 0,?_,?_,fun _=>rfl,Rq _,by omega,by omega,.inl (by omega)⟩
  ·rw [Rk,Ry (by omega)];simp [ZaX]
  ·rw [Rk,Ry (by omega)];simp [ZaX]
 ·rintro v m ⟨rfl,L',e',rfl,⟨hL,_,b,cc,g1,g2,g3,g4,g5,g6,g7⟩,hcl⟩
  have hcl':clean H.length e'=true:=hcl (Zk _ rfl (Zj rfl (by omega)))
  generalize hzs:ZaX kit (XJ kit.length)=zs at *
  have hsort:=hl.sor zs b cc L' e' g2 hpos (by omega)
  have hlm:(zs.mergeSort fun x y=>decide (x≤y)).length=zs.length:=List.length_mergeSort _
  have hbl:b<L'.length:=(Wl.mp g2).1
  have hcomp:=hl.com (zs.mergeSort fun x y=>decide (x≤y)) b cc (L'.set b (.cells ((zs.mergeSort fun x y=>decide (x≤y)).map (.int .i64)) true)) e' (by rw [WK hbl]) (by omega) (by omega)
  rw [hlm,List.set_set] at hcomp
  have ho:(L'.set b (.cells ((zs.mergeSort fun x y=>decide (x≤y)).map (.int .i64)) true))[H.length+1]?=some (.cells [slI b zs.length cc] true):=by
   rw [Wz (by omega)];exact g1
  have hf:∀ e0,finish 2 H.length e0 (slX b (Lib.compact (zs.mergeSort fun x y=>decide (x≤y))).length none) ⟨L'.set b (.cells ((Lib.compact (zs.mergeSort fun x y=>decide (x≤y))++Rw (zs.length - (Lib.compact (zs.mergeSort fun x y=>decide (x≤y))).length) 0).map (.int .i64)) true),e'⟩=_:=fun e0=>
   ZFl (hL.put g4 _) e0 e' hcl' g4 (by rw [WK hbl]) (K9 _ _)
  simp (maxSteps:=2000000) +contextual only [Zdb,Ze g1,hsort,Ze ho,hcomp,hf,pp,go_sem,reduceIte,Ra,Rb,Rc,Rd]
  refine ⟨Rw (zs.length - (Lib.compact (zs.mergeSort fun x y=>decide (x≤y))).length) 0,?_,?_⟩
  ·unfold Zb9
   rw [hzs]
  ·unfold Zb9
   rw [hzs]
theorem ZAt:∀ (p:Int) (k:List Int),Zqd p k=true→∀ w∈k,1≤w∧w≤99
 | _,[],_,w,h=>by simp at h
 | p,x::k,hk,w,h=>by
  unfold Zqd at hk
  simp only [Rs] at hk
  rcases List.mem_cons.mp h with rfl | h
  ·have:=hk.1
   unfold Zn7 at this
   simpa [Rs,decide_eq_true_eq] using this
  ·exact ZAt x k hk.2.2 w h
theorem Zfn {k:List Int} (h:Zch k=true):k≠[]∧k.length≤6∧∀ w∈k,1≤w∧w≤99:=by
 unfold Zch at h
 simp only [Rs,decide_eq_true_eq] at h
 refine ⟨fun e => ?_,by omega,ZAt 0 k h.1⟩
 subst e
 simp at h
def Zg4 (k:List Int):Int:=ZCR 0 (Zb9 k)
theorem Zqe {kit:List Int} (hn:kit.length≤6) (hk:∀ w∈kit,0≤w∧w≤99):∀ x∈Zb9 kit,0<x∧x≤594:=by
 intro x hx
 unfold Zb9 at hx
 rw [Zqc,List.mem_mergeSort] at hx
 unfold ZaX at hx
 rw [Wr,decide_eq_true_eq] at hx
 obtain ⟨h1,h2⟩:=hx
 obtain ⟨l,hl,rfl⟩:=Wd.mp h1
 have:=Zh4 kit l hk (ZiS _ l hl).2
 omega
theorem ZwY (zs:List Int):(Lib.compact zs).length≤zs.length:=by
 unfold Lib.compact Lib.compactUpTo
 rw [WA]
 have:=WF (Lib.keeps zs.toArray) (WC zs.length)
 simpa using this
theorem ZCT {kit:List Int} (hn:kit.length≤6):(Zb9 kit).length≤729:=by
 unfold Zb9
 refine WE (ZwY _) ?_
 rw [List.length_mergeSort]
 unfold ZaX
 have:=WF (fun x:Int=>decide (0<x)) ((XJ kit.length).map (dotZ kit))
 rw [WA,Zbx] at this
 have hp3:3 ^ kit.length≤3 ^ 6:=RP (by omega) hn
 have h36:(3:Nat) ^ 6=729:=by decide
 omega
theorem ZwZ (hl:ZtQ pr) {q:Nat} {cap:Option Nat} {k:List Int} (h:Zb H q=some (ZR k)) (hn:k.length≤1000000):call T pr ZdN [slI q k.length cap,.bool true] ⟨H,e⟩=some (.tup [.int .i64 (if Zch k=true then Zg4 k else 0),.bool (Zch k)],⟨H,e⟩):=by
 have h1:∀ L,Zb L q=some (ZR k)→call T pr Zau [slI q k.length cap] ⟨L,none⟩=some (.bool (Zch k),⟨L,none⟩):=fun L hL=>ZFt hL hn
 apply Wc.eq
 rw [Zr ZuO]
 cases hk:Zch k with
 | false=>
  rw [hk] at h1
  simp (maxSteps:=2000000) +contextual only [KE,Zho,h,h1,RZ,if_false,pp,go_sem,reduceIte,Ra,Rb,Rc,Rd]
 | true=>
  rw [hk] at h1
  obtain ⟨k0,k6,kw⟩:=Zfn hk
  simp (maxSteps:=2000000) +contextual only [KE,Zho,h,h1,if_true,pp,go_sem,reduceIte,Ra,Rb,Rc,Rd]
  refine (ZCS hl h k0 k6 kw).mono ?_
  rintro v m ⟨X,rfl,rfl⟩
  have hwl:=ZCT k6
  have hws:=Zqe k6 fun w hw=>by have:=kw w hw;omega
  unfold Zg4
  generalize Zb9 k=W at *
  simp (maxSteps:=2000000) +contextual only [pp,go_sem,reduceIte,Ra,Rb,Rc,Rd]
  refine ZL (fun j st=>∃ (i:Nat) (r:Int) (w6 w12 w13:AV),i+j=W.length∧0≤r∧r≤594∧ZCR r (W.drop i)=ZCR 0 W ∧
   st=⟨[slI q k.length cap,.bool true,.int .i64 0,.bool false,.int .i64 (-1),.int .i64 r,w6,.bool false,.bool true,slI H.length W.length none,.int .i64 W.length,.int .i64 i,w12,w13],⟨H++[.cells (ZR (W++X)) true],none⟩⟩) ?_ W.length _
   ⟨0,0,_,_,_,by omega,by omega,by omega,by rw [Rl],rfl⟩
  rintro j _ ⟨i,r,w6,w12,w13,hij,hr0,hr1,hrun,rfl⟩
  by_cases hj:j=0
  ·have he:i=W.length:=by omega
   subst he
   rw [Rn] at hrun
   simp only [ZCR] at hrun
   rw [←hrun]
   simp (maxSteps:=2000000) +contextual only [ZbH,KE,Rh,decide_false,pp,go_sem,reduceIte,Ra,Rb,Rc,Rd]
  ·have hi:i<W.length:=by omega
   have hl:(W++X)[i]?=some W[i]:=by rw [Ws hi,Rj hi]
   have hwi:=hws W[i] (WB hi)
   rw [Rm hi] at hrun
   generalize W[i]=x at *
   have w1:IntKind.i64.wrap (r+1)=r+1:=ZN (by omega) (by omega)
   have hsw:=Zi (show i<9223372036854775807 by omega)
   by_cases hx:x=r+1
   ·simp only [ZCR,if_pos hx] at hrun
    simp (maxSteps:=2000000) +contextual only [ZbH,hi,Zu _ hl,w1,hx,hsw,decide_true,pp,go_sem,reduceIte,Ra,Rb,Rc,Rd]
    exact ⟨j - 1,by omega,i+1,_,_,_,_,by omega,by omega,by omega,by rw [←hx];exact hrun,rfl⟩
   ·simp only [ZCR,if_neg hx] at hrun
    rw [←hrun]
    simp (maxSteps:=2000000) +contextual only [ZbH,KE,hi,Zu _ hl,w1,hx,decide_true,decide_false,pp,go_sem,reduceIte,Ra,Rb,Rc,Rd]
theorem ZCU (l:List Int) (x:Int):usedZ (l++[x])=usedZ l+if x=0 then 0 else 1:=by
 unfold usedZ
 rw [WR,RX]
 by_cases h:x=0 <;> simp [h]
theorem Zsq {q:Nat} {cap:Option Nat} {k:List Int} (h:Zb H q=some (ZR k)) (hn:k.length≤1000000):call T pr Zbd [slI q k.length cap] ⟨H,e⟩=some (.int .i64 (usedZ k),⟨H,e⟩):=by
 apply Wc.eq
 rw [Zr ZBb]
 simp (maxSteps:=2000000) +contextual only [Ze2,ZrF,pp,go_sem,reduceIte,Ra,Rb,Rc,Rd]
 refine ZL (fun j st=>∃ (i:Nat) (w3 w7 w8:AV),i+j=k.length∧st=⟨[slI q k.length cap,.int .i64 0,.int .i64 (usedZ (k.take i)),w3,slI q k.length cap,.int .i64 k.length,.int .i64 i,w7,w8],⟨H,none⟩⟩) ?_ k.length _ ⟨0,_,_,_,by omega,rfl⟩
 rintro j _ ⟨i,w3,w7,w8,hij,rfl⟩
 by_cases hj:j=0
 ·have he:i=k.length:=by omega
  subst he
  rw [Wi]
  simp (maxSteps:=2000000) +contextual only [Zd9,Ze2,Rh,decide_false,pp,go_sem,reduceIte,Ra,Rb,Rc,Rd]
 ·have hi:i<k.length:=by omega
  have hl:k[i]?=some k[i]:=Rj hi
  have hs:=ZCU (k.take i) k[i]
  rw [←RM hi] at hs
  have hb:=ZtW (k.take i)
  rw [Wm] at hb
  generalize k[i]=x at *
  have hsw:=Zi (show i<9223372036854775807 by omega)
  by_cases hx:x=0
  ·rw [if_pos hx,Int.add_zero] at hs
   simp (maxSteps:=2000000) +contextual only [Zd9,hi,h,Zu _ hl,hx,hsw,decide_true,decide_false,pp,go_sem,reduceIte,Ra,Rb,Rc,Rd]
   exact ⟨j - 1,by omega,i+1,_,_,_,by omega,by rw [hs]⟩
  ·rw [if_neg hx] at hs
   have w1:IntKind.i64.wrap (usedZ (k.take i)+1)=usedZ (k.take (i+1)):=by rw [hs];exact ZN (by omega) (by omega)
   simp (maxSteps:=2000000) +contextual only [Zd9,hi,h,Zu _ hl,hx,w1,hsw,decide_true,decide_false,pp,go_sem,reduceIte,Ra,Rb,Rc,Rd]
   exact ⟨j - 1,by omega,i+1,_,_,_,by omega,rfl⟩
def JH (kit:List Int) (n:Int) (done:List (List Int)):List Int:=done.foldl (ZdD kit n) []
theorem ZCV (kit:List Int) (n:Int) (done:List (List Int)) (sg:List Int):JH kit n (done++[sg])=ZdD kit n (JH kit n done) sg:=by
 unfold JH
 rw [List.foldl_append];rfl
theorem ZFw (kit:List Int) (n:Int) (m:Nat):∀ (done:List (List Int)),(∀ l∈done,l.length=m)→(JH kit n done).length=0∨(JH kit n done).length=m:=by
 have key:∀ (done:List (List Int)) (b:List Int),(∀ l∈done,l.length=m)→(b.length=0∨b.length=m)→(done.foldl (ZdD kit n) b).length=0∨(done.foldl (ZdD kit n) b).length=m:=by
  intro done
  induction done with
  | nil=>intro b _ hb;exact hb
  | cons l done ih=>
   intro b hl hb
   refine ih _ (fun x hx=>hl x (Wt _ hx)) ?_
   unfold ZdD
   split
   ·exact .inr (hl l Wb)
   ·exact hb
 exact fun done hl=>key done [] hl (.inl rfl)
def ZIM (q b0 on o m:Nat) (kit:List Int) (n:Int) (H:List Blk) (done:List (List Int)) (L:List Blk):Prop :=
 ZT H L∧(∀ l∈done,l.length=m)∧∃ b cc,L[o]?=some (.cells [slI b (JH kit n done).length cc] true)∧Zb L b=some (ZR (JH kit n done))∧L[on]?=some (.cells [.int .i64 n] true)∧H.length≤b∧b≠o∧(b<b0∨b0+6≤b)
theorem ZH7 {q:Nat} {cap:Option Nat} {k:List Int} (h:Zb H q=some (ZR k)) (hn:k.length≤1000000):call T pr YA [slI q k.length cap] ⟨H,e⟩=some (slI H.length k.length none,⟨H++[.cells (ZR k) true],e⟩):=by
 have ha:=fun L b e' (hb:L[b]?=some (.cells [] true)) hq=>ZcU (e:=e') (L:=L) (b:=b) (q:=q) (n:=k.length) (sz:=1) (bytes:=8) (c:=cap) (cs:=ZR k) hb hq (by simp [ZR]) (by unfold maxBytes;omega)
 have hf:∀ (B:Blk) (e0:Option Nat),finish 2 H.length e0 (slI (H.length+1) k.length none) ⟨H++[B,.cells (ZR k) true],none⟩=some (slI H.length k.length none,⟨H++[.cells (ZR k) true],e0⟩) :=
  fun B e0=>ZcI e0 rfl (K9 _ _)
 rw [Zh Zgq]
 simp +contextual only [Xl,ZaI,Zle,Zc,ha,Za h,ZiJ,ZpE,hf,go_sem,reduceIte,Ra,Rb,Rc,Rd]
theorem Zqf {q:Nat} {cap:Option Nat} {k:List Int} (h:Zb H q=some (ZR k)) (hn:k.length≤1000000):call T pr Zaw [slI q k.length cap] ⟨H,e⟩=some (slI H.length k.length none,⟨H++[.cells (ZR k) true],e⟩):=by
 have ha:=fun L b e' (hb:L[b]?=some (.cells [] true)) hq=>ZcU (e:=e') (L:=L) (b:=b) (q:=q) (n:=k.length) (sz:=1) (bytes:=8) (c:=cap) (cs:=ZR k) hb hq (by simp [ZR]) (by unfold maxBytes;omega)
 have hf:∀ (B:Blk) (e0:Option Nat),finish 2 H.length e0 (slI (H.length+1) k.length none) ⟨H++[B,.cells (ZR k) true],none⟩=some (slI H.length k.length none,⟨H++[.cells (ZR k) true],e0⟩) :=
  fun B e0=>ZcI e0 rfl (K9 _ _)
 rw [Zh ZDJ]
 simp +contextual only [ZkH,ZuA,Zle,Zc,ha,Za h,ZiJ,ZpE,hf,go_sem,reduceIte,Ra,Rb,Rc,Rd]
def ZlB (kit:List Int) (n:Int):List Int:=JH kit n (XJ kit.length)
def Zw0 (M:Nat) (f:Nat→Bool):List AV:=ZHp ((WC M).map f)
theorem ZtY (M:Nat) (f:Nat→Bool):(Zw0 M f).length=M:=by simp [Zw0,ZHp]
theorem Zsr (M:Nat):Zg6 M [.bool false]=Zw0 M fun _=>false:=by
 rw [ZrV]
 unfold Zw0
 congr 1
 apply List.ext_getElem <;> simp
theorem ZlC (M:Nat) (f:Nat→Bool) (i sz:Nat) (hi:i<M):Zcn false (Zw0 M f) i sz=some (.bool (f i)):=by
 unfold Zw0
 rw [ZEu sz (by simpa using hi),WQ]
 simp [hi]
theorem Zn8 (M:Nat) (f:Nat→Bool) (i:Nat) (hi:i<M):Z3 (Zw0 M f) i [.bool true]=Zw0 M (Zxo f i):=by
 rw [Zws _ (by rw [ZtY];exact hi)]
 unfold Zw0 ZHp
 apply List.ext_getElem?
 intro j
 rw [List.getElem?_set]
 by_cases hij:i=j
 ·subst hij
  simp [hi,Zxo]
 ·simp only [if_neg hij,List.getElem?_map]
  by_cases hj:j<M
  ·rw [List.getElem?_range hj]
   simp only [Option.map_some,Zxo,if_neg (Ne.symm hij)]
  ·rw [List.getElem?_eq_none (by simpa using hj)]
   rfl
theorem ZCW (n M:Nat) (f:Nat→Bool):((Zw0 M f).all fun c=>c.under n)=true:=ZCl _ _
theorem ZCX {L:List Blk} {b o sz n:Nat} {c:Option Nat} {cs:List AV} {w:Bool} (hL:ZT H L) (e0 e1:Option Nat) (hc:clean H.length e1=true) (hb:H.length≤b) (hG:L[b]?=some (.cells cs w)) (hu:(cs.all fun c=>c.under H.length)=true) :
  finish 2 H.length e0 (.slice (some (b,o)) sz n c) ⟨L,e1⟩=some (.slice (some (H.length,o)) sz n c,⟨H++[.cells cs w],e0⟩):=by
 obtain ⟨G,rfl⟩:=hL
 obtain ⟨j,rfl⟩:∃ j,b=H.length+j:=⟨b - H.length,by omega⟩
 have hlt:¬ H.length+j<H.length:=by omega
 have hr:XL (AV.roots H.length (.slice (some (H.length+j,o)) sz n c))=[H.length+j]:=by simp [AV.roots,XL,hlt]
 unfold finish
 simp only [hr]
 have h2:([H.length+j].all fun b=>Xa H.length (H++G)[b]?)=true:=by
  simp only [Ro,List.all_nil,Bool.and_true,hG,Xa,hu]
 simp only [hc,h2,and_self,if_true]
 simp [AV.rename,ZbP,hlt,hG]
theorem Zw1 (sz b n l:Nat) (hl:l≤n):ZbN sz (.slice (some (b,0)) sz n (some n)) (.int .i64 l)=some (.slice (some (b,l*sz)) sz (n - l) (some (n - l))):=by
 unfold ZbN natOf QO
 simp [hl]
theorem ZFx (k:List Int) (x:Int):sumK (k++[x])=sumK k+x:=by
 induction k with
 | nil=>simp [sumK]
 | cons a k ih=>simp only [List.cons_append,sumK,ih];omega
theorem ZiU:∀ (k:List Int),(∀ w∈k,1≤w∧w≤99)→0≤sumK k∧sumK k≤99*(k.length:Int)
 | [],_=>by simp [sumK]
 | w::k,h=>by
  have ih:=ZiU k fun x hx=>h x (Wt _ hx)
  have:=h w Wb
  simp only [sumK,RN]
  omega
theorem Zw2 (a b:Int):call T pr Zc3 [.int .i64 a,.int .i64 b] ⟨H,e⟩=some (.int .i64 (if a<b then a else b),⟨H,e⟩):=by
 rw [Zh Zyd]
 by_cases h:a<b
 ·simp +contextual only [Zdg,ZjN,h,decide_true,if_true,go_sem,reduceIte,Ra,Rb,Rc,Rd]
 ·simp +contextual only [Zdg,ZjN,h,decide_false,if_false,go_sem,reduceIte,Ra,Rb,Rc,Rd]
def Zqg (k:List Int):Nat→Bool:=ZHw (sumK k).toNat (Zxo (fun _=>false) (sumK k).toNat) k
theorem ZCY {q:Nat} {cap:Option Nat} {k:List Int} {t:Nat} (h:Zb H q=some (ZR k)) (hn:k.length≤6) (hk:∀ w∈k,1≤w∧w≤99) (hT:sumK k=t):call T pr ZeW [slI q k.length cap,.bool true] ⟨H,e⟩=some (.slice (some (H.length,t)) 1 (t+1) (some (t+1)),⟨H++[.cells (Zw0 (2*t+1) (Zqg k)) true],e⟩):=by
 have hTs:=ZiU k hk
 apply Wc.eq
 rw [Zr ZBn]
 simp (maxSteps:=2000000) +contextual only [ZcS,ZrN,pp,go_sem,reduceIte,Ra,Rb,Rc,Rd]
 refine ZL (fun j st=>∃ (i:Nat) (w5 w6 w7 w8 w9 w10 w11 w12 w13:AV),i+j=k.length ∧
  st=⟨[slI q k.length cap,.bool true,Z2,.int .i64 (sumK (k.take i)),.int .i64 i,w5,w6,w7,w8,w9,w10,w11,w12,w13],⟨H,none⟩⟩) ?_ k.length _ ⟨0,_,_,_,_,_,_,_,_,_,by omega,rfl⟩
 rintro j _ ⟨i,w5,w6,w7,w8,w9,w10,w11,w12,w13,hij,rfl⟩
 by_cases hj:j=0
 ·have he:i=k.length:=by omega
  subst he
  have w1:IntKind.i64.wrap (2*(t:Int))=((2*t:Nat):Int):=by rw [ZN (by omega) (by omega)];omega
  have w2:IntKind.i64.wrap (((2*t:Nat):Int)+1)=((2*t+1:Nat):Int):=by rw [ZN (by omega) (by omega)];omega
  simp (maxSteps:=2000000) +contextual only [Zhv,ZcS,Wi,hT,w1,w2,Rh,decide_false,Zc,Zsr,pp,go_sem,reduceIte,Ra,Rb,Rc,Rd]
  refine ⟨fun _=>⟨fun _=>⟨fun _ => ?_,fun h=>absurd (by rw [ZtY];omega) h⟩,fun h=>absurd (by omega) h⟩,fun h=>absurd (by unfold maxBytes;omega) h⟩
  rw [Zn8 _ _ _ (by omega)]
  refine ZL (fun j st=>∃ (i b:Nat) (f:Nat→Bool) (L:List Blk) (w7 w8 w9 w10 w11 w12 w13:AV),i+j=k.length∧ZT H L∧H.length≤b∧L[b]?=some (.cells (Zw0 (2*t+1) f) true)∧ZHw t f (k.drop i)=Zqg k ∧
   st=⟨[slI q k.length cap,.bool true,Z2,.int .i64 t,.int .i64 k.length,.slice (some (b,0)) 1 (2*t+1) (some (2*t+1)),.int .i64 i,w7,w8,w9,w10,w11,w12,w13],⟨L,none⟩⟩) ?_ k.length _
   ⟨0,_,_,_,_,_,_,_,_,_,_,by omega,⟨_,rfl⟩,Rq _,by rw [ZQ];rfl,by rw [Rl];unfold Zqg;rw [hT];rfl,rfl⟩
  clear w7 w8 w9 w10 w11 w12 w13
  rintro j _ ⟨i,b,f,L,w7,w8,w9,w10,w11,w12,w13,hij,hL,hb,hLb,htab,rfl⟩
  have hq:Zb L q=some (ZR k):=by
   obtain ⟨G,rfl⟩:=hL
   exact Za h G
  by_cases hj:j=0
  ·have he:i=k.length:=by omega
   subst he
   rw [Rn] at htab
   unfold ZHw at htab
   subst htab
   have hsl:ZbN 1 (.slice (some (b,0)) 1 (2*t+1) (some (2*t+1))) (.int .i64 t)=some (.slice (some (b,t)) 1 (t+1) (some (t+1))):=by
    rw [Zw1 _ _ _ _ (by omega),show t*1=t by omega,show 2*t+1 - t=t+1 by omega]
   have hf:=fun e0 e1 he=>ZCX (sz:=1) (o:=t) (n:=t+1) (c:=some (t+1)) hL e0 e1 he hb hLb (ZCW _ _ _)
   simp (maxSteps:=2000000) +contextual only [Zhw,ZcS,Rh,decide_false,Zbw,hsl,hf,Zm,pp,go_sem,reduceIte,Ra,Rb,Rc,Rd]
  ·have hi:i<k.length:=by omega
   have hl:k[i]?=some k[i]:=Rj hi
   have hkx:=hk k[i] (WB hi)
   rw [Rm hi] at htab
   unfold ZHw at htab
   generalize k[i]=x at *
   obtain ⟨v,rfl⟩:∃ v:Nat,x=v:=⟨x.toNat,by omega⟩
   rw [Rz] at htab
   have hsw:=Zi (show i<9223372036854775807 by omega)
   simp (maxSteps:=2000000) +contextual only [Zhw,hi,Zc,Zsr,decide_true,pp,go_sem,reduceIte,Ra,Rb,Rc,Rd]
   refine ⟨fun _ => ?_,fun h=>absurd (by unfold maxBytes;omega) h⟩
   have hbl:b<L.length:=(Wl.mp hLb).1
   refine ZL (fun j2 st=>∃ (c:Nat) (w9 w11 w12 w13:AV),c+j2=2*t+1 ∧
    st=⟨[slI q k.length cap,.bool true,Z2,.int .i64 t,.int .i64 k.length,.slice (some (b,0)) 1 (2*t+1) (some (2*t+1)),.int .i64 i,.slice (some (L.length,0)) 1 (2*t+1) (some (2*t+1)),.int .i64 c,w9,.bool true,w11,w12,w13],⟨L++[.cells (Zw0 (2*t+1) (Zkg f v (2*t) c)) true],none⟩⟩) ?_ (2*t+1) _
    ⟨0,_,_,_,_,by omega,rfl⟩
   clear w9 w11 w12 w13
   rintro j2 _ ⟨c,w9,w11,w12,w13,hcj,rfl⟩
   by_cases hj2:j2=0
   ·have he:c=2*t+1:=by omega
    subst he
    simp (maxSteps:=2000000) +contextual only [Zef,Rh,hsw,decide_false,pp,go_sem,reduceIte,Ra,Rb,Rc,Rd]
    exact ⟨j - 1,by omega,i+1,_,_,_,_,_,_,_,_,_,_,by omega,hL.more _,by have:=hL.le;omega,by rw [ZQ];rfl,htab,rfl⟩
   ·have hc:c<2*t+1:=by omega
    have hcw:=Zi (show c<9223372036854775807 by omega)
    have hcell:Zb (L++[.cells (Zw0 (2*t+1) (Zkg f v (2*t) c)) true]) b=some (Zw0 (2*t+1) f):=Ze (ZY hLb _)
    have hst:Zkg f v (2*t) (c+1)=if f c then Zxo (Zxo (Zxo (Zkg f v (2*t) c) c) (min (c+v) (2*t))) (c - v) else Zkg f v (2*t) c:=rfl
    cases hfc:f c with
    | false=>
     rw [hfc] at hst
     simp (maxSteps:=2000000) +contextual only [Zef,hc,hcell,ZlC _ _ _ _ hc,hfc,hcw,decide_true,pp,go_sem,reduceIte,Ra,Rb,Rc,Rd]
     exact ⟨j2 - 1,by omega,c+1,_,_,_,_,by omega,by rw [hst];rfl⟩
    | true=>
     rw [hfc] at hst
     have w1:IntKind.i64.wrap ((c:Int)+v)=((c+v:Nat):Int):=by rw [ZN (by omega) (by omega)];omega
     have w2:IntKind.i64.wrap (2*(t:Int))=((2*t:Nat):Int):=by rw [ZN (by omega) (by omega)];omega
     have w3:IntKind.i64.wrap ((c:Int) - v)=(c:Int) - v:=ZN (by omega) (by omega)
     have m1:(if ((c+v:Nat):Int)<((2*t:Nat):Int) then ((c+v:Nat):Int) else ((2*t:Nat):Int))=((min (c+v) (2*t):Nat):Int):=by split <;> omega
     have m2:(if (0:Int)<(c:Int) - v then (c:Int) - v else 0)=((c - v:Nat):Int):=by split <;> omega
     have c1:min (c+v) (2*t)<2*t+1:=by omega
     have c2:c - v<2*t+1:=by omega
     have hL1:∀ L m,call T pr Zc3 [.int .i64 ((c+v:Nat):Int),.int .i64 ((2*t:Nat):Int)] ⟨L,m⟩=some (.int .i64 ((min (c+v) (2*t):Nat):Int),⟨L,m⟩):=fun L m=>by rw [Zw2,m1]
     have hL2:∀ L m,call T pr ZcP [.int .i64 ((c:Int) - v),.int .i64 0] ⟨L,m⟩=some (.int .i64 ((c - v:Nat):Int),⟨L,m⟩):=fun L m=>by rw [ZrX,m2]
     have hqs:∀ B,Zb (L++[B]) q=some (ZR k):=fun B=>Za hq _
     simp (maxSteps:=2000000) +contextual only [Zef,hc,hcell,hqs,hi,Zu _ hl,ZlC _ _ _ _ hc,hfc,hcw,w1,w2,w3,hL1,hL2,c1,c2,ZtY,Zn8 _ _ _ hc,Zn8 _ _ _ c1,Zn8 _ _ _ c2,decide_true,pp,go_sem,reduceIte,Ra,Rb,Rc,Rd]
     refine ⟨fun _=>⟨fun _=>⟨fun _ => ?_,fun h=>absurd (by omega) h⟩,fun h=>absurd (by omega) h⟩,fun h=>absurd (by omega) h⟩
     exact ⟨j2 - 1,by omega,c+1,_,_,_,_,by omega,by rw [hst];rfl⟩
 ·have hi:i<k.length:=by omega
  have hl:k[i]?=some k[i]:=Rj hi
  have hs:=ZFx (k.take i) k[i]
  rw [←RM hi] at hs
  have hb:=ZiU (k.take i) fun w hw=>hk w (List.mem_of_mem_take hw)
  have hkx:=hk k[i] (WB hi)
  rw [Wm] at hb
  generalize k[i]=x at *
  have hsw:=Zi (show i<9223372036854775807 by omega)
  have w1:IntKind.i64.wrap (sumK (k.take i)+x)=sumK (k.take (i+1)):=by rw [hs];exact ZN (by omega) (by omega)
  simp (maxSteps:=2000000) +contextual only [Zhv,hi,h,Zu _ hl,w1,hsw,decide_true,pp,go_sem,reduceIte,Ra,Rb,Rc,Rd]
  exact ⟨j - 1,by omega,i+1,_,_,_,_,_,_,_,_,_,by omega,rfl⟩
theorem Zw3 {k:List Int} {t:Nat} (hk:∀ w∈k,1≤w∧w≤99) (hT:sumK k=t) (s:Nat):Zqg k s=true↔∃ l,l∈XJ k.length∧(s:Int)=t+dotZ k l:=by
 unfold Zqg
 rw [hT,Rz,ZAs t k _ (fun q=>q=0) 0 (fun w hw=>by have:=hk w hw;omega) (fun s=>by
  constructor
  ·intro h
   unfold Zxo at h
   split at h
   ·exact ⟨0,rfl,by omega⟩
   ·exact absurd h (by simp)
  ·rintro ⟨q,rfl,h⟩
   unfold Zxo
   rw [if_pos (by omega)]) (fun q hq=>by omega) (by omega)]
 constructor
 ·rintro ⟨q,l,rfl,h1,h2⟩
  exact ⟨l,h1,by omega⟩
 ·rintro ⟨l,h1,h2⟩
  exact ⟨0,l,rfl,h1,by omega⟩
theorem ZiV (k:List Int) (x:Int):x∈Zb9 k↔0<x∧∃ l,l∈XJ k.length∧dotZ k l=x:=by
 unfold Zb9
 rw [Zqc,List.mem_mergeSort]
 unfold ZaX
 rw [Wr,decide_eq_true_eq,Wd]
 constructor
 ·rintro ⟨⟨l,h1,h2⟩,h3⟩;exact ⟨h3,l,h1,h2⟩
 ·rintro ⟨h3,l,h1,h2⟩;exact ⟨⟨l,h1,h2⟩,h3⟩
theorem ZlD (k:List Int):(Zb9 k).Pairwise (· < ·):=by
 unfold Zb9
 apply Zrf
 have:=List.pairwise_mergeSort (le:=fun x y:Int=>decide (x≤y)) (fun a b c h1 h2=>by simp only [decide_eq_true_eq] at *;omega) (fun a b=>by simp;omega) (ZaX k (XJ k.length))
 exact this.imp fun h=>by simpa using h
theorem ZAu {k:List Int} {t r:Nat} (hk:∀ w∈k,1≤w∧w≤99) (hT:sumK k=t) (h1:∀ i:Nat,0<i→i≤r→Zqg k (t+i)=true) (h2:r=t∨Zqg k (t+(r+1))=false):Zg4 k=r:=by
 have hk0:∀ w∈k,0≤w:=fun w hw=>by have:=hk w hw;omega
 obtain ⟨g1,g2,g3⟩:=Zqb (Zb9 k) 0 (ZlD k) fun x hx=>((ZiV k x).mp hx).1
 refine ZGU (R:=fun i=>0<i∧∃ l,l∈XJ k.length∧dotZ k l=i) g1 (by omega) (fun i h3 h4=>(ZiV k i).mp (g2 i h3 h4)) (fun h=>g3 ((ZiV k _).mpr h)) (fun i h3 h4=>⟨h3,?_⟩) ?_
 ·have:=h1 i.toNat (by omega) (by omega)
  obtain ⟨l,h5,h6⟩:=(Zw3 hk hT _).mp this
  exact ⟨l,h5,by omega⟩
 ·rintro ⟨_,l,h5,h6⟩
  rcases h2 with rfl | h2
  ·have:=(ZzF k l hk0 (ZiS _ l h5).2).2
   omega
  ·have:=(Zw3 hk hT (t+(r+1))).mpr ⟨l,h5,by omega⟩
   rw [h2] at this
   exact absurd this (by simp)
theorem Zw4 {q:Nat} {cap:Option Nat} {k:List Int} (h:Zb H q=some (ZR k)) (hn:k.length≤1000000):call T pr ZdT [slI q k.length cap,.bool true] ⟨H,e⟩=some (.tup [.int .i64 (if Zch k=true then Zg4 k else 0),.bool (Zch k)],⟨H,e⟩):=by
 have h1:∀ L,Zb L q=some (ZR k)→call T pr ZaB [slI q k.length cap] ⟨L,none⟩=some (.bool (Zch k),⟨L,none⟩):=fun L hL=>ZFu hL hn
 apply Wc.eq
 rw [Zr ZuX]
 cases hk:Zch k with
 | false=>
  rw [hk] at h1
  simp (maxSteps:=2000000) +contextual only [KI,Zht,h,h1,RZ,if_false,pp,go_sem,reduceIte,Ra,Rb,Rc,Rd]
 | true=>
  rw [hk] at h1
  obtain ⟨k0,k6,kw⟩:=Zfn hk
  have hTs:=ZiU k kw
  obtain ⟨t,hT⟩:∃ t:Nat,sumK k=t:=⟨(sumK k).toNat,by omega⟩
  have h2:∀ L e',Zb L q=some (ZR k)→call T pr ZeW [slI q k.length cap,.bool true] ⟨L,e'⟩=some (.slice (some (L.length,t)) 1 (t+1) (some (t+1)),⟨L++[.cells (Zw0 (2*t+1) (Zqg k)) true],e'⟩):=fun L e' hL=>ZCY hL k6 kw hT
  simp (maxSteps:=2000000) +contextual only [KI,Zht,h,h1,h2,if_true,pp,go_sem,reduceIte,Ra,Rb,Rc,Rd]
  refine ZL (fun j st=>∃ (r:Nat) (w6 w7:AV),r+j=t+1∧r≤t∧(∀ i:Nat,0<i→i≤r→Zqg k (t+i)=true) ∧
   st=⟨[slI q k.length cap,.bool true,.int .i64 0,.bool false,.slice (some (H.length,t)) 1 (t+1) (some (t+1)),.int .i64 r,w6,w7],⟨H++[.cells (Zw0 (2*t+1) (Zqg k)) true],none⟩⟩) ?_ (t+1) _
   ⟨0,_,_,by omega,by omega,fun i h1 h2=>by omega,rfl⟩
  rintro j _ ⟨r,w6,w7,hrj,hrt,hall,rfl⟩
  have w1:=Zi (show r<9223372036854775807 by omega)
  by_cases hr:r=t
  ·have hlt:¬ r+1<t+1:=by omega
   have hR:=ZAu kw hT hall (.inl hr)
   simp (maxSteps:=2000000) +contextual only [ZbK,KI,w1,hlt,hR,decide_false,pp,go_sem,reduceIte,Ra,Rb,Rc,Rd]
  ·have hlt:r+1<t+1:=by omega
   have hlt2:t+(r+1)<2*t+1:=by omega
   cases hs:Zqg k (t+(r+1)) with
   | false=>
    have hR:=ZAu kw hT hall (.inr hs)
    simp (maxSteps:=2000000) +contextual only [ZbK,KI,w1,hlt,ZlC _ _ _ _ hlt2,hs,hR,decide_true,pp,go_sem,reduceIte,Ra,Rb,Rc,Rd]
   | true=>
    simp (maxSteps:=2000000) +contextual only [ZbK,w1,hlt,ZlC _ _ _ _ hlt2,hs,decide_true,pp,go_sem,reduceIte,Ra,Rb,Rc,Rd]
    refine ⟨j - 1,by omega,r+1,_,_,by omega,by omega,fun i g1 g2 => ?_,rfl⟩
    by_cases he:i=r+1
    ·rw [he];exact hs
    ·exact hall i g1 (by omega)
def XK (L:List Blk) (lo hi:Nat) (es:List AV) (ls:List (List Int)):Prop :=
 es.length=ls.length∧∀ (i:Nat) (l:List Int),ls[i]?=some l→∃ (q:Nat) (c:Option Nat),es[i]?=some (slI q l.length c)∧lo≤q∧q<hi∧L[q]?=some (.cells (ZR l) true)
theorem XK.of {L L':List Blk} {lo hi hi':Nat} {es:List AV} {ls:List (List Int)} (h:XK L lo hi es ls) (hL:∀ i,i<hi→L'[i]?=L[i]?) (hh:hi≤hi'):XK L' lo hi' es ls:=by
 refine ⟨h.1,fun i l hl => ?_⟩
 obtain ⟨q,c,h1,h2,h3,h4⟩:=h.2 i l hl
 exact ⟨q,c,h1,h2,by omega,by rw [hL q h3];exact h4⟩
theorem XK.snoc {L:List Blk} {lo hi:Nat} {es:List AV} {ls:List (List Int)} (h:XK L lo hi es ls) {q:Nat} {c:Option Nat} {l:List Int} (h1:lo≤q) (h2:q<hi) (h3:L[q]?=some (.cells (ZR l) true)):XK L lo hi (es++[slI q l.length c]) (ls++[l]):=by
 refine ⟨by simp [h.1],fun i m hm => ?_⟩
 by_cases hi:i<ls.length
 ·rw [Ws hi] at hm
  obtain ⟨q',c',g1,g2⟩:=h.2 i m hm
  exact ⟨q',c',by rw [Ws (by rw [h.1];exact hi)];exact g1,g2⟩
 ·have hi':=(Wl.mp hm).1
  rw [RX,List.length_singleton] at hi'
  have he:i=ls.length:=by omega
  subst he
  rw [Ry (Rq _),WG,List.getElem?_cons_zero,RS] at hm
  subst hm
  exact ⟨q,c,by rw [Ry (by rw [h.1];exact Rq _),h.1,WG];rfl,h1,h2,h3⟩
theorem Y2 {es:List AV} {i:Nat} {v:AV} (sz:Nat) (h:es[i]?=some v):Zcn false es i sz=some v:=by
 rw [ZcT];exact h
set_option maxHeartbeats 1000000 in
theorem ZCZ (n:Nat) (hn:n≤6):Wc (call T pr Zku [.int .i64 n] ⟨H,e⟩)
  (fun v m=>∃ L' e' b c es,v=.slice (some (b,0)) 1 (3 ^ n) c∧m=⟨L',e'⟩∧ZT H L'∧H.length≤b∧L'[b]?=some (.cells es true)∧XK L' H.length b es (XJ n)∧(clean H.length e=true→clean H.length e'=true)):=by
 rw [Zr ZDN]
 simp (maxSteps:=2000000) +contextual only [Zhx,ZuE,Zc,pp,go_sem,reduceIte,Ra,Rb,Rc,Rd]
 have he0:∀ (c:Prop) [Decidable c],clean H.length (if c then (none:Option Nat) else Z8 none (H.length+1))=true:=fun c _=>Zk c rfl (Zj rfl (by omega))
 refine ZL (fun j st=>∃ (d b:Nat) (c:Option Nat) (es:List AV) (L:List Blk) (e1:Option Nat) (w4 w5 w6 w7 w8 w9:AV),d+j=n∧ZT H L∧H.length≤b∧L[b]?=some (.cells es true)∧XK L H.length b es (XJ d)∧clean H.length e1=true ∧
  st=⟨[.int .i64 n,Z2,.slice (some (b,0)) 1 (3 ^ d) c,.int .i64 d,w4,w5,w6,w7,w8,w9],⟨L,e1⟩⟩) ?_ n _ ⟨0,H.length+1,some 1,[slI H.length 0 (some 0)],_,_,_,_,_,_,_,_,by omega,⟨_,rfl⟩,by omega,?_,?_,?_,rfl⟩
 ·rintro j _ ⟨d,b,c,es,L,e1,w4,w5,w6,w7,w8,w9,hdj,hL,hb,hLb,hR,he1,rfl⟩
  by_cases hj:j=0
  ·have he:d=n:=by omega
   subst he
   simp (maxSteps:=2000000) +contextual only [ZjR,Zhx,finish,Rh,decide_false,pp,go_sem,reduceIte,Ra,Rb,Rc,Rd]
   exact ⟨L,_,b,c,es,rfl,rfl,hL,hb,hLb,hR,fun h=>Yk h he1⟩
  ·have hd:d<n:=by omega
   have hbl:b<L.length:=(Wl.mp hLb).1
   have hcnt:=Zbx d
   have hp3:3 ^ (d+1)≤3 ^ 6:=RP (by omega) (by omega)
   have h36:(3:Nat) ^ 6=729:=by decide
   have hps:(3:Nat) ^ (d+1)=3 ^ d*3:=WN ..
   have hdw:=Zi (show d<9223372036854775807 by omega)
   simp (maxSteps:=2000000) +contextual only [ZjR,hd,Zc,decide_true,pp,go_sem,reduceIte,Ra,Rb,Rc,Rd]
   refine ZL (fun j2 st=>∃ (i b4:Nat) (c4:Option Nat) (es4:List AV) (L4:List Blk) (e4:Option Nat) (w6 w8 w9:AV),i+j2=3 ^ d∧ZT L L4∧L.length≤b4∧(c4=some 0→i*3=0)∧L4[b4]?=some (.cells es4 true)∧XK L4 H.length b4 es4 (((XJ d).take i).flatMap fun l=>[l++[-1],l++[0],l++[1]])∧clean H.length e4=true ∧
    st=⟨[.int .i64 n,Z2,.slice (some (b,0)) 1 (3 ^ d) c,.int .i64 d,.slice (some (b4,0)) 1 (i*3) c4,.int .i64 i,w6,.bool true,w8,w9],⟨L4,e4⟩⟩) ?_ (3 ^ d) _
    ⟨0,L.length,some 0,[],L++[.cells [] true],_,_,_,_,by omega,⟨_,rfl⟩,by omega,fun _=>rfl,by rw [ZQ];rfl,⟨rfl,fun i l hl=>absurd hl (by simp)⟩,he1,rfl⟩
   clear w4 w5 w6 w7 w8 w9
   rintro j2 _ ⟨i,b4,c4,es4,L4,e4,w6,w8,w9,hij,hL4,hb4,hc4,hLb4,hR4,he4,rfl⟩
   by_cases hj2:j2=0
   ·have he:i=3 ^ d:=by omega
    subst he
    rw [List.take_of_length_le (by omega),ZwV] at hR4
    simp (maxSteps:=2000000) +contextual only [ZjQ,Rh,hdw,decide_false,pp,go_sem,reduceIte,Ra,Rb,Rc,Rd]
    have hgr:ZT H L4:=by
     obtain ⟨G1,rfl⟩:=hL
     obtain ⟨G2,rfl⟩:=hL4
     exact ⟨G1++G2,by rw [Rk]⟩
    exact ⟨j - 1,by omega,d+1,b4,c4,es4,L4,e4,_,_,_,_,_,_,by omega,hgr,by omega,hLb4,hR4,he4,by rw [hps]⟩
   ·have hi:i<3 ^ d:=by omega
    obtain ⟨l,hl⟩:∃ l,(XJ d)[i]?=some l:=⟨_,Rj (by omega)⟩
    obtain ⟨q,cq,hq1,hq2,hq3,hq4⟩:=hR.2 i l hl
    have hll:=(ZiS d l (WJ hl)).1
    have hiw:=Zi (show i<9223372036854775807 by omega)
    simp (maxSteps:=2000000) +contextual only [ZjQ,hi,decide_true,pp,go_sem,reduceIte,Ra,Rb,Rc,Rd]
    refine ZL (fun j3 st=>∃ (b5:Nat) (c5:Option Nat) (es5:List AV) (L5:List Blk) (e5:Option Nat) (w9:AV),j3≤3∧ZT L L5∧L.length≤b5∧(c5=some 0→i*3+(3 - j3)=0)∧L5[b5]?=some (.cells es5 true)∧XK L5 H.length b5 es5 ((((XJ d).take i).flatMap fun l=>[l++[-1],l++[0],l++[1]])++[l++[-1],l++[0],l++[1]].take (3 - j3))∧clean H.length e5=true ∧
     st=⟨[.int .i64 n,Z2,.slice (some (b,0)) 1 (3 ^ d) c,.int .i64 d,.slice (some (b5,0)) 1 (i*3+(3 - j3)) c5,.int .i64 i,.int .i64 (2 - (j3:Int)),.bool true,.bool true,w9],⟨L5,e5⟩⟩) ?_ 3 _
     ⟨b4,c4,es4,_,_,_,Rq _,hL4,hb4,hc4,hLb4,by simpa using hR4,he4,rfl⟩
    clear w6 w8 w9
    rintro j3 _ ⟨b5,c5,es5,L5,e5,w9,hj33,hL5,hb5,hc5,hLb5,hR5,he5,rfl⟩
    by_cases hj3:j3=0
    ·subst hj3
     have hc:¬ (2 - ((0:Nat):Int)≤1):=by omega
     simp (maxSteps:=2000000) +contextual only [ZjP,hc,hiw,decide_false,pp,go_sem,reduceIte,Ra,Rb,Rc,Rd]
     have hR5':XK L5 H.length b5 es5 (((XJ d).take (i+1)).flatMap fun l=>[l++[-1],l++[0],l++[1]]):=by
      have he:(XJ d).take (i+1)=(XJ d).take i++[l]:=by
       rw [RM (by omega)]
       rw [Rj (by omega),RS] at hl
       rw [hl]
      rw [he,List.flatMap_append]
      simpa using hR5
     exact ⟨j2 - 1,by omega,i+1,b5,c5,es5,L5,e5,_,_,_,by omega,hL5,hb5,fun h=>by have:=hc5 h;omega,hLb5,hR5',he5,by rw [show (i+1)*3=i*3+(3 - 0) by omega]⟩
    ·have hc:2 - (j3:Int)≤1:=by omega
     obtain ⟨s,hs⟩:∃ s,2 - (j3:Int)=s:=⟨_,rfl⟩
     have hb2:Zb L5 b=some es:=by
      obtain ⟨G,rfl⟩:=hL5
      exact Za (Ze hLb) G
     have hqc:Zb L5 q=some (ZR l):=by
      obtain ⟨G,rfl⟩:=hL5
      exact Za (Ze hq4) G
     have hown:∀ L e',Zb L q=some (ZR l)→call T pr Zaw [slI q l.length cq] ⟨L,e'⟩=some (slI L.length l.length none,⟨L++[.cells (ZR l) true],e'⟩):=fun L e' hL=>Zqf hL (by omega)
     have w4:IntKind.i64.wrap (s+1)=2 - ((j3 - 1:Nat):Int):=by rw [←hs,ZN (by omega) (by omega)];omega
     rw [hs]
     have hc':s≤1:=by omega
     simp (maxSteps:=2000000) +contextual only [ZjP,hc',Zc,hi,hb2,Y2 _ hq1,hown,hqc,decide_true,pp,go_sem,reduceIte,Ra,Rb,Rc,Rd]
     refine Zi3 (k:=1) (new:=[.int .i64 s]) (cs:=ZR l) (by rw [Ry (Rq _),WG];rfl) (Qx _ 1 1 _ _ (L5.length+1) (by simp +contextual only [go_sem,reduceIte,Ra,Rb,Rc,Rd]) rfl) (by simp [ZR]) rfl (by unfold maxBytes;omega) (by simp) ?_
     intro L6 f1 f2 f3 f4
     rw [ZGV] at f3
     have hl6:L6.length=L5.length+3:=by rw [f1];simp
     have f3':L6[L5.length+2]?=some (.cells (ZR (l++[s])) true):=by simpa using f3
     have keep6:∀ x,x<L5.length→L6[x]?=L5[x]?:=fun x hx=>by
      rw [f2 x (by omega) (by simp;omega),Ws hx]
     have hb5l:b5<L5.length:=(Wl.mp hLb5).1
     have hLe5:=hL5.le
     simp (maxSteps:=2000000) +contextual only [Zc,RX,RN,Wk,pp,go_sem,reduceIte,Ra,Rb,Rc,Rd]
     have hfl:((((XJ d).take i).flatMap fun l=>[l++[-1],l++[0],l++[1]])++[l++[-1],l++[0],l++[1]].take (3 - j3)).length=i*3+([l++[-1],l++[0],l++[1]].take (3 - j3)).length:=by
      have:∀ ll:List (List Int),(ll.flatMap fun l=>[l++[-1],l++[0],l++[1]]).length=ll.length*3:=by
       intro ll
       induction ll with
       | nil=>rfl
       | cons a ll ih=>simp only [List.flatMap_cons,RX,ih,RN,Wk];omega
      rw [RX,this,Wm]
      omega
     refine Zi3 (k:=1) (new:=[slI (L5.length+2) (l.length+1) none]) (cs:=es5) (by rw [Ws (by omega),keep6 _ hb5l];exact hLb5) (Qx _ 1 1 _ _ L6.length (by simp +contextual only [go_sem,reduceIte,Ra,Rb,Rc,Rd]) rfl) (by rw [hR5.1,hfl,Wm];simp <;> omega) rfl (by unfold maxBytes;omega) (fun h=>by have:=hc5 h;omega) ?_
     intro L7 g1 g2 g3 g4
     have hl7:L7.length=L5.length+5:=by rw [g1];simp;omega
     simp (maxSteps:=2000000) +contextual only [w4,pp,go_sem,reduceIte,Ra,Rb,Rc,Rd]
     have g3':L7[L6.length+1]?=some (.cells (es5++[slI (L5.length+2) (l++[s]).length none]) true):=by
      rw [RX (bs:=[s])]
      simpa using g3
     have keep7:∀ x,x≠b5→x<L6.length→L7[x]?=L6[x]?:=fun x h1 h2=>by
      rw [g2 x h1 (by simp;omega),Ws h2]
     have hgr:ZT L L7:=g4 _ ((f4 _ ((hL5.more _)) (by omega)).more _) hb5
     have hR7:=(hR5.of (L':=L7) (hi':=L6.length+1) (fun x hx=>by rw [keep7 x (by omega) (by omega),keep6 x (by omega)]) (by omega)).snoc (q:=L5.length+2) (c:=none) (l:=l++[s]) (by have:=hL.le;omega) (by omega) (by rw [keep7 _ (by omega) (by omega)];exact f3')
     have ht:(((XJ d).take i).flatMap fun l=>[l++[-1],l++[0],l++[1]])++[l++[-1],l++[0],l++[1]].take (3 - (j3 - 1))=(((XJ d).take i).flatMap fun l=>[l++[-1],l++[0],l++[1]])++[l++[-1],l++[0],l++[1]].take (3 - j3)++[l++[s]]:=by
      rw [Rk]
      congr 1
      have:j3=1∨j3=2∨j3=3:=by omega
      rcases this with rfl | rfl | rfl
      ·rw [show s=1 by omega];rfl
      ·rw [show s=0 by omega];rfl
      ·rw [show s = -1 by omega];rfl
     rw [←ht] at hR7
     exact ⟨j3 - 1,by omega,L6.length+1,none,_,L7,e5,_,by omega,hgr,by omega,by simp,g3',hR7,he5,by rw [show i*3+(3 - j3)+1=i*3+(3 - (j3 - 1)) by omega]⟩
 ·rw [Ry (by omega),show H.length+1 - H.length=1 by omega];rfl
 ·refine ⟨rfl,fun i l hl => ?_⟩
  have hi:=(Wl.mp hl).1
  have hi0:i=0:=by simp [XJ] at hi;omega
  subst hi0
  have hl':l=[]:=by simpa [XJ] using hl.symm
  subst hl'
  exact ⟨H.length,some 0,rfl,Rq _,by omega,by rw [Ry (by omega),WG];rfl⟩
 ·first | exact rfl | exact he0 _
theorem ZGX (l:List Int) (x:Int):sqZ (l++[x])=sqZ l+x*x:=by
 induction l with
 | nil=>simp [sqZ]
 | cons a l ih=>simp only [List.cons_append,sqZ,ih];omega
theorem ZKb (c:Nat) (hc:c<4096) (i:Nat) (hi:i<12):decide (ZJP .i64 (ZIJ .i64 c (i:Int)) 1=1)=c.testBit i:=by
 have h1:ZIJ .i64 (c:Int) (i:Int)=((c / 2 ^ i:Nat):Int):=by
  unfold ZIJ
  have:min (i:Int).toNat IntKind.i64.bits=i:=by show min (i:Int).toNat 64=i;omega
  rw [this,Int.fdiv_eq_ediv_of_nonneg _ (Int.pow_nonneg (by omega))]
  simp
 have h2:∀ n:Nat,n<4096→ZJP .i64 (n:Int) 1=((n % 2:Nat):Int):=by
  intro n hn
  have e1:(BitVec.ofInt 64 (n:Int) &&& BitVec.ofInt 64 1).toNat=n % 2:=by
   rw [BitVec.toNat_and,BitVec.ofInt_natCast,BitVec.toNat_ofNat,Nat.mod_eq_of_lt (by omega)]
   exact Nat.and_one_is_mod n
  show IntKind.i64.wrap ((BitVec.ofInt 64 (n:Int) &&& BitVec.ofInt 64 1).toNat:Int)=_
  rw [e1]
  exact Kn (by omega)
 have h3:c / 2 ^ i<4096:=Nat.lt_of_le_of_lt (Rr _ _) hc
 rw [h1,h2 _ h3,Nat.testBit_eq_decide_div_mod_eq]
 congr 1
 exact propext ⟨fun h=>by omega,fun h=>by omega⟩
theorem ZKc:∀ n:Nat,n<13→ZJO .i64 1 (n:Int)=((2 ^ n:Nat):Int):=by decide +kernel
theorem ZGY (x:Int) (i:Nat):Xz 0 .shl (.int .i64 x) (.int .i64 (i:Int))=some (.int .i64 (ZJO .i64 x i)):=by
 rw [ZvS,if_neg (by omega)]
theorem ZAv (x:Int) (i:Nat):Xz 0 .shr (.int .i64 x) (.int .i64 (i:Int))=some (.int .i64 (ZIJ .i64 x i)):=by
 rw [ZvT,if_neg (by omega)]
theorem ZFy (c i:Nat):Zg8 (i+1) c=Zg8 i c++if c.testBit i then [i] else []:=by
 unfold Zg8
 rw [List.range_succ,WR]
 cases h:c.testBit i <;> simp [h]
theorem ZAw (n c:Nat):(Zg8 n c).length≤n:=by
 have:=WF (fun i=>c.testBit i) (WC n)
 simpa [Zg8] using this
def ZFz (ls:List Ld) (p:Int) (l:List Nat):Int:=(l.map fun i=>ls.getD i (0,0)).foldl (ZaP p) 0
theorem Zw5 (ls:List Ld) (p:Int) (l:List Nat) (i:Nat) (x:Ld) (h:ls[i]?=some x):ZFz ls p (l++[i])=ZaP p (ZFz ls p l) x:=by
 unfold ZFz
 rw [WO,List.foldl_append]
 simp [WQ,h]
def Zby (ls:List Ld) (p:Int) (l:List Nat):Bool:=decide (ZFz ls p l=0)
def ZzG (ls:List Ld) (p:Int) (c:Nat):List (List Nat):=((WC c).map (Zg8 ls.length)).filter (Zby ls p)
theorem ZFA (ls:List Ld) (p:Int) (c:Nat):ZzG ls p (c+1)=ZzG ls p c++if Zby ls p (Zg8 ls.length c) then [Zg8 ls.length c] else []:=by
 unfold ZzG
 rw [List.range_succ,WO,WR]
 cases h:Zby ls p (Zg8 ls.length c) <;> simp [h]
theorem ZAx (ls:List Ld) (p:Int) (c:Nat):(ZzG ls p c).length≤c:=by
 unfold ZzG
 have:=WF (Zby ls p) ((WC c).map (Zg8 ls.length))
 simpa using this
theorem ZAy (l:List Nat) (i:Nat):ZR (asZ l)++[.int .i64 i]=ZR (asZ (l++[i])):=by
 unfold asZ ZR
 simp
theorem ZgQ (l:List Nat):(asZ l).length=l.length:=by simp [asZ]
theorem XK.grown {L L':List Blk} {lo hi hi':Nat} {es:List AV} {ls:List (List Int)} (h:XK L lo hi es ls) (hg:ZT L L') (h1:hi≤L.length) (hh:hi≤hi'):XK L' lo hi' es ls:=by
 obtain ⟨G,rfl⟩:=hg
 exact h.of (fun i hi=>Ws (by omega)) hh
theorem Zdy {A B C:List Blk} (h1:ZT A B) (h2:ZT B C):ZT A C:=by
 obtain ⟨G1,rfl⟩:=h1
 obtain ⟨G2,rfl⟩:=h2
 exact ⟨G1++G2,by rw [Rk]⟩
theorem Xf {A B:List Blk} {q:Nat} {cs:List AV} (h1:ZT A B) (h:Zb A q=some cs):Zb B q=some cs:=by
 obtain ⟨G1,rfl⟩:=h1
 exact Za h G1
theorem ZlE {A B:List Blk} {q:Nat} {b:Blk} (h1:ZT A B) (h:A[q]?=some b):B[q]?=some b:=by
 obtain ⟨G1,rfl⟩:=h1
 exact ZY h G1
theorem XK.sorted {L:List Blk} {lo hi:Nat} {es:List AV} {ks:List (List Int)} (h:XK L lo hi es ks):XK L lo hi ((ZAk ks).map fun i=>(es[i]?).getD .undef) ((ZAk ks).map fun i=>ks.getD i []):=by
 refine ⟨by simp,fun i l hl => ?_⟩
 rw [List.getElem?_map] at hl ⊢
 cases hx:(ZAk ks)[i]? with
 | none=>rw [hx] at hl;exact absurd hl (by simp)
 | some x=>
  rw [hx] at hl
  simp only [Option.map_some,RS] at hl ⊢
  have hlt:x<ks.length:=List.mem_range.mp ((Zlt ks).1.mem_iff.mp (WJ hx))
  have hkx:ks[x]?=some l:=by
   rw [WQ,Rj hlt] at hl
   rw [Rj hlt,←hl];rfl
  obtain ⟨q,c,g1,g2⟩:=h.2 x l hkx
  exact ⟨q,c,by rw [g1];rfl,g2⟩
theorem XK.keys {L:List Blk} {lo hi:Nat} {es:List AV} {ks:List (List Int)} (h:XK L lo hi es ks) (hs:∀ l∈ks,l.length≤1073741824):ZhW L es=some ks:=by
 refine ZwF h.1 fun i c zs h1 h2 => ?_
 obtain ⟨q,cc,g1,_,_,g4⟩:=h.2 i zs h2
 rw [g1,RS] at h1
 exact ⟨q,cc,h1.symm,Ze g4,hs zs (WJ h2)⟩
theorem Zqh (ks:List (List Int)):((ZAk ks).map fun i=>ks.getD i []).Perm ks:=by
 have h:=((Zlt ks).1).map fun i=>ks.getD i []
 have e:(WC ks.length).map (fun i=>ks.getD i [])=ks:=by
  apply List.ext_getElem
  ·simp
  ·intro i h1 h2
   simp [WQ,h2]
 rw [e] at h
 exact h
def Yv (ls:List Ld) (p:Int):List (List Int):=(ZFZ ls.length (Zby ls p)).map asZ
set_option maxHeartbeats 1000000 in
theorem Zh5 (hl:ZtQ pr) {q:Nat} {cap:Option Nat} {ls:List Ld} {p:Int} (h:Zb H q=some (Zn ls)) (hn:ls.length≤12):Wc (call T pr QD [slL q ls.length cap,.int .i64 p] ⟨H,e⟩)
  (fun v m=>∃ (L':List Blk) (e':Option Nat) (b:Nat) (c:Option Nat) (es:List AV),v=slX b (Yv ls p).length c∧m=⟨L',e'⟩∧ZT H L'∧H.length≤b∧L'[b]?=some (.cells es true)∧XK L' H.length b es (Yv ls p)∧(clean H.length e=true→clean H.length e'=true)):=by
 have hp2:2 ^ ls.length≤2 ^ 12:=RP (by omega) hn
 have h4096:(2:Nat) ^ 12=4096:=by decide
 have hsh:=ZKc ls.length (by omega)
 rw [Zr ZqA]
 simp (maxSteps:=2000000) +contextual only [Ke,Zjc,Zc,ZGY,hsh,pp,go_sem,reduceIte,Ra,Rb,Rc,Rd]
 refine ZL (fun j st=>∃ (c b3:Nat) (c3:Option Nat) (es:List AV) (L:List Blk) (e1:Option Nat) (w4 w5 w6 w7 w8 w11 w12 w13 w14 w15 w16 w17:AV),c+j=2 ^ ls.length∧ZT H L∧H.length≤b3∧(c3=some 0→(ZzG ls p c).length=0)∧L[b3]?=some (.cells es true)∧XK L H.length b3 es ((ZzG ls p c).map asZ)∧clean H.length e1=true ∧
  st=⟨[slL q ls.length cap,.int .i64 p,Z2,slX b3 (ZzG ls p c).length c3,w4,w5,w6,w7,w8,.int .i64 ((2 ^ ls.length:Nat):Int),.int .i64 c,w11,w12,w13,w14,w15,w16,w17],⟨L,e1⟩⟩) ?_ (2 ^ ls.length) _
  ⟨0,H.length,some 0,[],H++[.cells [] true],none,_,_,_,_,_,_,_,_,_,_,_,_,by omega,⟨_,rfl⟩,Rq _,fun _=>rfl,by rw [ZQ];rfl,⟨rfl,fun i l hl=>absurd hl (by simp [ZzG])⟩,rfl,rfl⟩
 rintro j _ ⟨c,b3,c3,es,L,e1,w4,w5,w6,w7,w8,w11,w12,w13,w14,w15,w16,w17,hcj,hL,hb3,hc3,hLb,hR,he1,rfl⟩
 by_cases hj:j=0
 ·have he:c=2 ^ ls.length:=by omega
  subst he
  simp (maxSteps:=2000000) +contextual only [Zcf,Ke,Rh,decide_false,pp,go_sem,reduceIte,Ra,Rb,Rc,Rd]
  have hU:(ZzG ls p (2 ^ ls.length)).map asZ=(Zzt ls.length (Zby ls p)).map asZ:=rfl
  generalize hks:(ZzG ls p (2 ^ ls.length)).map asZ=ks at *
  have hkl:(ZzG ls p (2 ^ ls.length)).length=ks.length:=by rw [←hks,WA]
  have hS:((ZAk ks).map fun i=>ks.getD i [])=Yv ls p:=by
   refine ZtP ls.length (Zby ls p) _ (by rw [←hU];exact Zqh ks) ?_
   rw [List.pairwise_map]
   exact (Zlt ks).2
  have hmem:[]∈ks:=by
   rw [←hks,Wd]
   refine ⟨[],?_,rfl⟩
   unfold ZzG
   rw [Wr,Wd]
   exact ⟨⟨0,List.mem_range.mpr (Nat.pow_pos (by omega)),by unfold Zg8;simp⟩,rfl⟩
  have hpos:0<ks.length:=List.length_pos_of_mem hmem
  have hsm:∀ l∈ks,l.length≤1073741824:=by
   intro l hl
   rw [hU,Wd] at hl
   obtain ⟨g,hg,rfl⟩:=hl
   unfold Zzt at hg
   obtain ⟨c,_,rfl⟩:=Wd.mp (Wr.mp hg).1
   rw [ZgQ]
   have:=ZAw ls.length c
   omega
  have hul:=ZAx ls p (2 ^ ls.length)
  have hsort:=hl.srt es ks b3 c3 L e1 hLb (hR.keys hsm) hpos (by omega)
  have hRS:=hR.sorted
  rw [hS] at hRS
  have hgl:ks.length=(Yv ls p).length:=by rw [←hS];exact (Zqh ks).length_eq.symm
  rw [hkl]
  simp (maxSteps:=2000000) +contextual only [Ke,hsort,finish,pp,go_sem,reduceIte,Ra,Rb,Rc,Rd]
  exact ⟨_,_,b3,c3,(ZAk ks).map fun i=>(es[i]?).getD .undef,by rw [hgl],rfl,hL.put hb3 _,hb3,by rw [WK (Wl.mp hLb).1],hRS.of (fun i hi=>by rw [Wz (by omega)]) (Rq _),fun h=>Yk h he1⟩
 ·have hc:c<2 ^ ls.length:=by omega
  have hbl:b3<L.length:=(Wl.mp hLb).1
  have hcw:=Zi (show c<9223372036854775807 by omega)
  simp (maxSteps:=2000000) +contextual only [Zcf,hc,Zc,decide_true,pp,go_sem,reduceIte,Ra,Rb,Rc,Rd]
  refine ZL (fun j2 st=>∃ (i b5:Nat) (c5:Option Nat) (L5:List Blk) (e5:Option Nat) (w7 w8 w15 w16:AV),i+j2=ls.length∧ZT L L5∧L.length≤b5∧(c5=some 0→(Zg8 i c).length=0)∧L5[b5]?=some (.cells (ZR (asZ (Zg8 i c))) true)∧clean H.length e5=true ∧
   st=⟨[slL q ls.length cap,.int .i64 p,Z2,slX b3 (ZzG ls p c).length c3,.int .i64 c,slI b5 (Zg8 i c).length c5,.int .i64 (ZFz ls p (Zg8 i c)),w7,w8,.int .i64 ((2 ^ ls.length:Nat):Int),.int .i64 c,.bool true,slL q ls.length cap,.int .i64 ls.length,.int .i64 i,w15,w16,w17],⟨L5,e5⟩⟩) ?_ ls.length _
   ⟨0,L.length,some 0,L++[.cells [] true],_,_,_,_,_,by omega,⟨_,rfl⟩,Rq _,fun _=>rfl,by rw [ZQ];rfl,he1,rfl⟩
  clear w4 w5 w6 w7 w8 w11 w12 w13 w14 w15 w16
  rintro j2 _ ⟨i,b5,c5,L5,e5,w7,w8,w15,w16,hij,hL5,hb5,hc5,hLb5,he5,rfl⟩
  have hq5:Zb L5 q=some (Zn ls):=Xf hL5 (Xf hL h)
  have hb5l:b5<L5.length:=(Wl.mp hLb5).1
  have hgl:=ZAw i c
  by_cases hj2:j2=0
  ·have he:i=ls.length:=by omega
   subst he
   have hup:=ZFA ls p c
   have hul:=ZAx ls p c
   by_cases hz:ZFz ls p (Zg8 ls.length c)=0
   ·have hzb:Zby ls p (Zg8 ls.length c)=true:=decide_eq_true hz
    rw [hzb,if_pos rfl] at hup
    simp (maxSteps:=2000000) +contextual only [J5,Rh,Zc,hz,decide_true,decide_false,pp,go_sem,reduceIte,Ra,Rb,Rc,Rd]
    have hLb5':L5[b3]?=some (.cells es true):=ZlE hL5 hLb
    have hLe:=hL5.le
    have hles:es.length=(ZzG ls p c).length:=by rw [hR.1,WA]
    refine Zi3 (k:=1) (new:=[slI b5 (Zg8 ls.length c).length c5]) (cs:=es) (by rw [Ws (by omega)];exact hLb5') (Qx _ 1 1 _ _ L5.length (by simp +contextual only [go_sem,reduceIte,Ra,Rb,Rc,Rd]) rfl) (by omega) rfl (by unfold maxBytes;omega) hc3 ?_
    intro L6 g1 g2 g3 g4
    have hl6:L6.length=L5.length+2:=by rw [g1];simp
    simp (maxSteps:=2000000) +contextual only [hcw,pp,go_sem,reduceIte,Ra,Rb,Rc,Rd]
    have g3':L6[L5.length+1]?=some (.cells (es++[slI b5 (asZ (Zg8 ls.length c)).length c5]) true):=by
     rw [ZgQ]
     simpa using g3
    have keep:∀ x,x≠b3→x<L5.length→L6[x]?=L5[x]?:=fun x h1 h2=>by
     rw [g2 x h1 (by simp;omega),Ws h2]
    have hR5:=hR.grown hL5 (by omega) (Rq _)
    have hR6:=(hR5.of (L':=L6) (hi':=L5.length+1) (fun x hx=>keep x (by omega) (by omega)) (by omega)).snoc (q:=b5) (c:=c5) (l:=asZ (Zg8 ls.length c)) (by have:=hL.le;omega) (by omega) (by rw [keep b5 (by omega) hb5l];exact hLb5)
    exact ⟨j - 1,by omega,c+1,L5.length+1,none,_,L6,e5,_,_,_,_,_,_,_,_,_,_,_,_,by omega,g4 _ ((Zdy hL hL5).more _) hb3,by have:=hL.le;omega,by simp,g3',by rw [hup,WO];exact hR6,he5,by rw [hup,RX];rfl⟩
   ·have hzb:Zby ls p (Zg8 ls.length c)=false:=decide_eq_false hz
    rw [hzb] at hup
    simp only [RZ,if_false,Rv] at hup
    simp (maxSteps:=2000000) +contextual only [J5,Rh,hz,hcw,decide_false,pp,go_sem,reduceIte,Ra,Rb,Rc,Rd]
    exact ⟨j - 1,by omega,c+1,b3,c3,es,L5,e5,_,_,_,_,_,_,_,_,_,_,_,_,by omega,Zdy hL hL5,hb3,by rw [hup];exact hc3,ZlE hL5 hLb,by rw [hup];exact hR.grown hL5 (by omega) (Rq _),he5,by rw [hup]⟩
  ·have hi:i<ls.length:=by omega
   have hl':ls[i]?=some ls[i]:=Rj hi
   have hiw:=Zi (show i<9223372036854775807 by omega)
   have hb:=ZKb c (by omega) i (by omega)
   have hms:=Zw5 ls p (Zg8 i c) i ls[i] hl'
   have hgs:=ZFy c i
   generalize ls[i]=x at *
   cases hbt:c.testBit i with
   | false=>
    rw [hbt] at hb hgs
    simp only [RZ,if_false,Rv] at hgs
    simp (maxSteps:=2000000) +contextual only [J5,hi,hq5,Ja hl',ZAv,hb,hiw,decide_true,pp,go_sem,reduceIte,Ra,Rb,Rc,Rd]
    exact ⟨j2 - 1,by omega,i+1,b5,c5,L5++[.cells [.int .i64 x.1,.int .i64 x.2] true],_,_,_,_,_,by omega,hL5.more _,hb5,by rw [hgs];exact hc5,by rw [hgs];exact ZY hLb5 _,he5,by rw [hgs]⟩
   | true=>
    rw [hbt] at hb hgs
    simp only [if_true] at hgs
    simp (maxSteps:=2000000) +contextual only [J5,hi,hq5,Ja hl',ZAv,hb,Zc,decide_true,pp,go_sem,reduceIte,Ra,Rb,Rc,Rd]
    have hLe:=hL5.le
    refine Zi3 (k:=1) (new:=[.int .i64 i]) (cs:=ZR (asZ (Zg8 i c))) (ZY hLb5 _) (Qx _ 1 1 _ _ (L5.length+1) (by simp +contextual only [go_sem,reduceIte,Ra,Rb,Rc,Rd]) rfl) (by simp [ZR,asZ]) rfl (by unfold maxBytes;omega) hc5 ?_
    intro L6 g1 g2 g3 g4
    have hl6:L6.length=L5.length+3:=by rw [g1];simp
    rw [ZAy,←hgs] at g3
    have g3':L6[L5.length+2]?=some (.cells (ZR (asZ (Zg8 (i+1) c))) true):=by simpa using g3
    have hld:Zb L6 L5.length=some [.int .i64 x.1,.int .i64 x.2]:=by
     refine Ze (w:=true) ?_
     rw [g2 L5.length (by omega) (by simp),Ry (Rq _),WG];rfl
    have hmst:IntKind.i64.wrap (ZFz ls p (Zg8 i c)+IntKind.i64.wrap (x.2*IntKind.i64.wrap (x.1 - p)))=ZFz ls p (Zg8 (i+1) c):=by rw [hgs,hms];rfl
    simp (maxSteps:=2000000) +contextual only [hld,Zbt,Zbu,Za2,R9,RH,RI,RJ,Rx,hmst,hiw,pp,go_sem,reduceIte,Ra,Rb,Rc,Rd]
    have hgl':(Zg8 (i+1) c).length=(Zg8 i c).length+1:=by rw [hgs];simp
    exact ⟨j2 - 1,by omega,i+1,L5.length+2,none,L6,e5,_,_,_,_,by omega,g4 _ (hL5.more _) hb5,by omega,by simp,g3',he5,by rw [hgl']⟩
theorem XK.low {L:List Blk} {lo lo' hi:Nat} {es:List AV} {ls:List (List Int)} (h:XK L lo hi es ls) (hh:lo'≤lo):XK L lo' hi es ls:=by
 refine ⟨h.1,fun i l hl => ?_⟩
 obtain ⟨q,c,h1,h2,h3,h4⟩:=h.2 i l hl
 exact ⟨q,c,h1,by omega,h3,h4⟩
theorem ZC0 {B B':Nat} (h:B≤B'):∀ {a:Option Nat},clean B' a=true→clean B a=true
 | none,_=>rfl
 | some a,h1=>by
  rw [XT,decide_eq_true_eq] at h1 ⊢
  omega
def Zae (n:Nat) (l:List Nat):List (List Nat):=(List.range' (firstN l) (n - firstN l)).map fun x=>l++[x]
theorem Zh6 (n:Nat) (l:List Nat):(Zae n l).length=n - firstN l:=by simp [Zae]
theorem ZgR (n m:Nat):∀ (ll:List (List Nat)),(∀ l∈ll,n - firstN l≤m)→(ll.flatMap (Zae n)).length≤ll.length*m
 | [],_=>by simp
 | l::ll,h=>by
  have ih:=ZgR n m ll fun x hx=>h x (Wt _ hx)
  have h1:=h l Wb
  simp only [List.flatMap_cons,RX,Zh6,RN,Nat.add_mul,Rx]
  omega
theorem Zqi (n:Nat):∀ (d:Nat) (l:List Nat),l∈Z6 n d→d≤firstN l
 | 0,_,_=>Nat.zero_le _
 | d+1,l,h=>by
  simp only [Z6,WU,Wd,List.mem_range'_1] at h
  obtain ⟨l0,h0,x,⟨h1,_⟩,rfl⟩:=h
  have:=Zqi n d l0 h0
  simp only [firstN,List.getLast?_append,List.getLast?_singleton,Option.some_or]
  omega
def ZzH (n:Nat):Nat→Nat
 | 0=>1
 | d+1=>ZzH n d*(n - d)
theorem Zw6:∀ n:Nat,n<13→∀ d:Nat,d<14→ZzH n d≤479001600:=by decide +kernel
theorem Zfo (n:Nat):∀ k,(Z6 n k).length≤ZzH n k
 | 0=>by simp [Z6,ZzH]
 | k+1=>by
  have ih:=Zfo n k
  have h:=ZgR n (n - k) (Z6 n k) fun l hl=>by have:=Zqi n k l hl;omega
  have e:Z6 n (k+1)=(Z6 n k).flatMap (Zae n):=rfl
  rw [e,ZzH]
  exact WE h (Nat.mul_le_mul_right _ ih)
theorem ZC1 (n:Nat) (l:List Nat) (j:Nat) (hj:j<n - firstN l):(Zae n l).take (j+1)=(Zae n l).take j++[l++[firstN l+j]]:=by
 rw [RM (by rw [Zh6];exact hj)]
 congr 2
 simp [Zae]
set_option maxHeartbeats 1000000 in
theorem ZzI {n k:Nat} (hn:n≤12) (hk:k≤n):Wc (call T pr Zir [.int .i64 n,.int .i64 k] ⟨H,e⟩)
  (fun v m=>∃ (L':List Blk) (e':Option Nat) (b:Nat) (c:Option Nat) (es:List AV),v=slX b (Z6 n k).length c∧m=⟨L',e'⟩∧ZT H L'∧H.length≤b∧L'[b]?=some (.cells es true)∧XK L' H.length b es ((Z6 n k).map asZ)∧(∀ B,B≤H.length→clean B e=true→clean B e'=true)):=by
 rw [Zr ZBo]
 simp (maxSteps:=2000000) +contextual only [Ze4,ZrO,Zc,pp,go_sem,reduceIte,Ra,Rb,Rc,Rd]
 refine ZL (fun j st=>∃ (d b:Nat) (c:Option Nat) (es:List AV) (L:List Blk) (e1:Option Nat) (w5 w6 w7 w8 w9 w10 w11 w12:AV),d+j=k∧ZT H L∧H.length≤b∧L[b]?=some (.cells es true)∧XK L H.length b es ((Z6 n d).map asZ)∧clean H.length e1=true ∧
  st=⟨[.int .i64 n,.int .i64 k,Z2,slX b (Z6 n d).length c,.int .i64 d,w5,w6,w7,w8,w9,w10,w11,w12],⟨L,e1⟩⟩) ?_ k _
  ⟨0,H.length+1,some 1,[slI H.length 0 (some 0)],_,_,_,_,_,_,_,_,_,_,by omega,⟨_,rfl⟩,by omega,?_,?_,?_,rfl⟩
 ·rintro j _ ⟨d,b,c,es,L,e1,w5,w6,w7,w8,w9,w10,w11,w12,hdj,hL,hb,hLb,hR,he1,rfl⟩
  by_cases hj:j=0
  ·have he:d=k:=by omega
   subst he
   simp (maxSteps:=2000000) +contextual only [ZhB,Ze4,finish,Rh,decide_false,pp,go_sem,reduceIte,Ra,Rb,Rc,Rd]
   exact ⟨L,_,b,c,es,rfl,rfl,hL,hb,hLb,hR,fun B hB h=>Yk h (ZC0 hB he1)⟩
  ·have hd:d<k:=by omega
   have hbl:b<L.length:=(Wl.mp hLb).1
   have hcnt:=Zfo n d
   have hcnt1:=Zfo n (d+1)
   have hp1:=Zw6 n (by omega) d (by omega)
   have hp2:=Zw6 n (by omega) (d+1) (by omega)
   have hdw:=Zi (show d<9223372036854775807 by omega)
   simp (maxSteps:=2000000) +contextual only [ZhB,hd,Zc,decide_true,pp,go_sem,reduceIte,Ra,Rb,Rc,Rd]
   refine ZL (fun j2 st=>∃ (i b5:Nat) (c5:Option Nat) (es5:List AV) (L5:List Blk) (e5:Option Nat) (w7 w8 w10 w11 w12:AV),i+j2=(Z6 n d).length∧ZT L L5∧L.length≤b5∧(c5=some 0→(((Z6 n d).take i).flatMap (Zae n)).length=0)∧L5[b5]?=some (.cells es5 true)∧XK L5 H.length b5 es5 ((((Z6 n d).take i).flatMap (Zae n)).map asZ)∧clean H.length e5=true ∧
    st=⟨[.int .i64 n,.int .i64 k,Z2,slX b (Z6 n d).length c,.int .i64 d,slX b5 (((Z6 n d).take i).flatMap (Zae n)).length c5,.int .i64 i,w7,w8,.bool true,w10,w11,w12],⟨L5,e5⟩⟩) ?_ (Z6 n d).length _
    ⟨0,L.length,some 0,[],L++[.cells [] true],_,_,_,_,_,_,by omega,⟨_,rfl⟩,by omega,fun _=>rfl,by rw [ZQ];rfl,⟨rfl,fun i l hl=>absurd hl (by simp)⟩,he1,rfl⟩
   clear w5 w6 w7 w8 w9 w10 w11 w12
   rintro j2 _ ⟨i,b5,c5,es5,L5,e5,w7,w8,w10,w11,w12,hij,hL5,hb5,hc5,hLb5,hR5,he5,rfl⟩
   by_cases hj2:j2=0
   ·have he:i=(Z6 n d).length:=by omega
    subst he
    rw [Wi] at *
    have e:(Z6 n d).flatMap (Zae n)=Z6 n (d+1):=rfl
    rw [e] at *
    simp (maxSteps:=2000000) +contextual only [Zeh,Rh,hdw,decide_false,pp,go_sem,reduceIte,Ra,Rb,Rc,Rd]
    exact ⟨j - 1,by omega,d+1,b5,c5,es5,L5,e5,_,_,_,_,_,_,_,_,by omega,Zdy hL hL5,by omega,hLb5,hR5,he5,rfl⟩
   ·have hi:i<(Z6 n d).length:=by omega
    obtain ⟨l,hl⟩:∃ l,(Z6 n d)[i]?=some l:=⟨_,Rj hi⟩
    obtain ⟨q,cq,hq1,hq2,hq3,hq4⟩:=hR.2 i (asZ l) (by rw [List.getElem?_map,hl];rfl)
    rw [ZgQ] at hq1
    obtain ⟨hll,hlp,hlx⟩:=(Jd n d l).mp (WJ hl)
    have hiw:=Zi (show i<9223372036854775807 by omega)
    have hb2:Zb L5 b=some es:=Xf hL5 (Ze hLb)
    have hqc:Zb L5 q=some (ZR (asZ l)):=Xf hL5 (Ze hq4)
    have htk:(Z6 n d).take (i+1)=(Z6 n d).take i++[l]:=by
     rw [RM (by omega)]
     rw [Rj (by omega),RS] at hl
     rw [hl]
    have hfm:((Z6 n d).take (i+1)).flatMap (Zae n)=((Z6 n d).take i).flatMap (Zae n)++Zae n l:=by
     rw [htk,List.flatMap_append];simp
    have hfl:(((Z6 n d).take i).flatMap (Zae n)).length+(n - firstN l)≤ZzH n (d+1):=by
     have g1:=ZgR n (n - d) ((Z6 n d).take (i+1)) fun l hl=>by have:=Zqi n d l (List.mem_of_mem_take hl);omega
     rw [hfm,RX,Zh6,Wm] at g1
     refine WE g1 ?_
     rw [ZzH]
     exact Nat.mul_le_mul_right _ (by omega)
    have hfn:firstN l≤n:=Zwz l n hlx
    have hw1:=Zi (show firstN l - 1<9223372036854775807 by omega)
    have hstart:0<d→(asZ l)[d - 1]?=some ((firstN l - 1:Nat):Int)∧0<firstN l:=fun h0=>by
     rcases List.eq_nil_or_concat l with rfl | ⟨l0,y,rfl⟩
     ·simp at hll;omega
     ·simp only [List.concat_eq_append] at hll ⊢
      have:d - 1=l0.length:=by simp at hll;omega
      rw [this]
      unfold asZ
      simp [firstN]
    have key:∀ (Q:Ex→St→Prop) (w7 w11 w12:AV),(∀ (b6:Nat) (c6:Option Nat) (es6:List AV) (L6:List Blk) (e6:Option Nat) (w8 w12:AV),ZT L L6→L.length≤b6→(c6=some 0→(((Z6 n d).take (i+1)).flatMap (Zae n)).length=0)→L6[b6]?=some (.cells es6 true)→XK L6 H.length b6 es6 ((((Z6 n d).take (i+1)).flatMap (Zae n)).map asZ)→clean H.length e6=true →
      Q (.exit 4) ⟨[.int .i64 n,.int .i64 k,Z2,slX b (Z6 n d).length c,.int .i64 d,slX b6 (((Z6 n d).take (i+1)).flatMap (Zae n)).length c6,.int .i64 i,w7,w8,.bool true,.bool true,w11,w12],⟨L6,e6⟩⟩) →
      Wp (run T pr (.loop Zeg) ⟨[.int .i64 n,.int .i64 k,Z2,slX b (Z6 n d).length c,.int .i64 d,slX b5 (((Z6 n d).take i).flatMap (Zae n)).length c5,.int .i64 i,w7,.int .i64 (firstN l),.bool true,.bool true,w11,w12],⟨L5,e5⟩⟩) Q:=by
     intro Q w7 w11 w12 hQ
     refine ZL (fun j3 st=>∃ (x b6:Nat) (c6:Option Nat) (es6:List AV) (L6:List Blk) (e6:Option Nat) (w12:AV),x+j3=n - firstN l∧ZT L L6∧L.length≤b6∧(c6=some 0→(((Z6 n d).take i).flatMap (Zae n)).length+x=0)∧L6[b6]?=some (.cells es6 true)∧XK L6 H.length b6 es6 ((((Z6 n d).take i).flatMap (Zae n)++(Zae n l).take x).map asZ)∧clean H.length e6=true ∧
      st=⟨[.int .i64 n,.int .i64 k,Z2,slX b (Z6 n d).length c,.int .i64 d,slX b6 ((((Z6 n d).take i).flatMap (Zae n)).length+x) c6,.int .i64 i,w7,.int .i64 ((firstN l+x:Nat):Int),.bool true,.bool true,w11,w12],⟨L6,e6⟩⟩) ?_ (n - firstN l) _
      ⟨0,b5,c5,es5,_,_,_,by omega,hL5,hb5,hc5,hLb5,by simpa using hR5,he5,rfl⟩
     clear w12
     rintro j3 _ ⟨x,b6,c6,es6,L6,e6,w12,hxj,hL6,hb6,hc6,hLb6,hR6,he6,rfl⟩
     by_cases hj3:j3=0
     ·have he:firstN l+x=n:=by omega
      rw [he]
      have hx:x=(Zae n l).length:=by rw [Zh6];omega
      rw [hx,Wi,←hfm] at hR6
      have hlen:(((Z6 n d).take i).flatMap (Zae n)).length+x=(((Z6 n d).take (i+1)).flatMap (Zae n)).length:=by rw [hfm,RX,hx]
      rw [hlen] at hc6 ⊢
      simp (maxSteps:=2000000) +contextual only [Zeg,Rh,decide_false,pp,go_sem,reduceIte,Ra,Rb,Rc,Rd]
      exact hQ b6 c6 es6 L6 e6 _ _ hL6 hb6 hc6 hLb6 hR6 he6
     ·have hxn:firstN l+x<n:=by omega
      have hxw:=Zi (show firstN l+x<9223372036854775807 by omega)
      have hb26:Zb L6 b=some es:=Xf hL6 (Ze hLb)
      have hqc6:Zb L6 q=some (ZR (asZ l)):=Xf hL6 (Ze hq4)
      have hown:∀ L e',Zb L q=some (ZR (asZ l))→call T pr Zaw [slI q l.length cq] ⟨L,e'⟩=some (slI L.length l.length none,⟨L++[.cells (ZR (asZ l)) true],e'⟩):=fun L e' hL=>by
       have:=Zqf (pr:=pr) (e:=e') (cap:=cq) hL (by rw [ZgQ];omega)
       rw [ZgQ] at this
       exact this
      simp (maxSteps:=2000000) +contextual only [Zeg,hxn,Zc,hi,hb26,Y2 _ hq1,hown,hqc6,decide_true,pp,go_sem,reduceIte,Ra,Rb,Rc,Rd]
      have hLe6:=hL6.le
      have hb6l:b6<L6.length:=(Wl.mp hLb6).1
      have hes6:es6.length=(((Z6 n d).take i).flatMap (Zae n)).length+x:=by
       rw [hR6.1,WA,RX,Wm,Zh6];omega
      refine Zi3 (k:=1) (new:=[.int .i64 ((firstN l+x:Nat):Int)]) (cs:=ZR (asZ l)) (by rw [Ry (Rq _),WG];rfl) (Qx _ 1 1 _ _ (L6.length+1) (by simp +contextual only [go_sem,reduceIte,Ra,Rb,Rc,Rd]) rfl) (by simp [ZR,asZ]) rfl (by unfold maxBytes;omega) (by simp) ?_
      intro L7 f1 f2 f3 f4
      rw [ZAy] at f3
      have hl7:L7.length=L6.length+3:=by rw [f1];simp
      have f3':L7[L6.length+2]?=some (.cells (ZR (asZ (l++[firstN l+x]))) true):=by simpa using f3
      have keep7:∀ y,y<L6.length→L7[y]?=L6[y]?:=fun y hy=>by
       rw [f2 y (by omega) (by simp;omega),Ws hy]
      simp (maxSteps:=2000000) +contextual only [Zc,RX,RN,Wk,pp,go_sem,reduceIte,Ra,Rb,Rc,Rd]
      refine Zi3 (k:=1) (new:=[slI (L6.length+2) (l.length+1) none]) (cs:=es6) (by rw [Ws (by omega),keep7 _ hb6l];exact hLb6) (Qx _ 1 1 _ _ L7.length (by simp +contextual only [go_sem,reduceIte,Ra,Rb,Rc,Rd]) rfl) (by omega) rfl (by unfold maxBytes;omega) (fun h=>by have:=hc6 h;omega) ?_
      intro L8 g1 g2 g3 g4
      have hl8:L8.length=L6.length+5:=by rw [g1];simp;omega
      simp (maxSteps:=2000000) +contextual only [hxw,pp,go_sem,reduceIte,Ra,Rb,Rc,Rd]
      have g3':L8[L7.length+1]?=some (.cells (es6++[slI (L6.length+2) (asZ (l++[firstN l+x])).length none]) true):=by
       rw [ZgQ,RX (bs:=[firstN l+x])]
       simpa using g3
      have keep8:∀ y,y≠b6→y<L7.length→L8[y]?=L7[y]?:=fun y h1 h2=>by
       rw [g2 y h1 (by simp;omega),Ws h2]
      have hgr:ZT L L8:=g4 _ ((f4 _ ((hL6.more _)) (by omega)).more _) hb6
      have hR8:=(hR6.of (L':=L8) (hi':=L7.length+1) (fun y hy=>by rw [keep8 y (by omega) (by omega),keep7 y (by omega)]) (by omega)).snoc (q:=L6.length+2) (c:=none) (l:=asZ (l++[firstN l+x])) (by have:=hL.le;omega) (by omega) (by rw [keep8 _ (by omega) (by omega)];exact f3')
      have ht:(((Z6 n d).take i).flatMap (Zae n)++(Zae n l).take (x+1)).map asZ=(((Z6 n d).take i).flatMap (Zae n)++(Zae n l).take x).map asZ++[asZ (l++[firstN l+x])]:=by
       rw [ZC1 n l x (by omega),←Rk,WO]
       rfl
      rw [←ht] at hR8
      exact ⟨j3 - 1,by omega,x+1,L7.length+1,none,_,L8,e6,_,by omega,hgr,by omega,by simp,g3',hR8,he6,rfl⟩
    by_cases hd0:d=0
    ·have hd0':¬ (0:Int)<(d:Int):=by omega
     have hl0:l=[]:=by rw [hd0] at hll;exact List.length_eq_zero_iff.mp hll
     have hf0:((firstN l:Nat):Int)=0:=by rw [hl0];rfl
     rw [hf0] at key
     simp (maxSteps:=2000000) +contextual only [Zeh,hi,gt_iff_lt,hd0',decide_true,decide_false,pp,go_sem,reduceIte,Ra,Rb,Rc,Rd]
     refine key _ _ _ _ ?_
     intro b6 c6 es6 L6 e6 w8 w12 g1 g2 g3 g4 g5 g6
     simp (maxSteps:=2000000) +contextual only [hiw,pp,go_sem,reduceIte,Ra,Rb,Rc,Rd]
     exact ⟨j2 - 1,by omega,i+1,b6,c6,es6,L6,e6,_,_,_,_,_,by omega,g1,g2,g3,g4,g5,g6,rfl⟩
    ·have hd0':(0:Int)<(d:Int):=by omega
     have hwd:IntKind.i64.wrap ((d:Int) - 1)=((d - 1:Nat):Int):=by rw [ZN (by omega) (by omega)];omega
     obtain ⟨hs1,hs2⟩:=hstart (by omega)
     have hwf:IntKind.i64.wrap (((firstN l - 1:Nat):Int)+1)=(firstN l:Int):=by rw [hw1];omega
     have hdl:d - 1<l.length:=by omega
     simp (maxSteps:=2000000) +contextual only [Zeh,hi,gt_iff_lt,hd0',hb2,Y2 _ hq1,hqc,hwd,Zu _ hs1,hwf,hdl,decide_true,pp,go_sem,reduceIte,Ra,Rb,Rc,Rd]
     refine key _ _ _ _ ?_
     intro b6 c6 es6 L6 e6 w8 w12 g1 g2 g3 g4 g5 g6
     simp (maxSteps:=2000000) +contextual only [hiw,pp,go_sem,reduceIte,Ra,Rb,Rc,Rd]
     exact ⟨j2 - 1,by omega,i+1,b6,c6,es6,L6,e6,_,_,_,_,_,by omega,g1,g2,g3,g4,g5,g6,rfl⟩
 ·rw [Ry (by omega),show H.length+1 - H.length=1 by omega];rfl
 ·refine ⟨rfl,fun i l hl => ?_⟩
  have hi:=(Wl.mp hl).1
  have hi0:i=0:=by simp [Z6] at hi;omega
  subst hi0
  have hl':l=[]:=by simpa [Z6,asZ] using hl.symm
  subst hl'
  exact ⟨H.length,some 0,rfl,Rq _,by omega,by rw [Ry (by omega),WG];rfl⟩
 ·rfl
theorem ZC2 {q q2:Nat} {cap cap2:Option Nat} {ls:List Ld} {p:Int} {l:List Nat} (h:Zb H q=some (Zn ls)) (h2:Zb H q2=some (ZR (asZ l))) (hn:ls.length≤12) (hl:∀ x∈l,x<ls.length) (hll:l.length≤1000000) :
  call T pr ZeX [slL q ls.length cap,.int .i64 p,slI q2 l.length cap2] ⟨H,e⟩=some (.bool (Zby ls p l),⟨H,e⟩):=by
 apply Wc.eq
 rw [Zr ZBp]
 simp (maxSteps:=2000000) +contextual only [Ze5,ZrP,pp,go_sem,reduceIte,Ra,Rb,Rc,Rd]
 refine ZL (fun j st=>∃ (i:Nat) (w6:AV),i+j=l.length ∧
  st=⟨[slL q ls.length cap,.int .i64 p,slI q2 l.length cap2,.bool false,.int .i64 (ZFz ls p (l.take i)),.int .i64 i,w6],⟨H,none⟩⟩) ?_ l.length _ ⟨0,_,by omega,by rw [List.take_zero];rfl⟩
 rintro j _ ⟨i,w6,hij,rfl⟩
 by_cases hj:j=0
 ·have he:i=l.length:=by omega
  subst he
  rw [Wi]
  simp (maxSteps:=2000000) +contextual only [ZhC,Ze5,Zby,Rh,decide_false,pp,go_sem,reduceIte,Ra,Rb,Rc,Rd]
 ·have hi:i<l.length:=by omega
  have g2:(asZ l)[i]?=some ((l[i]:Nat):Int):=by simp [asZ,hi]
  have hx:=hl l[i] (WB hi)
  have htk:=RM hi
  generalize l[i]=x at *
  have hlx:ls[x]?=some ls[x]:=Rj hx
  have hms:=Zw5 ls p (l.take i) x ls[x] hlx
  rw [←htk] at hms
  generalize ls[x]=y at *
  have hsw:=Zi (show i<9223372036854775807 by omega)
  have hmst:IntKind.i64.wrap (ZFz ls p (l.take i)+IntKind.i64.wrap (y.2*IntKind.i64.wrap (y.1 - p)))=ZFz ls p (l.take (i+1)):=by rw [hms];rfl
  simp (maxSteps:=2000000) +contextual only [ZhC,hi,hx,h,h2,Zu _ g2,Kk _ hlx,JE _ hlx,hmst,hsw,decide_true,pp,go_sem,reduceIte,Ra,Rb,Rc,Rd]
  exact ⟨j - 1,by omega,i+1,_,by omega,rfl⟩
def Zue (n:Nat) (Z:List Nat→Bool) (k i:Nat):List (List Nat):=((WC k).flatMap (Z6 n)).filter Z++((Z6 n k).take i).filter Z
theorem ZlF (n:Nat) (Z:List Nat→Bool) (k:Nat):Zue n Z k 0=((WC k).flatMap (Z6 n)).filter Z:=by
 unfold Zue;simp
theorem ZGZ (n:Nat) (Z:List Nat→Bool) (k:Nat):Zue n Z k (Z6 n k).length=Zue n Z (k+1) 0:=by
 unfold Zue
 rw [Wi,List.range_succ,List.flatMap_append,WR]
 simp
theorem ZFB (n:Nat) (Z:List Nat→Bool) (k i:Nat) (l:List Nat) (h:(Z6 n k)[i]?=some l):Zue n Z k (i+1)=Zue n Z k i++if Z l then [l] else []:=by
 obtain ⟨hi,rfl⟩:=Wl.mp h
 unfold Zue
 rw [RM hi,WR,Rk]
 congr 2
 cases hz:Z (Z6 n k)[i] <;> simp [hz]
theorem Zn9 (n:Nat) (hn:n≤12) (Z:List Nat→Bool) (k i:Nat) (hk:k≤13):(Zue n Z k i).length≤(k+1)*479001600:=by
 have h1:∀ k,k≤13→((WC k).flatMap (Z6 n)).length≤k*479001600:=by
  intro k
  induction k with
  | zero=>intro _;simp
  | succ k ih=>
   intro hk
   have:=ih (by omega)
   have h2:=Zfo n k
   have h3:=Zw6 n (by omega) k (by omega)
   rw [List.range_succ,List.flatMap_append,RX]
   simp only [List.flatMap_cons,List.flatMap_nil,Rv]
   omega
 have h2:=h1 k hk
 have h3:=Zfo n k
 have h4:=Zw6 n (by omega) k (by omega)
 have h5:=WF Z ((WC k).flatMap (Z6 n))
 have h6:=WF Z ((Z6 n k).take i)
 have h7:=List.length_take_le i (Z6 n k)
 have h8:=List.length_take_le' i (Z6 n k)
 unfold Zue
 rw [RX]
 omega
set_option maxHeartbeats 1000000 in
theorem ZlG {q:Nat} {cap:Option Nat} {ls:List Ld} {p:Int} (h:Zb H q=some (Zn ls)) (hn:ls.length≤12):Wc (call T pr ZbU [slL q ls.length cap,.int .i64 p] ⟨H,e⟩)
  (fun v m=>∃ (L':List Blk) (e':Option Nat) (b:Nat) (c:Option Nat) (es:List AV),v=slX b (Yv ls p).length c∧m=⟨L',e'⟩∧ZT H L'∧H.length≤b∧L'[b]?=some (.cells es true)∧XK L' H.length b es (Yv ls p)∧(clean H.length e=true→clean H.length e'=true)):=by
 rw [Zr Zu1]
 simp (maxSteps:=2000000) +contextual only [Zb2,Zm4,Zc,pp,go_sem,reduceIte,Ra,Rb,Rc,Rd]
 refine ZL (fun j st=>∃ (k b3:Nat) (c3:Option Nat) (es:List AV) (L:List Blk) (e1:Option Nat) (w5 w6 w7 w8 w9:AV),k+j=ls.length+1∧ZT H L∧H.length≤b3∧(c3=some 0→(Zue ls.length (Zby ls p) k 0).length=0)∧L[b3]?=some (.cells es true)∧XK L H.length b3 es ((Zue ls.length (Zby ls p) k 0).map asZ)∧clean H.length e1=true ∧
  st=⟨[slL q ls.length cap,.int .i64 p,Z2,slX b3 (Zue ls.length (Zby ls p) k 0).length c3,.int .i64 k,w5,w6,w7,w8,w9],⟨L,e1⟩⟩) ?_ (ls.length+1) _
  ⟨0,H.length,some 0,[],H++[.cells [] true],none,_,_,_,_,_,by omega,⟨_,rfl⟩,Rq _,fun _=>rfl,by rw [ZQ];rfl,⟨rfl,fun i l hl=>absurd hl (by simp [Zue])⟩,rfl,rfl⟩
 rintro j _ ⟨k,b3,c3,es,L,e1,w5,w6,w7,w8,w9,hkj,hL,hb3,hc3,hLb,hR,he1,rfl⟩
 by_cases hj:j=0
 ·have he:k=ls.length+1:=by omega
  subst he
  have hle:¬ ((ls.length+1:Nat):Int)≤((ls.length:Nat):Int):=by omega
  rw [ZlF] at *
  have hg:(((WC (ls.length+1)).flatMap (Z6 ls.length)).filter (Zby ls p)).map asZ=Yv ls p:=rfl
  have hgl:(((WC (ls.length+1)).flatMap (Z6 ls.length)).filter (Zby ls p)).length=(Yv ls p).length:=by rw [←hg,WA]
  rw [hg] at hR
  rw [hgl]
  simp (maxSteps:=2000000) +contextual only [ZeI,Zb2,finish,hle,decide_false,pp,go_sem,reduceIte,Ra,Rb,Rc,Rd]
  exact ⟨L,_,b3,c3,es,rfl,rfl,hL,hb3,hLb,hR,fun h=>Yk h he1⟩
 ·have hk:k≤ls.length:=by omega
  have hkw:=Zi (show k<9223372036854775807 by omega)
  have hkZ:(k:Int)≤(ls.length:Int):=by omega
  simp (maxSteps:=2000000) +contextual only [ZeI,hkZ,decide_true,pp,go_sem,reduceIte,Ra,Rb,Rc,Rd]
  refine (ZzI hn hk).mono ?_
  rintro v m ⟨L',e2,bs,cs,ess,rfl,rfl,hLL,hbs,hLs,hRs,hcl⟩
  have he2:=hcl H.length hL.le he1
  simp (maxSteps:=2000000) +contextual only [pp,go_sem,reduceIte,Ra,Rb,Rc,Rd]
  have hbl:b3<L.length:=(Wl.mp hLb).1
  have hbsl:bs<L'.length:=(Wl.mp hLs).1
  have hLe:=hLL.le
  have hHe:=hL.le
  have hR':=hR.grown hLL (by omega) (Rq _)
  refine ZL (fun j2 st=>∃ (i b5:Nat) (c5:Option Nat) (es5:List AV) (L5:List Blk) (w8 w9:AV),i+j2=(Z6 ls.length k).length∧ZT H L5∧H.length≤b5∧(b5<L.length∨bs<b5)∧(c5=some 0→(Zue ls.length (Zby ls p) k i).length=0)∧L5[b5]?=some (.cells es5 true)∧XK L5 H.length b5 es5 ((Zue ls.length (Zby ls p) k i).map asZ)∧XK L5 L.length bs ess ((Z6 ls.length k).map asZ)∧L5[bs]?=some (.cells ess true)∧Zb L5 q=some (Zn ls) ∧
   st=⟨[slL q ls.length cap,.int .i64 p,Z2,slX b5 (Zue ls.length (Zby ls p) k i).length c5,.int .i64 k,slX bs (Z6 ls.length k).length cs,.int .i64 i,.bool true,w8,w9],⟨L5,e2⟩⟩) ?_ (Z6 ls.length k).length _
   ⟨0,b3,c3,es,L',_,_,by omega,Zdy hL hLL,hb3,.inl hbl,hc3,ZlE hLL hLb,hR',hRs,hLs,Xf hLL (Xf hL h),rfl⟩
  clear w5 w6 w7 w8 w9
  rintro j2 _ ⟨i,b5,c5,es5,L5,w8,w9,hij,hL5,hb5,hb5o,hc5,hLb5,hR5,hRs5,hLs5,hq5,rfl⟩
  by_cases hj2:j2=0
  ·have he:i=(Z6 ls.length k).length:=by omega
   subst he
   rw [ZGZ] at *
   simp (maxSteps:=2000000) +contextual only [ZbM,Rh,hkw,decide_false,pp,go_sem,reduceIte,Ra,Rb,Rc,Rd]
   exact ⟨j - 1,by omega,k+1,b5,c5,es5,L5,e2,_,_,_,_,_,by omega,hL5,hb5,hc5,hLb5,hR5,he2,rfl⟩
  ·have hi:i<(Z6 ls.length k).length:=by omega
   obtain ⟨l,hl⟩:∃ l,(Z6 ls.length k)[i]?=some l:=⟨_,Rj hi⟩
   obtain ⟨q2,cq,hq1,hq2,hq3,hq4⟩:=hRs5.2 i (asZ l) (by rw [List.getElem?_map,hl];rfl)
   rw [ZgQ] at hq1
   obtain ⟨hll,hlp,hlx⟩:=(Jd ls.length k l).mp (WJ hl)
   have hiw:=Zi (show i<9223372036854775807 by have:=Zfo ls.length k;have:=Zw6 ls.length (by omega) k (by omega);omega)
   have hsn:=ZFB ls.length (Zby ls p) k i l hl
   have hpl:=Zn9 ls.length hn (Zby ls p) k i (by omega)
   have hz:∀ e',call T pr ZeX [slL q ls.length cap,.int .i64 p,slI q2 l.length cq] ⟨L5,e'⟩=some (.bool (Zby ls p l),⟨L5,e'⟩):=fun e'=>ZC2 hq5 (Ze hq4) hn hlx (by omega)
   have hbs5:=Ze hLs5
   cases hzb:Zby ls p l with
   | false=>
    rw [hzb] at hsn hz
    simp only [RZ,if_false,Rv] at hsn
    simp (maxSteps:=2000000) +contextual only [ZbM,hi,hbs5,Y2 _ hq1,hz,hiw,decide_true,pp,go_sem,reduceIte,Ra,Rb,Rc,Rd]
    exact ⟨j2 - 1,by omega,i+1,b5,c5,es5,L5,_,_,by omega,hL5,hb5,hb5o,by rw [hsn];exact hc5,hLb5,by rw [hsn];exact hR5,hRs5,hLs5,hq5,by rw [hsn]⟩
   | true=>
    rw [hzb] at hsn hz
    simp only [if_true] at hsn
    simp (maxSteps:=2000000) +contextual only [ZbM,hi,hbs5,Y2 _ hq1,hz,Zc,decide_true,pp,go_sem,reduceIte,Ra,Rb,Rc,Rd]
    have hb5l:b5<L5.length:=(Wl.mp hLb5).1
    have hes5:es5.length=(Zue ls.length (Zby ls p) k i).length:=by rw [hR5.1,WA]
    refine Zi3 (k:=1) (new:=[slI q2 l.length cq]) (cs:=es5) (ZY hLb5 _) (Qx _ 1 1 _ _ L5.length (by simp +contextual only [go_sem,reduceIte,Ra,Rb,Rc,Rd]) rfl) (by omega) rfl (by unfold maxBytes;omega) hc5 ?_
    intro L6 g1 g2 g3 g4
    have hl6:L6.length=L5.length+2:=by rw [g1];simp
    simp (maxSteps:=2000000) +contextual only [hiw,pp,go_sem,reduceIte,Ra,Rb,Rc,Rd]
    have g3':L6[L5.length+1]?=some (.cells (es5++[slI q2 (asZ l).length cq]) true):=by
     rw [ZgQ]
     simpa using g3
    have keep:∀ x,x≠b5→x<L5.length→L6[x]?=L5[x]?:=fun x h1 h2=>by
     rw [g2 x h1 (by simp;omega),Ws h2]
    have hbs5l:bs<L5.length:=(Wl.mp hLs5).1
    have hqH:q<H.length:=ZW h
    have hR6:=(hR5.of (L':=L6) (hi':=L5.length+1) (fun x hx=>keep x (by omega) (by omega)) (by omega)).snoc (q:=q2) (c:=cq) (l:=asZ l) (by omega) (by omega) (by rw [keep q2 (by omega) (by omega)];exact hq4)
    refine ⟨j2 - 1,by omega,i+1,L5.length+1,none,_,L6,_,_,by omega,g4 _ (hL5.more _) hb5,by have:=hL5.le;omega,.inr (by omega),by simp,g3',by rw [hsn,WO];exact hR6,⟨hRs5.1,fun i' l' hl' => ?_⟩,by rw [keep bs (by omega) hbs5l];exact hLs5,?_,by rw [hsn,RX];rfl⟩
    ·obtain ⟨q',c',r1,r2,r3,r4⟩:=hRs5.2 i' l' hl'
     exact ⟨q',c',r1,r2,r3,by rw [keep q' (by omega) (by omega)];exact r4⟩
    ·unfold Zb at hq5 ⊢
     rw [keep q (by omega) (by omega)]
     exact hq5
theorem ZzJ {L:List Blk} {v:AV} (h0:AV.roots H.length v=[]) (h0':∀ f,AV.rename f v=v) (hL:ZT H L) (e0 e1:Option Nat) (hc:clean H.length e1=true):finish 2 H.length e0 v ⟨L,e1⟩=some (v,⟨H,e0⟩):=by
 obtain ⟨G,rfl⟩:=hL
 unfold finish
 simp only [h0,h0',hc]
 simp [XL]
theorem Zca {ls:List Ld} (h:Yu ls=true):ls.length≤12:=by
 unfold Yu at h
 rw [Rs,decide_eq_true_eq] at h
 exact h.1
theorem ZtZ (hl:ZtQ pr) {q:Nat} {cap:Option Nat} {ls:List Ld} (h:Zb H q=some (Zn ls)) (hr:Yu ls=true) (p:Int):call T pr Zcp [slL q ls.length cap,.int .i64 p] ⟨H,e⟩=some (.tup [.int .i64 (if Zha p=true then ((Yv ls p).length:Int) else 0),.bool (Zha p)],⟨H,e⟩):=by
 have hn:=Zca hr
 have h1:=fun (L:List Blk) (hL:Zb L q=some (Zn ls))=>Ka (pr:=pr) (H:=L) (e:=none) (c:=cap) hL
 have h3:=fun G=>Zdo (pr:=pr) (H:=G) (e:=none) p
 rw [hr] at h1
 apply Wc.eq
 rw [Zr ZsK]
 unfold Zha
 cases hp:(decide (0≤p)&&decide (p≤60)) with
 | false=>
  rw [hp] at h3
  simp (maxSteps:=2000000) +contextual only [KW,ZfX,h,h1,h3,RZ,if_false,if_true,pp,go_sem,reduceIte,Ra,Rb,Rc,Rd]
 | true=>
  rw [hp] at h3
  simp (maxSteps:=2000000) +contextual only [KW,ZfX,h,h1,h3,RZ,if_false,if_true,pp,go_sem,reduceIte,Ra,Rb,Rc,Rd]
  refine (Zh5 hl h hn).mono ?_
  rintro v m ⟨L',e',b,c,es,rfl,rfl,hL,hb,hLb,hR,hcl⟩
  have hf:=fun e0=>ZFp hL e0 e' (.tup [.int .i64 ((Yv ls p).length:Nat),.bool true]) rfl (hcl rfl)
  simp (maxSteps:=2000000) +contextual only [KW,hf,pp,go_sem,reduceIte,Ra,Rb,Rc,Rd]
theorem Zt0 {q:Nat} {cap:Option Nat} {ls:List Ld} (h:Zb H q=some (Zn ls)) (hr:Yu ls=true) (p:Int):call T pr Zcv [slL q ls.length cap,.int .i64 p] ⟨H,e⟩=some (.tup [.int .i64 (if Zha p=true then ((Yv ls p).length:Int) else 0),.bool (Zha p)],⟨H,e⟩):=by
 have hn:=Zca hr
 have h1:=fun (L:List Blk) (hL:Zb L q=some (Zn ls))=>KM (pr:=pr) (H:=L) (e:=none) (c:=cap) hL
 have h3:=fun G=>Zgt (pr:=pr) (H:=G) (e:=none) p
 rw [hr] at h1
 apply Wc.eq
 rw [Zr ZsX]
 unfold Zha
 cases hp:(decide (0≤p)&&decide (p≤60)) with
 | false=>
  rw [hp] at h3
  simp (maxSteps:=2000000) +contextual only [K5,Zgl,h,h1,h3,RZ,if_false,if_true,pp,go_sem,reduceIte,Ra,Rb,Rc,Rd]
 | true=>
  rw [hp] at h3
  simp (maxSteps:=2000000) +contextual only [K5,Zgl,h,h1,h3,RZ,if_false,if_true,pp,go_sem,reduceIte,Ra,Rb,Rc,Rd]
  refine (ZlG h hn).mono ?_
  rintro v m ⟨L',e',b,c,es,rfl,rfl,hL,hb,hLb,hR,hcl⟩
  have hf:=fun e0=>ZFp hL e0 e' (.tup [.int .i64 ((Yv ls p).length:Nat),.bool true]) rfl (hcl rfl)
  simp (maxSteps:=2000000) +contextual only [K5,hf,pp,go_sem,reduceIte,Ra,Rb,Rc,Rd]
def Zfp (n:Nat) (g:List Int):Bool:=decide ((0:Int)∈g)&&decide (g.length<n)
def Zdz (ls:List Ld):Int:=((Zk8 ls 0).toNat / (Zab ls).toNat:Nat)
def Zqj (ls:List Ld):Bool:=decide (2≤ls.length)&&decide ((Zk8 ls 0).toNat % (Zab ls).toNat=0)
def Zam (ls:List Ld):Option (List Int):=if Zqj ls=true then (Yv ls (Zdz ls)).find? (Zfp ls.length) else none
theorem Zeu {ls:List Ld} {p:Int} {g:List Int} (h:g∈Yv ls p):((0:Int)∈g↔g[0]?=some 0)∧g.length≤ls.length:=by
 unfold Yv ZFZ at h
 obtain ⟨l,hl,rfl⟩:=Wd.mp h
 obtain ⟨k,hk,hm⟩:=WU.mp (Wr.mp hl).1
 obtain ⟨h1,h2,h3⟩:=(Jd ls.length k l).mp hm
 have hk':=List.mem_range.mp hk
 refine ⟨?_,by rw [ZgQ];omega⟩
 cases l with
 | nil=>simp [asZ]
 | cons a l=>
  obtain ⟨h4,h5⟩:=List.pairwise_cons.mp h2
  simp only [asZ,List.map_cons,List.mem_cons,Wd,List.getElem?_cons_zero,RS]
  constructor
  ·rintro (h | ⟨x,hx,h6⟩)
   ·exact h.symm
   ·have:=h4 x hx;omega
  ·intro h;exact .inl h.symm
theorem Zqk (hl:ZtQ pr) {q:Nat} {cap:Option Nat} {ls:List Ld} (h:Zb H q=some (Zn ls)) (hr:Yu ls=true):Wc (call T pr ZbB [slL q ls.length cap] ⟨H,e⟩)
  (fun v m=>match Zam ls with
   | some g=>∃ (c:Option Nat),v=.tup [slI H.length g.length c,.bool true]∧m=⟨H++[.cells (ZR g) true],e⟩
   | none=>v=.tup [Z2,.bool false]∧m=⟨H,e⟩):=by
 have hn:=Zca hr
 have h1:=fun (L:List Blk) (hL:Zb L q=some (Zn ls))=>Ka (pr:=pr) (H:=L) (e:=none) (c:=cap) hL
 have h2:=fun (L:List Blk) (hL:Zb L q=some (Zn ls))=>ZaQ (pr:=pr) (H:=L) (e:=none) (c:=cap) hL (by omega) 0
 have h3:=fun (L:List Blk) (hL:Zb L q=some (Zn ls))=>Zem (pr:=pr) (H:=L) (e:=none) (c:=cap) hL (by omega)
 rw [hr] at h1
 obtain ⟨m,hm,hm1⟩:=ZwM hr
 obtain ⟨w,hw,hw1⟩:=ZaS hr
 rw [hm] at h2
 rw [hw] at h3
 rw [Zr Zqy]
 by_cases h20:ls.length<2
 ·have h20':((ls.length:Nat):Int)<2:=by omega
  have ha:Zam ls=none:=by unfold Zam Zqj;rw [decide_eq_false (by omega:¬ 2≤ls.length)];rfl
  rw [ha]
  simp (maxSteps:=2000000) +contextual only [Xp,ZbF,h,h1,h20,h20',decide_true,pp,go_sem,reduceIte,Ra,Rb,Rc,Rd,ff]
 ·have h20':¬ ((ls.length:Nat):Int)<2:=by omega
  have hwp:=ZiR hr (by omega)
  rw [hw,Rz] at hwp
  have hw0:¬ ((w:Nat):Int)=0:=by omega
  have hq1:Int.tmod (m:Int) (w:Int)=((m % w:Nat):Int):=rfl
  by_cases hmw:m % w=0
  ·have hmz:((m % w:Nat):Int)=0:=by omega
   have hq2:IntKind.i64.wrap (WI (m:Int) (w:Int))=Zdz ls:=by
    unfold Zdz
    rw [hm,hw,Rz,Rz,←Int.ofNat_tdiv]
    exact Kn (by have:=Rr m w;omega)
   have ha:Zam ls=(Yv ls (Zdz ls)).find? (Zfp ls.length):=by
    unfold Zam Zqj
    rw [hm,hw,Rz,Rz,decide_eq_true (by omega:2≤ls.length),decide_eq_true hmw];rfl
   rw [ha]
   simp (maxSteps:=2000000) +contextual only [Xp,ZbF,h,h1,h2,h3,h20,h20',hw0,hq1,hmz,hq2,decide_true,decide_false,pp,go_sem,reduceIte,Ra,Rb,Rc,Rd]
   refine (Zh5 hl h hn).mono ?_
   rintro v mm ⟨L',e',b,c,es,rfl,rfl,hL,hb,hLb,hR,hcl⟩
   have he':=hcl rfl
   simp (maxSteps:=2000000) +contextual only [pp,go_sem,reduceIte,Ra,Rb,Rc,Rd]
   have hgb:=Zn9 ls.length hn (Zby ls (Zdz ls)) (ls.length+1) 0 (by omega)
   rw [ZlF] at hgb
   have hgb2:(Yv ls (Zdz ls)).length≤(ls.length+1+1)*479001600:=by unfold Yv ZFZ;rw [WA];exact hgb
   clear hgb
   have hgf:=fun g=>Zeu (ls:=ls) (p:=Zdz ls) (g:=g)
   generalize Yv ls (Zdz ls)=gs at *
   have hes:es.length=gs.length:=hR.1
   have hbc:=Ze hLb
   refine ZL (fun j st=>∃ (i:Nat) (w5 w11 w12:AV),i+j=gs.length∧(gs.drop i).find? (Zfp ls.length)=gs.find? (Zfp ls.length) ∧
    st=⟨[slL q ls.length cap,Z2,.bool false,.int .i64 m,.int .i64 w,w5,.bool false,.bool false,slX b gs.length c,.int .i64 gs.length,.int .i64 i,w11,w12],⟨L',e'⟩⟩) ?_ gs.length _ ⟨0,_,_,_,by omega,rfl,rfl⟩
   rintro j _ ⟨i,w5,w11,w12,hij,hfd,rfl⟩
   by_cases hj:j=0
   ·have he:i=gs.length:=by omega
    subst he
    rw [Rn] at hfd
    rw [←hfd]
    have hf:=fun e0=>ZzJ (v:=.tup [.slice none 0 0 none,.bool false]) (by simp [AV.roots,AV.roots.go]) (by simp [AV.rename,AV.rename.go]) hL e0 e' he'
    simp (maxSteps:=2000000) +contextual only [XR,Xp,List.find?_nil,Rh,decide_false,hf,pp,go_sem,reduceIte,Ra,Rb,Rc,Rd]
   ·have hi:i<gs.length:=by omega
    obtain ⟨g,hg⟩:∃ g,gs[i]?=some g:=⟨_,Rj hi⟩
    obtain ⟨q2,cq,hq1,hq2,hq3,hq4⟩:=hR.2 i g hg
    have hiw:IntKind.i64.wrap ((i:Int)+1)=((i+1:Nat):Int):=Zi (by omega)
    obtain ⟨hz,hgl⟩:=hgf g (WJ hg)
    have hdr:gs.drop i=g::gs.drop (i+1):=by
     rw [Rm hi]
     rw [Rj hi,RS] at hg
     rw [hg]
    rw [hdr,List.find?_cons] at hfd
    have hqc:=Ze hq4
    by_cases h0:g.length=0
    ·have hpg:Zfp ls.length g=false:=by
      have:g=[]:=List.length_eq_zero_iff.mp h0
      subst this;rfl
     rw [hpg] at hfd
     have h0':¬ (0:Int)<((g.length:Nat):Int):=by omega
     simp (maxSteps:=2000000) +contextual only [XR,hi,hbc,Y2 _ hq1,gt_iff_lt,h0',hiw,decide_true,decide_false,pp,go_sem,reduceIte,Ra,Rb,Rc,Rd]
     exact ⟨j - 1,by omega,i+1,_,_,_,by omega,hfd,rfl⟩
    ·have h0':(0:Int)<((g.length:Nat):Int):=by omega
     have hg0:0<g.length:=by omega
     obtain ⟨x,hx⟩:∃ x,g[0]?=some x:=⟨_,Rj hg0⟩
     by_cases hlt:g.length<ls.length
     ·by_cases hx0:x=0
      ·subst hx0
       have hpg:Zfp ls.length g=true:=by unfold Zfp;rw [decide_eq_true (hz.mpr hx),decide_eq_true hlt];rfl
       rw [hpg] at hfd
       have hf:=fun e0=>Yf true hL e0 e' he' hq2 hq4 (n:=g.length) (sz:=1) (c:=cq) (K9 _ _)
       rw [←hfd]
       simp (maxSteps:=2000000) +contextual only [XR,Xp,hi,hbc,Y2 _ hq1,gt_iff_lt,h0',hg0,hlt,hqc,Za2,R9,RH,Zu _ hx,hf,decide_true,decide_false,pp,go_sem,reduceIte,Ra,Rb,Rc,Rd]
       exact ⟨cq,rfl⟩
      ·have hpg:Zfp ls.length g=false:=by
        unfold Zfp
        rw [decide_eq_false (p:=(0:Int)∈g)];rfl
        intro h;have:=hz.mp h;rw [hx,RS] at this;exact hx0 this
       rw [hpg] at hfd
       simp (maxSteps:=2000000) +contextual only [XR,hi,hbc,Y2 _ hq1,gt_iff_lt,h0',hg0,hlt,hqc,Za2,R9,RH,Zu _ hx,hx0,hiw,decide_true,decide_false,pp,go_sem,reduceIte,Ra,Rb,Rc,Rd]
       exact ⟨j - 1,by omega,i+1,_,_,_,by omega,hfd,rfl⟩
     ·have hpg:Zfp ls.length g=false:=by unfold Zfp;rw [decide_eq_false hlt,Bool.and_false]
      rw [hpg] at hfd
      simp (maxSteps:=2000000) +contextual only [XR,hi,hbc,Y2 _ hq1,gt_iff_lt,h0',hlt,hiw,decide_true,decide_false,pp,go_sem,reduceIte,Ra,Rb,Rc,Rd]
      exact ⟨j - 1,by omega,i+1,_,_,_,by omega,hfd,rfl⟩
  ·have hmz:¬ ((m % w:Nat):Int)=0:=by omega
   have ha:Zam ls=none:=by unfold Zam Zqj;rw [hm,hw,Rz,Rz,decide_eq_false hmw,Bool.and_false];rfl
   rw [ha]
   simp (maxSteps:=2000000) +contextual only [Xp,ZbF,h,h1,h2,h3,h20,h20',hw0,hq1,hmz,decide_true,decide_false,pp,go_sem,reduceIte,Ra,Rb,Rc,Rd,ff]
theorem Zql {q:Nat} {cap:Option Nat} {ls:List Ld} (h:Zb H q=some (Zn ls)) (hr:Yu ls=true):Wc (call T pr ZbD [slL q ls.length cap] ⟨H,e⟩)
  (fun v m=>match Zam ls with
   | some g=>∃ (c:Option Nat),v=.tup [slI H.length g.length c,.bool true]∧m=⟨H++[.cells (ZR g) true],e⟩
   | none=>∃ (G:List Blk) (c:Option Nat),v=.tup [slI H.length 0 c,.bool false]∧m=⟨H++G,e⟩):=by
 have hn:=Zca hr
 have h1:=fun (L:List Blk) (hL:Zb L q=some (Zn ls))=>KM (pr:=pr) (H:=L) (e:=none) (c:=cap) hL
 have h2:=fun (L:List Blk) (hL:Zb L q=some (Zn ls))=>Zb6 (pr:=pr) (H:=L) (e:=none) (c:=cap) hL (by omega) 0
 have h3:=fun (L:List Blk) (hL:Zb L q=some (Zn ls))=>Zen (pr:=pr) (H:=L) (e:=none) (c:=cap) hL (by omega)
 rw [hr] at h1
 obtain ⟨m,hm,hm1⟩:=ZwM hr
 obtain ⟨w,hw,hw1⟩:=ZaS hr
 rw [hm] at h2
 rw [hw] at h3
 have hno:∀ (e0 e1:Option Nat),clean H.length e1=true→finish 2 H.length e0 (.tup [slI H.length 0 (some 0),.bool false]) ⟨H++[.cells [] true],e1⟩=some (.tup [slI H.length 0 (some 0),.bool false],⟨H++[.cells [] true],e0⟩) :=
  fun e0 e1 hc=>Yf false ⟨_,rfl⟩ e0 e1 hc (Rq _) (by rw [Ry (by omega)];simp) rfl
 rw [Zr ZqC]
 by_cases h20:ls.length<2
 ·have h20':((ls.length:Nat):Int)<2:=by omega
  have ha:Zam ls=none:=by unfold Zam Zqj;rw [decide_eq_false (by omega:¬ 2≤ls.length)];rfl
  rw [ha]
  simp (maxSteps:=2000000) +contextual only [Xt,ZbJ,h,h1,h20,h20',hno,Zm,Zc,decide_true,pp,go_sem,reduceIte,Ra,Rb,Rc,Rd]
  exact ⟨_,_,rfl,rfl⟩
 ·have h20':¬ ((ls.length:Nat):Int)<2:=by omega
  have hwp:=ZiR hr (by omega)
  rw [hw,Rz] at hwp
  have hw0:¬ ((w:Nat):Int)=0:=by omega
  have hq1:Int.tmod (m:Int) (w:Int)=((m % w:Nat):Int):=rfl
  by_cases hmw:m % w=0
  ·have hmz:((m % w:Nat):Int)=0:=by omega
   have hq2:IntKind.i64.wrap (WI (m:Int) (w:Int))=Zdz ls:=by
    unfold Zdz
    rw [hm,hw,Rz,Rz,←Int.ofNat_tdiv]
    exact Kn (by have:=Rr m w;omega)
   have ha:Zam ls=(Yv ls (Zdz ls)).find? (Zfp ls.length):=by
    unfold Zam Zqj
    rw [hm,hw,Rz,Rz,decide_eq_true (by omega:2≤ls.length),decide_eq_true hmw];rfl
   rw [ha]
   simp (maxSteps:=2000000) +contextual only [Xt,ZbJ,h,h1,h2,h3,h20,h20',hw0,hq1,hmz,hq2,decide_true,decide_false,pp,go_sem,reduceIte,Ra,Rb,Rc,Rd]
   refine (ZlG h hn).mono ?_
   rintro v mm ⟨L',e',b,c,es,rfl,rfl,hL,hb,hLb,hR,hcl⟩
   have he':=hcl rfl
   simp (maxSteps:=2000000) +contextual only [pp,go_sem,reduceIte,Ra,Rb,Rc,Rd]
   have hgb:=Zn9 ls.length hn (Zby ls (Zdz ls)) (ls.length+1) 0 (by omega)
   rw [ZlF] at hgb
   have hgb2:(Yv ls (Zdz ls)).length≤(ls.length+1+1)*479001600:=by unfold Yv ZFZ;rw [WA];exact hgb
   clear hgb
   have hgf:=fun g=>Zeu (ls:=ls) (p:=Zdz ls) (g:=g)
   generalize Yv ls (Zdz ls)=gs at *
   have hes:es.length=gs.length:=hR.1
   have hbc:=Ze hLb
   refine ZL (fun j st=>∃ (i:Nat) (w6 w7:AV),i+j=gs.length∧(gs.drop i).find? (Zfp ls.length)=gs.find? (Zfp ls.length) ∧
    st=⟨[slL q ls.length cap,Z2,.bool false,slX b gs.length c,.int .i64 i,.bool false,w6,w7],⟨L',e'⟩⟩) ?_ gs.length _ ⟨0,_,_,by omega,rfl,rfl⟩
   rintro j _ ⟨i,w6,w7,hij,hfd,rfl⟩
   by_cases hj:j=0
   ·have he:i=gs.length:=by omega
    subst he
    rw [Rn] at hfd
    rw [←hfd]
    have hLe:=hL.le
    have hf:=fun e0=>Yf (cs:=[]) (w:=true) (n:=0) (sz:=1) (c:=some 0) false (hL.more [.cells [] true]) e0 e' he' hLe (by rw [ZQ];rfl) rfl
    simp (maxSteps:=2000000) +contextual only [J8,Xt,List.find?_nil,Rh,Zc,decide_false,hf,pp,go_sem,reduceIte,Ra,Rb,Rc,Rd]
    exact ⟨_,_,rfl,rfl⟩
   ·have hi:i<gs.length:=by omega
    obtain ⟨g,hg⟩:∃ g,gs[i]?=some g:=⟨_,Rj hi⟩
    obtain ⟨q2,cq,hq1,hq2,hq3,hq4⟩:=hR.2 i g hg
    have hiw:IntKind.i64.wrap ((i:Int)+1)=((i+1:Nat):Int):=Zi (by omega)
    obtain ⟨hz,hgl⟩:=hgf g (WJ hg)
    have hdr:gs.drop i=g::gs.drop (i+1):=by
     rw [Rm hi]
     rw [Rj hi,RS] at hg
     rw [hg]
    rw [hdr,List.find?_cons] at hfd
    have hqc:=Ze hq4
    have hhas:∀ e0,call T pr Zhi [slI q2 g.length cq,.int .i64 0] ⟨L',e0⟩=some (.bool (decide ((0:Int)∈g)),⟨L',e0⟩):=fun e0=>ZEt hqc (by omega) 0
    by_cases h0:(0:Int)∈g
    ·rw [decide_eq_true h0] at hhas
     by_cases hlt:g.length<ls.length
     ·have hpg:Zfp ls.length g=true:=by unfold Zfp;rw [decide_eq_true h0,decide_eq_true hlt];rfl
      rw [hpg] at hfd
      have hf:=fun e0=>Yf true hL e0 e' he' hq2 hq4 (n:=g.length) (sz:=1) (c:=cq) (K9 _ _)
      rw [←hfd]
      simp (maxSteps:=2000000) +contextual only [J8,Xt,hi,hbc,Y2 _ hq1,hhas,hlt,hf,decide_true,decide_false,pp,go_sem,reduceIte,Ra,Rb,Rc,Rd]
      exact ⟨cq,rfl⟩
     ·have hpg:Zfp ls.length g=false:=by unfold Zfp;rw [decide_eq_false hlt,Bool.and_false]
      rw [hpg] at hfd
      simp (maxSteps:=2000000) +contextual only [J8,hi,hbc,Y2 _ hq1,hhas,hlt,hiw,decide_true,decide_false,pp,go_sem,reduceIte,Ra,Rb,Rc,Rd]
      exact ⟨j - 1,by omega,i+1,_,_,by omega,hfd,rfl⟩
    ·rw [decide_eq_false h0] at hhas
     have hpg:Zfp ls.length g=false:=by unfold Zfp;rw [decide_eq_false h0,RR]
     rw [hpg] at hfd
     simp (maxSteps:=2000000) +contextual only [J8,hi,hbc,Y2 _ hq1,hhas,hiw,decide_true,decide_false,pp,go_sem,reduceIte,Ra,Rb,Rc,Rd]
     exact ⟨j - 1,by omega,i+1,_,_,by omega,hfd,rfl⟩
  ·have hmz:¬ ((m % w:Nat):Int)=0:=by omega
   have ha:Zam ls=none:=by unfold Zam Zqj;rw [hm,hw,Rz,Rz,decide_eq_false hmw,Bool.and_false];rfl
   rw [ha]
   simp (maxSteps:=2000000) +contextual only [Xt,ZbJ,h,h1,h2,h3,h20,h20',hw0,hq1,hmz,hno,Zm,Zc,decide_true,decide_false,pp,go_sem,reduceIte,Ra,Rb,Rc,Rd]
   exact ⟨_,_,rfl,rfl⟩
abbrev cnV (row:AV) (a b:Int) (chain:AV) (t k:Int) (d p:By) (c:Int):AV:=.agg [row,.int .i64 a,.int .i64 b,chain,.int .i64 t,.int .i64 k,sV d,sV p,.int .i64 c]
def Zcm (ls:List Ld) (ss:List Sg) (a b t k:Int):Bool:=Yu ls&&(ZA ss&&JN a b t k)
theorem Zev (hi:Ko pr) (hp:YW pr) (hx:QW pr) {q q':Nat} {c1 c2:Option Nat} {ls:List Ld} {ss:List Sg} (h1:Zb H q=some (Zn ls)) (h2:Zb H q'=some (Zw ss)) (hm:ss.length≤1048576) (a b t k c:Int) {d p:By} (hd:d.length≤1048576) (hpp:p.length≤1048576):call T pr XV [cnV (slL q ls.length c1) a b (slS q' ss.length c2) t k d p c] ⟨H,e⟩=some (.bool (Zcm ls ss a b t k&&Zao d p c),⟨H,e⟩):=by
 have hst:∀ G,call T pr YQ [stV (slL q ls.length c1) a b (slS q' ss.length c2) t k] ⟨H++G,none⟩=some (.bool (Zcm ls ss a b t k),⟨H++G,none⟩) :=
  fun G=>Zdq (fun G2=>Ka (Za (Za h1 G) G2)) (fun G2=>Jq (Za (Za h2 G) G2) (by omega)) a b t k
 have hlg:=fun L=>Zju (pr:=pr) (H:=L) (e:=none) hi hp hx d p c hd hpp
 rw [Zh ZkU]
 cases hA:Zcm ls ss a b t k <;> rw [hA] at hst <;> cases hB:Zao d p c <;> rw [hB] at hlg <;> simp +contextual only [Kr,ZdY,hst,hlg,go_sem,reduceIte,Ra,Rb,Rc,Rd]
theorem Zew {q q':Nat} {c1 c2:Option Nat} {ls:List Ld} {ss:List Sg} (h1:Zb H q=some (Zn ls)) (h2:Zb H q'=some (Zw ss)) (hm:ss.length≤1048576) (a b t k c:Int) {d p:By} (hd:d.length≤1048576) (hpp:p.length≤1048576):call T pr XW [cnV (slL q ls.length c1) a b (slS q' ss.length c2) t k d p c] ⟨H,e⟩=some (.bool (Zcm ls ss a b t k&&Zao d p c),⟨H,e⟩):=by
 have hst:∀ G,call T pr Xb [stV (slL q ls.length c1) a b (slS q' ss.length c2) t k] ⟨H++G,none⟩=some (.bool (Zcm ls ss a b t k),⟨H++G,none⟩):=by
  intro G
  exact Zdr (fun G2=>KM (Za (Za h1 G) G2)) (fun G2=>KO (Za (Za h2 G) G2) (by omega)) a b t k
 have hlg:∀ L,call T pr Kx [lgV d p c] ⟨L,none⟩=some (.bool (Zao d p c),⟨L,none⟩):=by
  intro L
  exact ZhV d p c hd hpp
 rw [Zh ZkV]
 cases hA:Zcm ls ss a b t k <;> rw [hA] at hst <;> cases hB:Zao d p c <;> rw [hB] at hlg <;> simp +contextual only [Ks,ZdZ,hst,hlg,go_sem,reduceIte,Ra,Rb,Rc,Rd]
structure ZlH (pr:Zt):Prop where
 all:ZtQ pr
 del:Zds pr
abbrev sdL (row:AV) (a b:Int) (chain:AV) (t k:Int) (rest:List AV):List AV:=row::.int .i64 a::.int .i64 b::chain::.int .i64 t::.int .i64 k::rest
def askW (ls:List Ld) (a b:Int) (ss:List Sg) (t:Int) (w:By):Option By :=
 if w=[114,111,119] then some (Zes ls)
 else if w=[119,101,105,103,104,116] then some (Lib.itoa (Zab ls))
 else if w=[99,101,110,116,114,101] then (if ls.length=0 then none else some (Xi 47 [(cenA ls:Int),(cenB ls:Int)]))
 else if w=[115,105,100,101] then some (Lib.itoa (Zdp ls a b))
 else if w=[116,105,112,115] then some (Lib.itoa t)
 else if w=[112,117,108,108] then some (Lib.itoa (rowPullW ls ss true))
 else if w=[115,112,108,105,116] then (Zam ls).map ZeL
 else none
def ZG0 (r:Option By) (v:AV):Prop:=∃ x:By,v=.tup [sV x,.bool r.isSome]∧∀ y,r=some y→x=y
theorem fit_small {z:Int} (h1 : -1000000000000000000≤z) (h2:z≤1000000000000000000):Zfk z:=⟨by omega,by omega⟩
theorem XF {ls:List Ld} {ss:List Sg} {a b t k:Int} (h:Zcm ls ss a b t k=true):Yu ls=true∧ZA ss=true∧ZgX a b=true∧ss.length≤5∧ls.length≤12∧0≤t∧t≤1000∧0≤k∧k≤1000∧JN a b t k=true:=by
 unfold Zcm at h
 rw [Rs,Rs] at h
 have h3:=h.2.2
 unfold JN at h3
 simp only [Rs,decide_eq_true_eq] at h3
 have hc:=h.2.1
 unfold ZA at hc
 rw [Rs,decide_eq_true_eq] at hc
 have hr:=Zca h.1
 exact ⟨h.1,h.2.1,h3.1,by omega,hr,by omega,by omega,by omega,by omega,h.2.2⟩
theorem ZaY (ls:List Ld) (a b:Int):Zfk (Zdp ls a b):=by
 unfold Zdp
 split
 ·exact fit_small (by omega) (by omega)
 ·split
  ·exact fit_small (by omega) (by omega)
  ·exact fit_small (by omega) (by omega)
theorem ZiW {ls:List Ld} (h:Yu ls=true):Zfk (Zab ls):=by
 obtain ⟨w,hw,hw1⟩:=ZaS h
 rw [hw]
 exact fit_small (by omega) (by omega)
theorem ZmA {ls:List Ld} (h:Yu ls=true):Zfk (cenA ls:Int)∧Zfk (cenB ls:Int):=by
 obtain ⟨m,hm,hm1⟩:=ZwM h
 obtain ⟨w,hw,hw1⟩:=ZaS h
 have h1:cenA ls≤m:=by unfold cenA fracA;rw [hm];exact Rr _ _
 have h2:cenB ls≤w:=by unfold cenB fracB;rw [hw];exact Rr _ _
 exact ⟨fit_small (by omega) (by omega),fit_small (by omega) (by omega)⟩
theorem Zt1 {ls:List Ld} {ss:List Sg} (h:Yu ls=true) (hc:ZA ss=true):Zfk (rowPullW ls ss true:Int):=by
 obtain ⟨w,hw,hw1⟩:=ZaS h
 obtain ⟨a1,a2,b1,b2,_⟩:=Zad hc w hw1
 unfold rowPullW
 rw [if_pos rfl,hw,Rz]
 unfold pullW
 have h1:w*ZC 1 1 ss≤1000000*254803968:=WT hw1 b2
 have h2:=Rr (w*ZC 1 1 ss+ZB 1 1 ss - 1) (ZB 1 1 ss)
 generalize (w*ZC 1 1 ss+ZB 1 1 ss - 1) / ZB 1 1 ss=z at *
 generalize w*ZC 1 1 ss=y at *
 exact fit_small (by omega) (by omega)
theorem Zqm {ls:List Ld} {g:List Int} (h:Zam ls=some g) (hn:ls.length≤12):g.length≤1000000∧∀ z∈g,Zfk z:=by
 unfold Zam at h
 split at h
 ·have hm:=List.mem_of_find?_eq_some h
  refine ⟨by have:=(Zeu hm).2;omega,?_⟩
  unfold Yv ZFZ at hm
  obtain ⟨l,hl,rfl⟩:=Wd.mp hm
  obtain ⟨k,hk,hm⟩:=WU.mp (Wr.mp hl).1
  obtain ⟨h1,h2,h3⟩:=(Jd ls.length k l).mp hm
  intro z hz
  unfold asZ at hz
  obtain ⟨x,hx,rfl⟩:=Wd.mp hz
  have:=h3 x hx
  exact fit_small (by omega) (by omega)
 ·exact absurd h (by simp)
theorem Zaf (w a:By):decide (bs w=⟨a.toArray⟩)=decide (w=a):=by
 congr 1
 exact propext ⟨fun h=>by
  have:=congrArg (fun b:ByteArray=>b.data.toList) h
  simpa using this,fun h=>by rw [h]⟩
set_option maxHeartbeats 2000000 in
theorem ZAz (hl:ZtQ pr) {u q1 q2:Nat} {c1 c2:Option Nat} {ls:List Ld} {ss:List Sg} {a b t k:Int} {rest:List AV} (hu:Zb H u=some (sdL (slL q1 ls.length c1) a b (slS q2 ss.length c2) t k rest)) (h1:Zb H q1=some (Zn ls)) (h2:Zb H q2=some (Zw ss)) (hs:Zcm ls ss a b t k=true) (w:By) :
  Wc (call T pr Zcq [.ptr (some (u,0)),sV w] ⟨H,e⟩) (fun v m=>ZG0 (askW ls a b ss t w) v∧m=⟨H,e⟩):=by
 obtain ⟨hr,hc,hb,hss,hls,ht1,ht2,hk1,hk2,hre⟩:=XF hs
 have weq:=fun a=>Zaf w a
 have e1:decide (bs w=⟨#[114,111,119]⟩)=decide (w=[114,111,119]):=weq _
 have e2:decide (bs w=⟨#[119,101,105,103,104,116]⟩)=decide (w=[119,101,105,103,104,116]):=weq _
 have e3:decide (bs w=⟨#[99,101,110,116,114,101]⟩)=decide (w=[99,101,110,116,114,101]):=weq _
 have e4:decide (bs w=⟨#[115,105,100,101]⟩)=decide (w=[115,105,100,101]):=weq _
 have e5:decide (bs w=⟨#[116,105,112,115]⟩)=decide (w=[116,105,112,115]):=weq _
 have e6:decide (bs w=⟨#[112,117,108,108]⟩)=decide (w=[112,117,108,108]):=weq _
 have e7:decide (bs w=⟨#[115,112,108,105,116]⟩)=decide (w=[115,112,108,105,116]):=weq _
 rw [Zr ZsN]
 unfold Zcz ZkE askW
 generalize (⟨#[114,111,119]⟩:ByteArray)=k1 at *
 generalize (⟨#[119,101,105,103,104,116]⟩:ByteArray)=k2 at *
 generalize (⟨#[99,101,110,116,114,101]⟩:ByteArray)=k3 at *
 generalize (⟨#[115,105,100,101]⟩:ByteArray)=k4 at *
 generalize (⟨#[116,105,112,115]⟩:ByteArray)=k5 at *
 generalize (⟨#[112,117,108,108]⟩:ByteArray)=k6 at *
 generalize (⟨#[115,112,108,105,116]⟩:ByteArray)=k7 at *
 clear weq
 by_cases w1:w=[114,111,119]
 ·rw [decide_eq_true w1] at e1
  rw [if_pos w1]
  have hf:=fun L (hL:Zb L q1=some (Zn ls))=>ZzD (pr:=pr) (e:=none) (cap:=c1) hl.ito hl.joi hL hr
  simp (maxSteps:=2000000) +contextual only [hu,h1,h2,hf,e1,Zy,Zs,Za h1,Za h2,pp,go_sem,reduceIte,Ra,Rb,Rc,Rd]
  exact ⟨_,rfl,fun y h=>by rw [←WH h]⟩
 rw [decide_eq_false w1] at e1
 by_cases w2:w=[119,101,105,103,104,116]
 ·rw [decide_eq_true w2] at e2
  rw [if_neg w1,if_pos w2]
  have hf:=fun L (hL:Zb L q1=some (Zn ls))=>Zp7 (pr:=pr) (e:=none) (c:=c1) hL (by omega) hr
  have hg:=fun L=>ZP (pr:=pr) (H:=L) (e:=none) hl.ito (Zab ls) (ZiW hr) true
  simp (maxSteps:=2000000) +contextual only [hu,h1,h2,hf,hg,e1,e2,Zy,Zs,Za h1,Za h2,pp,go_sem,reduceIte,Ra,Rb,Rc,Rd]
  exact ⟨_,rfl,fun y h=>by rw [←WH h]⟩
 rw [decide_eq_false w2] at e2
 by_cases w3:w=[99,101,110,116,114,101]
 ·rw [decide_eq_true w3] at e3
  rw [if_neg w1,if_neg w2,if_pos w3]
  have hf:=fun L (hL:Zb L q1=some (Zn ls))=>ZwN (pr:=pr) (e:=none) (cap:=c1) hL hr (by omega)
  by_cases h0:ls.length=0
  ·simp only [if_pos h0] at hf
   have hg:=fun L=>QX (pr:=pr) (H:=L) (e:=none) hl.ito hl.joi 0 0 (fit_small (by omega) (by omega)) (fit_small (by omega) (by omega)) false
   rw [if_pos h0]
   simp (maxSteps:=2000000) +contextual only [hu,h1,h2,hf,hg,e1,e2,e3,Zy,Zs,Za h1,Za h2,pp,go_sem,reduceIte,Ra,Rb,Rc,Rd]
   exact ⟨_,rfl,fun y h=>absurd h (by simp)⟩
  ·simp only [if_neg h0] at hf
   have hg:=fun L=>QX (pr:=pr) (H:=L) (e:=none) hl.ito hl.joi (cenA ls) (cenB ls) (ZmA hr).1 (ZmA hr).2 true
   rw [if_neg h0]
   simp (maxSteps:=2000000) +contextual only [hu,h1,h2,hf,hg,e1,e2,e3,Zy,Zs,Za h1,Za h2,pp,go_sem,reduceIte,Ra,Rb,Rc,Rd]
   exact ⟨_,rfl,fun y h=>by rw [←WH h]⟩
 rw [decide_eq_false w3] at e3
 by_cases w4:w=[115,105,100,101]
 ·rw [decide_eq_true w4] at e4
  rw [if_neg w1,if_neg w2,if_neg w3,if_pos w4]
  have hf:=fun L (hL:Zb L q1=some (Zn ls))=>Zjv (pr:=pr) (e:=none) (c:=c1) hL (by omega) a b hr hb
  have hg:=fun L=>ZP (pr:=pr) (H:=L) (e:=none) hl.ito (Zdp ls a b) (ZaY ls a b) true
  simp (maxSteps:=2000000) +contextual only [hu,h1,h2,hf,hg,e1,e2,e3,e4,Zy,Zs,Za h1,Za h2,pp,go_sem,reduceIte,Ra,Rb,Rc,Rd]
  exact ⟨_,rfl,fun y h=>by rw [←WH h]⟩
 rw [decide_eq_false w4] at e4
 by_cases w5:w=[116,105,112,115]
 ·rw [decide_eq_true w5] at e5
  rw [if_neg w1,if_neg w2,if_neg w3,if_neg w4,if_pos w5]
  have hg:=fun L=>ZP (pr:=pr) (H:=L) (e:=none) hl.ito t (fit_small (by omega) (by omega)) true
  simp (maxSteps:=2000000) +contextual only [hu,h1,h2,hg,e1,e2,e3,e4,e5,Zy,Zs,Za h1,Za h2,pp,go_sem,reduceIte,Ra,Rb,Rc,Rd]
  exact ⟨_,rfl,fun y h=>by rw [←WH h]⟩
 rw [decide_eq_false w5] at e5
 by_cases w6:w=[112,117,108,108]
 ·rw [decide_eq_true w6] at e6
  rw [if_neg w1,if_neg w2,if_neg w3,if_neg w4,if_neg w5,if_pos w6]
  have hf:=fun L (g1:Zb L q1=some (Zn ls)) (g2:Zb L q2=some (Zw ss))=>Zzh (pr:=pr) (e:=none) (c:=c1) (c':=c2) g1 g2 (by omega) (by omega) a b t k
  simp only [hr,hc,hre,Bool.and_self] at hf
  have hg:=fun L=>ZP (pr:=pr) (H:=L) (e:=none) hl.ito (rowPullW ls ss true) (Zt1 hr hc) true
  simp (maxSteps:=2000000) +contextual only [hu,h1,h2,hf,hg,e1,e2,e3,e4,e5,e6,Zy,Zs,Za h1,Za h2,pp,go_sem,reduceIte,Ra,Rb,Rc,Rd]
  exact ⟨_,rfl,fun y h=>by rw [←WH h]⟩
 rw [decide_eq_false w6] at e6
 by_cases w7:w=[115,112,108,105,116]
 ·rw [decide_eq_true w7] at e7
  rw [if_neg w1,if_neg w2,if_neg w3,if_neg w4,if_neg w5,if_neg w6,if_pos w7]
  simp (maxSteps:=2000000) +contextual only [hu,h1,h2,e1,e2,e3,e4,e5,e6,e7,Zy,Zs,Za h1,Za h2,pp,go_sem,reduceIte,Ra,Rb,Rc,Rd]
  refine (Zqk hl h1 hr).mono ?_
  have hfit:=fun g=>Zqm (ls:=ls) (g:=g)
  generalize Zam ls=o at *
  rintro v m hv
  cases o with
  | some g=>
   obtain ⟨c,rfl,rfl⟩:=hv
   obtain ⟨f1,f2⟩:=hfit g rfl hls
   have hg:=fun L e0 (hL:Zb L H.length=some (ZR g))=>Zer (pr:=pr) (e:=e0) (cap:=c) hl.ito hl.joi hL f1 f2 true
   have hnew:Zb (H++[.cells (ZR g) true]) H.length=some (ZR g):=Ze (w:=true) (by rw [ZQ];rfl)
   simp (maxSteps:=2000000) +contextual only [hg,hnew,Option.map_some,pp,go_sem,reduceIte,Ra,Rb,Rc,Rd]
   exact ⟨_,rfl,fun y h=>by rw [←WH h]⟩
  | none=>
   obtain ⟨rfl,rfl⟩:=hv
   have hg:=fun L e0=>Zh0 (pr:=pr) (H:=L) (e:=e0) false (p:=none) (s:=0) (cap:=none)
   simp (maxSteps:=2000000) +contextual only [hg,Option.map_none,pp,go_sem,reduceIte,Ra,Rb,Rc,Rd]
   exact ⟨_,rfl,fun y h=>absurd h (by simp)⟩
 rw [decide_eq_false w7] at e7
 rw [if_neg w1,if_neg w2,if_neg w3,if_neg w4,if_neg w5,if_neg w6,if_neg w7]
 simp (maxSteps:=2000000) +contextual only [hu,h1,h2,e1,e2,e3,e4,e5,e6,e7,Zy,Zs,Za h1,Za h2,pp,go_sem,reduceIte,Ra,Rb,Rc,Rd]
 exact ⟨_,rfl,fun y h=>absurd h (by simp)⟩
end Go.Proofs.YtemcdiajejekoaaGreatDoor.Slim
namespace Go.Proofs.YtemcdiajejekoaaGreatDoor.Slim
open Go Go.Sort Go.Lib Go.RowKit
theorem ZaZ {f : FuncId} (h : ((Tryz.prog.funcs[f]?).map fun fn => fn.body.isSome && decide (fn.name ≠ "runtime.NumGoroutine")) = some true) : ∃ fn, Tryz.prog.funcs[f]? = some fn ∧ fn.body.isSome = true ∧ fn.name ≠ "runtime.NumGoroutine" := by
 obtain ⟨fn,h1,h2⟩:=Option.map_eq_some_iff.mp h
 simp only [Bool.and_eq_true,decide_eq_true_eq] at h2
 exact ⟨fn,h1,h2.1,h2.2⟩
def ZFC (args:List AV) (m:Mem):Option (AV×Mem):=match args with
 | [.str s,.str t]=>(match t.data.toList with
  | [c]=>some (.bool (decide (0≤Lib.indexByte s.data.toList c)),m)
  | _=>none)
 | _=>none
theorem ZFD {args:List AV} {m m':Mem} {v:AV} (h:ZFC args m=some (v,m')):m'=m∧∃ (s:ByteArray) (c:UInt8),args=[.str s,.str ⟨#[c]⟩]∧v=.bool (decide (0≤Lib.indexByte s.data.toList c)):=by
 unfold ZFC at h
 split at h
 ·rename_i s t
  split at h
  ·rename_i c hc
   cases h
   refine ⟨rfl,s,c,?_,rfl⟩
   cases t with
   | mk d=>
    cases d
    simp at hc
    subst hc
    rfl
  ·cases h
 ·cases h
theorem ZKd {ι:Emb} {m m':Mem} {w:World} {args:List AV} {vs:List Value} {v:AV} (h:ZFC args m=some (v,m')) (R:Rel ι m w) (hv:VL ι w args vs):Calls Tryz.prog Yz vs.toArray w fun e w'=>∃ (ι':Emb) (v':Value),e=.returned v'∧V ι' w' v v'∧Rel ι' m' w'∧Ext ι m w ι' m' w':=by
 obtain ⟨rfl,s,c,rfl,rfl⟩:=ZFD h
 obtain ⟨v1,vs1,rfl,rfl,v2,vs2,rfl,rfl,rfl⟩:=hv
 refine (Tryz.strings_Contains_one s c w).mono ?_
 rintro e w' ⟨rfl,rfl⟩
 exact ⟨ι,_,rfl,rfl,R,Ext.refl _ _ _⟩
theorem ZH8 {args:List AV} {m m':Mem} {v:AV} (h:ZFC args m=some (v,m')):Grow m m':=by
 obtain ⟨rfl,_⟩:=ZFD h
 exact Grow.refl _
def ZFE (args:List AV) (m:Mem):Option (AV×Mem):=match args with
 | [.str s,.str t]=>(match t.data.toList with
  | [c]=>some (.int .i64 (Lib.indexByte s.data.toList c),m)
  | _=>none)
 | _=>none
theorem ZFF {args:List AV} {m m':Mem} {v:AV} (h:ZFE args m=some (v,m')):m'=m∧∃ (s:ByteArray) (c:UInt8),args=[.str s,.str ⟨#[c]⟩]∧v=.int .i64 (Lib.indexByte s.data.toList c):=by
 unfold ZFE at h
 split at h
 ·rename_i s t
  split at h
  ·rename_i c hc
   cases h
   refine ⟨rfl,s,c,?_,rfl⟩
   cases t with
   | mk d=>
    cases d
    simp at hc
    subst hc
    rfl
  ·cases h
 ·cases h
theorem ZKe {ι:Emb} {m m':Mem} {w:World} {args:List AV} {vs:List Value} {v:AV} (h:ZFE args m=some (v,m')) (R:Rel ι m w) (hv:VL ι w args vs):Calls Tryz.prog Yt vs.toArray w fun e w'=>∃ (ι':Emb) (v':Value),e=.returned v'∧V ι' w' v v'∧Rel ι' m' w'∧Ext ι m w ι' m' w':=by
 obtain ⟨rfl,s,c,rfl,rfl⟩:=ZFF h
 obtain ⟨v1,vs1,rfl,rfl,v2,vs2,rfl,rfl,rfl⟩:=hv
 refine (Tryz.stringslite_Index_one s c w).mono ?_
 rintro e w' ⟨rfl,rfl⟩
 exact ⟨ι,_,rfl,rfl,R,Ext.refl _ _ _⟩
theorem ZH9 {args:List AV} {m m':Mem} {v:AV} (h:ZFE args m=some (v,m')):Grow m m':=by
 obtain ⟨rfl,_⟩:=ZFF h
 exact Grow.refl _
def ZFG (args:List AV) (m:Mem):Option (AV×Mem):=match args with
 | [.int .i64 n]=>if -9223372036854775808≤n∧n≤9223372036854775807 then some (.str ⟨(Lib.itoa n).toArray⟩,m) else none
 | _=>none
theorem ZFH {args:List AV} {m m':Mem} {v:AV} (h:ZFG args m=some (v,m')):m'=m∧∃ n:Int,args=[.int .i64 n]∧(-9223372036854775808≤n∧n≤9223372036854775807)∧v=.str ⟨(Lib.itoa n).toArray⟩:=by
 unfold ZFG at h
 split at h
 ·rename_i n
  split at h
  ·rename_i hn
   cases h
   exact ⟨rfl,n,rfl,hn,rfl⟩
  ·cases h
 ·cases h
theorem ZKf {ι:Emb} {m m':Mem} {w:World} {args:List AV} {vs:List Value} {v:AV} (h:ZFG args m=some (v,m')) (R:Rel ι m w) (hv:VL ι w args vs):Calls Tryz.prog Xn vs.toArray w fun e w'=>∃ (ι':Emb) (v':Value),e=.returned v'∧V ι' w' v v'∧Rel ι' m' w'∧Ext ι m w ι' m' w':=by
 obtain ⟨rfl,n,rfl,hn,rfl⟩:=ZFH h
 obtain ⟨v1,vs1,rfl,rfl,rfl⟩:=hv
 refine (Tryz.strconv_Itoa n hn.1 hn.2 w (R.glob.tab (g:=5) (by kernel_rfl) (List.mem_cons_self) (fun cs h=>by rw [h];rfl))).mono ?_
 rintro e w' ⟨rfl,k,os,rfl⟩
 obtain ⟨R',E'⟩:=R.grown k os
 exact ⟨ι,_,rfl,rfl,R',E'⟩
theorem ZIa {args:List AV} {m m':Mem} {v:AV} (h:ZFG args m=some (v,m')):Grow m m':=by
 obtain ⟨rfl,_⟩:=ZFH h
 exact Grow.refl _
set_option maxHeartbeats 4000000 in
set_option maxRecDepth 1000000 in
theorem Zw7 (blk off n k i j:Nat) (w:World) (hij:i<j) (hjn:j≤n) (hj1:n - (i+(n - j))=1) (hnk:n≤k) (news:List Value) (hlen:news.length=(n - j)*2)
  (hsrc:∀ t u,news[t]?=some u→w.drew.cell? ⟨blk,off+j*2+t,none⟩=some u) (hone:∀ u∈news,u.oneCell'=true)
  (hsp:∀ t,t<(n - j)*2→(w.drew.cell? ⟨blk,off+i*2+t,none⟩).isSome=true∧w.drew.frozen? ⟨blk,off+i*2+t,none⟩=false)
  (hsp2:∀ t,t<2→((w.drew.setCells blk (off+i*2) news).cell? ⟨blk,off+(i+(n - j))*2+t,none⟩).isSome=true∧(w.drew.setCells blk (off+i*2) news).frozen? ⟨blk,off+(i+(n - j))*2+t,none⟩=false) :
  Calls Tryz.prog 221 #[.slice (some ⟨blk,off,none⟩) n k,.int .i64 i,.int .i64 j] w fun e w'=>
   e=.returned (.slice (some ⟨blk,off,none⟩) (i+(n - j)) k)∧w'=(w.drew.setCells blk (off+i*2) news).setCells blk (off+(i+(n - j))*2) [.int .i64 0,.int .i64 0]:=by
 have mixed:Tryz.prog.follows .mixedOrders=true:=by kernel_rfl
 have ts:Tryz.prog.underlying 34=some (.slice 114):=by kernel_rfl
 obtain ⟨i0,hi0,hz0,hz1,hz2⟩:=info_parts (show (Tryz.prog.info? 114).map (fun i=>(i.zero,i.size,i.bytes))=some (some (.agg #[.int .i64 0,.int .i64 0]),2,16) by kernel_rfl)
 obtain ⟨A,hA,hsrc'⟩:∃ A:Addr,(if k=j then some (⟨blk,off,none⟩:Addr) else some ⟨blk,off+j*2,none⟩)=some A∧Hid (∀ t u,news[t]?=some u→w.drew.cell? (A.add t)=some u):=by
  by_cases h:k=j
  ·refine ⟨⟨blk,off,none⟩,by simp [h],fun t u hu => ?_⟩
   have h0:news.length=0:=by rw [hlen];omega
   rw [List.length_eq_zero_iff.1 h0] at hu
   simp at hu
  ·refine ⟨⟨blk,off+j*2,none⟩,by simp [h],fun t u hu => ?_⟩
   rw [Addr.add_lit]
   exact hsrc t u hu
 have s1:Hid (news.length=(n - j)*2):=hlen
 have s2:Hid (∀ u∈news,u.oneCell'=true):=hone
 have s3:Hid (∀ t,t<news.length→(w.drew.cell? ⟨blk,off+i*2+t,none⟩).isSome=true∧w.drew.frozen? ⟨blk,off+i*2+t,none⟩=false):=fun t ht=>hsp t (by omega)
 obtain ⟨W1,hW1⟩:∃ W1,W1=w.drew.setCells blk (off+i*2) news:=⟨_,rfl⟩
 have hW:Hid (W1=w.drew.setCells blk (off+i*2) news):=hW1
 rw [←hW1] at hsp2 ⊢
 have hcl:∀ ty,(Builtin.clear_ #[34] ty #[.slice (some ⟨blk,off+(i+(n - j))*2,none⟩) (n - (i+(n - j))) (k - (i+(n - j)))]).run Tryz.prog W1=.ok (.tuple #[]) (W1.setCells blk (off+(i+(n - j))*2) [.int .i64 0,.int .i64 0]):=by
  intro ty
  rw [hj1]
  exact Zv8 W1 34 114 ty (.agg #[.int .i64 0,.int .i64 0]) (by kernel_rfl) (fun w=>by kernel_rfl) (by intro v hv;simp [Value.cells] at hv;subst hv;rfl) blk _ _ (fun t ht=>(hsp2 t ht).1) (fun t ht=>(hsp2 t ht).2)
 have hic:i≤k:=by omega
 have hjc:j≤k:=by omega
 have hne:¬ i=j:=by omega
 clear hW1 hsp2 hsp hlen hsrc hone hj1
 go_enter Tryz.func221,Tryz.ntmps221
 go_wp2_with fail
 go_region_law_o (refine step_append_room rfl (.tmp 22) (.tmp 25) 34 rfl 114 i0 2 ts hi0 hz1 blk off i k (by simp [Act.eval,Act.put]) A (n - j) (k - j) news (by simp [Act.eval,Act.put]) s1.out hsrc'.out s2.out (by omega) s3.out ?_;rw [←hW.out])
 go_wp2
 go_ret
 exact ⟨rfl,rfl⟩
theorem ZG1 {ι:Emb} {m m':Mem} {w:World} {args:List AV} {vs:List Value} {v:AV} (h:ZtI 2 args m=some (v,m')) (R:Rel ι m w) (hv:VL ι w args vs) :
  Calls Tryz.prog ZO vs.toArray w fun e w'=>∃ (ι':Emb) (v':Value),e=.returned v'∧V ι' w' v v'∧Rel ι' m' w'∧Ext ι m w ι' m' w':=by
 obtain ⟨b,n,i,cap,cs,rfl,hb,hcs,hi,rfl,rfl⟩:=Zml h
 obtain ⟨v1,vs1,rfl,h1,v2,vs2,rfl,rfl,v3,vs3,rfl,rfl,rfl⟩:=hv
 obtain ⟨c,x,k,news,rfl,h2,h3,h4,h5,h6,h7,ι',h8,h9,h10⟩:=ZEx (P:=Tryz.prog) R hb hcs hi h1
 refine (Zw7 c x n k i (i+1) w (by omega) (by omega) (by omega) h2 news h3 h4 h5 h6 h7).mono ?_
 rintro e w' ⟨rfl,rfl⟩
 exact ⟨ι',_,rfl,h8,h9,h10⟩
set_option maxHeartbeats 4000000 in
set_option maxRecDepth 1000000 in
theorem Zt2 (blk off n k i j:Nat) (w:World) (hij:i<j) (hjn:j≤n) (hj1:n - (i+(n - j))=1) (hnk:n≤k) (news:List Value) (hlen:news.length=(n - j)*3)
  (hsrc:∀ t u,news[t]?=some u→w.drew.cell? ⟨blk,off+j*3+t,none⟩=some u) (hone:∀ u∈news,u.oneCell'=true)
  (hsp:∀ t,t<(n - j)*3→(w.drew.cell? ⟨blk,off+i*3+t,none⟩).isSome=true∧w.drew.frozen? ⟨blk,off+i*3+t,none⟩=false)
  (hsp2:∀ t,t<3→((w.drew.setCells blk (off+i*3) news).cell? ⟨blk,off+(i+(n - j))*3+t,none⟩).isSome=true∧(w.drew.setCells blk (off+i*3) news).frozen? ⟨blk,off+(i+(n - j))*3+t,none⟩=false) :
  Calls Tryz.prog 222 #[.slice (some ⟨blk,off,none⟩) n k,.int .i64 i,.int .i64 j] w fun e w'=>
   e=.returned (.slice (some ⟨blk,off,none⟩) (i+(n - j)) k)∧w'=(w.drew.setCells blk (off+i*3) news).setCells blk (off+(i+(n - j))*3) [.int .i64 0,.int .i64 0,.int .i64 0]:=by
 have mixed:Tryz.prog.follows .mixedOrders=true:=by kernel_rfl
 have ts:Tryz.prog.underlying 35=some (.slice 135):=by kernel_rfl
 obtain ⟨i0,hi0,hz0,hz1,hz2⟩:=info_parts (show (Tryz.prog.info? 135).map (fun i=>(i.zero,i.size,i.bytes))=some (some (.agg #[.int .i64 0,.int .i64 0,.int .i64 0]),3,24) by kernel_rfl)
 obtain ⟨A,hA,hsrc'⟩:∃ A:Addr,(if k=j then some (⟨blk,off,none⟩:Addr) else some ⟨blk,off+j*3,none⟩)=some A∧Hid (∀ t u,news[t]?=some u→w.drew.cell? (A.add t)=some u):=by
  by_cases h:k=j
  ·refine ⟨⟨blk,off,none⟩,by simp [h],fun t u hu => ?_⟩
   have h0:news.length=0:=by rw [hlen];omega
   rw [List.length_eq_zero_iff.1 h0] at hu
   simp at hu
  ·refine ⟨⟨blk,off+j*3,none⟩,by simp [h],fun t u hu => ?_⟩
   rw [Addr.add_lit]
   exact hsrc t u hu
 have s1:Hid (news.length=(n - j)*3):=hlen
 have s2:Hid (∀ u∈news,u.oneCell'=true):=hone
 have s3:Hid (∀ t,t<news.length→(w.drew.cell? ⟨blk,off+i*3+t,none⟩).isSome=true∧w.drew.frozen? ⟨blk,off+i*3+t,none⟩=false):=fun t ht=>hsp t (by omega)
 obtain ⟨W1,hW1⟩:∃ W1,W1=w.drew.setCells blk (off+i*3) news:=⟨_,rfl⟩
 have hW:Hid (W1=w.drew.setCells blk (off+i*3) news):=hW1
 rw [←hW1] at hsp2 ⊢
 have hcl:∀ ty,(Builtin.clear_ #[35] ty #[.slice (some ⟨blk,off+(i+(n - j))*3,none⟩) (n - (i+(n - j))) (k - (i+(n - j)))]).run Tryz.prog W1=.ok (.tuple #[]) (W1.setCells blk (off+(i+(n - j))*3) [.int .i64 0,.int .i64 0,.int .i64 0]):=by
  intro ty
  rw [hj1]
  exact Zv8 W1 35 135 ty (.agg #[.int .i64 0,.int .i64 0,.int .i64 0]) (by kernel_rfl) (fun w=>by kernel_rfl) (by intro v hv;simp [Value.cells] at hv;subst hv;rfl) blk _ _ (fun t ht=>(hsp2 t ht).1) (fun t ht=>(hsp2 t ht).2)
 have hic:i≤k:=by omega
 have hjc:j≤k:=by omega
 have hne:¬ i=j:=by omega
 clear hW1 hsp2 hsp hlen hsrc hone hj1
 go_enter Tryz.func222,Tryz.ntmps222
 go_wp2_with fail
 go_region_law_o (refine step_append_room rfl (.tmp 22) (.tmp 25) 35 rfl 135 i0 3 ts hi0 hz1 blk off i k (by simp [Act.eval,Act.put]) A (n - j) (k - j) news (by simp [Act.eval,Act.put]) s1.out hsrc'.out s2.out (by omega) s3.out ?_;rw [←hW.out])
 go_wp2
 go_ret
 exact ⟨rfl,rfl⟩
theorem ZFI {ι:Emb} {m m':Mem} {w:World} {args:List AV} {vs:List Value} {v:AV} (h:ZtI 3 args m=some (v,m')) (R:Rel ι m w) (hv:VL ι w args vs) :
  Calls Tryz.prog ZM vs.toArray w fun e w'=>∃ (ι':Emb) (v':Value),e=.returned v'∧V ι' w' v v'∧Rel ι' m' w'∧Ext ι m w ι' m' w':=by
 obtain ⟨b,n,i,cap,cs,rfl,hb,hcs,hi,rfl,rfl⟩:=Zml h
 obtain ⟨v1,vs1,rfl,h1,v2,vs2,rfl,rfl,v3,vs3,rfl,rfl,rfl⟩:=hv
 obtain ⟨c,x,k,news,rfl,h2,h3,h4,h5,h6,h7,ι',h8,h9,h10⟩:=ZEx (P:=Tryz.prog) R hb hcs hi h1
 refine (Zt2 c x n k i (i+1) w (by omega) (by omega) (by omega) h2 news h3 h4 h5 h6 h7).mono ?_
 rintro e w' ⟨rfl,rfl⟩
 exact ⟨ι',_,rfl,h8,h9,h10⟩
def ZIb (args:List AV) (m:Mem):Option (AV×Mem):=ZtI 2 args m
theorem ZIc {args:List AV} {m m':Mem} {v:AV} (h:ZIb args m=some (v,m')):Grow m m':=Zr0 h
theorem ZKg {ι:Emb} {m m':Mem} {w:World} {args:List AV} {vs:List Value} {v:AV} (h:ZIb args m=some (v,m')) (R:Rel ι m w) (hv:VL ι w args vs):Calls Tryz.prog ZO vs.toArray w fun e w'=>∃ (ι':Emb) (v':Value),e=.returned v'∧V ι' w' v v'∧Rel ι' m' w'∧Ext ι m w ι' m' w':=ZG1 h R hv
def ZId (args:List AV) (m:Mem):Option (AV×Mem):=ZtI 3 args m
theorem ZIe {args:List AV} {m m':Mem} {v:AV} (h:ZId args m=some (v,m')):Grow m m':=Zr0 h
theorem ZKh {ι:Emb} {m m':Mem} {w:World} {args:List AV} {vs:List Value} {v:AV} (h:ZId args m=some (v,m')) (R:Rel ι m w) (hv:VL ι w args vs):Calls Tryz.prog ZM vs.toArray w fun e w'=>∃ (ι':Emb) (v':Value),e=.returned v'∧V ι' w' v v'∧Rel ι' m' w'∧Ext ι m w ι' m' w':=ZFI h R hv
theorem ZIf {args:List AV} {m m':Mem} {v:AV} (h:ZCF args m=some (v,m')):Grow m m':=ZE8 h
theorem ZIg {args:List AV} {m m':Mem} {v:AV} (h:ZwB args m=some (v,m')):Grow m m':=ZE9 h
theorem ZIh {args:List AV} {m m':Mem} {v:AV} (h:ZCG args m=some (v,m')):Grow m m':=ZFa h
theorem ZIi {args:List AV} {m m':Mem} {v:AV} (h:ZwC args m=some (v,m')):Grow m m':=ZFb h
theorem ZIj {args:List AV} {m m':Mem} {v:AV} (h:ZwD args m=some (v,m')):Grow m m':=ZFc h
theorem ZIk {args:List AV} {m m':Mem} {v:AV} (h:ZwE args m=some (v,m')):Grow m m':=ZFd h
def prC:Zt:=fun f args m=>if f=Yz then ZFC args m else if f=Yt then ZFE args m else if f=Xn then ZFG args m else if f=Zat then ZCF args m else if f=QC then ZwB args m else if f=ZbC then ZCG args m else if f=XH then ZwC args m else if f=YY then ZwD args m else if f=Ys then ZwE args m else if f=ZO then ZIb args m else if f=ZM then ZId args m else none
set_option maxHeartbeats 4000000 in
theorem ZJk:ZsF Tryz.prog prC:=by
 refine ⟨fun f args m v m' ι w vs h R hv => ?_,fun f args m v m' h => ?_⟩
 ·unfold prC at h
  split at h
  ·rename_i hf
   subst hf
   exact ⟨ZaZ (by kernel_rfl),ZKd h R hv⟩
  split at h
  ·rename_i hf
   subst hf
   exact ⟨ZaZ (by kernel_rfl),ZKe h R hv⟩
  split at h
  ·rename_i hf
   subst hf
   exact ⟨ZaZ (by kernel_rfl),ZKf h R hv⟩
  split at h
  ·rename_i hf
   subst hf
   exact ⟨ZaZ (by kernel_rfl),ZJ5 h R hv⟩
  split at h
  ·rename_i hf
   subst hf
   exact ⟨ZaZ (by kernel_rfl),ZJ6 h R hv⟩
  split at h
  ·rename_i hf
   subst hf
   exact ⟨ZaZ (by kernel_rfl),ZJ7 h R hv⟩
  split at h
  ·rename_i hf
   subst hf
   exact ⟨ZaZ (by kernel_rfl),ZJ8 h R hv⟩
  split at h
  ·rename_i hf
   subst hf
   exact ⟨ZaZ (by kernel_rfl),ZJ9 h R hv⟩
  split at h
  ·rename_i hf
   subst hf
   exact ⟨ZaZ (by kernel_rfl),ZKa ZGS h R hv⟩
  split at h
  ·rename_i hf
   subst hf
   exact ⟨ZaZ (by kernel_rfl),ZKg h R hv⟩
  split at h
  ·rename_i hf
   subst hf
   exact ⟨ZaZ (by kernel_rfl),ZKh h R hv⟩
  cases h
 ·unfold prC at h
  split at h
  ·exact ZH8 h
  split at h
  ·exact ZH9 h
  split at h
  ·exact ZIa h
  split at h
  ·exact ZIf h
  split at h
  ·exact ZIg h
  split at h
  ·exact ZIh h
  split at h
  ·exact ZIi h
  split at h
  ·exact ZIj h
  split at h
  ·exact ZIk h
  split at h
  ·exact ZIc h
  split at h
  ·exact ZIe h
  cases h
theorem ZIl:YW prC:=fun s c m=>by
 rw [Kw rfl]
 rfl
theorem ZIm:QW prC:=fun s c m=>by
 rw [Kw rfl]
 rfl
theorem ZIn:Ko prC:=fun n m h1 h2=>by
 rw [Kw rfl]
 unfold prC
 rw [if_neg (by decide),if_neg (by decide),if_pos rfl]
 exact if_pos ⟨h1,h2⟩
theorem ZIo:ZAl prC:=fun l c L e h=>by
 rw [Kw rfl]
 unfold prC
 rw [if_neg (by decide),if_neg (by decide),if_neg (by decide),if_pos rfl]
 show (if l.length≤1073741824 then _ else none)=_
 rw [if_pos h]
theorem ZIp:Zmz prC:=fun xs c b cap L e h1 h2 h3=>by
 rw [Kw rfl]
 unfold prC
 rw [if_neg (by decide),if_neg (by decide),if_neg (by decide),if_neg (by decide),if_pos rfl]
 exact ZGN h1 h2 h3
theorem ZIq:Zzu prC:=fun l m h=>by
 rw [Kw rfl]
 unfold prC
 rw [if_neg (by decide),if_neg (by decide),if_neg (by decide),if_neg (by decide),if_neg (by decide),if_pos rfl]
 exact if_pos h
theorem ZIr:ZE6 prC:=fun zs b cap L e h1 h2 h3=>by
 rw [Kw rfl]
 unfold prC
 rw [if_neg (by decide),if_neg (by decide),if_neg (by decide),if_neg (by decide),if_neg (by decide),if_neg (by decide),if_pos rfl]
 exact ZGO h1 h2 h3
theorem ZIs:Zso prC:=fun zs b cap L e h1 h2 h3=>by
 rw [Kw rfl]
 unfold prC
 rw [if_neg (by decide),if_neg (by decide),if_neg (by decide),if_neg (by decide),if_neg (by decide),if_neg (by decide),if_neg (by decide),if_pos rfl]
 exact ZGP h1 h2 h3
theorem ZIt:ZAm prC:=fun cs ks b cap L e h1 h2 h3 h4=>by
 rw [Kw rfl]
 unfold prC
 rw [if_neg (by decide),if_neg (by decide),if_neg (by decide),if_neg (by decide),if_neg (by decide),if_neg (by decide),if_neg (by decide),if_neg (by decide),if_pos rfl]
 exact ZGQ h1 h2 h3 h4
theorem ZIu:Zds prC:=by
 refine ⟨fun L e b n i cap cs h1 h2 h3 => ?_,fun L e b n i cap cs h1 h2 h3 => ?_⟩
 ·rw [Kw rfl]
  unfold prC
  rw [if_neg (by decide),if_neg (by decide),if_neg (by decide),if_neg (by decide),if_neg (by decide),if_neg (by decide),if_neg (by decide),if_neg (by decide),if_neg (by decide),if_pos rfl]
  exact Zz7 (cap:=cap) h1 h2 h3
 ·rw [Kw rfl]
  unfold prC
  rw [if_neg (by decide),if_neg (by decide),if_neg (by decide),if_neg (by decide),if_neg (by decide),if_neg (by decide),if_neg (by decide),if_neg (by decide),if_neg (by decide),if_neg (by decide),if_pos rfl]
  exact Zz7 (cap:=cap) h1 h2 h3
theorem ZIv:ZtQ prC:=⟨ZIn,ZIl,ZIm,ZIo,ZIp,ZIq,ZIr,ZIs,ZIt⟩
theorem ZG2:ZlH prC:=⟨ZIv,ZIu⟩
end Go.Proofs.YtemcdiajejekoaaGreatDoor.Slim
namespace Go.Proofs.YtemcdiajejekoaaGreatDoor.Slim
open Go
open Nat renaming reduceAdd → Ra, reduceLeDiff → Rb, reduceLT → Rc, reduceEqDiff → Rd
open Int renaming le_refl → R9, toNat_zero → RH, toNat_one → RI
open Nat renaming zero_mul → RJ, one_mul → Rx
open Option renaming getD_some → WV, some.inj → WH
open Bool renaming false_eq_true → RZ, and_eq_true → Rs
variable {pr : Zt} {H : List Blk} {e : Option Nat}
theorem Zjw {b:Nat} {cap:Option Nat}:call T pr XB [slI b 0 cap,.bool false] ⟨H,e⟩=some (sV [63],⟨H,e⟩):=by
 have h0:¬ (0:Int)<((0:Nat):Int):=by omega
 rw [Zh Zpc]
 simp +contextual only [KH,ZjL,go_sem,reduceIte,Ra,Rb,Rc,Rd]
 rw [ZG]
 simp +contextual only [JY,h0,decide_false,go_sem,reduceIte,Ra,Rb,Rc,Rd]
set_option maxHeartbeats 2000000 in
theorem ZzK {q1 q2:Nat} {c1 c2:Option Nat} {ls:List Ld} {ss:List Sg} {a b t k:Int} (h1:Zb H q1=some (Zn ls)) (h2:Zb H q2=some (Zw ss)) (hs:Zcm ls ss a b t k=true) (w:By) :
  call T pr ZfE [stV (slL q1 ls.length c1) a b (slS q2 ss.length c2) t k,sV w] ⟨H,e⟩=some (sV ((askW ls a b ss t w).getD [63]),⟨H,e⟩):=by
 obtain ⟨hr,hc,hb,hss,hls,ht1,ht2,hk1,hk2,hre⟩:=XF hs
 have weq:=fun a=>Zaf w a
 have e1:decide (bs w=⟨#[114,111,119]⟩)=decide (w=[114,111,119]):=weq _
 have e2:decide (bs w=⟨#[119,101,105,103,104,116]⟩)=decide (w=[119,101,105,103,104,116]):=weq _
 have e3:decide (bs w=⟨#[99,101,110,116,114,101]⟩)=decide (w=[99,101,110,116,114,101]):=weq _
 have e4:decide (bs w=⟨#[115,105,100,101]⟩)=decide (w=[115,105,100,101]):=weq _
 have e5:decide (bs w=⟨#[116,105,112,115]⟩)=decide (w=[116,105,112,115]):=weq _
 have e6:decide (bs w=⟨#[112,117,108,108]⟩)=decide (w=[112,117,108,108]):=weq _
 have e7:decide (bs w=⟨#[115,112,108,105,116]⟩)=decide (w=[115,112,108,105,116]):=weq _
 apply Wc.eq
 rw [Zr ZxW]
 unfold Zf7 ZoO askW
 generalize (⟨#[114,111,119]⟩:ByteArray)=k1 at *
 generalize (⟨#[119,101,105,103,104,116]⟩:ByteArray)=k2 at *
 generalize (⟨#[99,101,110,116,114,101]⟩:ByteArray)=k3 at *
 generalize (⟨#[115,105,100,101]⟩:ByteArray)=k4 at *
 generalize (⟨#[116,105,112,115]⟩:ByteArray)=k5 at *
 generalize (⟨#[112,117,108,108]⟩:ByteArray)=k6 at *
 generalize (⟨#[115,112,108,105,116]⟩:ByteArray)=k7 at *
 clear weq
 by_cases w1:w=[114,111,119]
 ·rw [decide_eq_true w1] at e1
  rw [if_pos w1]
  have hf:=fun L (hL:Zb L q1=some (Zn ls))=>ZzE (pr:=pr) (e:=none) (cap:=c1) hL hr
  simp (maxSteps:=2000000) +contextual only [hf,WV,e1,Za h1,Za h2,pp,go_sem,reduceIte,Ra,Rb,Rc,Rd]
 rw [decide_eq_false w1] at e1
 by_cases w2:w=[119,101,105,103,104,116]
 ·rw [decide_eq_true w2] at e2
  rw [if_neg w1,if_pos w2]
  have hf:=fun L (hL:Zb L q1=some (Zn ls))=>Zen (pr:=pr) (e:=none) (c:=c1) hL (by omega)
  have hg:=fun L=>XD (pr:=pr) (H:=L) (e:=none) (Zab ls) (ZiW hr).1 (ZiW hr).2
  simp (maxSteps:=2000000) +contextual only [hf,hg,WV,e1,e2,Za h1,Za h2,pp,go_sem,reduceIte,Ra,Rb,Rc,Rd]
 rw [decide_eq_false w2] at e2
 by_cases w3:w=[99,101,110,116,114,101]
 ·rw [decide_eq_true w3] at e3
  rw [if_neg w1,if_neg w2,if_pos w3]
  have hf:=fun L (hL:Zb L q1=some (Zn ls))=>ZwO (pr:=pr) (e:=none) (cap:=c1) hL hr (by omega)
  by_cases h0:ls.length=0
  ·simp only [if_pos h0] at hf
   have hg:=fun L=>ZgO (pr:=pr) (H:=L) (e:=none) 0 0 (fit_small (by omega) (by omega)) (fit_small (by omega) (by omega)) false
   simp only [RZ,if_false] at hg
   rw [if_pos h0]
   simp (maxSteps:=2000000) +contextual only [hf,hg,Option.getD_none,e1,e2,e3,Za h1,Za h2,pp,go_sem,reduceIte,Ra,Rb,Rc,Rd]
  ·simp only [if_neg h0] at hf
   have hg:=fun L=>ZgO (pr:=pr) (H:=L) (e:=none) (cenA ls) (cenB ls) (ZmA hr).1 (ZmA hr).2 true
   simp only [if_true] at hg
   rw [if_neg h0]
   simp (maxSteps:=2000000) +contextual only [hf,hg,WV,e1,e2,e3,Za h1,Za h2,pp,go_sem,reduceIte,Ra,Rb,Rc,Rd]
 rw [decide_eq_false w3] at e3
 by_cases w4:w=[115,105,100,101]
 ·rw [decide_eq_true w4] at e4
  rw [if_neg w1,if_neg w2,if_neg w3,if_pos w4]
  have hf:=fun L (hL:Zb L q1=some (Zn ls))=>Zmg (pr:=pr) (e:=none) (c:=c1) hL (by omega) a b
  have hg:=fun L=>XD (pr:=pr) (H:=L) (e:=none) (Zdp ls a b) (ZaY ls a b).1 (ZaY ls a b).2
  simp (maxSteps:=2000000) +contextual only [hf,hg,WV,e1,e2,e3,e4,Za h1,Za h2,pp,go_sem,reduceIte,Ra,Rb,Rc,Rd]
 rw [decide_eq_false w4] at e4
 by_cases w5:w=[116,105,112,115]
 ·rw [decide_eq_true w5] at e5
  rw [if_neg w1,if_neg w2,if_neg w3,if_neg w4,if_pos w5]
  have hg:=fun L=>XD (pr:=pr) (H:=L) (e:=none) t (by omega) (by omega)
  simp (maxSteps:=2000000) +contextual only [hg,WV,e1,e2,e3,e4,e5,Za h1,Za h2,pp,go_sem,reduceIte,Ra,Rb,Rc,Rd]
 rw [decide_eq_false w5] at e5
 by_cases w6:w=[112,117,108,108]
 ·rw [decide_eq_true w6] at e6
  rw [if_neg w1,if_neg w2,if_neg w3,if_neg w4,if_neg w5,if_pos w6]
  have hf:=fun L (g1:Zb L q1=some (Zn ls)) (g2:Zb L q2=some (Zw ss))=>Zzi (pr:=pr) (e:=none) (c:=c1) (c':=c2) g1 g2 (by omega) (by omega) a b t k
  simp only [hr,hc,hre,Bool.and_self] at hf
  have hg:=fun L=>JG (pr:=pr) (H:=L) (e:=none) (rowPullW ls ss true) (Zt1 hr hc) true
  simp only [if_true] at hg
  simp (maxSteps:=2000000) +contextual only [hf,hg,WV,e1,e2,e3,e4,e5,e6,Za h1,Za h2,pp,go_sem,reduceIte,Ra,Rb,Rc,Rd]
 rw [decide_eq_false w6] at e6
 by_cases w7:w=[115,112,108,105,116]
 ·rw [decide_eq_true w7] at e7
  rw [if_neg w1,if_neg w2,if_neg w3,if_neg w4,if_neg w5,if_neg w6,if_pos w7]
  simp (maxSteps:=2000000) +contextual only [e1,e2,e3,e4,e5,e6,e7,Za h1,Za h2,pp,go_sem,reduceIte,Ra,Rb,Rc,Rd]
  refine (Zql (Za h1 _) hr).mono ?_
  have hfit:=fun g=>Zqm (ls:=ls) (g:=g)
  generalize Zam ls=o at *
  rintro v m hv
  cases o with
  | some g=>
   obtain ⟨c,rfl,rfl⟩:=hv
   obtain ⟨f1,f2⟩:=hfit g rfl hls
   have hg:∀ X e0,call T pr XB [slI (H.length+1) g.length c,.bool true] ⟨H++[X,.cells (ZR g) true],e0⟩=some (sV (ZeL g),⟨H++[X,.cells (ZR g) true],e0⟩):=fun X e0=>by
    have:=ZgP (pr:=pr) (H:=H++[X,.cells (ZR g) true]) (e:=e0) (q:=H.length+1) (cap:=c) (Ze (w:=true) (by rw [List.getElem?_append_right (by omega),show H.length+1 - H.length=1 by omega];rfl)) f1 f2 true
    rw [if_pos rfl] at this
    exact this
   simp (maxSteps:=2000000) +contextual only [hg,Option.map_some,WV,pp,go_sem,reduceIte,Ra,Rb,Rc,Rd]
  | none=>
   obtain ⟨G,c,rfl,rfl⟩:=hv
   have hg:=fun L b e0=>Zjw (pr:=pr) (H:=L) (e:=e0) (b:=b) (cap:=c)
   simp (maxSteps:=2000000) +contextual only [hg,Option.map_none,Option.getD_none,pp,go_sem,reduceIte,Ra,Rb,Rc,Rd]
 rw [decide_eq_false w7] at e7
 rw [if_neg w1,if_neg w2,if_neg w3,if_neg w4,if_neg w5,if_neg w6,if_neg w7]
 simp (maxSteps:=2000000) +contextual only [Option.getD_none,e1,e2,e3,e4,e5,e6,e7,Za h1,Za h2,pp,go_sem,reduceIte,Ra,Rb,Rc,Rd]
def askOneW (ls:List Ld) (ss:List Sg) (w:By) (n:Int):Option By :=
 if w=[109,111,109,101,110,116] then (if Zha n=true then some (Lib.itoa (Zk8 ls n)) else none)
 else if w=[109,111,115,116] then (if Zn6 n=true then some (Lib.itoa (mostW ss n.toNat)) else none)
 else if w=[115,116,101,112,115] then (if Zn6 n=true then some (Xi 47 [(stepA ss n.toNat:Int),(stepBW ss n.toNat:Int)]) else none)
 else if w=[122,101,114,111] then (if Zha n=true then some (Lib.itoa ((Yv ls n).length:Int)) else none)
 else if w=[109,101,110,100] then (Zre ls n).map fun p=>ZeL [(p.1:Int),p.2]
 else if w=[99,111,105,110,115] then (if Zzz n=true then some (Lib.itoa (Zg3 n)) else none)
 else none
theorem ZHx (p:Int) (hp:0≤p∧p≤60):∀ (ls:List Ld) (a:Int),ls.all okL=true→∀ B:Int,-B≤a→a≤B→B+(ls.length:Int)*5940≤1000000 → -(B+(ls.length:Int)*5940)≤ls.foldl (ZaP p) a∧ls.foldl (ZaP p) a≤B+(ls.length:Int)*5940
 | [],a,_,B,h1,h2,_=>by simp only [List.foldl_nil,List.length_nil];omega
 | l::ls,a,h,B,h1,h2,hB=>by
  rw [List.all_cons,Rs] at h
  simp only [List.length_cons] at hB ⊢
  have h3:=h.1
  unfold okL at h3
  simp only [Rs,decide_eq_true_eq] at h3
  obtain ⟨x,hx⟩:∃ x:Nat,l.1=x:=⟨l.1.toNat,by omega⟩
  obtain ⟨y,hy⟩:∃ y:Nat,l.2=y:=⟨l.2.toNat,by omega⟩
  obtain ⟨z,rfl⟩:∃ z:Nat,p=z:=⟨p.toNat,by omega⟩
  have hxy:y*x≤99*60:=Nat.mul_le_mul (by omega) (by omega)
  have hxz:y*z≤99*60:=Nat.mul_le_mul (by omega) (by omega)
  have e0:(y:Int)*((x:Int) - (z:Int))=((y*x:Nat):Int) - ((y*z:Nat):Int):=by rw [Int.mul_sub,Int.natCast_mul,Int.natCast_mul]
  have e1:ZaP z a l=a+(((y*x:Nat):Int) - ((y*z:Nat):Int)):=by
   unfold ZaP
   rw [hx,hy,ZN (x:=(x:Int) - (z:Int)) (by omega) (by omega),e0,ZN (x:=((y*x:Nat):Int) - ((y*z:Nat):Int)) (by omega) (by omega),ZN (by omega) (by omega)]
  rw [List.foldl_cons,e1]
  have:=ZHx z hp ls (a+(((y*x:Nat):Int) - ((y*z:Nat):Int))) h.2 (B+5940) (by omega) (by omega) (by omega)
  omega
theorem ZzL {ls:List Ld} (h:Yu ls=true) {n:Int} (hn:Zha n=true):Zfk (Zk8 ls n):=by
 unfold Zha at hn
 simp only [Rs,decide_eq_true_eq] at hn
 unfold Yu at h
 rw [Rs,decide_eq_true_eq] at h
 have h3:=ZHx n hn ls 0 h.2 0 (by omega) (by omega) (by omega)
 unfold Zk8
 exact fit_small (by omega) (by omega)
theorem Zt3 {n:Int} (hn:Zn6 n=true):∃ x:Nat,n=x∧x≤1000000:=by
 unfold Zn6 at hn
 simp only [Rs,decide_eq_true_eq] at hn
 exact ⟨n.toNat,by omega,by omega⟩
theorem Zt4 {ss:List Sg} (hc:ZA ss=true) {n:Int} (hn:Zn6 n=true):Zfk (mostW ss n.toNat:Int):=by
 obtain ⟨x,rfl,hx⟩:=Zt3 hn
 obtain ⟨a1,a2,b1,b2,h3⟩:=Zad hc x hx
 rw [Int.toNat_natCast]
 unfold mostW
 have:=Nat.div_le_self (x*ZB 1 1 ss) (ZC 1 1 ss)
 generalize x*ZB 1 1 ss / ZC 1 1 ss=z at *
 exact fit_small (by omega) (by omega)
theorem Zqn {ss:List Sg} (hc:ZA ss=true) (x:Nat) (hx:x≤1000000):Zfk (stepA ss x:Int)∧Zfk (stepBW ss x:Int):=by
 obtain ⟨a1,a2,b1,b2,h3⟩:=Zad hc x hx
 have h1:x*ZC 1 1 ss≤1000000*254803968:=Nat.mul_le_mul hx b2
 have e1:stepA ss x≤x*ZC 1 1 ss:=Nat.div_le_self _ _
 have e2:stepBW ss x≤ZB 1 1 ss:=Nat.div_le_self _ _
 generalize stepA ss x=u at *
 generalize stepBW ss x=v at *
 generalize x*ZC 1 1 ss=y at *
 exact ⟨fit_small (by omega) (by omega),fit_small (by omega) (by omega)⟩
theorem ZmB {ls:List Ld} (hn:ls.length≤12) (p:Int):Zfk ((Yv ls p).length:Int):=by
 have hgb:=Zn9 ls.length hn (Zby ls p) (ls.length+1) 0 (by omega)
 rw [ZlF] at hgb
 have hgb2:(Yv ls p).length≤(ls.length+1+1)*479001600:=by unfold Yv ZFZ;rw [List.length_map];exact hgb
 exact fit_small (by omega) (by omega)
theorem Zqo (n:Int):Zfk (Zg3 n):=by
 unfold Zg3
 split
 ·exact fit_small (by omega) (by omega)
 ·split
  ·exact fit_small (by omega) (by omega)
  ·split <;> exact fit_small (by omega) (by omega)
def ZJl:Option (Nat×Int)→Prop
 | some (i,p)=>i≤12∧0≤p∧p≤60
 | none=>True
theorem Zt5 (ls:List Ld) (n:Int) (hn:ls.length≤12):ZJl (Zre ls n):=by
 cases h:Zre ls n with
 | none=>trivial
 | some x=>
  obtain ⟨i,p⟩:=x
  unfold Zre at h
  split at h
  ·obtain ⟨h1,h2,h3⟩:=ZHv h
   exact ⟨by omega,h2,h3⟩
  ·cases h
theorem ZzM {i:Nat} {p:Int} (h:ZJl (some (i,p))):∀ z∈[(i:Int),p],Zfk z:=by
 obtain ⟨h1,h2,h3⟩:i≤12∧0≤p∧p≤60:=h
 intro z hz
 simp only [List.mem_cons,List.not_mem_nil,or_false] at hz
 rcases hz with rfl | rfl
 ·exact fit_small (by omega) (by omega)
 ·exact fit_small (by omega) (by omega)
set_option maxHeartbeats 2000000 in
theorem Zqp (hl:ZtQ pr) {u q1 q2:Nat} {c1 c2:Option Nat} {ls:List Ld} {ss:List Sg} {a b t k:Int} {rest:List AV} (hu:Zb H u=some (sdL (slL q1 ls.length c1) a b (slS q2 ss.length c2) t k rest)) (h1:Zb H q1=some (Zn ls)) (h2:Zb H q2=some (Zw ss)) (hs:Zcm ls ss a b t k=true) (w:By) (n:Int) :
  Wc (call T pr QS [.ptr (some (u,0)),sV w,.int .i64 n] ⟨H,e⟩) (fun v m=>ZG0 (askOneW ls ss w n) v∧m=⟨H,e⟩):=by
 obtain ⟨hr,hc,hb,hss,hls,ht1,ht2,hk1,hk2,hre⟩:=XF hs
 have weq:=fun a=>Zaf w a
 have e1:decide (bs w=⟨#[109,111,109,101,110,116]⟩)=decide (w=[109,111,109,101,110,116]):=weq _
 have e2:decide (bs w=⟨#[109,111,115,116]⟩)=decide (w=[109,111,115,116]):=weq _
 have e3:decide (bs w=⟨#[115,116,101,112,115]⟩)=decide (w=[115,116,101,112,115]):=weq _
 have e4:decide (bs w=⟨#[122,101,114,111]⟩)=decide (w=[122,101,114,111]):=weq _
 have e5:decide (bs w=⟨#[109,101,110,100]⟩)=decide (w=[109,101,110,100]):=weq _
 have e6:decide (bs w=⟨#[99,111,105,110,115]⟩)=decide (w=[99,111,105,110,115]):=weq _
 rw [Zr Znu]
 unfold QT ZgV askOneW
 generalize (⟨#[109,111,109,101,110,116]⟩:ByteArray)=k1 at *
 generalize (⟨#[109,111,115,116]⟩:ByteArray)=k2 at *
 generalize (⟨#[115,116,101,112,115]⟩:ByteArray)=k3 at *
 generalize (⟨#[122,101,114,111]⟩:ByteArray)=k4 at *
 generalize (⟨#[109,101,110,100]⟩:ByteArray)=k5 at *
 generalize (⟨#[99,111,105,110,115]⟩:ByteArray)=k6 at *
 clear weq
 by_cases w1:w=[109,111,109,101,110,116]
 ·rw [decide_eq_true w1] at e1
  rw [if_pos w1]
  have hf:=fun L (hL:Zb L q1=some (Zn ls))=>Zh2 (pr:=pr) (e:=none) (cap:=c1) hL hr (by omega) n
  cases hB:Zha n with
  | false=>
   simp only [hB,RZ,if_false] at hf ⊢
   have hg:=fun L=>ZP (pr:=pr) (H:=L) (e:=none) hl.ito 0 (fit_small (by omega) (by omega)) false
   simp (maxSteps:=2000000) +contextual only [hu,h1,h2,hf,hg,e1,Zy,Zs,Za h1,Za h2,Zbt,Zbu,Za2,R9,RH,RI,RJ,Rx,Zc,pp,go_sem,reduceIte,Ra,Rb,Rc,Rd]
   exact ⟨_,rfl,fun y h=>absurd h (by simp)⟩
  | true=>
   simp only [hB,if_true] at hf ⊢
   have hg:=fun L=>ZP (pr:=pr) (H:=L) (e:=none) hl.ito (Zk8 ls n) (ZzL hr hB) true
   simp (maxSteps:=2000000) +contextual only [hu,h1,h2,hf,hg,e1,Zy,Zs,Za h1,Za h2,Zbt,Zbu,Za2,R9,RH,RI,RJ,Rx,Zc,pp,go_sem,reduceIte,Ra,Rb,Rc,Rd]
   exact ⟨_,rfl,fun y h=>by rw [←WH h]⟩
 rw [decide_eq_false w1] at e1
 by_cases w2:w=[109,111,115,116]
 ·rw [decide_eq_true w2] at e2
  rw [if_neg w1,if_pos w2]
  have hf:=fun L (hL:Zb L q2=some (Zw ss))=>ZwP (pr:=pr) (e:=none) (c:=c2) hL hc (by omega) n
  cases hB:Zn6 n with
  | false=>
   simp only [hB,RZ,if_false] at hf ⊢
   have hg:=fun L=>ZP (pr:=pr) (H:=L) (e:=none) hl.ito 0 (fit_small (by omega) (by omega)) false
   simp (maxSteps:=2000000) +contextual only [hu,h1,h2,hf,hg,e1,e2,Zy,Zs,Za h1,Za h2,Zbt,Zbu,Za2,R9,RH,RI,RJ,Rx,Zc,pp,go_sem,reduceIte,Ra,Rb,Rc,Rd]
   exact ⟨_,rfl,fun y h=>absurd h (by simp)⟩
  | true=>
   simp only [hB,if_true] at hf ⊢
   have hg:=fun L=>ZP (pr:=pr) (H:=L) (e:=none) hl.ito (mostW ss n.toNat) (Zt4 hc hB) true
   simp (maxSteps:=2000000) +contextual only [hu,h1,h2,hf,hg,e1,e2,Zy,Zs,Za h1,Za h2,Zbt,Zbu,Za2,R9,RH,RI,RJ,Rx,Zc,pp,go_sem,reduceIte,Ra,Rb,Rc,Rd]
   exact ⟨_,rfl,fun y h=>by rw [←WH h]⟩
 rw [decide_eq_false w2] at e2
 by_cases w3:w=[115,116,101,112,115]
 ·rw [decide_eq_true w3] at e3
  rw [if_neg w1,if_neg w2,if_pos w3]
  cases hB:Zn6 n with
  | false=>
   simp only [RZ,if_false]
   have hf:=fun L (hL:Zb L q2=some (Zw ss))=>ZnO (pr:=pr) (e:=none) (c:=c2) hL hc (by omega) n hB
   simp (maxSteps:=2000000) +contextual only [hu,h1,h2,hf,e1,e2,e3,Zy,Zs,Za h1,Za h2,Zbt,Zbu,Za2,R9,RH,RI,RJ,Rx,Zc,pp,go_sem,reduceIte,Ra,Rb,Rc,Rd]
   exact ⟨_,rfl,fun y h=>absurd h (by simp)⟩
  | true=>
   obtain ⟨x,rfl,hx⟩:=Zt3 hB
   simp only [if_true,Int.toNat_natCast]
   simp (maxSteps:=2000000) +contextual only [hu,h1,h2,e1,e2,e3,Zy,Zs,Za h1,Za h2,Zbt,Zbu,Za2,R9,RH,RI,RJ,Rx,Zc,pp,go_sem,reduceIte,Ra,Rb,Rc,Rd]
   refine (ZtT h2 hc x hx).mono ?_
   rintro v m ⟨cap,ps,rfl,rfl,hp1,hp2⟩
   have hnew:Zb (H++[.cells (Zn ps) true]) H.length=some (Zn ps):=Ze (w:=true) (by rw [ZQ];rfl)
   obtain ⟨f1,f2⟩:=Zqn (ss:=ss) hc x hx
   have hg:=fun L=>QX (pr:=pr) (H:=L) (e:=none) hl.ito hl.joi (stepA ss x) (stepBW ss x) f1 f2 true
   have hw:IntKind.i64.wrap (((ss.length+1:Nat):Int) - 1)=(ss.length:Int):=by rw [ZN (by omega) (by omega)];omega
   have hlt:ss.length<ss.length+1:=by omega
   simp (maxSteps:=2000000) +contextual only [hu,h1,h2,hnew,hg,hw,hlt,Ja hp2,e1,e2,e3,Zy,Zs,Za h1,Za h2,Zbt,Zbu,Za2,R9,RH,RI,RJ,Rx,Zc,pp,go_sem,reduceIte,Ra,Rb,Rc,Rd]
   exact ⟨_,rfl,fun y h=>by rw [←WH h]⟩
 rw [decide_eq_false w3] at e3
 by_cases w4:w=[122,101,114,111]
 ·rw [decide_eq_true w4] at e4
  rw [if_neg w1,if_neg w2,if_neg w3,if_pos w4]
  have hf:=fun L (hL:Zb L q1=some (Zn ls))=>ZtZ (pr:=pr) (e:=none) (cap:=c1) hl hL hr n
  cases hB:Zha n with
  | false=>
   simp only [hB,RZ,if_false] at hf ⊢
   have hg:=fun L=>ZP (pr:=pr) (H:=L) (e:=none) hl.ito 0 (fit_small (by omega) (by omega)) false
   simp (maxSteps:=2000000) +contextual only [hu,h1,h2,hf,hg,e1,e2,e3,e4,Zy,Zs,Za h1,Za h2,Zbt,Zbu,Za2,R9,RH,RI,RJ,Rx,Zc,pp,go_sem,reduceIte,Ra,Rb,Rc,Rd]
   exact ⟨_,rfl,fun y h=>absurd h (by simp)⟩
  | true=>
   simp only [hB,if_true] at hf ⊢
   have hg:=fun L=>ZP (pr:=pr) (H:=L) (e:=none) hl.ito ((Yv ls n).length) (ZmB hls n) true
   simp (maxSteps:=2000000) +contextual only [hu,h1,h2,hf,hg,e1,e2,e3,e4,Zy,Zs,Za h1,Za h2,Zbt,Zbu,Za2,R9,RH,RI,RJ,Rx,Zc,pp,go_sem,reduceIte,Ra,Rb,Rc,Rd]
   exact ⟨_,rfl,fun y h=>by rw [←WH h]⟩
 rw [decide_eq_false w4] at e4
 by_cases w5:w=[109,101,110,100]
 ·rw [decide_eq_true w5] at e5
  rw [if_neg w1,if_neg w2,if_neg w3,if_neg w4,if_pos w5]
  have hf:=fun L (hL:Zb L q1=some (Zn ls))=>ZzA (pr:=pr) (e:=none) (cap:=c1) hL hr (by omega) n
  have hfit:=Zt5 ls n hls
  generalize Zre ls n=o at *
  cases o with
  | some x=>
   obtain ⟨i,p⟩:=x
   have hg:call T pr XX [.slice (some (H.length,0)) 1 2 (some 2),.bool true] ⟨H++[.cells [.int .i64 i,.int .i64 p] true],none⟩=some (.tup [sV (ZeL [(i:Int),p]),.bool true],⟨H++[.cells [.int .i64 i,.int .i64 p] true],none⟩) :=
    Zer (zs:=[(i:Int),p]) hl.ito hl.joi (Ze (w:=true) (by rw [ZQ];rfl)) (by simp) (ZzM hfit) true
   simp only [mvV] at hf
   simp (maxSteps:=2000000) +contextual only [hu,h1,h2,hf,hg,Option.map_some,e1,e2,e3,e4,e5,Zy,Zs,Za h1,Za h2,Zbt,Zbu,Za2,R9,RH,RI,RJ,Rx,Zc,pp,go_sem,reduceIte,Ra,Rb,Rc,Rd]
   exact ⟨_,rfl,fun y h=>by rw [←WH h]⟩
  | none=>
   have hg:call T pr XX [.slice (some (H.length,0)) 1 2 (some 2),.bool false] ⟨H++[.cells [.int .i64 0,.int .i64 0] true],none⟩=some (.tup [sV (ZeL [0,0]),.bool false],⟨H++[.cells [.int .i64 0,.int .i64 0] true],none⟩) :=
    Zer (zs:=[0,0]) hl.ito hl.joi (Ze (w:=true) (by rw [ZQ];rfl)) (by simp) (fun z hz=>by simp at hz;subst hz;exact fit_small (by omega) (by omega)) false
   simp only [mvV] at hf
   simp (maxSteps:=2000000) +contextual only [hu,h1,h2,hf,hg,Option.map_none,e1,e2,e3,e4,e5,Zy,Zs,Za h1,Za h2,Zbt,Zbu,Za2,R9,RH,RI,RJ,Rx,Zc,pp,go_sem,reduceIte,Ra,Rb,Rc,Rd]
   exact ⟨_,rfl,fun y h=>absurd h (by simp)⟩
 rw [decide_eq_false w5] at e5
 by_cases w6:w=[99,111,105,110,115]
 ·rw [decide_eq_true w6] at e6
  rw [if_neg w1,if_neg w2,if_neg w3,if_neg w4,if_neg w5,if_pos w6]
  have hf:=fun L=>Zke (pr:=pr) (H:=L) (e:=none) n
  cases hB:Zzz n with
  | false=>
   simp only [hB,RZ,if_false] at hf ⊢
   have hg:=fun L=>ZP (pr:=pr) (H:=L) (e:=none) hl.ito 0 (fit_small (by omega) (by omega)) false
   simp (maxSteps:=2000000) +contextual only [hu,h1,h2,hf,hg,e1,e2,e3,e4,e5,e6,Zy,Zs,Za h1,Za h2,Zbt,Zbu,Za2,R9,RH,RI,RJ,Rx,Zc,pp,go_sem,reduceIte,Ra,Rb,Rc,Rd]
   exact ⟨_,rfl,fun y h=>absurd h (by simp)⟩
  | true=>
   simp only [hB,if_true] at hf ⊢
   have hg:=fun L=>ZP (pr:=pr) (H:=L) (e:=none) hl.ito (Zg3 n) (Zqo n) true
   simp (maxSteps:=2000000) +contextual only [hu,h1,h2,hf,hg,e1,e2,e3,e4,e5,e6,Zy,Zs,Za h1,Za h2,Zbt,Zbu,Za2,R9,RH,RI,RJ,Rx,Zc,pp,go_sem,reduceIte,Ra,Rb,Rc,Rd]
   exact ⟨_,rfl,fun y h=>by rw [←WH h]⟩
 rw [decide_eq_false w6] at e6
 rw [if_neg w1,if_neg w2,if_neg w3,if_neg w4,if_neg w5,if_neg w6]
 simp (maxSteps:=2000000) +contextual only [hu,h1,h2,e1,e2,e3,e4,e5,e6,Zy,Zs,Za h1,Za h2,Zbt,Zbu,Za2,R9,RH,RI,RJ,Rx,Zc,pp,go_sem,reduceIte,Ra,Rb,Rc,Rd]
 exact ⟨_,rfl,fun y h=>absurd h (by simp)⟩
end Go.Proofs.YtemcdiajejekoaaGreatDoor.Slim
