/- Parts of the proof. -/
import Derived.Test.YtemcdiajejekoaaGreatDoorSlimZ16
import Derived.WalkKit
import Derived.Deep.LoopGhost
import Derived.Deep.Draws
import Derived.Shelf.RegionOpenPlain
import Derived.Lib.Walk
import Derived.Lib.Slices
import Derived.Lib.ItoaMem
import Derived.Lib.SlicesCompact
set_option linter.unusedSimpArgs false
set_option linter.unusedVariables false
namespace Go.Proofs.YtemcdiajejekoaaGreatDoor.Slim
open Go Go.Lib Go.RowKit Go.Shelf
theorem Zz2 (x y:Int) (w:World):Calls Tryz.prog 270 #[.int .i64 x,.int .i64 y] w fun e w'=>e=.returned (.int .i64 (if x<y then -1 else if y<x then 1 else 0))∧w'=w:=by
 have mixed:Tryz.prog.follows .mixedOrders=true:=by kernel_rfl
 go_enter Tryz.func270,Tryz.ntmps270
 go_wp2_with (go_at_call 299;refine (Tryz.cmp_isNaN_int2 _ _).mono ?_;rintro e w' ⟨rfl,hw⟩;rw [hw])
 all_goals (go_ret;refine ⟨?_,rfl⟩;(repeat' split) <;> first | rfl | (exfalso;omega))
theorem ZlJ:∀ (k:Nat) (A B:List Int),k≤A.length→k≤B.length→(∀ j,j<k→A.getD j 0=B.getD j 0)→ZxP A B=ZxP (A.drop k) (B.drop k)
 | 0,_,_,_,_,_=>rfl
 | k+1,[],_,h,_,_=>by simp at h
 | k+1,_::_,[],_,h,_=>by simp at h
 | k+1,a::x,b::y,h1,h2,h=>by
  have e:a=b:=h 0 (by omega)
  subst e
  have ih:=ZlJ k x y (by simpa using h1) (by simpa using h2) fun j hj=>by simpa using h (j+1) (by omega)
  rw [List.drop_succ_cons,List.drop_succ_cons,←ih]
  conv=>lhs;unfold ZxP
  rw [if_neg (Int.lt_irrefl a),if_neg (Int.lt_irrefl a)]
theorem ZIz (A B:List Int) (k:Nat) (x y:Int) (h1:k<A.length) (h2:k<B.length) (hx:A.getD k 0=x) (hy:B.getD k 0=y) (h:∀ j,j<k→A.getD j 0=B.getD j 0) (hne:x≠y):ZxP A B=if x<y then -1 else 1:=by
 have e1:A[k]=x:=by rw [←hx];simp [List.getD_eq_getElem?_getD,h1]
 have e2:B[k]=y:=by rw [←hy];simp [List.getD_eq_getElem?_getD,h2]
 rw [ZlJ k A B (by omega) (by omega) h,List.drop_eq_getElem_cons h1,List.drop_eq_getElem_cons h2,e1,e2]
 unfold ZxP
 by_cases hlt:x<y
 ·rw [if_pos hlt,if_pos hlt]
 ·rw [if_neg hlt,if_neg hlt,if_pos (by omega)]
theorem ZHr (A B:List Int) (h1:A.length≤B.length) (h:∀ j,j<A.length→A.getD j 0=B.getD j 0):ZxP A B=if A.length<B.length then -1 else 0:=by
 rw [ZlJ A.length A B (Nat.le_refl _) h1 h,List.drop_length]
 by_cases hlt:A.length<B.length
 ·rw [if_pos hlt,List.drop_eq_getElem_cons hlt];rfl
 ·rw [if_neg hlt,List.drop_eq_nil_of_le (by omega)];rfl
theorem ZFU (A B:List Int) (h1:B.length<A.length) (h:∀ j,j<B.length→A.getD j 0=B.getD j 0):ZxP A B=1:=by
 rw [ZlJ B.length A B (by omega) (Nat.le_refl _) h,List.drop_length,List.drop_eq_getElem_cons h1];rfl
set_option maxHeartbeats 2000000 in
set_option maxRecDepth 100000 in
theorem ZDo (b1 o1 c1 b2 o2 c2 n m:Nat) (A B:List Int) (w:World) (hA:A.length=n) (hB:B.length=m) (hbig:n≤1073741824) (hbig2:m≤1073741824) (hc1:∀ j,j<n→w.cell? ⟨b1,o1+j,none⟩=some (.int .i64 (A.getD j 0))) (hc2:∀ j,j<m→w.cell? ⟨b2,o2+j,none⟩=some (.int .i64 (B.getD j 0))) :
  Calls Tryz.prog 211 #[.slice (some ⟨b1,o1,none⟩) n c1,.slice (some ⟨b2,o2,none⟩) m c2] w fun e w'=>e=.returned (.int .i64 (ZxP A B))∧∃ q,w'=w.drewN q:=by
 have mixed:Tryz.prog.follows .mixedOrders=true:=by kernel_rfl
 go_enter Tryz.func211,Tryz.ntmps211
 go_wp2
 go_loopg [11] n (fun g s11 wr=>∃ k q:Nat,k≤n∧k≤m∧n - k≤g∧s11=.int .i64 k∧wr=w.drewN q∧∀ j,j<k→A.getD j 0=B.getD j 0)
 case atStart=>exact ⟨0,0,Nat.zero_le _,Nat.zero_le _,by omega,rfl,rfl,fun j hj=>absurd hj (Nat.not_lt_zero _)⟩
 case round=>
  obtain ⟨k,q,hk,hkm,hg,rfl,rfl,heq⟩:=hrel
  by_cases hlt:k<n
  ·have g1:w.cell? ⟨b1,o1+k,none⟩=some (.int .i64 (A.getD k 0)):=hc1 k (by omega)
   by_cases hltm:k<m
   ·have g2:w.cell? ⟨b2,o2+k,none⟩=some (.int .i64 (B.getD k 0)):=hc2 k (by omega)
    have AS:Aside (∀ j,j<k→A.getD j 0=B.getD j 0):=heq
    clear heq hc1 hc2
    generalize hxk:A.getD k 0=x at g1
    generalize hyk:B.getD k 0=y at g2
    have BS:Aside (A.getD k 0=x∧B.getD k 0=y):=⟨hxk,hyk⟩
    clear hxk hyk
    by_cases hxy:x=y
    ·subst hxy
     have hcmp:=fun w'=>Zz2 x x w'
     simp only [Int.lt_irrefl,if_false] at hcmp
     go_wp2_with (go_at_call 270;refine (hcmp _).mono ?_;rintro e w' ⟨rfl,hw⟩;rw [hw])
     go_roundg (n - (k+1))
     case measure=>omega
     case rel=>
      refine ⟨k+1,q,by omega,by omega,by omega,by go_num,rfl,fun j hj => ?_⟩
      by_cases e:j=k
      ·subst e
       rw [BS.out.1,BS.out.2]
      ·exact AS.out j (by omega)
    ·have hat:=ZIz A B k x y (by omega) (by omega) BS.out.1 BS.out.2 AS.out hxy
     by_cases hxlt:x<y
     ·rw [if_pos hxlt] at hat
      have hcmp:=fun w'=>Zz2 x y w'
      simp only [if_pos hxlt] at hcmp
      go_wp2_with (go_at_call 270;refine (hcmp _).mono ?_;rintro e w' ⟨rfl,hw⟩;rw [hw])
      go_ret
      refine ⟨?_,q,rfl⟩
      rw [hat]
      rfl
     ·rw [if_neg hxlt] at hat
      have hyx:y<x:=by omega
      have hcmp:=fun w'=>Zz2 x y w'
      simp only [if_neg hxlt,if_pos hyx] at hcmp
      go_wp2_with (go_at_call 270;refine (hcmp _).mono ?_;rintro e w' ⟨rfl,hw⟩;rw [hw])
      go_ret
      refine ⟨?_,q,rfl⟩
      rw [hat]
      rfl
   ·have hov:=ZFU A B (by omega) fun j hj=>heq j (by omega)
    have hge:((m:Nat):Int)≤((k:Nat):Int):=by omega
    clear hc1 hc2
    go_wp2
    go_ret
    refine ⟨?_,q,rfl⟩
    rw [hov]
    rfl
  ·have hkn:k=n:=by omega
   subst hkn
   have hen:=ZHr A B (by omega) fun j hj=>heq j (by omega)
   rw [hA,hB] at hen
   clear hc1 hc2
   by_cases hlm:k<m
   ·rw [if_pos hlm] at hen
    go_wp2
    go_ret
    refine ⟨?_,q,rfl⟩
    rw [hen]
    rfl
   ·rw [if_neg hlm] at hen
    go_wp2
    go_ret
    refine ⟨?_,q,rfl⟩
    rw [hen]
    rfl
set_option maxHeartbeats 2000000 in
set_option maxRecDepth 100000 in
theorem ZHs:ZFT Tryz.prog:=by
 intro w b1 o1 k1 b2 o2 k2 A B hA hB hc1 hc2
 have mixed:Tryz.prog.follows .mixedOrders=true:=by kernel_rfl
 have hs:=fun w' hc1 hc2=>ZDo b1 o1 k1 b2 o2 k2 A.length B.length A B w' rfl rfl hA hB hc1 hc2
 show Calls Tryz.prog 147 _ _ _
 unfold cfG
 by_cases h:A.length=B.length
 ·rw [if_pos h]
  have h':((A.length:Nat):Int)=((B.length:Nat):Int):=by omega
  have hs':=hs w hc1 hc2
  clear hs hc1 hc2
  generalize ZxP A B=z at *
  rw [←h] at hs' ⊢
  clear h h'
  go_enter Tryz.func147,Tryz.ntmps147
  go_wp2_with (go_at_call 211;refine hs'.mono ?_;rintro e w' ⟨rfl,q,hw⟩;rw [hw])
  go_ret
  exact ⟨rfl,q,rfl⟩
 ·rw [if_neg h]
  have h':¬ ((A.length:Nat):Int)=((B.length:Nat):Int):=by omega
  have hw:IntKind.i64.wrap (((A.length:Nat):Int) - ((B.length:Nat):Int))=((A.length:Nat):Int) - ((B.length:Nat):Int):=ZP (by omega) (by omega)
  clear hs hc1 hc2
  go_enter Tryz.func147,Tryz.ntmps147
  go_wp2
  go_ret
  exact ⟨rfl,0,rfl⟩
end Go.Proofs.YtemcdiajejekoaaGreatDoor.Slim
namespace Go.Proofs.YtemcdiajejekoaaGreatDoor.Slim
open Go
open Nat renaming reduceAdd → Ra, reduceLeDiff → Rb, reduceLT → Rc, reduceEqDiff → Rd
open Nat renaming lt_irrefl → Rh, le_refl → Rz, one_mul → Rq, div_le_self → Rt, pow_le_pow_right → RP, zero_mul → Rr, le_trans → WF, sub_self → WH, mul_comm → WM, mul_left_comm → WN, pow_succ → WO, mul_pos → WT, mul_le_mul → WU
open Bool renaming and_eq_true → Ru, false_eq_true → R7, false_and → RU
open List renaming getElem?_eq_getElem → Rj, getElem?_append_right → RN, length_append → R3, getElem?_eq_some_iff → RB, length_cons → Rl, mem_cons_of_mem → Wu, getElem?_append_left → Wt, mem_map → Wg, mem_cons_self → Wf, getElem?_set_ne → WA, length_map → WB, length_take → Wn, take_length → Wl, take_succ_eq_append_getElem → RL, getElem_mem → WC, range → WD, append_assoc → Rs, drop_eq_getElem_cons → Rm, replicate → Ry, drop_zero → Rk, length_nil → RM, drop_length → Rp, length_filter_le → WG, append_nil → RA, mem_of_getElem? → WK, getElem?_set_self → WL, all_cons → Rv, map_append → WP, all_eq_true → WQ, getD_eq_getElem?_getD → WR, filter_append → WS, mem_filter → Ws, mem_flatMap → WV
open Int renaming toNat_natCast → RC, le_refl → Wd, toNat_zero → RH, toNat_one → RI, natCast_mul → RD, tdiv → WJ
open Option renaming some.injEq → RV, getD_none → WE, isSome_none → Wj, some.inj → WI
variable {pr : Zy} {H : List Blk} {e : Option Nat}
section
variable {C : FuncId → List AV → Mem → Option (AV × Mem)} {g : X → AV} {m : Mem}
def Zql (v:AV):Option AV:=match v with
 | .ptr (some p)=>some (.ptr (some p))
 | .fn f a b=>some (.fn f a b)
 | _=>none
theorem Zz (x:X):aop C g m (.nilCheck x)=K2 m (Zql (g x)):=by
 rw [ZG rfl]
 simp only [JM,Zql]
 generalize g x=v
 cases v with
 | ptr p=>cases p <;> rfl
 | _=>rfl
theorem Zt (p:Nat×Nat):Zql (.ptr (some p))=some (.ptr (some p)):=rfl
end
def Zqm (L:List Blk) (av:AV):Prop :=
 ∃ zs:List Int,zs.length≤70000∧(∀ z∈zs,0≤z∧z≤255)∧((av=.slice none 0 0 none∧zs=[])∨∃ b c,av=.slice (some (b,0)) 1 zs.length c∧Zb L b=some (zs.map (AV.int .u8)))
theorem Zqm.more {L:List Blk} {av:AV} (h:Zqm L av) (G:List Blk):Zqm (L++G) av:=by
 obtain ⟨zs,h1,h2,h3 | ⟨b,c,h3,h4⟩⟩:=h
 ·exact ⟨zs,h1,h2,.inl h3⟩
 ·exact ⟨zs,h1,h2,.inr ⟨b,c,h3,Za h4 G⟩⟩
abbrev ZJN (av:AV) (p h:Int):Blk:=.cells [av,.int .i64 p,.int .u64 h] true
def Cu (L:List Blk) (q:Nat) (av:AV) (p:Int):Prop:=(∃ h,L[q]?=some (ZJN av p h))∧Zqm L av∧0≤p
theorem Cu.lt {L:List Blk} {q:Nat} {av:AV} {p:Int} (h:Cu L q av p):q<L.length:=by
 obtain ⟨⟨_,h⟩,_⟩:=h
 exact (RB.mp h).1
theorem Cu.more {L:List Blk} {q:Nat} {av:AV} {p:Int} (h:Cu L q av p) (G:List Blk):Cu (L++G) q av p:=by
 have hl:=h.lt
 obtain ⟨⟨z,h1⟩,h2,h3⟩:=h
 exact ⟨⟨z,by rw [Wt hl,h1]⟩,h2.more G,h3⟩
theorem Cu.step {L:List Blk} {q:Nat} {av:AV} {p:Int} (h:Cu L q av p) {y:Int} (hy:0≤y) (z:Int):Cu (L.set q (ZJN av y z)) q av y:=by
 have hl:=h.lt
 obtain ⟨⟨w,h1⟩,⟨zs,g1,g2,g3⟩,h3⟩:=h
 refine ⟨⟨z,WL hl⟩,⟨zs,g1,g2,?_⟩,hy⟩
 rcases g3 with g3 | ⟨b,c,e2,e3⟩
 ·exact .inl g3
 refine .inr ⟨b,c,e2,?_⟩
 have hbq:b≠q:=by
  rintro rfl
  unfold Zb at e3
  rw [h1] at e3
  simp at e3
  match zs with
  | []=>simp at e3
  | [_]=>simp at e3
  | _::_::_=>simp at e3
 unfold Zb at e3 ⊢
 rw [WA (fun h=>hbq h.symm)]
 exact e3
theorem Cu.new {G:List Blk} {k:Nat} {av:AV} {y z:Int} (hG:G[k]?=some (ZJN av y z)) (hc:Zqm H av) (hy:0≤y):Cu (H++G) (H.length+k) av y :=
 ⟨⟨z,by rw [RN (by omega),Nat.add_sub_cancel_left,hG]⟩,hc.more G,hy⟩
theorem Cu.cells {L:List Blk} {q:Nat} {av:AV} {p:Int} (h:Cu L q av p):∃ w,L[q]?=some (ZJN av p w)∧Zb L q=some [av,.int .i64 p,.int .u64 w]:=by
 obtain ⟨⟨w,h1⟩,_⟩:=h
 exact ⟨w,h1,by unfold Zb;rw [h1]⟩
theorem Zxd {L:List Blk} {q:Nat} (h:q<L.length) (cs:List AV) (wr:Bool):Zb (L.set q (.cells cs wr)) q=some cs:=by
 unfold Zb
 rw [WL h]
def ZDp:Zf→Zf
 | .seq a _=>a
 | c=>c
def ZlK:Zf→Zf
 | .seq _ c=>c
 | c=>c
section
variable {C : FuncId → List AV → Mem → Option (AV × Mem)} {g : X → AV} {m : Mem}
end
theorem Qk (L:List Blk) (n sz:Nat) (cap:Option Nat) (cs:List AV) (b:Nat) (h:Zb L b=some cs) (hl:cs.length=n*sz):Y2 false L (.slice (some (b,0)) sz n cap)=some (n,cs):=by
 unfold Y2
 simp [h,←hl]
theorem Zqm.new {G:List Blk} {k:Nat} {zs:List Int} {c:Option Nat} (hG:G[k]?=some (.cells (zs.map (AV.int .u8)) true)) (h1:zs.length≤70000) (h2:∀ z∈zs,0≤z∧z≤255):Zqm (H++G) (.slice (some (H.length+k,0)) 1 zs.length c):=by
 refine ⟨zs,h1,h2,.inr ⟨_,_,rfl,?_⟩⟩
 rw [KG]
 unfold Zb
 rw [hG]
section
variable {C : FuncId → List AV → Mem → Option (AV × Mem)} {g : X → AV} {m : Mem}
end
variable {pr : Zy} {H : List Blk} {e : Option Nat}
variable {pr : Zy} {H : List Blk} {e : Option Nat}
variable {pr : Zy} {H : List Blk} {e : Option Nat}
theorem Zqn {q:Nat} {c:Option Nat} {ls:List Ld} (h:Zb H q=some (Zm ls)) (hn:ls.length≤1048576) (hr:YZ ls=true):call T pr ZdW [slL q ls.length c] ⟨H,e⟩=some (.tup [.int .i64 (Q6 ls),.bool true],⟨H,e⟩):=by
 have h1:=fun G=>QG (pr:=pr) (e:=none) (c:=c) (Za h G)
 have h2:=fun G=>Zet (pr:=pr) (e:=none) (c:=c) (Za h G) (by omega)
 have h10:=h1 []
 have h20:=h2 []
 rw [RA] at h10 h20
 rw [hr] at h1 h10
 rw [Zi Zvq]
 simp +contextual only [Zeh,Zna,h1,h2,h10,h20,go_sem,reduceIte,Ra,Rb,Rc,Rd]
theorem ZnY {q:Nat} {c:Option Nat} {ss:List Sg} (h:Zb H q=some (Zr ss)) (hc:ZJ ss=true) (hn:ss.length≤1048576):call T pr Zcv [slS q ss.length c] ⟨H,e⟩=some (.tup [fvV (ZB 1 1 ss) (ZC 1 1 ss),.bool true],⟨H,e⟩):=by
 have h1:=fun G=>KH (pr:=pr) (e:=none) (c:=c) (Za h G) (by omega)
 have h2:=fun G=>ZgC (pr:=pr) (e:=none) (c:=c) (Za h G) hc
 rw [hc] at h1
 rw [Zi Zti]
 simp +contextual only [ZcL,ZkV,Zc,h1,h2,go_sem,reduceIte,Ra,Rb,Rc,Rd]
theorem ZjD {q:Nat} {c:Option Nat} {ls:List Ld} (h:Zb H q=some (Zm ls)) (hn:ls.length≤1048576) (a b:Int) (hr:YZ ls=true) (hb:Zg0 a b=true):call T pr Zdb [slL q ls.length c,.int .i64 a,.int .i64 b] ⟨H,e⟩=some (.tup [.int .i64 (Zdx ls a b),.bool true],⟨H,e⟩):=by
 have h1:=fun G=>QG (pr:=pr) (e:=none) (c:=c) (Za h G)
 have h2:=fun G=>ZpQ (pr:=pr) (e:=none) (c:=c) (Za h G) (by omega) a b
 have h10:=h1 []
 have h20:=h2 []
 rw [RA] at h10 h20
 rw [hr] at h1 h10
 rw [Zi ZyA]
 simp +contextual only [Zgj,Zpa,h1,h2,h10,h20,Zff,hb,go_sem,reduceIte,Ra,Rb,Rc,Rd]
theorem ZiZ (x y:Nat):fracA x y*y=x*fracB x y:=by
 obtain ⟨x',hx'⟩:=Nat.gcd_dvd_right y x
 obtain ⟨y',hy'⟩:=Nat.gcd_dvd_left y x
 unfold fracA fracB
 by_cases hg:Nat.gcd y x=0
 ·have e1:=Nat.eq_zero_of_gcd_eq_zero_left hg
  have e2:=Nat.eq_zero_of_gcd_eq_zero_right hg
  subst e1;subst e2
  simp
 ·have hg:0<Nat.gcd y x:=by omega
  generalize Nat.gcd y x=g at *
  subst hx';subst hy'
  rw [Nat.mul_div_cancel_left _ hg,Nat.mul_div_cancel_left _ hg]
  simp [WM,WN,Nat.mul_assoc]
theorem Znz (x y:Nat) (hy:0<y):Nat.Coprime (fracB x y) (fracA x y):=Nat.coprime_div_gcd_div_gcd (Nat.gcd_pos_of_pos_left _ hy)
theorem Zh6 (x y:Nat) (hy:0<y):0<fracB x y:=Nat.div_pos (Nat.le_of_dvd hy (Nat.gcd_dvd_left _ _)) (Nat.gcd_pos_of_pos_left _ hy)
theorem ZFV {x y x' y':Nat} (hy:0<y) (hy':0<y') (h:x*y'=x'*y):fracA x y=fracA x' y'∧fracB x y=fracB x' y':=by
 have c1:=ZiZ x y
 have c2:=ZiZ x' y'
 have p1:=Znz x y hy
 have p2:=Znz x' y' hy'
 have b1:=Zh6 x y hy
 have b2:=Zh6 x' y' hy'
 generalize fracA x y=a at *
 generalize fracB x y=b at *
 generalize fracA x' y'=a' at *
 generalize fracB x' y'=b' at *
 have key:a*b'=a'*b:=by
  have h1:(a*b')*(y*y')=(a'*b)*(y*y'):=by
   calc (a*b')*(y*y')=(a*y)*(b'*y'):=by simp [WM,WN]
    _=(x*b)*(b'*y'):=by rw [c1]
    _=(x*y')*(b*b'):=by simp [WM,WN]
    _=(x'*y)*(b*b'):=by rw [h]
    _=(x'*b')*(b*y):=by simp [WM,WN]
    _=(a'*y')*(b*y):=by rw [c2]
    _=(a'*b)*(y*y'):=by simp [WM,WN]
  exact Nat.eq_of_mul_eq_mul_right (WT hy hy') h1
 have d1:b ∣ b':=p1.dvd_of_dvd_mul_left (by rw [key];exact Nat.dvd_mul_left _ _)
 have d2:b' ∣ b:=p2.dvd_of_dvd_mul_left (by rw [←key];exact Nat.dvd_mul_left _ _)
 have e:b=b':=Nat.dvd_antisymm d1 d2
 subst e
 exact ⟨Nat.eq_of_mul_eq_mul_right b1 key,rfl⟩
theorem ZDq (x y:Nat) (hy:0<y):fracA x y / fracB x y=x / y:=by
 obtain ⟨x',hx'⟩:=Nat.gcd_dvd_right y x
 obtain ⟨y',hy'⟩:=Nat.gcd_dvd_left y x
 have hg:0<Nat.gcd y x:=Nat.gcd_pos_of_pos_left _ hy
 unfold fracA fracB
 generalize Nat.gcd y x=g at *
 subst hx';subst hy'
 rw [Nat.mul_div_cancel_left _ hg,Nat.mul_div_cancel_left _ hg,Nat.mul_div_mul_left _ _ hg]
def ZnA:Nat→Nat→List Sg→Nat
 | a,_,[]=>a
 | a,b,s::ss=>ZnA (fracA (a*gainB s) (b*gainA s)) (fracB (a*gainB s) (b*gainA s)) ss
def ZnB:Nat→Nat→List Sg→Nat
 | _,b,[]=>b
 | a,b,s::ss=>ZnB (fracA (a*gainB s) (b*gainA s)) (fracB (a*gainB s) (b*gainA s)) ss
theorem ZsO (n:Nat):∀ (ss:List Sg) (P Q:Nat),ss.all YJ=true→0<P→0<Q →
  ZnA (fracA (n*Q) P) (fracB (n*Q) P) ss=fracA (n*ZC P Q ss) (ZB P Q ss)∧ZnB (fracA (n*Q) P) (fracB (n*Q) P) ss=fracB (n*ZC P Q ss) (ZB P Q ss)
 | [],P,Q,_,_,_=>⟨rfl,rfl⟩
 | s::ss,P,Q,h,hP,hQ=>by
  rw [Rv,Ru] at h
  obtain ⟨g1,_,g3,_⟩:=Zke h.1
  have hPg:0<P*gainA s:=WT hP g1
  have hQg:0<Q*gainB s:=WT hQ g3
  obtain ⟨f1,f2,_,_⟩:=ZgB hPg hQg
  have ih:=ZsO n ss (fracA (P*gainA s) (Q*gainB s)) (fracB (P*gainA s) (Q*gainB s)) h.2 f1 f2
  have c1:=ZiZ (n*Q) P
  have c2:=ZiZ (P*gainA s) (Q*gainB s)
  have b1:=Zh6 (n*Q) P hP
  have e:=ZFV (x:=fracA (n*Q) P*gainB s) (y:=fracB (n*Q) P*gainA s) (x':=n*fracB (P*gainA s) (Q*gainB s)) (y':=fracA (P*gainA s) (Q*gainB s)) (WT b1 g1) f1 (by
   generalize fracA (n*Q) P=a at *
   generalize fracB (n*Q) P=b at *
   generalize fracA (P*gainA s) (Q*gainB s)=P' at *
   generalize fracB (P*gainA s) (Q*gainB s)=Q' at *
   generalize gainA s=gA at *
   generalize gainB s=gB at *
   refine Nat.eq_of_mul_eq_mul_right (WT hP hQ) ?_
   calc a*gB*P'*(P*Q)=(a*P)*(P'*(Q*gB)):=by simp [WM,WN]
    _=(n*Q*b)*(P*gA*Q'):=by rw [c1,c2]
    _=n*Q'*(b*gA)*(P*Q):=by simp [WM,WN])
  simp only [ZnA,ZnB,ZB,ZC]
  rw [e.1,e.2]
  exact ih
theorem ZFW (n:Nat) (ss:List Sg) (h:ss.all YJ=true):ZnA n 1 ss=fracA (n*ZC 1 1 ss) (ZB 1 1 ss)∧ZnB n 1 ss=fracB (n*ZC 1 1 ss) (ZB 1 1 ss):=by
 have e:=ZsO n ss 1 1 h (by decide) (by decide)
 have e1:fracA (n*1) 1=n:=by simp [fracA]
 have e2:fracB (n*1) 1=1:=by simp [fracB]
 rw [e1,e2] at e
 exact e
def Zuq (L:List Blk) (b:Nat) (keep:Bool):List Blk:=if keep=true then L else L.set b .dead
theorem Zh7 (L:List Blk) (b:Nat) (k:Bool):(Zuq L b k).length=L.length:=by unfold Zuq;split <;> simp
theorem ZFX {L:List Blk} {b i:Nat} (k:Bool) (h:i≠b):(Zuq L b k)[i]?=L[i]?:=by
 unfold Zuq
 split
 ·rfl
 ·exact WA (fun e=>h e.symm)
theorem apG {L:List Blk} {b sz bytes n k:Nat} {cs new:List AV} {cap:Option Nat} {src:AV} (hb:L[b]?=some (.cells cs true)) (hs:Y2 false L src=some (k,new)) (hcs:cs.length=n*sz) (hnew:new.length=k*sz) (hm:(n+k)*bytes≤maxBytes) (hcap:cap=some 0→n=0) :
  Q5 L e false sz bytes (.slice (some (b,0)) sz n cap) src=some (.slice (some (L.length,0)) sz (n+k) none,⟨Zuq L b (decide (cap=some 0∧0<k))++[.cells (cs++new) true],e⟩):=by
 unfold Q5
 simp only [hb,hs]
 rw [if_pos ⟨trivial,hm,hnew,by omega⟩]
 by_cases h:cap=some 0∧0<k
 ·have hn:=hcap h.1
  subst hn
  have:cs=[]:=List.eq_nil_of_length_eq_zero (by omega)
  subst this
  rw [if_pos h]
  simp [Zuq,h]
 ·rw [if_neg h,if_pos trivial,Rk,List.take_of_length_le (by omega)]
  simp [Zuq,h]
def Z4 (H L:List Blk):Prop:=∃ G,L=H++G
theorem Z4.refl (H:List Blk):Z4 H H:=⟨[],by simp⟩
theorem Z4.le {H L:List Blk} (h:Z4 H L):H.length≤L.length:=by
 obtain ⟨G,rfl⟩:=h
 simp
theorem Z4.more {H L:List Blk} (h:Z4 H L) (X:List Blk):Z4 H (L++X):=by
 obtain ⟨G,rfl⟩:=h
 exact ⟨G++X,by simp⟩
theorem Z4.put {H L:List Blk} (h:Z4 H L) {b:Nat} (hb:H.length≤b) (x:Blk):Z4 H (L.set b x):=by
 obtain ⟨G,rfl⟩:=h
 exact ⟨G.set (b - H.length) x,List.set_append_right _ _ hb⟩
theorem Z4.kill {H L:List Blk} (h:Z4 H L) {b:Nat} (hb:H.length≤b) (k:Bool):Z4 H (Zuq L b k):=by
 unfold Zuq
 split
 ·exact h
 ·exact h.put hb _
theorem Z4.cur {H L:List Blk} {q:Nat} {x:Blk} (h:Z4 (H.set q x) L) (hq:q<H.length) (y:Blk):Z4 (H.set q y) (L.set q y):=by
 obtain ⟨G,rfl⟩:=h
 exact ⟨G,by rw [List.set_append_left _ _ (by simpa using hq),List.set_set]⟩
theorem Z4.get {H L:List Blk} (h:Z4 H L) {i:Nat} (hi:i<H.length):L[i]?=H[i]?:=by
 obtain ⟨G,rfl⟩:=h
 exact Wt hi
theorem Z4.cells {H L:List Blk} {q:Nat} {x:Blk} (h:Z4 (H.set q x) L) {b:Nat} {cs:List AV} (hb:Zb H b=some cs) (hne:b≠q):Zb L b=some cs:=by
 have hl:b<H.length:=by
  unfold Zb at hb
  rcases Nat.lt_or_ge b H.length with h | h
  ·exact h
  ·rw [List.getElem?_eq_none h] at hb;cases hb
 unfold Zb at hb ⊢
 rw [h.get (by simpa using hl),WA (fun e=>hne e.symm)]
 exact hb
theorem Z4.curs {H L:List Blk} {q:Nat} {av:AV} {p y z:Int} (h:Z4 (H.set q (ZJN av y z)) L) (hc:Cu H q av p) (hy:0≤y):Cu L q av y:=by
 obtain ⟨G,rfl⟩:=h
 exact (hc.step hy z).more G
theorem Zja {L:List Blk} {b sz bytes n k:Nat} {cs new:List AV} {cap:Option Nat} {src:AV} {Q:AV→Mem→Prop} (hb:L[b]?=some (.cells cs true)) (hs:Y2 false L src=some (k,new)) (hcs:cs.length=n*sz) (hnew:new.length=k*sz) (hm:(n+k)*bytes≤maxBytes) (hcap:cap=some 0→n=0)
  (hQ:∀ L':List Blk,L'.length=L.length+1→(∀ i,i≠b→i<L.length→L'[i]?=L[i]?)→L'[L.length]?=some (.cells (cs++new) true)→(∀ H0,Z4 H0 L→H0.length≤b→Z4 H0 L')→Q (.slice (some (L.length,0)) sz (n+k) none) ⟨L',e⟩) :
  Wc (Q5 L e false sz bytes (.slice (some (b,0)) sz n cap) src) Q:=by
 refine Wc.of_eq (apG hb hs hcs hnew hm hcap) (hQ _ ?_ ?_ ?_ ?_)
 ·rw [R3,Zh7];rfl
 ·intro i h1 h2
  rw [Wt (by rw [Zh7];exact h2),ZFX _ h1]
 ·have hl:=Zh7 L b (decide (cap=some 0∧0<k))
  rw [RN (by omega),hl,WH]
  rfl
 ·exact fun H0 hg hb=>(hg.kill hb _).more _
theorem ZFY {L:List Blk} {b sz n:Nat} {c:Option Nat} {cs:List AV} {w:Bool} (hL:Z4 H L) (e0 e1:Option Nat) (hc:clean H.length e1=true) (hb:H.length≤b) (hG:L[b]?=some (.cells cs w)) (hu:(cs.all fun c=>c.under H.length)=true) :
  finish 2 H.length e0 (.slice (some (b,0)) sz n c) ⟨L,e1⟩=some (.slice (some (H.length,0)) sz n c,⟨H++[.cells cs w],e0⟩):=by
 obtain ⟨G,rfl⟩:=hL
 obtain ⟨j,rfl⟩:∃ j,b=H.length+j:=⟨b - H.length,by omega⟩
 have hlt:¬ H.length+j<H.length:=by omega
 have hr:XQ (AV.roots H.length (.slice (some (H.length+j,0)) sz n c))=[H.length+j]:=by simp [AV.roots,XQ,hlt]
 unfold finish
 simp only [hr]
 have h2:([H.length+j].all fun b=>Y5 H.length (H++G)[b]?)=true:=by
  simp only [Rv,List.all_nil,Bool.and_true,hG,Y5,hu]
 simp only [hc,h2,and_self,if_true]
 simp [AV.rename,ZbT,hlt,hG]
variable {pr : Zy} {H : List Blk} {e : Option Nat}
def ZnZ:Nat→By→Option Nat
 | acc,[]=>some acc
 | acc,c::r=>if 48≤c.toNat∧c.toNat≤57 then ZnZ (acc*10+(c.toNat - 48)) r else none
theorem Zok:∀ (a b:By) (acc:Nat),ZnZ acc (a++b)=(ZnZ acc a).bind fun x=>ZnZ x b
 | [],b,acc=>rfl
 | c::a,b,acc=>by
  simp only [List.cons_append,ZnZ]
  split
  ·exact Zok a b _
  ·rfl
theorem ZlL (u:Nat):ZnZ 0 (Lib.decDigits u)=some u:=by
 induction u using Nat.strongRecOn with
 | _ u ih=>
  rw [Lib.decDigits]
  split
  ·rename_i h
   have h1:(UInt8.ofNat (48+u)).toNat=48+u:=by simp;omega
   simp only [ZnZ,h1]
   rw [if_pos (by omega)]
   simp
  ·rename_i h
   have h1:(UInt8.ofNat (48+u % 10)).toNat=48+u % 10:=by simp;omega
   rw [Zok,ih (u / 10) (by omega)]
   simp only [Option.bind_some,ZnZ,h1]
   rw [if_pos (by omega)]
   congr 1
   omega
theorem ZFZ:∀ (l:By) (acc x:Nat),ZnZ acc l=some x→acc≤x
 | [],acc,x,h=>by simp only [ZnZ,RV] at h;omega
 | c::r,acc,x,h=>by
  simp only [ZnZ] at h
  split at h
  ·have:=ZFZ r _ x h;omega
  ·cases h
theorem Zz3:∀ (l:By) (acc x k:Nat),ZnZ acc l=some x→acc<10 ^ k→x<10 ^ (k+l.length)
 | [],acc,x,k,h,ha=>by simp only [ZnZ,RV] at h;subst h;simpa using ha
 | c::r,acc,x,k,h,ha=>by
  simp only [ZnZ] at h
  split at h
  ·have:=Zz3 r _ x (k+1) h (by rw [WO];omega)
   rw [Rl,show k+(r.length+1)=k+1+r.length by omega]
   exact this
  ·cases h
theorem Zqo:∀ (l:By) (acc x:Nat),ZnZ acc l=some x→x≤999999→Lib.parseUint10 acc l=.ok x
 | [],acc,x,h,_=>by simp only [ZnZ,RV] at h;subst h;rfl
 | c::r,acc,x,h,hx=>by
  have h0:=h
  simp only [ZnZ] at h
  split at h
  ·rename_i hc
   have h1:=ZFZ r _ x h
   simp only [Lib.parseUint10]
   rw [if_pos hc,if_neg (by omega),if_neg (by omega)]
   exact Zqo r _ x h hx
  ·cases h
theorem ZlM (u:Nat):∃ c r,Lib.decDigits u=c::r∧48≤c.toNat∧c.toNat≤57:=by
 have h:=ZlL u
 cases hd:Lib.decDigits u with
 | nil=>
  rw [Lib.decDigits] at hd
  split at hd <;> simp at hd
 | cons c r=>
  rw [hd] at h
  simp only [ZnZ] at h
  split at h
  ·rename_i hc;exact ⟨c,r,rfl,hc⟩
  ·cases h
theorem ZF0 (u:Nat):∀ k,u<10 ^ (k+1)→(Lib.decDigits u).length≤k+1:=by
 induction u using Nat.strongRecOn with
 | _ u ih=>
  intro k hk
  rw [Lib.decDigits]
  split
  ·simp
  ·rename_i h
   cases k with
   | zero=>simp at hk;omega
   | succ k=>
    have:=ih (u / 10) (by omega) k (by rw [WO] at hk;omega)
    simp only [R3,List.length_singleton]
    omega
def Zh8 (l:By):Option Int:=match Lib.atoiAll l with
 | .ok v=>if Lib.itoa v=l ∧ -999999≤v∧v≤999999 then some v else none
 | _=>none
theorem ZF1 (v:Int) (h1 : -999999≤v) (h2:v≤999999):Lib.atoiAll (Lib.itoa v)=.ok v:=by
 by_cases hv:v<0
 ·obtain ⟨u,hu⟩:∃ u:Nat,v = -(u:Int):=⟨v.natAbs,by omega⟩
  subst hu
  rw [Lib.itoa_neg u (by omega)]
  obtain ⟨c,r,hd,_⟩:=ZlM u
  have hp:Lib.parseMag (Lib.decDigits u)=.ok u:=by
   unfold Lib.parseMag
   rw [if_neg (by rw [hd];simp)]
   exact Zqo _ 0 u (ZlL u) (by omega)
  have e1:(45:UInt8).toNat=45:=rfl
  simp only [Lib.atoiAll,e1,or_true,if_true,hp]
  rw [if_neg (by simp),if_neg (by simp;omega)]
 ·obtain ⟨u,hu⟩:∃ u:Nat,v=(u:Int):=⟨v.toNat,by omega⟩
  subst hu
  rw [Lib.itoa_nonneg]
  obtain ⟨c,r,hd,hc⟩:=ZlM u
  have hp:Lib.parseMag (Lib.decDigits u)=.ok u:=by
   unfold Lib.parseMag
   rw [if_neg (by rw [hd];simp)]
   exact Zqo _ 0 u (ZlL u) (by omega)
  rw [hd] at hp ⊢
  have n1:¬ (c.toNat=43∨c.toNat=45):=by omega
  have n2:¬ c.toNat=45:=by omega
  simp only [Lib.atoiAll,if_neg n1,hp]
  rw [if_neg (by omega),if_neg (by rintro ⟨h,_⟩;exact n2 h),if_neg n2]
theorem Zxe (l:By) (v:Int):Zh8 l=some v↔Lib.itoa v=l ∧ -999999≤v∧v≤999999:=by
 constructor
 ·intro h
  unfold Zh8 at h
  split at h
  ·split at h
   ·rename_i hh;cases h;exact hh
   ·cases h
  ·cases h
 ·rintro ⟨rfl,h1,h2⟩
  unfold Zh8
  rw [ZF1 v h1 h2]
  simp [h1,h2]
def ZaZ (l:By):By:=if 1<l.length∧l.head?=some 45 then l.drop 1 else l
def ZrF (l:By):Option Int:=if 1≤(ZaZ l).length∧(ZaZ l).length≤6 then (match ZnZ 0 (ZaZ l) with
 | some x=>if Lib.itoa (if (ZaZ l).length<l.length then -(x:Int) else x)=l then some (if (ZaZ l).length<l.length then -(x:Int) else x) else none
 | none=>none) else none
theorem Zz4 (l:By):ZrF l=Zh8 l:=by
 have h1:∀ v,ZrF l=some v→Zh8 l=some v:=by
  intro v h
  unfold ZrF at h
  split at h
  ·rename_i hl
   split at h
   ·rename_i x hx
    have hb:=Zz3 _ 0 x 0 hx (by decide)
    have hp:10 ^ (0+(ZaZ l).length)≤10 ^ 6:=RP (by omega) (by omega)
    have:x≤999999:=by have h10:(10:Nat) ^ 6=1000000:=(by decide);omega
    have hz:∀ z:Int,(if (ZaZ l).length<l.length then -(x:Int) else (x:Int))=z → -999999≤z∧z≤999999:=by
     intro z hz
     rw [←hz]
     split <;> omega
    generalize (if (ZaZ l).length<l.length then -(x:Int) else (x:Int))=z at h hz
    have hz:=hz z rfl
    split at h
    ·rename_i hi
     rw [←WI h,Zxe]
     exact ⟨hi,hz⟩
    ·cases h
   ·cases h
  ·cases h
 have h2:∀ v,Zh8 l=some v→ZrF l=some v:=by
  intro v h
  obtain ⟨rfl,g1,g2⟩:=(Zxe l v).mp h
  by_cases hv:v<0
  ·obtain ⟨u,hu⟩:∃ u:Nat,v = -(u:Int):=⟨v.natAbs,by omega⟩
   subst hu
   obtain ⟨c,r,hd,_⟩:=ZlM u
   have hlen:=ZF0 u 5 (by have h10:(10:Nat) ^ 6=1000000:=(by decide);omega)
   have e:=Lib.itoa_neg u (by omega)
   have ht:ZaZ (45::Lib.decDigits u)=Lib.decDigits u:=by
    unfold ZaZ
    rw [if_pos ⟨by rw [hd];simp,rfl⟩]
    rfl
   have hlt:(Lib.decDigits u).length<((45:UInt8)::Lib.decDigits u).length:=by simp
   have hpos:1≤(Lib.decDigits u).length:=by rw [hd];simp
   unfold ZrF
   rw [e,ht,if_pos ⟨hpos,hlen⟩,ZlL]
   simp only [if_pos hlt]
   rw [if_pos e]
  ·obtain ⟨u,hu⟩:∃ u:Nat,v=(u:Int):=⟨v.toNat,by omega⟩
   subst hu
   obtain ⟨c,r,hd,hc⟩:=ZlM u
   have hlen:=ZF0 u 5 (by have h10:(10:Nat) ^ 6=1000000:=(by decide);omega)
   have e:=Lib.itoa_nonneg u
   have ht:ZaZ (Lib.decDigits u)=Lib.decDigits u:=by
    unfold ZaZ
    rw [if_neg]
    rintro ⟨_,h⟩
    rw [hd] at h
    simp only [List.head?_cons,RV] at h
    subst h
    exact absurd hc.1 (by decide)
   have hpos:1≤(Lib.decDigits u).length:=by rw [hd];simp
   unfold ZrF
   rw [e,ht,if_pos ⟨hpos,hlen⟩,ZlL]
   simp only [Rh,if_false]
   rw [if_pos e]
 cases h:Zh8 l with
 | some v=>exact h2 v h
 | none=>
  cases g:ZrF l with
  | none=>rfl
  | some v=>rw [h1 v g] at h;cases h
theorem ZIA {L:List Blk} (hL:Z4 H L) (e0 e1:Option Nat) (v:AV) (hv:v.under H.length=true) (hc:clean H.length e1=true):finish 1 H.length e0 v ⟨L,e1⟩=some (v,⟨H,e0⟩):=by
 obtain ⟨G,rfl⟩:=hL
 rw [ZgL,if_pos ⟨hv,hc⟩]
def Zfo (z:Int):Prop := -9223372036854775807≤z∧z≤9223372036854775807
def Xd (c:UInt8) (zs:List Int):By:=Lib.join (zs.map Lib.itoa) [c]
theorem Xe (z:Int) (h:Zfo z):(Lib.itoa z).length≤21:=by
 unfold Lib.itoa
 split
 ·have:=Zak z.natAbs (by have:=h.1;omega)
  simp only [Rl]
  omega
 ·have:=Zak z.toNat (by have:=h.2;omega)
  omega
theorem Zol (sep:By) (k:Nat):∀ (xs:List By),(∀ x∈xs,x.length≤k)→(Lib.join xs sep).length≤xs.length*(k+sep.length)
 | [],_=>by simp [Lib.join_nil]
 | [x],h=>by
  rw [Lib.join_one]
  have:=h x (by simp)
  simp only [List.length_singleton,Rq]
  omega
 | x::y::xs,h=>by
  have ih:=Zol sep k (y::xs) fun z hz=>h z (Wu _ hz)
  have h1:=h x Wf
  have e:Lib.join (x::y::xs) sep=x++sep++Lib.join (y::xs) sep:=by
   rw [Lib.join_cons,Lib.join_cons]
   simp [Lib.joinTail]
  rw [e]
  simp only [R3,Rl] at ih ⊢
  rw [Nat.add_mul (xs.length+1) 1,Rq]
  omega
theorem Zfp (c:UInt8) (zs:List Int) (hz:∀ z∈zs,Zfo z):(Xd c zs).length≤zs.length*22:=by
 have:=Zol [c] 21 (zs.map Lib.itoa) fun x hx=>by
  obtain ⟨z,h1,rfl⟩:=Wg.mp hx
  exact Xe z (hz z h1)
 simpa [Xd] using this
theorem Za0 (hi:KJ pr) (hj:ZmL pr) {q:Nat} {cap:Option Nat} {zs:List Int} (h:Zb H q=some (ZR zs)) (hn:zs.length≤1000000) (hz:∀ z∈zs,Zfo z) (c:UInt8):call T pr Ym [slI q zs.length cap,sV [c]] ⟨H,e⟩=some (sV (Xd c zs),⟨H,e⟩):=by
 apply Wc.eq
 rw [Zs Zpp]
 simp +contextual only [Ky,Zhv,Zc,pp,go_sem,reduceIte,Ra,Rb,Rc,Rd]
 refine ZM (fun k st=>∃ (i b:Nat) (cc:Option Nat) (L:List Blk) (w4 w8:AV),i+k=zs.length∧(cc=some 0→i=0)∧Z4 H L∧H.length≤b∧L[b]?=some (.cells (Zcf ((zs.take i).map Lib.itoa)) true) ∧
  st=⟨[slI q zs.length cap,sV [c],.str ⟨#[]⟩,slX b i cc,w4,slI q zs.length cap,.int .i64 zs.length,.int .i64 i,w8],⟨L,none⟩⟩) ?_ zs.length _ ?_
 ·rintro k _ ⟨i,b,cc,L,w4,w8,hik,hcc,hL,hb,hLb,rfl⟩
  have hq:Zb L q=some (ZR zs):=by
   obtain ⟨G,rfl⟩:=hL
   exact Za h G
  by_cases hk:k=0
  ·have he:i=zs.length:=by omega
   subst he
   rw [Wl] at hLb
   have hjn:=hj (zs.map Lib.itoa) c b cc L none (Zg hLb) (by simp;omega) (by have:=Zfp c zs hz;unfold Xd at this;omega)
   rw [WB] at hjn
   unfold Xd
   simp (maxSteps:=2000000) +contextual only [Zbn,Ky,Rh,decide_false,hjn,ZIA hL,Zwu,Zo,pp,go_sem,reduceIte,Ra,Rb,Rc,Rd]
  ·have hi':i<zs.length:=by omega
   have hl:zs[i]?=some zs[i]:=Rj hi'
   have hf:=hz zs[i] (WC hi')
   have hit:=fun m=>hi zs[i] m (by have:=hf.1;omega) hf.2
   have htk:(zs.take i).map Lib.itoa++[Lib.itoa zs[i]]=(zs.take (i+1)).map Lib.itoa:=by
    rw [RL hi',WP]
    rfl
   simp (maxSteps:=2000000) +contextual only [Zbn,Zc,hi',hq,Zu _ hl,hit,Nat.mul_one,Zh (show i<9223372036854775807 by omega),decide_true,pp,go_sem,reduceIte,Ra,Rb,Rc,Rd]
   refine Zja (k:=1) (new:=[sV (Lib.itoa zs[i])]) (Yv hLb _) (Qk _ 1 1 _ _ L.length (by simp +contextual only [go_sem,reduceIte,Ra,Rb,Rc,Rd]) rfl) (by rw [ZgP];simp;omega) rfl (by unfold maxBytes;omega) hcc ?_
   intro L2 e1 e2 e3 e4
   have e3':Zcf ((zs.take i).map Lib.itoa)++[sV (Lib.itoa zs[i])]=Zcf ((zs.take (i+1)).map Lib.itoa):=by rw [←htk,ZgQ];rfl
   rw [e3'] at e3
   simp (maxSteps:=2000000) +contextual only [Zh (show i<9223372036854775807 by omega),pp,go_sem,reduceIte,Ra,Rb,Rc,Rd]
   exact ⟨k - 1,by omega,i+1,_,none,L2,_,_,by omega,by simp,e4 _ (hL.more _) hb,by have:=hL.le;simp;omega,by simpa using e3,rfl⟩
 ·exact ⟨0,H.length,some 0,_,_,_,by omega,fun _=>rfl,⟨_,rfl⟩,Rz _,by rw [ZY];rfl,rfl⟩
theorem ZQ (hi:KJ pr) (n:Int) (hn:Zfo n) (ok:Bool):call T pr ZW [.int .i64 n,.bool ok] ⟨H,e⟩=some (.tup [sV (Lib.itoa n),.bool ok],⟨H,e⟩):=by
 have hit:=fun m=>hi n m (by have:=hn.1;omega) hn.2
 rw [Zi ZqR]
 simp +contextual only [ZbJ,Zjl,hit,go_sem,reduceIte,Ra,Rb,Rc,Rd]
def saV (L:List Blk) (n sz:Nat) (v:AV):Option AV:=match v with
 | .ptr (some (b,o))=>(match L[b]? with
  | some (.cells cs true)=>if 0<cs.length∧o+n*sz≤cs.length then QK sz (some (b,o)) sz n (some n) 0 n none else none
  | _=>none)
 | _=>none
theorem Zxf {C:FuncId→List AV→Mem→Option (AV×Mem)} {g:X→AV} (L:List Blk) (e:Option Nat) (n sz:Nat) (x:X):aop C g ⟨L,e⟩ (.sliceArr n sz x none none none)=K2 ⟨L,e⟩ (saV L n sz (g x)):=by
 rw [Zep rfl]
 simp only [Zcg,saV,ZeS,Zor]
 generalize g x=v
 congr 1
 cases v with
 | ptr p=>
  cases p with
  | none=>rfl
  | some p=>
   obtain ⟨b,o⟩:=p
   simp only
   generalize L[b]?=k
   match k with
   | none=>rfl
   | some .dead=>rfl
   | some (.mp _)=>rfl
   | some (.cells cs true)=>simp
   | some (.cells cs false)=>rfl
 | _=>rfl
theorem ZIB (L:List Blk) (a b:Int):saV (L++[.cells [.int .i64 a,.int .i64 b] true]) 2 1 (.ptr (some (L.length,0)))=some (.slice (some (L.length,0)) 1 2 (some 2)):=by
 simp [saV,QK]
theorem QS (hi:KJ pr) (hj:ZmL pr) (a b:Int) (ha:Zfo a) (hb:Zfo b) (ok:Bool):call T pr XI [.agg [.int .i64 a,.int .i64 b],.bool ok] ⟨H,e⟩=some (.tup [sV (Xd 47 [a,b]),.bool ok],⟨H,e⟩):=by
 have hnt:∀ (L:List Blk) (q:Nat) (cap:Option Nat),Zb L q=some [.int .i64 a,.int .i64 b]→call T pr Ym [.slice (some (q,0)) 1 2 cap,.str ⟨#[47]⟩] ⟨L,none⟩=some (sV (Xd 47 [a,b]),⟨L,none⟩) :=
  fun L q cap h=>Za0 (zs:=[a,b]) hi hj h (by simp) (by intro z hz;simp at hz;rcases hz with rfl | rfl <;> assumption) 47
 rw [Zi ZnH]
 simp +contextual only [QR,ZgZ,hnt,Zc,Zxf,ZIB,go_sem,reduceIte,Ra,Rb,Rc,Rd]
def ZeR (zs:List Int):By:=if zs.length=0 then [110,111,110,101] else Xd 32 zs
theorem ZeA (hi:KJ pr) (hj:ZmL pr) {q:Nat} {cap:Option Nat} {zs:List Int} (h:Zb H q=some (ZR zs)) (hn:zs.length≤1000000) (hz:∀ z∈zs,Zfo z) (ok:Bool):call T pr XT [slI q zs.length cap,.bool ok] ⟨H,e⟩=some (.tup [sV (ZeR zs),.bool ok],⟨H,e⟩):=by
 have hnt:∀ G,call T pr Ym [slI q zs.length cap,.str ⟨#[32]⟩] ⟨H++G,none⟩=some (sV (Xd 32 zs),⟨H++G,none⟩):=fun G=>Za0 hi hj (Za h G) hn hz 32
 have hnt0:call T pr Ym [slI q zs.length cap,.str ⟨#[32]⟩] ⟨H,none⟩=some (sV (Xd 32 zs),⟨H,none⟩):=Za0 hi hj h hn hz 32
 rw [Zi Znh]
 unfold ZeR
 by_cases h0:zs.length=0
 ·have h0':((zs.length:Nat):Int)=0:=by omega
  simp +contextual only [Zah,Zeb,h0,h0',decide_true,hnt,hnt0,go_sem,reduceIte,Ra,Rb,Rc,Rd]
  rfl
 ·have h0':¬ ((zs.length:Nat):Int)=0:=by omega
  simp +contextual only [Zah,Zeb,h0,h0',decide_false,hnt,hnt0,go_sem,reduceIte,Ra,Rb,Rc,Rd]
theorem Zh9 (ok:Bool) {p:Option (Nat×Nat)} {s:Nat} {cap:Option Nat}:call T pr XT [.slice p s 0 cap,.bool ok] ⟨H,e⟩=some (.tup [sV (ZeR []),.bool ok],⟨H,e⟩):=by
 rw [Zi Znh]
 have h0':((0:Nat):Int)=0:=rfl
 simp +contextual only [Zah,Zeb,h0',decide_true,go_sem,reduceIte,Ra,Rb,Rc,Rd]
 rfl
theorem JF (n:Int) (hn:Zfo n) (ok:Bool):call T pr KP [.int .i64 n,.bool ok] ⟨H,e⟩=some (sV (if ok=true then Lib.itoa n else [63]),⟨H,e⟩):=by
 have hnum:=fun (L:List Blk)=>XA (pr:=pr) (H:=L) (e:=none) n hn.1 hn.2
 rw [Zi ZBN]
 cases ok <;> simp +contextual only [ZiL,Zr5,hnum,R7,if_true,if_false,go_sem,reduceIte,Ra,Rb,Rc,Rd]
theorem Zqp (c:UInt8) (a b:Int):Xd c [a,b]=Lib.itoa a++c::Lib.itoa b:=by
 simp [Xd,Lib.join_cons,Lib.joinTail]
theorem ZgS (a b:Int) (ha:Zfo a) (hb:Zfo b) (ok:Bool):call T pr Zbg [.agg [.int .i64 a,.int .i64 b],.bool ok] ⟨H,e⟩=some (sV (if ok=true then Xd 47 [a,b] else [63]),⟨H,e⟩):=by
 have hna:=fun (L:List Blk)=>XA (pr:=pr) (H:=L) (e:=none) a ha.1 ha.2
 have hnb:=fun (L:List Blk)=>XA (pr:=pr) (H:=L) (e:=none) b hb.1 hb.2
 have la:=Xe a ha
 have lb:=Xe b hb
 rw [Zi ZyE]
 have e47:(AV.str ⟨#[47]⟩)=sV [47]:=rfl
 cases ok
 ·simp +contextual only [Zdm,ZjS,R7,if_true,if_false,go_sem,reduceIte,Ra,Rb,Rc,Rd]
 ·have h1:(Lib.itoa a).length+([47]:By).length≤140737488355328:=by simp;omega
  have h2:(Lib.itoa a++[47]).length+(Lib.itoa b).length≤140737488355328:=by simp;omega
  rw [Zqp]
  simp +contextual only [Zdm,ZjS,hna,hnb,e47,ZL,h1,h2,Zbv,Zbw,Za7,Wd,RH,RI,Rr,Rq,R7,if_true,if_false,go_sem,reduceIte,Ra,Rb,Rc,Rd]
  simp
  omega
theorem ZDr (c:UInt8):∀ (zs:List Int) (z:Int),Xd c (zs++[z])=if zs=[] then Lib.itoa z else Xd c zs++[c]++Lib.itoa z
 | [],z=>by simp [Xd,Lib.join_one]
 | x::zs,z=>by
  rw [if_neg (by simp)]
  simp [Xd,Lib.join_cons,Lib.joinTail]
theorem ZIC (z:Int):Lib.itoa z≠[]:=by
 unfold Lib.itoa
 split
 ·simp
 ·obtain ⟨c,r,h,_⟩:=ZlM z.toNat
  rw [h];simp
theorem ZgT {q:Nat} {cap:Option Nat} {zs:List Int} (h:Zb H q=some (ZR zs)) (hn:zs.length≤1000000) (hz:∀ z∈zs,Zfo z) (ok:Bool):call T pr Xy [slI q zs.length cap,.bool ok] ⟨H,e⟩=some (sV (if ok=true then ZeR zs else [63]),⟨H,e⟩):=by
 apply Wc.eq
 rw [Zs Zpt]
 simp +contextual only [KC,ZjU,pp,go_sem,reduceIte,Ra,Rb,Rc,Rd]
 refine ZM (fun k st=>∃ (i:Nat) (w5 w6 w7 w8:AV),i+k=zs.length∧st=⟨[slI q zs.length cap,.bool ok,.str ⟨#[]⟩,sV (Xd 32 (zs.take i)),.int .i64 i,w5,w6,w7,w8],⟨H,none⟩⟩) ?_ zs.length _ ?_
 ·rintro k _ ⟨i,w5,w6,w7,w8,hik,rfl⟩
  by_cases hk:k=0
  ·have he:i=zs.length:=by omega
   subst he
   have e0:(AV.str ⟨#[]⟩)=sV []:=rfl
   have e63:(AV.str ⟨#[63]⟩)=sV [63]:=rfl
   have en:(AV.str ⟨#[110,111,110,101]⟩)=sV [110,111,110,101]:=rfl
   rw [Wl]
   unfold ZeR
   cases ok
   ·simp +contextual only [JY,KC,Rh,decide_false,e63,R7,if_false,pp,go_sem,reduceIte,Ra,Rb,Rc,Rd]
   ·by_cases h0:zs.length=0
    ·have h1:Xd 32 zs=[]:=by rw [List.length_eq_zero_iff.mp h0];rfl
     rw [h1,if_pos h0]
     simp +contextual only [JY,KC,Rh,decide_false,decide_true,e0,en,if_true,pp,go_sem,reduceIte,Ra,Rb,Rc,Rd]
    ·have h1:¬ bs (Xd 32 zs)=bs []:=by
      rw [Zp5]
      obtain ⟨z,zs',rfl⟩:∃ z zs',zs=z::zs':=by cases zs with | nil=>simp at h0 | cons z zs'=>exact ⟨z,zs',rfl⟩
      intro hh
      unfold Xd at hh
      rw [List.map_cons,Lib.join_cons] at hh
      exact ZIC z (List.append_eq_nil_iff.mp hh).1
     rw [if_neg h0]
     simp +contextual only [JY,KC,Rh,decide_false,e0,h1,if_true,pp,go_sem,reduceIte,Ra,Rb,Rc,Rd]
  ·have hi':i<zs.length:=by omega
   have hl:zs[i]?=some zs[i]:=Rj hi'
   have hf:=hz zs[i] (WC hi')
   have hnum:=fun (L:List Blk)=>XA (pr:=pr) (H:=L) (e:=none) zs[i] hf.1 hf.2
   have hlen:=Zfp 32 (zs.take i) fun z hm=>hz z (List.mem_of_mem_take hm)
   have hli:=Xe zs[i] hf
   have e32:(AV.str ⟨#[32]⟩)=sV [32]:=rfl
   have hle:(Xd 32 (zs.take i)).length≤22000000:=by
    have:(zs.take i).length≤1000000:=by rw [Wn];omega
    omega
   have hs:=ZDr 32 (zs.take i) zs[i]
   rw [←RL hi'] at hs
   by_cases h0:i=0
   ·subst h0
    have hz0:((0:Nat):Int)=0:=rfl
    rw [List.take_zero,if_pos rfl] at hs
    have h2:(Xd 32 (zs.take 0)).length+(Lib.itoa zs[0]).length≤140737488355328:=by rw [List.take_zero];simp [Xd,Lib.join_nil];omega
    have hj0:Xd 32 (zs.take 0)++Lib.itoa zs[0]=Xd 32 (zs.take 1):=by rw [hs];rfl
    have hpos:(0:Int)<(zs.length:Int):=by omega
    have hp0:Zco false (ZR zs) 0 1=some (.int .i64 zs[0]):=Zu _ hl
    rw [List.take_zero] at h2 hj0
    simp +contextual only [JY,List.take_zero,hi',h,hp0,hpos,hnum,gt_iff_lt,Rh,hz0,Int.lt_irrefl,Wd,RH,Rr,Nat.zero_add,Nat.mul_one,decide_true,decide_false,ZL,h2,hj0,Zh (show 0<9223372036854775807 by omega),pp,go_sem,reduceIte,Ra,Rb,Rc,Rd]
    exact ⟨k - 1,by omega,1,_,_,_,_,by omega,rfl⟩
   ·have hp:(0:Int)<(i:Int):=by omega
    rw [if_neg (by intro hh;have:=congrArg List.length hh;rw [Wn,RM] at this;omega)] at hs
    have h1:(Xd 32 (zs.take i)).length≤140737488355327:=by omega
    have h2:(Xd 32 (zs.take i)).length+1+(Lib.itoa zs[i]).length≤140737488355328:=by omega
    simp +contextual only [JY,hi',h,Zu _ hl,hnum,gt_iff_lt,hp,e32,decide_true,decide_false,ZL,h1,h2,←hs,Zh (show i<9223372036854775807 by omega),pp,go_sem,reduceIte,Ra,Rb,Rc,Rd]
    exact ⟨k - 1,by omega,i+1,_,_,_,_,by omega,rfl⟩
 ·exact ⟨0,_,_,_,_,by omega,rfl⟩
theorem ZID {l:By} {v:Int} (h:Lib.atoiAll l=.ok v) : -9223372036854775808≤v∧v≤9223372036854775807:=by
 unfold Lib.atoiAll at h
 split at h
 ·cases h
 ·simp only at h
  split at h
  ·cases h
  ·cases h
  ·split at h
   ·cases h
   ·split at h
    ·cases h
    ·rename_i u _ n1 n2
     have:=Lib.NumEnd.ok.inj h
     split at this <;> omega
theorem Zia:Xv 4 .neq .nilif .nilif=some (.bool false):=rfl
theorem Zfq:Xv 4 .neq .someif .nilif=some (.bool true):=rfl
theorem Zxg (hi:KJ pr) (ha:Zz1 pr) (l:By) (hl:l.length≤1000000):call T pr ZdT [sV l] ⟨H,e⟩=some (.tup [.int .i64 ((Zh8 l).getD 0),.bool (Zh8 l).isSome],⟨H,e⟩):=by
 have hat:=fun (L:List Blk)=>ha l ⟨L,none⟩ (by omega)
 have hw:=fun (L:List Blk) (x:Int)=>Yd (pr:=pr) (H:=L) (e:=none) x (-999999) 999999
 rw [Zi Zvk]
 unfold Zh8
 cases hh:Lib.atoiAll l
 ·rename_i v
  rw [hh] at hat
  have hin : -9223372036854775808≤v∧v≤9223372036854775807:=ZID hh
  have hit:=fun m=>hi v m hin.1 hin.2
  have hd:decide (bs (Lib.itoa v)=bs l)=decide (Lib.itoa v=l):=Zfm _ _
  by_cases h1:Lib.itoa v=l
  ·have h1':bs (Lib.itoa v)=bs l:=by rw [h1]
   cases h2:(decide (-999999≤v)&&decide (v≤999999))
   ·have h3:¬ (Lib.itoa v=l ∧ -999999≤v∧v≤999999):=by
     rintro ⟨_,g1,g2⟩
     rw [decide_eq_true g1,decide_eq_true g2] at h2
     cases h2
    have hw':=fun (L:List Blk)=>hw L v
    rw [h2] at hw'
    simp +contextual only [JK,Zag,hat,Zia,Zfq,hit,h1',hw',if_neg h3,decide_true,WE,Wj,go_sem,reduceIte,Ra,Rb,Rc,Rd]
   ·have h3:Lib.itoa v=l ∧ -999999≤v∧v≤999999:=by
     simp only [Ru,decide_eq_true_eq] at h2
     exact ⟨h1,h2⟩
    have hw':=fun (L:List Blk)=>hw L v
    rw [h2] at hw'
    simp +contextual only [JK,Zag,hat,Zia,Zfq,hit,h1',hw',if_pos h3,decide_true,Option.getD_some,Option.isSome_some,go_sem,reduceIte,Ra,Rb,Rc,Rd]
  ·have h1':¬ bs (Lib.itoa v)=bs l:=fun g=>h1 (Zp5.mp g)
   have h3:¬ (Lib.itoa v=l ∧ -999999≤v∧v≤999999):=fun g=>h1 g.1
   simp +contextual only [JK,Zag,hat,Zia,Zfq,hit,h1',if_neg h3,decide_false,WE,Wj,go_sem,reduceIte,Ra,Rb,Rc,Rd]
 ·rw [hh] at hat
  simp +contextual only [JK,Zag,hat,Zia,Zfq,WE,Wj,go_sem,reduceIte,Ra,Rb,Rc,Rd]
 ·rw [hh] at hat
  simp +contextual only [JK,Zag,hat,Zia,Zfq,WE,Wj,go_sem,reduceIte,Ra,Rb,Rc,Rd]
theorem ZF2 (t:By) (i:Nat) (hi:i<t.length) (acc:Nat) (h:ZnZ 0 (t.take i)=some acc):ZnZ 0 (t.take (i+1))=if 48≤t[i].toNat∧t[i].toNat≤57 then some (acc*10+(t[i].toNat - 48)) else none:=by
 rw [RL hi,Zok,h]
 simp only [Option.bind_some,ZnZ]
theorem ZF3 (t:By) (i:Nat) (hi:i<t.length) (h:ZnZ 0 (t.take (i+1))=none):ZnZ 0 t=none:=by
 conv=>lhs;rw [←List.take_append_drop (i+1) t]
 rw [Zok,h]
 rfl
theorem Zz5 (l:By) (w6 w7 w8 w9 w10 w11:AV) (hl:l.length≤1000000):Wp (run T pr (ZlK (ZlK (ZlK Xu))) ⟨[sV l,.int .i64 0,.bool false,sV (ZaZ l),.undef,.undef,w6,w7,w8,w9,w10,w11],⟨H,none⟩⟩)
  (retQ YQ ⟨H,e⟩ fun v m=>v=.tup [.int .i64 ((ZrF l).getD 0),.bool (ZrF l).isSome]∧m=⟨H,e⟩):=by
 have hin:=fun (L:List Blk)=>Ye (pr:=pr) (H:=L) (e:=none) ((ZaZ l).length:Nat) 1 6
 have htl:(ZaZ l).length≤l.length:=by unfold ZaZ;split <;> simp
 unfold ZrF
 cases hb:(decide ((1:Int)≤((ZaZ l).length:Nat))&&decide (((ZaZ l).length:Int)≤6)) with
 | false=>
  have h1:¬ (1≤(ZaZ l).length∧(ZaZ l).length≤6):=by
   rintro ⟨g1,g2⟩
   rw [decide_eq_true (by omega),decide_eq_true (by omega)] at hb
   cases hb
  rw [hb] at hin
  rw [if_neg h1]
  simp +contextual only [ZlK,Xu,YQ,XP,hin,WE,Wj,pp,go_sem,reduceIte,Ra,Rb,Rc,Rd]
 | true=>
  have h1:1≤(ZaZ l).length∧(ZaZ l).length≤6:=by
   simp only [Ru,decide_eq_true_eq] at hb
   omega
  rw [hb] at hin
  rw [if_pos h1]
  generalize ZaZ l=t at *
  simp +contextual only [ZlK,Xu,YQ,XP,hin,pp,go_sem,reduceIte,Ra,Rb,Rc,Rd]
  refine ZM (fun k st=>∃ (i acc:Nat) (v6 v7 v8 v9 v10 v11:AV),i+k=t.length∧ZnZ 0 (t.take i)=some acc∧st=⟨[sV l,.int .i64 0,.bool false,sV t,.int .i64 acc,.int .i64 i,v6,v7,v8,v9,v10,v11],⟨H,none⟩⟩) ?_ t.length _ ?_
  ·rintro k _ ⟨i,acc,v6,v7,v8,v9,v10,v11,hik,hacc,rfl⟩
   have hlt:=Zz3 _ 0 acc 0 hacc (by decide)
   have hp6:10 ^ (0+(t.take i).length)≤10 ^ 6:=RP (by omega) (by rw [Wn];omega)
   have hp:(10:Nat) ^ 6=1000000:=by decide
   have hacc6:acc≤999999:=by omega
   by_cases hk:k=0
   ·have he:i=t.length:=by omega
    subst he
    rw [Wl] at hacc
    rw [hacc]
    have hneg:IntKind.i64.wrap (0 - (acc:Int)) = -(acc:Int):=by rw [ZP (by omega) (by omega)];omega
    by_cases hs:t.length<l.length
    ·have hs':((t.length:Nat):Int)<((l.length:Nat):Int):=by omega
     have hnum:=fun (L:List Blk)=>XA (pr:=pr) (H:=L) (e:=none) (-(acc:Int)) (by omega) (by omega)
     simp only [if_pos hs]
     by_cases hi:Lib.itoa (-(acc:Int))=l
     ·have hi':bs (Lib.itoa (-(acc:Int)))=bs l:=by rw [hi]
      simp +contextual only [JL,YQ,XP,Rh,hs,hs',hneg,hnum,hi',if_pos hi,decide_true,decide_false,Option.getD_some,Option.isSome_some,pp,go_sem,reduceIte,Ra,Rb,Rc,Rd]
     ·have hi':¬ bs (Lib.itoa (-(acc:Int)))=bs l:=fun g=>hi (Zp5.mp g)
      simp +contextual only [JL,YQ,XP,Rh,hs,hs',hneg,hnum,hi',if_neg hi,decide_true,decide_false,WE,Wj,pp,go_sem,reduceIte,Ra,Rb,Rc,Rd]
    ·have hs':¬ ((t.length:Nat):Int)<((l.length:Nat):Int):=by omega
     have hnum:=fun (L:List Blk)=>XA (pr:=pr) (H:=L) (e:=none) (acc:Int) (by omega) (by omega)
     simp only [if_neg hs]
     by_cases hi:Lib.itoa (acc:Int)=l
     ·have hi':bs (Lib.itoa (acc:Int))=bs l:=by rw [hi]
      simp +contextual only [JL,YQ,XP,Rh,hs,hs',hnum,hi',if_pos hi,decide_true,decide_false,Option.getD_some,Option.isSome_some,pp,go_sem,reduceIte,Ra,Rb,Rc,Rd]
     ·have hi':¬ bs (Lib.itoa (acc:Int))=bs l:=fun g=>hi (Zp5.mp g)
      simp +contextual only [JL,YQ,XP,Rh,hs,hs',hnum,hi',if_neg hi,decide_true,decide_false,WE,Wj,pp,go_sem,reduceIte,Ra,Rb,Rc,Rd]
   ·have hi:i<t.length:=by omega
    have hg:=ZsG (l:=t) (i:=i) (b:=t[i]) (Rj hi)
    have hsn:=ZF2 t i hi acc hacc
    have hu:=ZJy t[i]
    by_cases hd:48≤t[i].toNat∧t[i].toNat≤57
    ·rw [if_pos hd] at hsn
     have d1:¬ ((t[i].toNat:Nat):Int)<48:=by omega
     have d2:¬ ((57:Int)<((t[i].toNat:Nat):Int)):=by omega
     have hw1:IntKind.i64.wrap (10*(acc:Int))=((acc*10:Nat):Int):=by rw [ZP (by omega) (by omega)];omega
     have hw2:IntKind.u8.wrap (((t[i].toNat:Nat):Int) - 48)=((t[i].toNat - 48:Nat):Int):=by
      have:((t[i].toNat:Nat):Int) - 48=((t[i].toNat - 48:Nat):Int):=by omega
      rw [this]
      simp [IntKind.wrap,IntKind.bits,IntKind.signed]
      omega
     have hw3:IntKind.i64.wrap ((t[i].toNat - 48:Nat):Int)=((t[i].toNat - 48:Nat):Int):=Ki (by omega)
     have hw4:IntKind.i64.wrap (((acc*10:Nat):Int)+((t[i].toNat - 48:Nat):Int))=((acc*10+(t[i].toNat - 48):Nat):Int):=by rw [←Int.natCast_add];exact Ki (by omega)
     simp +contextual only [JL,XP,hi,hg,d1,d2,gt_iff_lt,hw1,hw2,hw3,hw4,Zh (show i<9223372036854775807 by omega),decide_true,decide_false,pp,go_sem,reduceIte,Ra,Rb,Rc,Rd]
     exact ⟨k - 1,by omega,i+1,_,_,_,_,_,_,_,by omega,hsn,rfl⟩
    ·rw [if_neg hd] at hsn
     rw [ZF3 t i hi hsn]
     by_cases d1:t[i].toNat<48
     ·have d1':((t[i].toNat:Nat):Int)<48:=by omega
      simp +contextual only [JL,YQ,XP,hi,hg,d1',decide_true,WE,Wj,pp,go_sem,reduceIte,Ra,Rb,Rc,Rd]
     ·have d1':¬ ((t[i].toNat:Nat):Int)<48:=by omega
      have d2':((57:Int)<((t[i].toNat:Nat):Int)):=by omega
      simp +contextual only [JL,YQ,XP,hi,hg,d1',d2',gt_iff_lt,decide_true,decide_false,WE,Wj,pp,go_sem,reduceIte,Ra,Rb,Rc,Rd]
  ·exact ⟨0,0,_,_,_,_,_,_,by omega,rfl,rfl⟩
theorem ZDs (l:By) (hl:l.length≤1000000):call T pr Zit [sV l] ⟨H,e⟩=some (.tup [.int .i64 ((Zh8 l).getD 0),.bool (Zh8 l).isSome],⟨H,e⟩):=by
 rw [←Zz4]
 apply Wc.eq
 rw [Zs ZBO]
 have r:=fun (w6 w7 w8 w9 w10 w11:AV)=>Zz5 (pr:=pr) (H:=H) (e:=e) l w6 w7 w8 w9 w10 w11 hl
 obtain ⟨R,hR⟩:∃ R,R=ZlK (ZlK (ZlK Xu)):=⟨_,rfl⟩
 have hc:Xu=.seq (ZDp Xu) (.seq (ZDp (ZlK Xu)) (.seq (ZDp (ZlK (ZlK Xu))) R)):=by rw [hR];rfl
 rw [←hR] at r
 clear hR
 show Wp (run T pr Xu _) _
 rw [hc]
 by_cases h1:1<l.length
 ·have h1':(1:Int)<((l.length:Nat):Int):=by omega
  have hg:=ZsG (l:=l) (i:=0) (b:=l[0]) (Rj (by omega))
  have h0i:(0:Int)<((l.length:Nat):Int):=by omega
  by_cases h2:l[0]=45
  ·have ht:ZaZ l=l.drop 1:=by
    unfold ZaZ
    rw [if_pos ⟨h1,by rw [List.head?_eq_getElem?,Rj (by omega),h2]⟩]
   have h2':((l[0].toNat:Nat):Int)=45:=by rw [h2];rfl
   have hle:1≤l.length:=by omega
   rw [ht] at r
   have hsub:ZDb (sV l) (some (.int .i64 1)) none=some (sV (l.drop 1)):=by
    have:=ZhY l 1
    rw [if_pos hle] at this
    exact this
   simp +contextual only [YQ,Xu,ZlK,ZDp,XP,gt_iff_lt,h1',hg,h0i,h2',hle,Wd,RH,ZaW,hsub,decide_true,pp,go_sem,reduceIte,Ra,Rb,Rc,Rd]
   exact r _ _ _ _ _ _
  ·have ht:ZaZ l=l:=by
    unfold ZaZ
    rw [if_neg]
    rintro ⟨_,g⟩
    rw [List.head?_eq_getElem?,Rj (by omega),RV] at g
    exact h2 g
   have h2':¬ ((l[0].toNat:Nat):Int)=45:=fun g=>h2 (UInt8.toNat_inj.mp (by
    have:(45:UInt8).toNat=45:=rfl
    omega))
   rw [ht] at r
   simp +contextual only [YQ,Xu,ZlK,ZDp,XP,gt_iff_lt,h1',hg,h0i,h2',Wd,RH,decide_true,decide_false,pp,go_sem,reduceIte,Ra,Rb,Rc,Rd]
   exact r _ _ _ _ _ _
 ·have h1':¬ (1:Int)<((l.length:Nat):Int):=by omega
  have ht:ZaZ l=l:=by
   unfold ZaZ
   rw [if_neg]
   rintro ⟨g,_⟩
   exact h1 g
  rw [ht] at r
  simp +contextual only [YQ,Xu,ZlK,ZDp,XP,gt_iff_lt,h1',decide_false,pp,go_sem,reduceIte,Ra,Rb,Rc,Rd]
  exact r _ _ _ _ _ _
def Zhh (p:Int):Bool:=decide (0≤p)&&decide (p≤60)
def Zom (p:Int):Bool:=decide (0≤p)&&decide (p≤1000000)
theorem Zib {q:Nat} {cap:Option Nat} {ls:List Ld} (h:Zb H q=some (Zm ls)) (hr:YZ ls=true) (hn:ls.length≤1048576) (p:Int):call T pr Jp [slL q ls.length cap,.int .i64 p] ⟨H,e⟩=some (.tup [.int .i64 (if Zhh p=true then Zln ls p else 0),.bool (Zhh p)],⟨H,e⟩):=by
 have h1:=fun (L:List Blk) (hL:Zb L q=some (Zm ls))=>QG (pr:=pr) (H:=L) (e:=none) (c:=cap) hL
 have h2:=fun (L:List Blk) (hL:Zb L q=some (Zm ls))=>ZaT (pr:=pr) (H:=L) (e:=none) (c:=cap) hL (by omega) p
 have h3:=fun G=>Zdw (pr:=pr) (H:=G) (e:=none) p
 rw [hr] at h1
 rw [Zi Zpn]
 unfold Zhh
 cases hp:(decide (0≤p)&&decide (p≤60)) <;> rw [hp] at h3 <;> simp +contextual only [ZaE,Zhr,h,Za h,h1,h2,h3,R7,if_false,if_true,go_sem,reduceIte,Ra,Rb,Rc,Rd]
theorem Zqq {q:Nat} {cap:Option Nat} {ls:List Ld} (h:Zb H q=some (Zm ls)) (hr:YZ ls=true) (hn:ls.length≤1048576) (p:Int):call T pr ZaB [slL q ls.length cap,.int .i64 p] ⟨H,e⟩=some (.tup [.int .i64 (if Zhh p=true then Zln ls p else 0),.bool (Zhh p)],⟨H,e⟩):=by
 have h1:=fun (L:List Blk) (hL:Zb L q=some (Zm ls))=>ZaR (pr:=pr) (H:=L) (e:=none) (c:=cap) hL
 have h2:=fun (L:List Blk) (hL:Zb L q=some (Zm ls))=>Zb9 (pr:=pr) (H:=L) (e:=none) (c:=cap) hL (by omega) p
 have h3:=fun G=>ZgA (pr:=pr) (H:=G) (e:=none) p
 rw [hr] at h1
 rw [Zi Zpw]
 unfold Zhh
 cases hp:(decide (0≤p)&&decide (p≤60)) <;> rw [hp] at h3 <;> simp +contextual only [ZaM,ZhI,h,Za h,h1,h2,h3,R7,if_false,if_true,go_sem,reduceIte,Ra,Rb,Rc,Rd]
theorem Zxh:∀ (ls:List Ld) (a:Nat),ls.all okL=true→a+ls.length*5940≤1000000→∃ n:Nat,ls.foldl (ZaS 0) (a:Int)=(n:Int)∧n≤a+ls.length*5940
 | [],a,_,_=>⟨a,rfl,by simp⟩
 | l::ls,a,h,hb=>by
  rw [Rv,Ru] at h
  simp only [Rl] at hb
  have h1:=h.1
  unfold okL at h1
  simp only [Ru,decide_eq_true_eq] at h1
  obtain ⟨x,hx⟩:∃ x:Nat,l.1=x:=⟨l.1.toNat,by omega⟩
  obtain ⟨y,hy⟩:∃ y:Nat,l.2=y:=⟨l.2.toNat,by omega⟩
  have hxy:y*x≤99*60:=WU (by omega) (by omega)
  have e1:ZaS 0 (a:Int) l=((a+y*x:Nat):Int):=by
   unfold ZaS
   rw [hx,hy,Int.sub_zero,Ki (by omega:x≤9223372036854775807),←RD,Ki (by omega),←Int.natCast_add,Ki (by omega)]
  obtain ⟨n,n1,n2⟩:=Zxh ls (a+y*x) h.2 (by omega)
  refine ⟨n,?_,by simp only [Rl];omega⟩
  rw [List.foldl_cons,e1,n1]
theorem Zxi {ls:List Ld} (h:YZ ls=true):∃ n:Nat,Zln ls 0=n∧n≤1000000:=by
 unfold YZ at h
 rw [Ru,decide_eq_true_eq] at h
 obtain ⟨n,n1,n2⟩:=Zxh ls 0 h.2 (by omega)
 exact ⟨n,n1,by omega⟩
theorem Zi0 {ls:List Ld} (h:YZ ls=true) (h0:ls.length≠0):0<(Q6 ls).toNat:=by
 unfold YZ at h
 rw [Ru,decide_eq_true_eq] at h
 have key:∀ (ls:List Ld) (a:Nat),ls.all okL=true→a+ls.length*99≤1000000→a+ls.length≤(ls.foldl (fun a l=>IntKind.i64.wrap (a+l.2)) (a:Int)).toNat:=by
  intro ls
  induction ls with
  | nil=>intro a _ _;simp
  | cons l ls ih=>
   intro a h hb
   rw [Rv,Ru] at h
   simp only [Rl] at hb
   have h1:=h.1
   unfold okL at h1
   simp only [Ru,decide_eq_true_eq] at h1
   obtain ⟨y,hy⟩:∃ y:Nat,l.2=y:=⟨l.2.toNat,by omega⟩
   have e1:IntKind.i64.wrap ((a:Int)+l.2)=((a+y:Nat):Int):=by
    rw [hy,←Int.natCast_add,Ki (by omega)]
   have:=ih (a+y) h.2 (by omega)
   rw [List.foldl_cons,e1]
   simp only [Rl]
   omega
 have:=key ls 0 h.2 (by omega)
 unfold Q6
 have e:((0:Nat):Int)=0:=rfl
 rw [e] at this
 omega
def cenA (ls:List Ld):Nat:=fracA (Zln ls 0).toNat (Q6 ls).toNat
def cenB (ls:List Ld):Nat:=fracB (Zln ls 0).toNat (Q6 ls).toNat
theorem Zxj {q:Nat} {cap:Option Nat} {ls:List Ld} (h:Zb H q=some (Zm ls)) (hr:YZ ls=true) (hn:ls.length≤1048576):call T pr ZdX [slL q ls.length cap] ⟨H,e⟩=some (if ls.length=0 then .tup [.agg [.int .i64 0,.int .i64 0],.bool false] else .tup [fvV (cenA ls) (cenB ls),.bool true],⟨H,e⟩):=by
 have h1:=fun (L:List Blk) (hL:Zb L q=some (Zm ls))=>QG (pr:=pr) (H:=L) (e:=none) (c:=cap) hL
 have h2:=fun (L:List Blk) (hL:Zb L q=some (Zm ls))=>ZaT (pr:=pr) (H:=L) (e:=none) (c:=cap) hL (by omega) 0
 have h3:=fun (L:List Blk) (hL:Zb L q=some (Zm ls))=>Zet (pr:=pr) (H:=L) (e:=none) (c:=cap) hL (by omega)
 rw [hr] at h1
 obtain ⟨m,hm,hm1⟩:=Zxi hr
 obtain ⟨w,hw,hw1⟩:=ZaV hr
 rw [Zi Zvr]
 by_cases h0:ls.length=0
 ·have h0':((ls.length:Nat):Int)=0:=by omega
  rw [if_pos h0]
  simp +contextual only [Zb0,ZhA,Zc,h,Za h,h1,h0',decide_true,go_sem,reduceIte,Ra,Rb,Rc,Rd]
 ·have h0':¬ ((ls.length:Nat):Int)=0:=by omega
  have hp:=Zi0 hr h0
  rw [hw] at h3 hp
  rw [hm] at h2
  have h4:=fun (L:List Blk)=>KI (pr:=pr) (H:=L) (e:=none) (x:=m) (y:=w) (by simpa using hp) (by omega) (by omega)
  rw [if_neg h0]
  unfold cenA cenB
  rw [hm,hw]
  simp +contextual only [Zb0,ZhA,Zc,h,Za h,h1,h2,h3,h4,h0',decide_false,RC,go_sem,reduceIte,Ra,Rb,Rc,Rd]
theorem Zxk {q:Nat} {cap:Option Nat} {ls:List Ld} (h:Zb H q=some (Zm ls)) (hr:YZ ls=true) (hn:ls.length≤1048576):call T pr ZdZ [slL q ls.length cap] ⟨H,e⟩=some (if ls.length=0 then .tup [.agg [.int .i64 0,.int .i64 0],.bool false] else .tup [fvV (cenA ls) (cenB ls),.bool true],⟨H,e⟩):=by
 have h1:=fun (L:List Blk) (hL:Zb L q=some (Zm ls))=>ZaR (pr:=pr) (H:=L) (e:=none) (c:=cap) hL
 have h2:=fun (L:List Blk) (hL:Zb L q=some (Zm ls))=>Zb9 (pr:=pr) (H:=L) (e:=none) (c:=cap) hL (by omega) 0
 have h3:=fun (L:List Blk) (hL:Zb L q=some (Zm ls))=>Zeu (pr:=pr) (H:=L) (e:=none) (c:=cap) hL (by omega)
 rw [hr] at h1
 obtain ⟨m,hm,hm1⟩:=Zxi hr
 obtain ⟨w,hw,hw1⟩:=ZaV hr
 rw [Zi Zvt]
 by_cases h0:ls.length=0
 ·have h0':((ls.length:Nat):Int)=0:=by omega
  rw [if_pos h0]
  simp +contextual only [Zb2,ZhC,Zc,h,Za h,h1,h0',decide_true,go_sem,reduceIte,Ra,Rb,Rc,Rd]
 ·have h0':¬ ((ls.length:Nat):Int)=0:=by omega
  have hp:=Zi0 hr h0
  rw [hw] at h3 hp
  rw [hm] at h2
  have h4:=fun (L:List Blk)=>Zfh (pr:=pr) (H:=L) (e:=none) (x:=m) (y:=w) (by simpa using hp) (by omega) (by omega)
  rw [if_neg h0]
  unfold cenA cenB
  rw [hm,hw]
  simp +contextual only [Zb2,ZhC,Zc,h,Za h,h1,h2,h3,h4,h0',decide_false,RC,go_sem,reduceIte,Ra,Rb,Rc,Rd]
def mostW (ss:List Sg) (n:Nat):Nat:=n*ZB 1 1 ss / ZC 1 1 ss
theorem Q9 {ss:List Sg} (hc:ZJ ss=true) (n:Nat) (hn:n≤1000000):0<ZB 1 1 ss∧ZB 1 1 ss≤254803968∧0<ZC 1 1 ss∧ZC 1 1 ss≤254803968∧n*ZB 1 1 ss≤254803968000000:=by
 have hc':=hc
 unfold ZJ at hc'
 rw [Ru,decide_eq_true_eq] at hc'
 obtain ⟨a1,a2,b1,b2⟩:=Zes ss 0 1 1 hc'.1 (by omega) (by decide) (by decide)
 exact ⟨a1,a2,b1,b2,WF (WU hn a2) (by decide)⟩
theorem Zxl {q:Nat} {c:Option Nat} {ss:List Sg} (h:Zb H q=some (Zr ss)) (hc:ZJ ss=true) (hm:ss.length≤1048576) (x:Int):call T pr ZdY [slS q ss.length c,.int .i64 x] ⟨H,e⟩=some (.tup [.int .i64 (if Zom x=true then (mostW ss x.toNat:Int) else 0),.bool (Zom x)],⟨H,e⟩):=by
 have h1:∀ L,Zb L q=some (Zr ss)→call T pr YN [slS q ss.length c] ⟨L,none⟩=some (.bool true,⟨L,none⟩):=fun L hL=>by have:=KH (pr:=pr) (e:=none) (c:=c) hL (by omega);rw [hc] at this;exact this
 have h2:∀ L,Zb L q=some (Zr ss)→call T pr XV [slS q ss.length c] ⟨L,none⟩=some (fvV (ZB 1 1 ss) (ZC 1 1 ss),⟨L,none⟩):=fun L hL=>ZgC hL hc
 have h3:=fun (L:List Blk)=>ZiR (pr:=pr) (H:=L) (e:=none) x
 unfold Zom
 cases hx:(decide (0≤x)&&decide (x≤1000000)) with
 | false=>
  rw [hx] at h3
  have h4:∀ L e',Zb L q=some (Zr ss)→call T pr Zdd [slS q ss.length c,.int .i64 x] ⟨L,e'⟩=some (.tup [.agg [.int .i64 0,.int .i64 0],.bool false],⟨L,e'⟩):=fun L e' hL=>by
   rw [Zi Zpv]
   simp +contextual only [Zdp,ZjX,Zc,hL,Za hL,h1,h3,go_sem,reduceIte,Ra,Rb,Rc,Rd]
  rw [Zi Zni]
  simp +contextual only [Zb1,ZhB,Zc,h,Za h,h4,R7,if_false,go_sem,reduceIte,Ra,Rb,Rc,Rd]
 | true=>
  rw [hx] at h3
  have hx':0≤x∧x≤1000000:=by simpa [Ru,decide_eq_true_eq] using hx
  obtain ⟨n,rfl⟩:∃ n:Nat,x=n:=⟨x.toNat,by omega⟩
  obtain ⟨a1,a2,b1,b2,ab⟩:=Q9 hc n (by omega)
  have w1:IntKind.i64.wrap ((n:Int)*(ZB 1 1 ss:Int))=((n*ZB 1 1 ss:Nat):Int):=by rw [←RD];exact Ki (by omega)
  have h5:=fun (L:List Blk)=>KI (pr:=pr) (H:=L) (e:=none) (x:=n*ZB 1 1 ss) (y:=ZC 1 1 ss) b1 (by omega) (by omega)
  have h4:∀ L e',Zb L q=some (Zr ss)→call T pr Zdd [slS q ss.length c,.int .i64 n] ⟨L,e'⟩=some (.tup [fvV (fracA (n*ZB 1 1 ss) (ZC 1 1 ss)) (fracB (n*ZB 1 1 ss) (ZC 1 1 ss)),.bool true],⟨L,e'⟩):=fun L e' hL=>by
   rw [Zi Zpv]
   simp +contextual only [Zdp,ZjX,Zc,hL,Za hL,h1,h2,h3,w1,h5,Zbv,Zbw,Za7,Wd,RH,RI,Rr,Rq,go_sem,reduceIte,Ra,Rb,Rc,Rd]
  have hfl:=ZDq (n*ZB 1 1 ss) (ZC 1 1 ss) b1
  have hbp:=Zh6 (n*ZB 1 1 ss) (ZC 1 1 ss) b1
  have hq0:¬ ((fracB (n*ZB 1 1 ss) (ZC 1 1 ss):Nat):Int)=0:=by omega
  have hml:n*ZB 1 1 ss / ZC 1 1 ss≤254803968000000:=WF (Rt _ _) ab
  have w2:IntKind.i64.wrap (WJ (fracA (n*ZB 1 1 ss) (ZC 1 1 ss):Int) (fracB (n*ZB 1 1 ss) (ZC 1 1 ss):Int))=(mostW ss n:Int):=by
   rw [←Int.ofNat_tdiv,hfl]
   exact Ki (by omega)
  rw [Zi Zni]
  simp +contextual only [Zb1,ZhB,Zc,h,Za h,h4,hq0,w2,Zbv,Zbw,Za7,Wd,RH,RI,Rr,Rq,if_true,RC,go_sem,reduceIte,Ra,Rb,Rc,Rd]
theorem Zqr {q:Nat} {c:Option Nat} {ss:List Sg} (h:Zb H q=some (Zr ss)) (hc:ZJ ss=true) (hm:ss.length≤1048576) (x:Int):call T pr QC [slS q ss.length c,.int .i64 x] ⟨H,e⟩=some (.bool (Zom x),⟨H,e⟩):=by
 have h1:∀ L,Zb L q=some (Zr ss)→call T pr JI [slS q ss.length c,.int .i64 5] ⟨L,none⟩=some (.bool true,⟨L,none⟩):=fun L hL=>by have:=Zca (pr:=pr) (e:=none) (c:=c) hL (by omega);rw [hc] at this;exact this
 have h3:=fun (L:List Blk)=>Ye (pr:=pr) (H:=L) (e:=none) x 0 1000000
 rw [Zi ZvB]
 unfold Zom
 simp +contextual only [ZhK,Zpk,h,h1,h3,go_sem,reduceIte,Ra,Rb,Rc,Rd]
theorem Zxm {q:Nat} {c:Option Nat} {ss:List Sg} (h:Zb H q=some (Zr ss)) (hc:ZJ ss=true) (hm:ss.length≤1048576) (x:Int):call T pr Zd3 [slS q ss.length c,.int .i64 x] ⟨H,e⟩=some (.tup [.int .i64 (if Zom x=true then (mostW ss x.toNat:Int) else 0),.bool (Zom x)],⟨H,e⟩):=by
 have h1:∀ L,Zb L q=some (Zr ss)→call T pr QC [slS q ss.length c,.int .i64 x] ⟨L,none⟩=some (.bool (Zom x),⟨L,none⟩):=fun L hL=>Zqr hL hc hm x
 have h2:∀ L,Zb L q=some (Zr ss)→call T pr Jg [slS q ss.length c] ⟨L,none⟩=some (fvV (ZB 1 1 ss) (ZC 1 1 ss),⟨L,none⟩):=fun L hL=>ZgD hL hc
 rw [Zi ZvA]
 cases hx:Zom x with
 | false=>
  rw [hx] at h1
  simp +contextual only [Zb6,ZhJ,Zc,h,Za h,h1,R7,if_false,go_sem,reduceIte,Ra,Rb,Rc,Rd]
 | true=>
  rw [hx] at h1
  unfold Zom at hx
  have hx':0≤x∧x≤1000000:=by simpa [Ru,decide_eq_true_eq] using hx
  obtain ⟨n,rfl⟩:∃ n:Nat,x=n:=⟨x.toNat,by omega⟩
  obtain ⟨a1,a2,b1,b2,ab⟩:=Q9 hc n (by omega)
  have w1:IntKind.i64.wrap ((n:Int)*(ZB 1 1 ss:Int))=((n*ZB 1 1 ss:Nat):Int):=by rw [←RD];exact Ki (by omega)
  have hq0:¬ ((ZC 1 1 ss:Nat):Int)=0:=by omega
  have hml:n*ZB 1 1 ss / ZC 1 1 ss≤254803968000000:=WF (Rt _ _) ab
  have w2:IntKind.i64.wrap (WJ ((n*ZB 1 1 ss:Nat):Int) (ZC 1 1 ss:Int))=(mostW ss n:Int):=by
   rw [←Int.ofNat_tdiv]
   exact Ki (by omega)
  simp +contextual only [Zb6,ZhJ,Zc,h,Za h,h1,h2,w1,hq0,w2,Zbv,Zbw,Za7,Wd,RH,RI,Rr,Rq,if_true,RC,go_sem,reduceIte,Ra,Rb,Rc,Rd]
def Zg8 (n:Int):Int:=if n≤3 then 1 else if n≤9 then 2 else if n≤27 then 3 else 4
def Zz6 (n:Int):Bool:=decide (2≤n)&&decide (n≤40)
def Zxn (n k p:Int) (j:Nat):Prop:=(k=0∧p=1∧j=4)∨(k=1∧p=3∧j=3)∨(k=2∧p=9∧3<n∧j=2)∨(k=3∧p=27∧9<n∧j=1)∨(k=4∧p=81∧27<n∧j=0)
theorem Zxo {n k p:Int} {j:Nat} (h:Zxn n k p j) (hn:n≤40) (hp:p<n):Zxn n (k+1) (p*3) (j - 1)∧0<j∧0≤k∧k≤3∧0<p∧p≤27:=by
 rcases h with ⟨rfl,rfl,rfl⟩|⟨rfl,rfl,rfl⟩|⟨rfl,rfl,h1,rfl⟩|⟨rfl,rfl,h1,rfl⟩|⟨rfl,rfl,h1,rfl⟩
 ·exact ⟨.inr (.inl ⟨rfl,rfl,rfl⟩),by omega,by omega,by omega,by omega,by omega⟩
 ·exact ⟨.inr (.inr (.inl ⟨rfl,rfl,hp,rfl⟩)),by omega,by omega,by omega,by omega,by omega⟩
 ·exact ⟨.inr (.inr (.inr (.inl ⟨rfl,rfl,hp,rfl⟩))),by omega,by omega,by omega,by omega,by omega⟩
 ·exact ⟨.inr (.inr (.inr (.inr ⟨rfl,rfl,hp,rfl⟩))),by omega,by omega,by omega,by omega,by omega⟩
 ·omega
theorem ZA1 {n k p:Int} {j:Nat} (h:Zxn n k p j) (hn1:2≤n) (hn:n≤40) (hp:¬ p<n):k=Zg8 n:=by
 unfold Zg8
 rcases h with ⟨rfl,rfl,rfl⟩|⟨rfl,rfl,rfl⟩|⟨rfl,rfl,h1,rfl⟩|⟨rfl,rfl,h1,rfl⟩|⟨rfl,rfl,h1,rfl⟩
 ·omega
 ·rw [if_pos (by omega)]
 ·rw [if_neg (by omega),if_pos (by omega)]
 ·rw [if_neg (by omega),if_neg (by omega),if_pos (by omega)]
 ·rw [if_neg (by omega),if_neg (by omega),if_neg (by omega)]
theorem Zko (n:Int):call T pr JR [.int .i64 n] ⟨H,e⟩=some (.tup [.int .i64 (if Zz6 n=true then Zg8 n else 0),.bool (Zz6 n)],⟨H,e⟩):=by
 have h1:∀ L,call T pr Zd1 [.int .i64 n] ⟨L,none⟩=some (.bool (Zz6 n),⟨L,none⟩):=fun L=>by
  have h2:=fun (L:List Blk)=>Yd (pr:=pr) (H:=L) (e:=none) n 2 40
  rw [Zi Zvw]
  unfold Zz6
  simp +contextual only [Zek,Znd,h2,go_sem,reduceIte,Ra,Rb,Rc,Rd]
 apply Wc.eq
 rw [Zs Zj2]
 cases hn:Zz6 n with
 | false=>
  rw [hn] at h1
  simp +contextual only [YP,Q1,h1,R7,if_false,pp,go_sem,reduceIte,Ra,Rb,Rc,Rd]
 | true=>
  rw [hn] at h1
  have hn':2≤n∧n≤40:=by unfold Zz6 at hn;simpa [Ru,decide_eq_true_eq] using hn
  simp +contextual only [YP,Q1,h1,if_true,pp,go_sem,reduceIte,Ra,Rb,Rc,Rd]
  refine ZM (fun j st=>∃ (k p:Int) (w6:AV),Zxn n k p j∧st=⟨[.int .i64 n,.int .i64 0,.bool false,.int .i64 k,.int .i64 p,.bool false,w6],⟨H,none⟩⟩) ?_ 4 _ ⟨0,1,_,.inl ⟨rfl,rfl,rfl⟩,rfl⟩
  rintro j _ ⟨k,p,w6,hj,rfl⟩
  by_cases hp:p<n
  ·have hj':=Zxo hj hn'.2 hp
   obtain ⟨g1,g2,g3,g4,g5,g6⟩:=hj'
   have e1:IntKind.i64.wrap (k+1)=k+1:=ZP (by omega) (by omega)
   have e2:IntKind.i64.wrap (p*3)=p*3:=ZP (by omega) (by omega)
   simp +contextual only [KB,hp,e1,e2,decide_true,pp,go_sem,reduceIte,Ra,Rb,Rc,Rd]
   exact ⟨j - 1,by omega,_,_,_,g1,rfl⟩
  ·have hk:k=Zg8 n:=ZA1 hj hn'.1 hn'.2 hp
   subst hk
   simp +contextual only [KB,YP,hp,decide_false,pp,go_sem,reduceIte,Ra,Rb,Rc,Rd]
theorem Zkp (n:Int):call T pr JT [.int .i64 n] ⟨H,e⟩=some (.tup [.int .i64 (if Zz6 n=true then Zg8 n else 0),.bool (Zz6 n)],⟨H,e⟩):=by
 have h1:∀ L,call T pr Zf2 [.int .i64 n] ⟨L,none⟩=some (.bool (Zz6 n),⟨L,none⟩):=fun L=>by
  have h2:=fun (L:List Blk)=>Ye (pr:=pr) (H:=L) (e:=none) n 2 40
  rw [Zi ZyO]
  unfold Zz6
  simp +contextual only [Zgw,Zpl,h2,go_sem,reduceIte,Ra,Rb,Rc,Rd]
 cases hn:Zz6 n with
 | false=>
  rw [hn] at h1
  rw [Zi Zds]
  simp +contextual only [Xz,Q4,h1,R7,if_false,go_sem,reduceIte,Ra,Rb,Rc,Rd]
 | true=>
  rw [hn] at h1
  have hn':2≤n∧n≤40:=by unfold Zz6 at hn;simpa [Ru,decide_eq_true_eq] using hn
  have h2:∀ L,call T pr Zd4 [.int .i64 n] ⟨L,none⟩=some (.int .i64 (Zg8 n),⟨L,none⟩):=fun L=>by
   apply Wc.eq
   rw [Zs ZvC]
   simp +contextual only [Zb7,Zng,if_true,pp,go_sem,reduceIte,Ra,Rb,Rc,Rd]
   refine ZM (fun j st=>∃ (k p:Int) (w6:AV),Zxn n k p j∧st=⟨[.int .i64 n,.int .i64 0,.int .i64 k,.int .i64 p,w6],⟨L,none⟩⟩) ?_ 4 _ ⟨0,1,_,.inl ⟨rfl,rfl,rfl⟩,rfl⟩
   rintro j _ ⟨k,p,w6,hj,rfl⟩
   by_cases hp:p<n
   ·have hj':=Zxo hj hn'.2 hp
    rw [Int.mul_comm p 3] at hj'
    obtain ⟨g1,g2,g3,g4,g5,g6⟩:=hj'
    have e1:IntKind.i64.wrap (k+1)=k+1:=ZP (by omega) (by omega)
    have e2:IntKind.i64.wrap (3*p)=3*p:=ZP (by omega) (by omega)
    simp +contextual only [ZeO,hp,e1,e2,decide_true,pp,go_sem,reduceIte,Ra,Rb,Rc,Rd]
    exact ⟨j - 1,by omega,_,_,_,g1,rfl⟩
   ·have hk:k=Zg8 n:=ZA1 hj hn'.1 hn'.2 hp
    subst hk
    simp +contextual only [ZeO,Zb7,hp,decide_false,pp,go_sem,reduceIte,Ra,Rb,Rc,Rd]
  rw [Zi Zds]
  simp +contextual only [Xz,Q4,h1,h2,if_true,go_sem,reduceIte,Ra,Rb,Rc,Rd]
def mvF (m:Int):Nat→List Ld→Option (Nat×Int)
 | _,[]=>none
 | i,l::ls=>if Int.tmod m l.2=0∧Zhh (IntKind.i64.wrap (l.1 - IntKind.i64.wrap (WJ m l.2)))=true then some (i,IntKind.i64.wrap (l.1 - IntKind.i64.wrap (WJ m l.2))) else mvF m (i+1) ls
def ZrG (ls:List Ld) (p:Int):Option (Nat×Int):=if Zhh p=true∧¬ Zln ls p=0 then mvF (Zln ls p) 0 ls else none
def mvV:Option (Nat×Int)→AV
 | some (i,p)=>.tup [.int .i64 i,.int .i64 p,.bool true]
 | none=>.tup [.int .i64 0,.int .i64 0,.bool false]
theorem ZH4 {m:Int}:∀ {ls:List Ld} {i j:Nat} {p:Int},mvF m i ls=some (j,p)→j<i+ls.length∧0≤p∧p≤60
 | [],_,_,_,h=>by cases h
 | l::ls,i,j,p,h=>by
  unfold mvF at h
  split at h
  ·rename_i hc
   cases h
   have:=hc.2
   unfold Zhh at this
   simp only [Ru,decide_eq_true_eq] at this
   exact ⟨by simp,this⟩
  ·have:=ZH4 h
   simp only [Rl]
   omega
theorem Zz7 {q:Nat} {cap:Option Nat} {ls:List Ld} (h:Zb H q=some (Zm ls)) (hr:YZ ls=true) (hn:ls.length≤1048576) (p:Int):call T pr ZfV [slL q ls.length cap,.int .i64 p] ⟨H,e⟩=some (mvV (ZrG ls p),⟨H,e⟩):=by
 have h1:∀ L,Zb L q=some (Zm ls)→call T pr Jp [slL q ls.length cap,.int .i64 p] ⟨L,none⟩=some (.tup [.int .i64 (if Zhh p=true then Zln ls p else 0),.bool (Zhh p)],⟨L,none⟩):=fun L hL=>Zib hL hr hn p
 have h3:∀ L x,call T pr Jf [.int .i64 x] ⟨L,none⟩=some (.bool (Zhh x),⟨L,none⟩):=fun L x=>Zdw x
 have h2:∀ L,Zb L q=some (Zm ls)→call T pr Zaz [slL q ls.length cap,.int .i64 p] ⟨L,none⟩=some (.tup [.int .i64 (if Zhh p=true then Zln ls p else 0),.bool (Zhh p&&decide (¬ Zln ls p=0))],⟨L,none⟩):=fun L hL=>by
  rw [Zi Zto]
  cases hp:Zhh p <;> rw [hp] at h1 <;> simp +contextual only [ZcQ,Zk1,hL,h1,R7,if_true,if_false,RU,Bool.true_and,go_sem,reduceIte,Ra,Rb,Rc,Rd]
  by_cases hm:Zln ls p=0 <;> simp [hm]
 unfold ZrG
 by_cases hp:Zhh p=true∧¬ Zln ls p=0
 ·rw [if_pos hp]
  rw [hp.1,decide_eq_true hp.2] at h2
  simp only [if_true,Bool.and_self] at h2
  generalize Zln ls p=m at *
  apply Wc.eq
  rw [Zs Zps]
  simp +contextual only [Q0,ZjR,h,h2,pp,go_sem,reduceIte,Ra,Rb,Rc,Rd]
  refine ZM (fun k st=>∃ (i:Nat) (L:List Blk) (w7 w8 w9 w14 w15:AV),i+k=ls.length∧Z4 H L∧mvF m i (ls.drop i)=mvF m 0 ls ∧
   st=⟨[slL q ls.length cap,.int .i64 p,.int .i64 0,.int .i64 0,.bool false,.int .i64 m,.bool true,w7,w8,w9,.bool false,slL q ls.length cap,.int .i64 ls.length,.int .i64 i,w14,w15],⟨L,none⟩⟩) ?_ ls.length _ ⟨0,H,_,_,_,_,_,by omega,Z4.refl H,by rw [Rk],rfl⟩
  rintro k _ ⟨i,L,w7,w8,w9,w14,w15,hik,hL,hmv,rfl⟩
  by_cases hk:k=0
  ·have he:i=ls.length:=by omega
   subst he
   rw [Rp] at hmv
   rw [←hmv]
   simp +contextual only [ZaK,Q0,Rh,decide_false,mvF,mvV,ZIA hL,Zo,pp,go_sem,reduceIte,Ra,Rb,Rc,Rd]
  ·have hi':i<ls.length:=by omega
   have hl:ls[i]?=some ls[i]:=Rj hi'
   have hq:Zb L q=some (Zm ls):=by
    obtain ⟨G,rfl⟩:=hL
    exact Za h G
   have hok:okL ls[i]=true:=by
    unfold YZ at hr
    rw [Ru] at hr
    exact (WQ.mp hr.2) _ (WC hi')
   have hw0:¬ ls[i].2=0:=by
    unfold okL at hok
    simp only [Ru,decide_eq_true_eq] at hok
    omega
   rw [Rm hi',mvF] at hmv
   generalize ls[i]=l at *
   have hsw:=Zh (show i<9223372036854775807 by omega)
   generalize hat:IntKind.i64.wrap (l.1 - IntKind.i64.wrap (WJ m l.2))=at' at *
   by_cases hm:Int.tmod m l.2=0
   ·cases hpl:Zhh at' with
    | true=>
     rw [if_pos ⟨hm,hpl⟩] at hmv
     rw [←hmv]
     simp (maxSteps:=2000000) +contextual only [ZaK,Q0,Zc,hi',hq,X6 hl,hw0,hat,hm,h3,hpl,mvV,(hL.more _).more,ZIA ((hL.more _)),Zo,decide_true,pp,go_sem,reduceIte,Ra,Rb,Rc,Rd]
    | false=>
     rw [if_neg (by rintro ⟨_,g⟩;rw [hpl] at g;cases g)] at hmv
     simp (maxSteps:=2000000) +contextual only [ZaK,Zc,hi',hq,X6 hl,hw0,hat,hm,h3,hpl,hsw,decide_true,decide_false,pp,go_sem,reduceIte,Ra,Rb,Rc,Rd]
     exact ⟨k - 1,by omega,i+1,_,_,_,_,_,_,by omega,hL.more _,hmv,rfl⟩
   ·rw [if_neg (by rintro ⟨g,_⟩;exact hm g)] at hmv
    simp (maxSteps:=2000000) +contextual only [ZaK,Zc,hi',hq,X6 hl,hw0,hat,hm,h3,hsw,decide_true,decide_false,pp,go_sem,reduceIte,Ra,Rb,Rc,Rd]
    exact ⟨k - 1,by omega,i+1,_,_,_,_,_,_,by omega,hL.more _,hmv,rfl⟩
 ·rw [if_neg hp]
  have h2':∃ x,call T pr Zaz [slL q ls.length cap,.int .i64 p] ⟨H,none⟩=some (.tup [.int .i64 x,.bool false],⟨H,none⟩):=by
   refine ⟨if Zhh p=true then Zln ls p else 0,?_⟩
   rw [h2 H h]
   have:(Zhh p&&decide (¬ Zln ls p=0))=false:=by
    rw [Bool.eq_false_iff]
    intro g
    simp only [Ru,decide_eq_true_eq] at g
    exact hp g
   rw [this]
  obtain ⟨x,hx⟩:=h2'
  rw [Zi Zps]
  simp +contextual only [Q0,ZjR,hx,mvV,go_sem,reduceIte,Ra,Rb,Rc,Rd]
theorem Zz8 {q:Nat} {cap:Option Nat} {ls:List Ld} (h:Zb H q=some (Zm ls)) (hr:YZ ls=true) (hn:ls.length≤1048576) (p:Int):call T pr ZfZ [slL q ls.length cap,.int .i64 p] ⟨H,e⟩=some (mvV (ZrG ls p),⟨H,e⟩):=by
 have h1:∀ L,Zb L q=some (Zm ls)→call T pr Js [slL q ls.length cap] ⟨L,none⟩=some (.bool true,⟨L,none⟩):=fun L hL=>by rw [←hr];exact ZaR hL
 have h2:∀ L,Zb L q=some (Zm ls)→call T pr YI [slL q ls.length cap,.int .i64 p] ⟨L,none⟩=some (.int .i64 (Zln ls p),⟨L,none⟩):=fun L hL=>Zb9 hL (by omega) p
 have h3:∀ L x,call T pr Zaw [.int .i64 x] ⟨L,none⟩=some (.bool (Zhh x),⟨L,none⟩):=fun L x=>ZgA x
 have h3p:=fun L=>h3 L p
 unfold ZrG
 apply Wc.eq
 rw [Zs ZyL]
 cases hp:Zhh p with
 | false=>
  rw [hp] at h3p
  rw [if_neg (by rintro ⟨g,_⟩;cases g)]
  simp (maxSteps:=2000000) +contextual only [KF,Zgt,h,h1,h3p,mvV,pp,go_sem,reduceIte,Ra,Rb,Rc,Rd]
 | true=>
  rw [hp] at h3p
  by_cases hm0:Zln ls p=0
  ·rw [if_neg (by rintro ⟨_,g⟩;exact g hm0)]
   rw [hm0] at h2
   simp (maxSteps:=2000000) +contextual only [KF,Zgt,h,h1,h2,h3p,mvV,decide_true,pp,go_sem,reduceIte,Ra,Rb,Rc,Rd]
  ·rw [if_pos ⟨rfl,hm0⟩]
   generalize Zln ls p=m at *
   simp (maxSteps:=2000000) +contextual only [KF,Zgt,h,h1,h2,h3p,hm0,decide_false,pp,go_sem,reduceIte,Ra,Rb,Rc,Rd]
   refine ZM (fun k st=>∃ (i:Nat) (w6 w7 w8 w9 w10 w11:AV),i+k=ls.length∧mvF m i (ls.drop i)=mvF m 0 ls ∧
    st=⟨[slL q ls.length cap,.int .i64 p,.int .i64 0,.int .i64 0,.bool false,.int .i64 i,w6,w7,w8,w9,w10,w11],⟨H,none⟩⟩) ?_ ls.length _ ⟨0,_,_,_,_,_,_,by omega,by rw [Rk],rfl⟩
   rintro k _ ⟨i,w6,w7,w8,w9,w10,w11,hik,hmv,rfl⟩
   by_cases hk:k=0
   ·have he:i=ls.length:=by omega
    subst he
    rw [Rp] at hmv
    rw [←hmv]
    simp +contextual only [ZaN,KF,Rh,decide_false,mvF,mvV,pp,go_sem,reduceIte,Ra,Rb,Rc,Rd]
   ·have hi':i<ls.length:=by omega
    have hl:ls[i]?=some ls[i]:=Rj hi'
    have hok:okL ls[i]=true:=by
     unfold YZ at hr
     rw [Ru] at hr
     exact (WQ.mp hr.2) _ (WC hi')
    have hw0:¬ ls[i].2=0:=by
     unfold okL at hok
     simp only [Ru,decide_eq_true_eq] at hok
     omega
    rw [Rm hi',mvF] at hmv
    generalize ls[i]=l at *
    have hsw:=Zh (show i<9223372036854775807 by omega)
    generalize hat:IntKind.i64.wrap (l.1 - IntKind.i64.wrap (WJ m l.2))=at' at *
    by_cases hm:Int.tmod m l.2=0
    ·cases hpl:Zhh at' with
     | true=>
      rw [if_pos ⟨hm,hpl⟩] at hmv
      rw [←hmv]
      simp (maxSteps:=2000000) +contextual only [ZaN,KF,hi',h,h2,JC _ hl,XO _ hl,hw0,hat,hm,h3,hpl,mvV,decide_true,decide_false,pp,go_sem,reduceIte,Ra,Rb,Rc,Rd]
     | false=>
      rw [if_neg (by rintro ⟨_,g⟩;rw [hpl] at g;cases g)] at hmv
      simp (maxSteps:=2000000) +contextual only [ZaN,hi',h,h2,JC _ hl,XO _ hl,hw0,hat,hm,h3,hpl,hsw,decide_true,decide_false,pp,go_sem,reduceIte,Ra,Rb,Rc,Rd]
      exact ⟨k - 1,by omega,i+1,_,_,_,_,_,_,by omega,hmv,rfl⟩
    ·rw [if_neg (by rintro ⟨g,_⟩;exact hm g)] at hmv
     simp (maxSteps:=2000000) +contextual only [ZaN,hi',h,h2,JC _ hl,XO _ hl,hw0,hat,hm,h3,hsw,decide_true,decide_false,pp,go_sem,reduceIte,Ra,Rb,Rc,Rd]
     exact ⟨k - 1,by omega,i+1,_,_,_,_,_,_,by omega,hmv,rfl⟩
def Zjb (ls:List Ld):By:=Lib.join (ls.map fun l=>Xd 58 [l.1,l.2]) [32]
def ZeB (ls:List Ld):By:=if ls.length=0 then [110,111,110,101] else Zjb ls
theorem Zz9 {ls:List Ld} (hr:YZ ls=true):ls.length≤12∧∀ l∈ls,Zfo l.1∧Zfo l.2:=by
 unfold YZ at hr
 rw [Ru,decide_eq_true_eq] at hr
 refine ⟨by omega,fun l hl => ?_⟩
 have:=(WQ.mp hr.2) l hl
 unfold okL at this
 simp only [Ru,decide_eq_true_eq] at this
 unfold Zfo
 omega
theorem ZHt (l:Ld) (h:Zfo l.1∧Zfo l.2):(Xd 58 [l.1,l.2]).length≤44:=by
 have:=Zfp 58 [l.1,l.2] (by intro z hz;simp at hz;rcases hz with rfl | rfl;exact h.1;exact h.2)
 simpa using this
theorem Zxp (ls:List Ld) (h:∀ l∈ls,Zfo l.1∧Zfo l.2):(Zjb ls).length≤ls.length*45:=by
 have:=Zol [32] 44 (ls.map fun l=>Xd 58 [l.1,l.2]) fun x hx=>by
  obtain ⟨l,h1,rfl⟩:=Wg.mp hx
  exact ZHt l (h l h1)
 simpa [Zjb] using this
theorem ZAa (hi:KJ pr) (hj:ZmL pr) {q:Nat} {cap:Option Nat} {ls:List Ld} (h:Zb H q=some (Zm ls)) (hr:YZ ls=true):call T pr ZfE [slL q ls.length cap] ⟨H,e⟩=some (.tup [sV (ZeB ls),.bool true],⟨H,e⟩):=by
 obtain ⟨hn,hf⟩:=Zz9 hr
 have h1:∀ L,Zb L q=some (Zm ls)→call T pr Jr [slL q ls.length cap] ⟨L,none⟩=some (.bool true,⟨L,none⟩):=fun L hL=>by rw [←hr];exact QG hL
 have hnt:∀ (L:List Blk) (q:Nat) (cap:Option Nat) (a b:Int),Zfo a→Zfo b→Zb L q=some [.int .i64 a,.int .i64 b]→call T pr Ym [.slice (some (q,0)) 1 2 cap,.str ⟨#[58]⟩] ⟨L,none⟩=some (sV (Xd 58 [a,b]),⟨L,none⟩) :=
  fun L q cap a b ha hb h=>Za0 (zs:=[a,b]) hi hj h (by simp) (by intro z hz;simp at hz;rcases hz with rfl | rfl <;> assumption) 58
 unfold ZeB
 apply Wc.eq
 rw [Zs Zyc]
 by_cases h0:ls.length=0
 ·have h0':((ls.length:Nat):Int)=0:=by omega
  rw [if_pos h0]
  simp (maxSteps:=2000000) +contextual only [Zbk,ZjO,h,h1,h0',decide_true,pp,go_sem,reduceIte,Ra,Rb,Rc,Rd]
 ·have h0':¬ ((ls.length:Nat):Int)=0:=by omega
  rw [if_neg h0]
  simp (maxSteps:=2000000) +contextual only [Zbk,ZjO,Zc,h,h1,h0',decide_false,pp,go_sem,reduceIte,Ra,Rb,Rc,Rd]
  refine ZM (fun k st=>∃ (i b:Nat) (cc:Option Nat) (L:List Blk) (w4 w10:AV),i+k=ls.length∧(cc=some 0→i=0)∧Z4 H L∧H.length≤b∧L[b]?=some (.cells (Zcf ((ls.take i).map fun l=>Xd 58 [l.1,l.2])) true) ∧
   st=⟨[slL q ls.length cap,.str ⟨#[]⟩,.bool false,slX b i cc,w4,.bool false,.bool false,slL q ls.length cap,.int .i64 ls.length,.int .i64 i,w10],⟨L,none⟩⟩) ?_ ls.length _ ⟨0,H.length,some 0,_,_,_,by omega,fun _=>rfl,⟨_,rfl⟩,Rz _,by rw [ZY];rfl,rfl⟩
  rintro k _ ⟨i,b,cc,L,w4,w10,hik,hcc,hL,hb,hLb,rfl⟩
  have hq:Zb L q=some (Zm ls):=by
   obtain ⟨G,rfl⟩:=hL
   exact Za h G
  by_cases hk:k=0
  ·have he:i=ls.length:=by omega
   subst he
   rw [Wl] at hLb
   have hrl:=Zxp ls hf
   have hjn:=hj (ls.map fun l=>Xd 58 [l.1,l.2]) 32 b cc L none (Zg hLb) (by simp;omega) (by unfold Zjb at hrl;omega)
   rw [WB] at hjn
   unfold Zjb
   simp (maxSteps:=2000000) +contextual only [Zf3,Zbk,Rh,decide_false,hjn,ZIA hL,Zo,pp,go_sem,reduceIte,Ra,Rb,Rc,Rd]
  ·have hi':i<ls.length:=by omega
   have hl:ls[i]?=some ls[i]:=Rj hi'
   obtain ⟨f1,f2⟩:=hf ls[i] (WC hi')
   have htk:(ls.take i).map (fun l=>Xd 58 [l.1,l.2])++[Xd 58 [ls[i].1,ls[i].2]]=(ls.take (i+1)).map fun l=>Xd 58 [l.1,l.2]:=by
    rw [RL hi',WP]
    rfl
   generalize ls[i]=l at *
   have hnt':=fun L q cap hc=>hnt L q cap l.1 l.2 f1 f2 hc
   simp (maxSteps:=2000000) +contextual only [Zf3,Zc,hi',hq,X6 hl,hnt',Zh (show i<9223372036854775807 by omega),decide_true,pp,go_sem,reduceIte,Ra,Rb,Rc,Rd]
   refine Zja (k:=1) (new:=[sV (Xd 58 [l.1,l.2])]) (Yv hLb _) (Qk _ 1 1 _ _ (L.length+2) (by simp +contextual only [go_sem,reduceIte,Ra,Rb,Rc,Rd]) rfl) (by rw [ZgP];simp;omega) rfl (by unfold maxBytes;omega) hcc ?_
   intro L2 e1 e2 e3 e4
   have e3':Zcf ((ls.take i).map fun l=>Xd 58 [l.1,l.2])++[sV (Xd 58 [l.1,l.2])]=Zcf ((ls.take (i+1)).map fun l=>Xd 58 [l.1,l.2]):=by rw [←htk,ZgQ];rfl
   rw [e3'] at e3
   simp (maxSteps:=2000000) +contextual only [Zh (show i<9223372036854775807 by omega),pp,go_sem,reduceIte,Ra,Rb,Rc,Rd]
   exact ⟨k - 1,by omega,i+1,_,none,L2,_,_,by omega,by simp,e4 _ (hL.more _) hb,by have:=hL.le;simp;omega,by simpa using e3,rfl⟩
theorem ZDt (ls:List Ld) (l:Ld):Zjb (ls++[l])=if ls=[] then Lib.itoa l.1++58::Lib.itoa l.2 else Zjb ls++32::(Lib.itoa l.1++58::Lib.itoa l.2):=by
 unfold Zjb
 cases ls with
 | nil=>simp [Lib.join_one,Zqp]
 | cons x xs=>
  rw [if_neg (by simp)]
  simp [Lib.join_cons,Lib.joinTail,Zqp]
theorem ZAb {q:Nat} {cap:Option Nat} {ls:List Ld} (h:Zb H q=some (Zm ls)) (hr:YZ ls=true):call T pr ZfW [slL q ls.length cap] ⟨H,e⟩=some (.tup [sV (ZeB ls),.bool true],⟨H,e⟩):=by
 obtain ⟨hn,hf⟩:=Zz9 hr
 have h1:∀ L,Zb L q=some (Zm ls)→call T pr Js [slL q ls.length cap] ⟨L,none⟩=some (.bool true,⟨L,none⟩):=fun L hL=>by rw [←hr];exact ZaR hL
 have h2:call T pr Ziy [slL q ls.length cap] ⟨H,none⟩=some (sV (ZeB ls),⟨H,none⟩):=by
  unfold ZeB
  apply Wc.eq
  rw [Zs ZBV]
  simp (maxSteps:=2000000) +contextual only [Zc1,Zsa,pp,go_sem,reduceIte,Ra,Rb,Rc,Rd]
  refine ZM (fun k st=>∃ (i:Nat) (w4 w5 w6:AV),i+k=ls.length∧st=⟨[slL q ls.length cap,.str ⟨#[]⟩,sV (Zjb (ls.take i)),.int .i64 i,w4,w5,w6],⟨H,none⟩⟩) ?_ ls.length _ ⟨0,_,_,_,by omega,rfl⟩
  rintro k _ ⟨i,w4,w5,w6,hik,rfl⟩
  by_cases hk:k=0
  ·have he:i=ls.length:=by omega
   subst he
   rw [Wl]
   by_cases h0:ls.length=0
   ·have h0':((ls.length:Nat):Int)=0:=by omega
    rw [if_pos h0]
    have hd2:decide (((ls.length:Nat):Int)=0)=true:=decide_eq_true h0'
    clear h0'
    simp (maxSteps:=2000000) only [Zb4,Zc1,Rh,decide_false,hd2,pp,go_sem,reduceIte,Ra,Rb,Rc,Rd]
   ·have h0':¬ ((ls.length:Nat):Int)=0:=by omega
    rw [if_neg h0]
    simp (maxSteps:=2000000) +contextual only [Zb4,Zc1,Rh,decide_false,h0',pp,go_sem,reduceIte,Ra,Rb,Rc,Rd]
  ·have hi':i<ls.length:=by omega
   have hl:ls[i]?=some ls[i]:=Rj hi'
   obtain ⟨f1,f2⟩:=hf ls[i] (WC hi')
   have hs:=ZDt (ls.take i) ls[i]
   rw [←RL hi'] at hs
   have hle:(Zjb (ls.take i)).length≤600:=by
    have:=Zxp (ls.take i) fun l hl=>hf l (List.mem_of_mem_take hl)
    rw [Wn] at this
    omega
   generalize ls[i]=l at *
   have la:=Xe l.1 f1
   have lb:=Xe l.2 f2
   have hna:=fun (L:List Blk)=>XA (pr:=pr) (H:=L) (e:=none) l.1 f1.1 f1.2
   have hnb:=fun (L:List Blk)=>XA (pr:=pr) (H:=L) (e:=none) l.2 f2.1 f2.2
   have e32:(AV.str ⟨#[32]⟩)=sV [32]:=rfl
   have e58:(AV.str ⟨#[58]⟩)=sV [58]:=rfl
   have hsw:=Zh (show i<9223372036854775807 by omega)
   generalize Lib.itoa l.1=A at *
   generalize Lib.itoa l.2=B at *
   by_cases h0:i=0
   ·have hp:¬ (0:Int)<(i:Int):=by omega
    rw [if_pos (by rw [h0];rfl)] at hs
    have hr0:Zjb (ls.take i)=[]:=by rw [h0];rfl
    generalize Zjb (ls.take i)=S at *
    have b1:S.length+A.length≤140737488355328:=by omega
    have b2:S.length+A.length≤140737488355327:=by omega
    have b3:S.length+(A.length+1)+B.length≤140737488355328:=by omega
    have ha2:S++(A++58::B)=Zjb (ls.take (i+1)):=by rw [hs,hr0];rfl
    simp (maxSteps:=2000000) +contextual only [Zb4,hi',h,JC _ hl,XO _ hl,hna,hnb,hp,gt_iff_lt,e58,ZL,b1,b2,b3,ha2,hsw,decide_true,decide_false,pp,go_sem,reduceIte,Ra,Rb,Rc,Rd]
    exact ⟨k - 1,by omega,i+1,_,_,_,by omega,rfl⟩
   ·have hp:(0:Int)<(i:Int):=by omega
    rw [if_neg (by intro hh;have:=congrArg List.length hh;rw [Wn,RM] at this;omega)] at hs
    generalize Zjb (ls.take i)=S at *
    have b0:S.length≤140737488355327:=by omega
    have b1:S.length+1+A.length≤140737488355328:=by omega
    have b2:S.length+(A.length+1)≤140737488355327:=by omega
    have b3:S.length+(A.length+1+1)+B.length≤140737488355328:=by omega
    have ha2:S++32::(A++58::B)=Zjb (ls.take (i+1)):=by rw [hs]
    simp (maxSteps:=2000000) +contextual only [Zb4,hi',h,JC _ hl,XO _ hl,hna,hnb,hp,gt_iff_lt,e32,e58,ZL,b0,b1,b2,b3,ha2,hsw,decide_true,decide_false,pp,go_sem,reduceIte,Ra,Rb,Rc,Rd]
    exact ⟨k - 1,by omega,i+1,_,_,_,by omega,rfl⟩
 rw [Zi ZyD]
 simp +contextual only [Zgm,Zpd,h,h1,h2,go_sem,reduceIte,Ra,Rb,Rc,Rd]
def stepA (ss:List Sg) (n:Nat):Nat:=fracA (n*ZC 1 1 ss) (ZB 1 1 ss)
def stepBW (ss:List Sg) (n:Nat):Nat:=fracB (n*ZC 1 1 ss) (ZB 1 1 ss)
def ZA2 (ss:List Sg) (n:Nat) (ps:List Ld):Prop:=ps.length=ss.length+1∧ps[ss.length]?=some ((stepA ss n:Int),(stepBW ss n:Int))
theorem ZF4 {s:Sg} {a b i:Nat} (h:YJ s=true) (ha:a≤1000000*24 ^ i) (hb:0<b∧b≤48 ^ i) (hi:i<5) :
  a*gainB s≤1000000*24 ^ (i+1)∧0<b*gainA s∧b*gainA s≤48 ^ (i+1)∧1000000*24 ^ (i+1)≤7962624000000∧48 ^ (i+1)≤254803968:=by
 obtain ⟨g1,g2,g3,g4⟩:=Zke h
 refine ⟨?_,WT hb.1 g1,?_,?_,?_⟩
 ·rw [WO,←Nat.mul_assoc]
  exact WU ha g4
 ·rw [WO]
  exact WU hb.2 g2
 ·have:(24:Nat) ^ (i+1)≤24 ^ 5:=RP (by omega) (by omega)
  have e:(24:Nat) ^ 5=7962624:=by decide
  omega
 ·have:(48:Nat) ^ (i+1)≤48 ^ 5:=RP (by omega) (by omega)
  have e:(48:Nat) ^ 5=254803968:=by decide
  omega
theorem Zxq (ps:List Ld) (a b:Int):Zm ps++[.int .i64 a,.int .i64 b]=Zm (ps++[(a,b)]):=by
 rw [Zdv];rfl
theorem ZDu {L:List Blk} {b sz n:Nat} {c:Option Nat} {cs:List AV} {w:Bool} (v0:AV) (h0:AV.roots H.length v0=[]) (h0':∀ f,AV.rename f v0=v0) (hL:Z4 H L) (e0 e1:Option Nat) (hc:clean H.length e1=true) (hb:H.length≤b) (hG:L[b]?=some (.cells cs w)) (hu:(cs.all fun c=>c.under H.length)=true) :
  finish 2 H.length e0 (.tup [.slice (some (b,0)) sz n c,v0]) ⟨L,e1⟩=some (.tup [.slice (some (H.length,0)) sz n c,v0],⟨H++[.cells cs w],e0⟩):=by
 obtain ⟨G,rfl⟩:=hL
 obtain ⟨j,rfl⟩:∃ j,b=H.length+j:=⟨b - H.length,by omega⟩
 have hlt:¬ H.length+j<H.length:=by omega
 have hr:XQ (AV.roots H.length (.tup [.slice (some (H.length+j,0)) sz n c,v0]))=[H.length+j]:=by
  simp only [AV.roots,AV.roots.go,h0,if_neg hlt,RA]
  simp [XQ]
 unfold finish
 simp only [hr]
 have h2:([H.length+j].all fun b=>Y5 H.length (H++G)[b]?)=true:=by
  simp only [Rv,List.all_nil,Bool.and_true,hG,Y5,hu]
 simp only [hc,h2,and_self,if_true]
 simp [AV.rename,AV.rename.go,ZbT,hlt,hG,h0']
theorem Yf {L:List Blk} {b sz n:Nat} {c:Option Nat} {cs:List AV} {w:Bool} (x:Bool) (hL:Z4 H L) (e0 e1:Option Nat) (hc:clean H.length e1=true) (hb:H.length≤b) (hG:L[b]?=some (.cells cs w)) (hu:(cs.all fun c=>c.under H.length)=true) :
  finish 2 H.length e0 (.tup [.slice (some (b,0)) sz n c,.bool x]) ⟨L,e1⟩=some (.tup [.slice (some (H.length,0)) sz n c,.bool x],⟨H++[.cells cs w],e0⟩) :=
 ZDu (.bool x) (by simp [AV.roots]) (fun f=>by simp [AV.rename]) hL e0 e1 hc hb hG hu
theorem Zn0 {q:Nat} {c:Option Nat} {ss:List Sg} (h:Zb H q=some (Zr ss)) (hc:ZJ ss=true) (hm:ss.length≤1048576) (x:Int) (hx:Zom x=false):call T pr Zau [slS q ss.length c,.int .i64 x] ⟨H,e⟩=some (.tup [ZZ,.bool false],⟨H,e⟩):=by
 have h1:∀ L,Zb L q=some (Zr ss)→call T pr YN [slS q ss.length c] ⟨L,none⟩=some (.bool true,⟨L,none⟩):=fun L hL=>by have:=KH (pr:=pr) (e:=none) (c:=c) hL (by omega);rw [hc] at this;exact this
 have h3:∀ L,call T pr Zaf [.int .i64 x] ⟨L,none⟩=some (.bool false,⟨L,none⟩):=fun L=>by have:=ZiR (pr:=pr) (H:=L) (e:=none) x;unfold Zom at hx;rw [hx] at this;exact this
 apply Wc.eq
 rw [Zs Zld]
 simp (maxSteps:=2000000) +contextual only [KV,Zgl,Zc,h,h1,h3,pp,go_sem,reduceIte,Ra,Rb,Rc,Rd,ff]
theorem Zur {q:Nat} {c:Option Nat} {ss:List Sg} (h:Zb H q=some (Zr ss)) (hc:ZJ ss=true) (n:Nat) (hn:n≤1000000):Wc (call T pr Zau [slS q ss.length c,.int .i64 n] ⟨H,e⟩) (fun v m=>∃ (cap:Option Nat) (ps:List Ld),v=.tup [slL H.length (ss.length+1) cap,.bool true]∧m=⟨H++[.cells (Zm ps) true],e⟩∧ZA2 ss n ps):=by
 have hc':=hc
 unfold ZJ at hc'
 rw [Ru,decide_eq_true_eq] at hc'
 have hlen:=hc'.2
 have h1:∀ L,Zb L q=some (Zr ss)→call T pr YN [slS q ss.length c] ⟨L,none⟩=some (.bool true,⟨L,none⟩):=fun L hL=>by have:=KH (pr:=pr) (e:=none) (c:=c) hL (by omega);rw [hc] at this;exact this
 have h3:∀ L,call T pr Zaf [.int .i64 n] ⟨L,none⟩=some (.bool true,⟨L,none⟩):=fun L=>by
  have:=ZiR (pr:=pr) (H:=L) (e:=none) (n:Int)
  rw [decide_eq_true (by omega),decide_eq_true (by omega)] at this
  exact this
 obtain ⟨pa,pb⟩:=ZFW n ss hc'.1
 rw [Zs Zld]
 simp (maxSteps:=2000000) +contextual only [KV,Zgl,Zc,h,h1,h3,pp,go_sem,reduceIte,Ra,Rb,Rc,Rd]
 refine ZM (fun k st=>∃ (i a b j:Nat) (cc:Option Nat) (ps:List Ld) (G:List Blk) (w6 w7 w12:AV),i+k=ss.length∧a≤1000000*24 ^ i∧(0<b∧b≤48 ^ i)∧ZnA a b (ss.drop i)=ZnA n 1 ss∧ZnB a b (ss.drop i)=ZnB n 1 ss ∧
   (cc=some 0→ps.length=0)∧G[j]?=some (.cells (Zm ps) true)∧ps.length=i+1∧ps[i]?=some ((a:Int),(b:Int)) ∧
   st=⟨[slS q ss.length c,.int .i64 n,.slice none 0 0 none,.bool false,.ptr (some (H.length,0)),slL (H.length+(j+1)) (i+1) cc,w6,w7,.bool false,slS q ss.length c,.int .i64 ss.length,.int .i64 i,w12],⟨H++(.cells [.int .i64 a,.int .i64 b] true::G),none⟩⟩) ?_ ss.length _
  ⟨0,n,1,0,some 1,[((n:Int),1)],_,_,_,_,by omega,by simpa using hn,by decide,by rw [Rk],by rw [Rk],by simp,rfl,rfl,rfl,rfl⟩
 rintro k _ ⟨i,a,b,j,cc,ps,G,w6,w7,w12,hik,ha,hb,hpa,hpb,hcc,hG,hps,hlast,rfl⟩
 by_cases hk:k=0
 ·have he:i=ss.length:=by omega
  subst he
  rw [Rp] at hpa hpb
  simp only [ZnA,ZnB] at hpa hpb
  have hf:∀ (e0 e1:Option Nat),clean H.length e1=true→finish 2 H.length e0 (.tup [slL (H.length+(j+1)) (ss.length+1) cc,.bool true]) ⟨H++(.cells [.int .i64 a,.int .i64 b] true::G),e1⟩=some (.tup [slL H.length (ss.length+1) cc,.bool true],⟨H++[.cells (Zm ps) true],e0⟩):=fun e0 e1 hc=>
   Yf true ⟨_,rfl⟩ e0 e1 hc (by omega) (by rw [RN (by omega)];simpa using hG) (ZU _ _)
  simp (maxSteps:=2000000) +contextual only [Zdl,KV,Rh,decide_false,hf,Zo,pp,go_sem,reduceIte,Ra,Rb,Rc,Rd]
  exact ⟨cc,ps,rfl,rfl,hps,by rw [hlast,hpa,hpb,pa,pb];rfl⟩
 ·have hi':i<ss.length:=by omega
  have hl:ss[i]?=some ss[i]:=Rj hi'
  have hs:YJ ss[i]=true:=(WQ.mp hc'.1) _ (WC hi')
  rw [Rm hi'] at hpa hpb
  simp only [ZnA,ZnB] at hpa hpb
  generalize ss[i]=s at *
  obtain ⟨g1,g2,g3,g4,g5⟩:=ZF4 hs ha hb (by omega)
  have w1:IntKind.i64.wrap ((a:Int)*(gainB s:Int))=((a*gainB s:Nat):Int):=by rw [←RD];exact Ki (by omega)
  have w2:IntKind.i64.wrap ((b:Int)*(gainA s:Int))=((b*gainA s:Nat):Int):=by rw [←RD];exact Ki (by omega)
  have hf:=fun L=>KI (pr:=pr) (H:=L) (e:=none) (x:=a*gainB s) (y:=b*gainA s) g2 (by omega) (by omega)
  simp (maxSteps:=2000000) +contextual only [Zdl,Zc,Za h,hi',QH hl,Zlr s hs,Zbv,Zbw,Za7,Wd,RH,RI,Rr,Rq,w1,w2,hf,Zh (show i<9223372036854775807 by omega),decide_true,pp,go_sem,reduceIte,Ra,Rb,Rc,Rd]
  have f1:fracA (a*gainB s) (b*gainA s)≤a*gainB s:=Rt _ _
  have f2:=Zh6 (a*gainB s) (b*gainA s) g2
  have f3:fracB (a*gainB s) (b*gainA s)≤b*gainA s:=Rt _ _
  generalize fracA (a*gainB s) (b*gainA s)=a' at *
  generalize fracB (a*gainB s) (b*gainA s)=b' at *
  refine Zja (k:=1) (new:=[.int .i64 a',.int .i64 b']) (cs:=Zm ps) (by rw [RN (by omega)];simpa using Yv hG _) (Qk _ 1 2 _ _ (H.length+(G.length+2+1)) (by simp +contextual only [go_sem,reduceIte,Ra,Rb,Rc,Rd]) rfl) (by rw [Z9];omega) rfl (by unfold maxBytes;omega) (fun g=>by have:=hcc g;omega) ?_
  intro L2 e1 e2 e3 e4
  obtain ⟨G2,rfl⟩:=e4 (H++[.cells [.int .i64 a',.int .i64 b'] true]) ⟨_,List.append_cons _ _ _⟩ (by simp)
  rw [Zxq] at e3
  simp (maxSteps:=2000000) +contextual only [Zh (show i<9223372036854775807 by omega),pp,go_sem,reduceIte,Ra,Rb,Rc,Rd]
  have e3':G2[G.length+3]?=some (.cells (Zm (ps++[((a':Int),(b':Int))])) true):=by
   rw [RN (by simp)] at e3
   simp only [R3,Rl,RM] at e3
   rw [show H.length+(G.length+(0+1+1+1)+1) - (H.length+(0+1))=G.length+3 by omega] at e3
   exact e3
  have hla:(ps++[((a':Int),(b':Int))])[i+1]?=some ((a':Int),(b':Int)):=by
   rw [RN (by omega),hps]
   simp
  exact ⟨k - 1,by omega,i+1,a',b',G.length+3,none,ps++[((a':Int),(b':Int))],G2,_,_,_,by omega,WF f1 g1,⟨f2,WF f3 g3⟩,hpa,hpb,by simp,e3',by simp [hps],hla,rfl⟩
theorem Zn1 {q m:Nat} {c:Option Nat} {ss:List Sg} (h:Zb H q=some (Zr ss)) (hc:ZJ ss=true) (hm:m≤ss.length):call T pr Jg [slS q m c] ⟨H,e⟩=some (fvV (ZB 1 1 (ss.take m)) (ZC 1 1 (ss.take m)),⟨H,e⟩):=by
 have hc':=hc
 unfold ZJ at hc'
 rw [Ru,decide_eq_true_eq] at hc'
 apply Wc.eq
 rw [Zs Zpu]
 simp (maxSteps:=2000000) +contextual only [Zbp,ZjV,Zc,pp,go_sem,reduceIte,Ra,Rb,Rc,Rd]
 refine ZM (fun k st=>∃ (i P Q:Nat) (G:List Blk) (y4 y5:AV),i+k=m∧(0<P∧P≤48 ^ i)∧(0<Q∧Q≤24 ^ i)∧ZB P Q ((ss.take m).drop i)=ZB 1 1 (ss.take m)∧ZC P Q ((ss.take m).drop i)=ZC 1 1 (ss.take m) ∧
   st=⟨[slS q m c,.ptr (some (H.length,0)),.ptr (some (H.length+1,0)),.int .i64 i,y4,y5],⟨H++(.cells [.int .i64 0,.int .i64 0] true::.cells [.int .i64 P,.int .i64 Q] true::G),none⟩⟩) ?_ m _
  ⟨0,1,1,[],_,_,by omega,by decide,by decide,by rw [Rk],by rw [Rk],rfl⟩
 rintro k _ ⟨i,P,Q,G,y4,y5,hik,hP,hQ,hA,hB,rfl⟩
 have htl:(ss.take m).length=m:=by rw [Wn];omega
 by_cases hk:k=0
 ·have he:i=m:=by omega
  subst he
  rw [List.drop_eq_nil_of_le (by omega)] at hA hB
  simp only [ZB,ZC] at hA hB
  subst hA
  subst hB
  simp (maxSteps:=2000000) +contextual only [X2,Zbp,Rh,decide_false,pp,go_sem,reduceIte,Ra,Rb,Rc,Rd]
 ·have hi:i<ss.length:=by omega
  have him:i<m:=by omega
  have hl:ss[i]?=some ss[i]:=Rj hi
  have hs:YJ ss[i]=true:=(WQ.mp hc'.1) _ (WC hi)
  rw [Rm (by omega),List.getElem_take] at hA hB
  simp only [ZB,ZC] at hA hB
  generalize ss[i]=s at *
  obtain ⟨⟨g1,g2⟩,⟨g3,g4⟩,g5,g6⟩:=Zls hs hP hQ (by omega)
  obtain ⟨f1,f2,f3,f4⟩:=ZgB g1 g3
  have w1:IntKind.i64.wrap ((P:Int)*(gainA s:Int))=((P*gainA s:Nat):Int):=by rw [←RD];exact Ki (by omega)
  have w2:IntKind.i64.wrap ((Q:Int)*(gainB s:Int))=((Q*gainB s:Nat):Int):=by rw [←RD];exact Ki (by omega)
  have hf:=fun L=>Zfh (pr:=pr) (H:=L) (e:=none) (x:=P*gainA s) (y:=Q*gainB s) g3 (by omega) (by omega)
  simp (maxSteps:=2000000) +contextual only [X2,Za h,him,QH hl,Zsn s hs,Zbv,Zbw,Za7,Wd,RH,RI,Rr,Rq,w1,w2,hf,Zh (show i<9223372036854775807 by omega),decide_true,pp,go_sem,reduceIte,Ra,Rb,Rc,Rd]
  exact ⟨k - 1,by omega,i+1,_,_,_,_,_,by omega,⟨f1,by omega⟩,⟨f2,by omega⟩,hA,hB,rfl⟩
theorem Zn2 {q:Nat} {c:Option Nat} {ss:List Sg} (h:Zb H q=some (Zr ss)) (hc:ZJ ss=true) (hm:ss.length≤1048576) (x:Int) (hx:Zom x=false):∃ G cap,call T pr ZaC [slS q ss.length c,.int .i64 x] ⟨H,e⟩=some (.tup [.slice (some (H.length,0)) 2 0 cap,.bool false],⟨H++G,e⟩):=by
 have h1:∀ L,Zb L q=some (Zr ss)→call T pr QC [slS q ss.length c,.int .i64 x] ⟨L,none⟩=some (.bool false,⟨L,none⟩):=fun L hL=>by rw [←hx];exact Zqr hL hc hm x
 refine ⟨[.cells [] true],some 0,?_⟩
 apply Wc.eq
 rw [Zs Zlf]
 have hf:∀ (e0 e1:Option Nat) (cap:Option Nat),clean H.length e1=true→finish 2 H.length e0 (.tup [.slice (some (H.length,0)) 2 0 cap,.bool false]) ⟨H++[.cells [] true],e1⟩=some (.tup [.slice (some (H.length,0)) 2 0 cap,.bool false],⟨H++[.cells [] true],e0⟩) :=
  fun e0 e1 cap hc=>Yf false ⟨_,rfl⟩ e0 e1 hc (Rz _) (by rw [RN (by omega)];simp) rfl
 simp (maxSteps:=2000000) +contextual only [KZ,Zgr,Zc,h,h1,hf,Zo,pp,go_sem,reduceIte,Ra,Rb,Rc,Rd]
theorem Zus {q:Nat} {c:Option Nat} {ss:List Sg} (h:Zb H q=some (Zr ss)) (hc:ZJ ss=true) (n:Nat) (hn:n≤1000000):Wc (call T pr ZaC [slS q ss.length c,.int .i64 n] ⟨H,e⟩) (fun v m=>∃ (cap:Option Nat) (ps:List Ld),v=.tup [slL H.length (ss.length+1) cap,.bool true]∧m=⟨H++[.cells (Zm ps) true],e⟩∧ZA2 ss n ps):=by
 have hc':=hc
 unfold ZJ at hc'
 rw [Ru,decide_eq_true_eq] at hc'
 have hlen:=hc'.2
 have hx:Zom (n:Int)=true:=by unfold Zom;rw [decide_eq_true (by omega),decide_eq_true (by omega)];rfl
 have h1:∀ L,Zb L q=some (Zr ss)→call T pr QC [slS q ss.length c,.int .i64 n] ⟨L,none⟩=some (.bool true,⟨L,none⟩):=fun L hL=>by rw [←hx];exact Zqr hL hc (by omega) n
 rw [Zs Zlf]
 simp (maxSteps:=2000000) +contextual only [KZ,Zgr,Zc,h,h1,pp,go_sem,reduceIte,Ra,Rb,Rc,Rd]
 refine ZM (fun k st=>∃ (i b:Nat) (cc:Option Nat) (ps:List Ld) (L:List Blk) (w6 w7 w8:AV),i+k=ss.length∧Z4 H L∧H.length≤b∧(cc=some 0→ps.length=0)∧L[b]?=some (.cells (Zm ps) true)∧ps.length=i+1∧ps[i]?=some ((stepA (ss.take i) n:Int),(stepBW (ss.take i) n:Int)) ∧
   st=⟨[slS q ss.length c,.int .i64 n,ZZ,.bool false,slL b (i+1) cc,.int .i64 i,w6,w7,w8],⟨L,none⟩⟩) ?_ ss.length _
  ⟨0,_,some 1,[((n:Int),1)],_,_,_,_,by omega,⟨_,rfl⟩,Rz _,by simp,by rw [ZY];rfl,rfl,by simp [stepA,stepBW,ZB,ZC,fracA,fracB],rfl⟩
 rintro k _ ⟨i,b,cc,ps,L,w6,w7,w8,hik,hL,hb,hcc,hLb,hps,hlast,rfl⟩
 have hq:Zb L q=some (Zr ss):=by
  obtain ⟨G,rfl⟩:=hL
  exact Za h G
 by_cases hk:k=0
 ·have he:i=ss.length:=by omega
  subst he
  rw [Wl] at hlast
  have hf:∀ (e0 e1:Option Nat),clean H.length e1=true→finish 2 H.length e0 (.tup [slL b (ss.length+1) cc,.bool true]) ⟨L,e1⟩=some (.tup [slL H.length (ss.length+1) cc,.bool true],⟨H++[.cells (Zm ps) true],e0⟩):=fun e0 e1 hc=>
   Yf true hL e0 e1 hc hb hLb (ZU _ _)
  simp (maxSteps:=2000000) +contextual only [Zdr,KZ,Rh,decide_false,hf,Zo,pp,go_sem,reduceIte,Ra,Rb,Rc,Rd]
  exact ⟨cc,ps,rfl,rfl,hps,hlast⟩
 ·have hi':i<ss.length:=by omega
  have hall:(ss.take (i+1)).all YJ=true:=WQ.mpr fun s hs=>(WQ.mp hc'.1) s (List.mem_of_mem_take hs)
  have hck:ZJ (ss.take (i+1))=true:=by
   unfold ZJ
   rw [hall,decide_eq_true (by rw [Wn];omega)];rfl
  obtain ⟨a1,a2,b1,b2,_⟩:=Q9 hck n hn
  have hch:∀ L,Zb L q=some (Zr ss)→∀ cap,call T pr Jg [slS q (i+1) cap] ⟨L,none⟩=some (fvV (ZB 1 1 (ss.take (i+1))) (ZC 1 1 (ss.take (i+1))),⟨L,none⟩):=fun L hL cap=>Zn1 hL hc (by omega)
  have hnb:n*ZC 1 1 (ss.take (i+1))≤254803968000000:=WF (WU hn b2) (by decide)
  have w1:IntKind.i64.wrap ((n:Int)*(ZC 1 1 (ss.take (i+1)):Int))=((n*ZC 1 1 (ss.take (i+1)):Nat):Int):=by rw [←RD];exact Ki (by omega)
  have hf:=fun L=>Zfh (pr:=pr) (H:=L) (e:=none) (x:=n*ZC 1 1 (ss.take (i+1))) (y:=ZB 1 1 (ss.take (i+1))) a1 (by omega) (by omega)
  have hsw:=Zh (show i<9223372036854775807 by omega)
  have hle:i+1≤ss.length:=by omega
  have hsl:Zlx 3 (slS q ss.length c) (.int .i64 ((i+1:Nat):Int))=some (slS q (i+1) c):=Zkg 3 q 0 ss.length (i+1) c hle
  simp (maxSteps:=2000000) +contextual only [Zdr,Zc,hq,Za hq,hi',hsw,Zkf,hsl,hch,Zbv,Zbw,Za7,Wd,RH,RI,Rr,Rq,w1,hf,decide_true,pp,go_sem,reduceIte,Ra,Rb,Rc,Rd]
  have eA:fracA (n*ZC 1 1 (ss.take (i+1))) (ZB 1 1 (ss.take (i+1)))=stepA (ss.take (i+1)) n:=rfl
  have eB:fracB (n*ZC 1 1 (ss.take (i+1))) (ZB 1 1 (ss.take (i+1)))=stepBW (ss.take (i+1)) n:=rfl
  rw [eA,eB]
  refine Zja (k:=1) (new:=[.int .i64 (stepA (ss.take (i+1)) n:Nat),.int .i64 (stepBW (ss.take (i+1)) n:Nat)]) (cs:=Zm ps) (Yv hLb _) (Qk _ 1 2 _ _ (L.length+1) (by simp +contextual only [go_sem,reduceIte,Ra,Rb,Rc,Rd]) rfl) (by rw [Z9];omega) rfl (by unfold maxBytes;omega) (fun g=>by have:=hcc g;omega) ?_
  intro L2 e1 e2 e3 e4
  rw [Zxq] at e3
  simp (maxSteps:=2000000) +contextual only [hsw,pp,go_sem,reduceIte,Ra,Rb,Rc,Rd]
  have hla:(ps++[((stepA (ss.take (i+1)) n:Int),(stepBW (ss.take (i+1)) n:Int))])[i+1]?=some ((stepA (ss.take (i+1)) n:Int),(stepBW (ss.take (i+1)) n:Int)):=by
   rw [RN (by omega),hps]
   simp
  exact ⟨k - 1,by omega,i+1,_,none,_,L2,_,_,_,by omega,e4 _ (hL.more _) hb,by have:=hL.le;simp;omega,by simp,by simpa using e3,by simp [hps],hla,rfl⟩
def XD:Nat→List (List Int)
 | 0=>[[]]
 | n+1=>[-1,0,1].flatMap fun s=>(XD n).map (s :: ·)
theorem Zxr:∀ n,(XD n).flatMap (fun l=>[l++[-1],l++[0],l++[1]])=XD (n+1)
 | 0=>rfl
 | n+1=>by
  have ih:=Zxr n
  conv=>lhs;rw [XD]
  conv=>rhs;rw [XD]
  rw [List.flatMap_assoc]
  congr 1;funext s
  rw [List.flatMap_map,←ih,List.map_flatMap]
  rfl
theorem Zi1:∀ n,∀ l∈XD n,l.length=n∧∀ x∈l,x = -1∨x=0∨x=1
 | 0,l,h=>by
  simp only [XD,List.mem_singleton] at h
  subst h
  simp
 | n+1,l,h=>by
  simp only [XD,WV,Wg] at h
  obtain ⟨s,hs,t,ht,rfl⟩:=h
  obtain ⟨h1,h2⟩:=Zi1 n t ht
  refine ⟨by simp [h1],fun x hx => ?_⟩
  rcases List.mem_cons.mp hx with rfl | hx
  ·simpa using hs
  ·exact h2 x hx
def dotZ:List Int→List Int→Int
 | w::k,s::l=>w*s+dotZ k l
 | _,_=>0
def usedZ (l:List Int):Int:=((l.filter fun s=>decide (s≠0)).length:Nat)
def sqZ:List Int→Int
 | []=>0
 | s::l=>s*s+sqZ l
theorem Zut:∀ (l:List Int),(∀ x∈l,x = -1∨x=0∨x=1)→sqZ l=usedZ l
 | [],_=>rfl
 | s::l,h=>by
  have ih:=Zut l fun x hx=>h x (Wu _ hx)
  rcases h s Wf with rfl | rfl | rfl <;> simp [sqZ,ih,usedZ,Int.add_comm]
theorem Zuu (l:List Int):0≤usedZ l∧usedZ l≤l.length:=by
 have:=WG (fun s:Int=>decide (s≠0)) l
 unfold usedZ
 omega
def ZdK (kit:List Int) (n:Int) (best l:List Int):List Int:=if dotZ kit l=n∧(best.length=0∨usedZ l<usedZ best) then l else best
def ZdL (kit:List Int) (n:Int) (p:List Int×Int) (l:List Int):List Int×Int:=if dotZ kit l=n∧sqZ l<p.2 then (l,sqZ l) else p
theorem Zic (kit:List Int) (n:Int) (k:Nat) (hk:0<k):∀ (L:List (List Int)),(∀ l∈L,l.length=k∧∀ x∈l,x = -1∨x=0∨x=1)→∀ (best:List Int) (few:Int),
  (best=[]∧few=k+1∨best≠[]∧few=usedZ best)→(L.foldl (ZdL kit n) (best,few)).1=L.foldl (ZdK kit n) best
 | [],_,best,few,_=>rfl
 | l::L,hL,best,few,hb=>by
  obtain ⟨h1,h2⟩:=hL l Wf
  have hsq:=Zut l h2
  have hle:=Zuu l
  simp only [List.foldl_cons]
  have hl0:l≠[]:=by intro h;subst h;simp at h1;omega
  by_cases hd:dotZ kit l=n
  ·rcases hb with ⟨rfl,rfl⟩|⟨hb1,rfl⟩
   ·have e1:ZdL kit n ([],(k:Int)+1) l=(l,usedZ l):=by
     unfold ZdL;rw [if_pos ⟨hd,by show sqZ l<(k:Int)+1;omega⟩,hsq]
    have e2:ZdK kit n [] l=l:=by unfold ZdK;rw [if_pos ⟨hd,.inl rfl⟩]
    rw [e1,e2]
    exact Zic kit n k hk L (fun x hx=>hL x (Wu _ hx)) l (usedZ l) (.inr ⟨hl0,rfl⟩)
   ·have hbl:best.length≠0:=by simpa using hb1
    by_cases hu:usedZ l<usedZ best
    ·have e1:ZdL kit n (best,usedZ best) l=(l,usedZ l):=by
      unfold ZdL;rw [if_pos ⟨hd,by show sqZ l<usedZ best;omega⟩,hsq]
     have e2:ZdK kit n best l=l:=by unfold ZdK;rw [if_pos ⟨hd,.inr hu⟩]
     rw [e1,e2]
     exact Zic kit n k hk L (fun x hx=>hL x (Wu _ hx)) l (usedZ l) (.inr ⟨hl0,rfl⟩)
    ·have e1:ZdL kit n (best,usedZ best) l=(best,usedZ best):=by
      unfold ZdL;rw [if_neg];rintro ⟨_,h⟩;have h:sqZ l<usedZ best:=h;omega
     have e2:ZdK kit n best l=best:=by unfold ZdK;rw [if_neg];rintro ⟨_,h | h⟩;exact hbl h;exact hu h
     rw [e1,e2]
     exact Zic kit n k hk L (fun x hx=>hL x (Wu _ hx)) best (usedZ best) (.inr ⟨hb1,rfl⟩)
  ·have e1:ZdL kit n (best,few) l=(best,few):=by unfold ZdL;rw [if_neg];rintro ⟨h,_⟩;exact hd h
   have e2:ZdK kit n best l=best:=by unfold ZdK;rw [if_neg];rintro ⟨h,_⟩;exact hd h
   rw [e1,e2]
   exact Zic kit n k hk L (fun x hx=>hL x (Wu _ hx)) best few hb
def ZDv:Int→List Int→Int
 | r,[]=>r
 | r,n::l=>if n=r+1 then ZDv n l else r
theorem Zqs:∀ (L:List Int) (r:Int),L.Pairwise (· < ·)→(∀ x∈L,r<x)→r≤ZDv r L∧(∀ i,r<i→i≤ZDv r L→i∈L)∧ZDv r L+1 ∉ L
 | [],r,_,_=>⟨Wd _,fun i h1 h2=>by simp only [ZDv] at h2;omega,by simp⟩
 | n::L,r,hp,hr=>by
  obtain ⟨hp1,hp2⟩:=List.pairwise_cons.mp hp
  have hn:=hr n Wf
  unfold ZDv
  split
  ·rename_i e
   obtain ⟨g1,g2,g3⟩:=Zqs L n hp2 hp1
   refine ⟨by omega,fun i h1 h2 => ?_,?_⟩
   ·by_cases hi:i=n
    ·subst hi;exact Wf
    ·exact Wu _ (g2 i (by omega) h2)
   ·intro h
    rcases List.mem_cons.mp h with h | h
    ·omega
    ·exact g3 h
  ·rename_i e
   refine ⟨Wd _,fun i h1 h2=>by omega,fun h => ?_⟩
   rcases List.mem_cons.mp h with h | h
   ·omega
   ·have:=hp1 _ h;omega
theorem ZHu {R:Int→Prop} {a b:Int} (ha:0≤a) (hb:0≤b) (h1:∀ i,0<i→i≤a→R i) (h2:¬ R (a+1)) (h3:∀ i,0<i→i≤b→R i) (h4:¬ R (b+1)):a=b:=by
 rcases Int.lt_trichotomy a b with h | h | h
 ·exact absurd (h3 (a+1) (by omega) (by omega)) h2
 ·exact h
 ·exact absurd (h1 (b+1) (by omega) (by omega)) h4
def ZxQ (f:Nat→Bool) (i:Nat):Nat→Bool:=fun x=>if x=i then true else f x
def Zkq (now:Nat→Bool) (w T2:Nat):Nat→Nat→Bool
 | 0=>fun _=>false
 | k+1=>if now k then ZxQ (ZxQ (ZxQ (Zkq now w T2 k) k) (min (k+w) T2)) (k - w) else Zkq now w T2 k
theorem Zxs (now:Nat→Bool) (w T2:Nat):∀ k x,Zkq now w T2 k x=true↔∃ s,s<k∧now s=true∧(x=s∨x=min (s+w) T2∨x=s - w)
 | 0,x=>by simp [Zkq]
 | k+1,x=>by
  have ih:=Zxs now w T2 k x
  have key:(∃ s,s<k+1∧now s=true∧(x=s∨x=min (s+w) T2∨x=s - w))↔(∃ s,s<k∧now s=true∧(x=s∨x=min (s+w) T2∨x=s - w))∨(now k=true∧(x=k∨x=min (k+w) T2∨x=k - w)):=by
   constructor
   ·rintro ⟨s,h1,h2⟩
    by_cases hs:s=k
    ·subst hs;exact .inr h2
    ·exact .inl ⟨s,by omega,h2⟩
   ·rintro (⟨s,h1,h2⟩ | h2)
    ·exact ⟨s,by omega,h2⟩
    ·exact ⟨k,by omega,h2⟩
  rw [key,←ih]
  have hs:Zkq now w T2 (k+1)=if now k then ZxQ (ZxQ (ZxQ (Zkq now w T2 k) k) (min (k+w) T2)) (k - w) else Zkq now w T2 k:=rfl
  rw [hs]
  clear key ih hs
  generalize Zkq now w T2 k=g
  generalize min (k+w) T2=u
  generalize k - w=v
  cases hk:now k with
  | false=>simp
  | true=>
   simp only [if_true,true_and]
   unfold ZxQ
   by_cases e1:x=v
   ·simp [e1]
   ·by_cases e2:x=u
    ·simp [e1,e2]
    ·by_cases e3:x=k
     ·simp [e3]
     ·simp [e1,e2,e3]
def ZH5 (T:Nat):(Nat→Bool)→List Int→Nat→Bool
 | f,[]=>f
 | f,w::k=>ZH5 T (Zkq f w.toNat (2*T) (2*T+1)) k
def sumK:List Int→Int
 | []=>0
 | w::k=>w+sumK k
theorem ZA3 (T:Nat):∀ (kit:List Int) (f:Nat→Bool) (P:Int→Prop) (A:Int),(∀ w∈kit,0≤w)→(∀ s:Nat,f s=true↔∃ q,P q∧(s:Int)=T+q)→(∀ q,P q → -A≤q∧q≤A)→A+sumK kit≤T →
  ∀ s:Nat,ZH5 T f kit s=true↔∃ q l,P q∧l∈XD kit.length∧(s:Int)=T+(q+dotZ kit l)
 | [],f,P,A,_,hf,hP,_,s=>by
  simp only [ZH5,hf,RM,XD,List.mem_singleton]
  constructor
  ·rintro ⟨q,h1,h2⟩;exact ⟨q,[],h1,rfl,by simp [dotZ];omega⟩
  ·rintro ⟨q,l,h1,rfl,h2⟩;exact ⟨q,h1,by simp [dotZ] at h2;omega⟩
 | w::kit,f,P,A,hw,hf,hP,hA,s=>by
  have hw0:=hw w Wf
  obtain ⟨v,rfl⟩:∃ v:Nat,w=v:=⟨w.toNat,by omega⟩
  have hA':A+v+sumK kit≤T:=by simp only [sumK] at hA;omega
  have hs0:0≤sumK kit:=by
   have:∀ (k:List Int),(∀ w∈k,0≤w)→0≤sumK k:=by
    intro k
    induction k with
    | nil=>intro _;simp [sumK]
    | cons a k ih=>
     intro h
     have h1:=h a Wf
     have h2:=ih fun x hx=>h x (Wu _ hx)
     simp only [sumK];omega
   exact this kit fun x hx=>hw x (Wu _ hx)
  have ih:=ZA3 T kit (Zkq f v (2*T) (2*T+1)) (fun q'=>∃ q g,P q∧(g = -1∨g=0∨g=1)∧q'=q+v*g) (A+v) (fun x hx=>hw x (Wu _ hx))
   (fun x=>by
    rw [Zxs]
    constructor
    ·rintro ⟨s,h1,h2,h3⟩
     obtain ⟨q,hq,hs⟩:=(hf s).mp h2
     have hq':=hP q hq
     rcases h3 with rfl | rfl | rfl
     ·exact ⟨q,⟨q,0,hq,by simp,by simp⟩,hs⟩
     ·exact ⟨q+v,⟨q,1,hq,by simp,by simp⟩,by omega⟩
     ·exact ⟨q - v,⟨q,-1,hq,by simp,by omega⟩,by omega⟩
    ·rintro ⟨q',⟨q,g,hq,hg,rfl⟩,hs⟩
     have hq':=hP q hq
     refine ⟨(T+q).toNat,by omega,(hf _).mpr ⟨q,hq,by omega⟩,?_⟩
     rcases hg with rfl | rfl | rfl
     ·right;right;omega
     ·left;omega
     ·right;left;omega)
   (fun q'=>by
    rintro ⟨q,g,hq,hg,rfl⟩
    have hq':=hP q hq
    rcases hg with rfl | rfl | rfl <;> omega) hA' s
  simp only [ZH5,RC,ih,Rl,XD,WV,Wg]
  constructor
  ·rintro ⟨q',l,⟨q,g,hq,hg,rfl⟩,hl,hs⟩
   exact ⟨q,g::l,hq,⟨g,by simpa using hg,l,hl,rfl⟩,by simp only [dotZ];omega⟩
  ·rintro ⟨q,_,hq,⟨g,hg,l,hl,rfl⟩,hs⟩
   exact ⟨q+v*g,l,⟨q,g,hq,by simpa using hg,rfl⟩,hl,by simp only [dotZ] at hs;omega⟩
theorem ZAc:∀ (kit l:List Int),(∀ w∈kit,0≤w)→(∀ x∈l,x = -1∨x=0∨x=1) → -sumK kit≤dotZ kit l∧dotZ kit l≤sumK kit
 | [],l,_,_=>by simp [sumK,dotZ]
 | w::k,[],hw,_=>by
  have h0:=ZAc k [] (fun x hx=>hw x (Wu _ hx)) (by simp)
  have h1:=hw w Wf
  have e:dotZ k []=0:=by cases k <;> rfl
  rw [e] at h0
  simp only [dotZ,sumK];omega
 | w::k,s::l,hw,hl=>by
  have h0:=ZAc k l (fun x hx=>hw x (Wu _ hx)) (fun x hx=>hl x (Wu _ hx))
  have h1:=hw w Wf
  rcases hl s Wf with rfl | rfl | rfl <;> simp only [dotZ,sumK] <;> omega
theorem Zqt (zs:List Int) (x:Int):x∈Lib.compact zs↔x∈zs:=by
 have key:∀ m,m≤zs.length→(x∈Lib.compactUpTo zs.toArray m↔∃ j,j<m∧zs.toArray[j]! = x):=by
  intro m
  induction m with
  | zero=>intro _;simp [Lib.compactUpTo]
  | succ m ih=>
   intro hm
   rw [Lib.compactUpTo_succ,List.mem_append,ih (by omega)]
   constructor
   ·rintro (⟨j,h1,h2⟩ | h)
    ·exact ⟨j,by omega,h2⟩
    ·split at h
     ·simp only [List.mem_singleton] at h
      exact ⟨m,by omega,h.symm⟩
     ·simp at h
   ·rintro ⟨j,h1,h2⟩
    by_cases hj:j=m
    ·subst hj
     by_cases hk:Lib.keeps zs.toArray j=true
     ·right;rw [if_pos hk];simp [h2]
     ·left
      have:¬ (j=0∨zs.toArray[j]! ≠ zs.toArray[j - 1]!):=by
       intro h;apply hk;simp only [Lib.keeps,decide_eq_true_eq];exact h
      have h0:j≠0:=fun h=>this (.inl h)
      have h3:zs.toArray[j]! = zs.toArray[j - 1]! := by
       by_cases h:zs.toArray[j]! = zs.toArray[j - 1]!
       ·exact h
       ·exact absurd (.inr h) this
      exact ⟨j - 1,by omega,by rw [←h3,h2]⟩
    ·left;exact ⟨j,by omega,h2⟩
 unfold Lib.compact
 rw [key _ (Rz _),List.mem_iff_getElem]
 constructor
 ·rintro ⟨j,h1,h2⟩
  exact ⟨j,h1,by simpa [h1] using h2⟩
 ·rintro ⟨j,h1,h2⟩
  exact ⟨j,h1,by simpa [h1] using h2⟩
theorem ZrH (zs:List Int) (h:zs.Pairwise (· ≤ ·)):(Lib.compact zs).Pairwise (· < ·):=by
 have mono:∀ i j,i≤j→j<zs.length→zs.toArray[i]! ≤ zs.toArray[j]! := by
  intro i j hij hj
  by_cases e:i=j
  ·subst e;exact Wd _
  ·have:=List.pairwise_iff_getElem.mp h i j (by omega) hj (by omega)
   simpa [show i<zs.length by omega,hj] using this
 unfold Lib.compact Lib.compactUpTo
 rw [List.pairwise_map,List.pairwise_filter]
 refine List.Pairwise.imp_of_mem ?_ (List.pairwise_lt_range (n:=zs.length))
 intro a b ha hb hab hka hkb
 have hb':=List.mem_range.mp hb
 simp only [Lib.keeps,decide_eq_true_eq] at hkb
 have h1:=mono a (b - 1) (by omega) (by omega)
 have h2:=mono (b - 1) b (by omega) hb'
 rcases hkb with h3 | h3
 ·omega
 ·omega
def Zon (x:Int):Bool:=decide (1≤x)&&decide (x≤99)
def Zqu:Int→List Int→Bool
 | _,[]=>true
 | p,w::k=>Zon w&&(decide (p≤w)&&Zqu w k)
def Zcj (k:List Int):Bool:=Zqu 0 k&&(decide ((1:Int)≤(k.length:Nat))&&decide (((k.length:Nat):Int)≤6))
def Zhg (k:List Int) (i:Nat):Int:=if i=0 then 0 else k.getD (i - 1) 0
theorem Zi2 (k:List Int) (i:Nat) (x:Int) (h:k[i]?=some x):Zhg k (i+1)=x:=by
 unfold Zhg
 simp [WR,h]
theorem Zck {w p:Int} {k:List Int} (h:(Zon w&&decide (p≤w))=false):Zqu p (w::k)=false:=by
 unfold Zqu
 rw [←Bool.and_assoc,h];rfl
theorem ZeC {w p:Int} {k:List Int} (h:(Zon w&&decide (p≤w))=true):Zqu p (w::k)=Zqu w k:=by
 conv=>lhs;unfold Zqu
 rw [←Bool.and_assoc,h];rfl
theorem ZF5 {q:Nat} {cap:Option Nat} {k:List Int} (h:Zb H q=some (ZR k)) (hn:k.length≤1000000):call T pr Zat [slI q k.length cap] ⟨H,e⟩=some (.bool (Zcj k),⟨H,e⟩):=by
 have hw:∀ L x,call T pr Ku [.int .i64 x] ⟨L,none⟩=some (.bool (Zon x),⟨L,none⟩):=fun L x=>ZhO x
 have h16:=fun L=>Yd (pr:=pr) (H:=L) (e:=none) ((k.length:Nat):Int) 1 6
 apply Wc.eq
 rw [Zs Zvp]
 simp (maxSteps:=2000000) +contextual only [Jx,Zpb,pp,go_sem,reduceIte,Ra,Rb,Rc,Rd]
 refine ZM (fun j st=>∃ (i:Nat) (w2 w3 w7 w8:AV),i+j=k.length∧Zqu (Zhg k i) (k.drop i)=Zqu 0 k ∧
  st=⟨[slI q k.length cap,.bool false,w2,w3,slI q k.length cap,.int .i64 k.length,.int .i64 i,w7,w8],⟨H,none⟩⟩) ?_ k.length _ ⟨0,_,_,_,_,by omega,rfl,rfl⟩
 rintro j _ ⟨i,w2,w3,w7,w8,hij,hk,rfl⟩
 by_cases hj:j=0
 ·have he:i=k.length:=by omega
  subst he
  rw [Rp] at hk
  unfold Zcj
  rw [←hk]
  simp (maxSteps:=2000000) +contextual only [YO,Jx,Rh,decide_false,h16,Zqu,Bool.true_and,pp,go_sem,reduceIte,Ra,Rb,Rc,Rd]
 ·have hi:i<k.length:=by omega
  have hl:k[i]?=some k[i]:=Rj hi
  rw [Rm hi] at hk
  have hps:=Zi2 k i k[i] hl
  generalize k[i]=x at *
  have hsw:=Zh (show i<9223372036854775807 by omega)
  by_cases h0:i=0
  ·have hp:Zhg k i=0:=by rw [h0];rfl
   have hi0:¬ (0:Int)<(i:Int):=by omega
   rw [hp] at hk
   cases hx:Zon x with
   | false=>
    rw [Zck (by rw [hx];rfl)] at hk
    unfold Zcj
    rw [←hk]
    simp (maxSteps:=2000000) +contextual only [YO,Jx,hi,h,Zu _ hl,hw,hx,hi0,gt_iff_lt,decide_true,decide_false,RU,pp,go_sem,reduceIte,Ra,Rb,Rc,Rd]
   | true=>
    have hx':(Zon x&&decide (0≤x))=true:=by
     rw [hx]
     unfold Zon at hx
     simp only [Ru,decide_eq_true_eq] at hx
     simp;omega
    rw [ZeC hx',←hps] at hk
    simp (maxSteps:=2000000) +contextual only [YO,hi,h,Zu _ hl,hw,hx,hi0,gt_iff_lt,hsw,decide_true,decide_false,pp,go_sem,reduceIte,Ra,Rb,Rc,Rd]
    exact ⟨j - 1,by omega,i+1,_,_,_,_,by omega,hk,rfl⟩
  ·have hip:(0:Int)<(i:Int):=by omega
   have hl1:k[i - 1]?=some k[i - 1]:=Rj (by omega)
   have hp:Zhg k i=k[i - 1]:=by
    unfold Zhg
    rw [if_neg h0,WR,hl1];rfl
   have hwi:IntKind.i64.wrap ((i:Int) - 1)=((i - 1:Nat):Int):=by rw [ZP (by omega) (by omega)];omega
   have hi1:i - 1<k.length:=by omega
   rw [hp] at hk
   generalize k[i - 1]=p at *
   cases hx:Zon x with
   | false=>
    rw [Zck (by rw [hx];rfl)] at hk
    unfold Zcj
    rw [←hk]
    simp (maxSteps:=2000000) +contextual only [YO,Jx,hi,h,Zu _ hl,hw,hx,hip,gt_iff_lt,decide_true,decide_false,RU,pp,go_sem,reduceIte,Ra,Rb,Rc,Rd]
   | true=>
    by_cases hxp:x<p
    ·rw [Zck (by rw [hx,decide_eq_false (by omega)];rfl)] at hk
     unfold Zcj
     rw [←hk]
     simp (maxSteps:=2000000) +contextual only [YO,Jx,hi,hi1,h,Zu _ hl,Zu _ hl1,hw,hx,hip,hwi,hxp,gt_iff_lt,decide_true,decide_false,RU,pp,go_sem,reduceIte,Ra,Rb,Rc,Rd]
    ·rw [ZeC (by rw [hx,decide_eq_true (by omega)];rfl),←hps] at hk
     simp (maxSteps:=2000000) +contextual only [YO,hi,hi1,h,Zu _ hl,Zu _ hl1,hw,hx,hip,hwi,hxp,gt_iff_lt,hsw,decide_true,decide_false,pp,go_sem,reduceIte,Ra,Rb,Rc,Rd]
     exact ⟨j - 1,by omega,i+1,_,_,_,_,by omega,hk,rfl⟩
theorem ZF6 {q:Nat} {cap:Option Nat} {k:List Int} (h:Zb H q=some (ZR k)) (hn:k.length≤1000000):call T pr ZaA [slI q k.length cap] ⟨H,e⟩=some (.bool (Zcj k),⟨H,e⟩):=by
 have hw:∀ L x,call T pr YT [.int .i64 x,.int .i64 1,.int .i64 99] ⟨L,none⟩=some (.bool (Zon x),⟨L,none⟩):=fun L x=>Ye x 1 99
 have h16:=fun L=>Ye (pr:=pr) (H:=L) (e:=none) ((k.length:Nat):Int) 1 6
 apply Wc.eq
 rw [Zs Zvz]
 simp (maxSteps:=2000000) +contextual only [JA,Zpg,pp,go_sem,reduceIte,Ra,Rb,Rc,Rd]
 refine ZM (fun j st=>∃ (i:Nat) (w3 w4:AV),i+j=k.length∧Zqu (Zhg k i) (k.drop i)=Zqu 0 k ∧
  st=⟨[slI q k.length cap,.bool false,.int .i64 i,w3,w4],⟨H,none⟩⟩) ?_ k.length _ ⟨0,_,_,by omega,rfl,rfl⟩
 rintro j _ ⟨i,w3,w4,hij,hk,rfl⟩
 by_cases hj:j=0
 ·have he:i=k.length:=by omega
  subst he
  rw [Rp] at hk
  unfold Zcj
  rw [←hk]
  simp (maxSteps:=2000000) +contextual only [YR,JA,Rh,decide_false,h16,Zqu,Bool.true_and,pp,go_sem,reduceIte,Ra,Rb,Rc,Rd]
 ·have hi:i<k.length:=by omega
  have hl:k[i]?=some k[i]:=Rj hi
  rw [Rm hi] at hk
  have hps:=Zi2 k i k[i] hl
  generalize k[i]=x at *
  have hsw:=Zh (show i<9223372036854775807 by omega)
  by_cases h0:i=0
  ·have hp:Zhg k i=0:=by rw [h0];rfl
   have hi0:¬ (0:Int)<(i:Int):=by omega
   rw [hp] at hk
   cases hx:Zon x with
   | false=>
    rw [Zck (by rw [hx];rfl)] at hk
    unfold Zcj
    rw [←hk]
    simp (maxSteps:=2000000) +contextual only [YR,JA,hi,h,Zu _ hl,hw,hx,hi0,gt_iff_lt,decide_true,decide_false,RU,pp,go_sem,reduceIte,Ra,Rb,Rc,Rd]
   | true=>
    have hx':(Zon x&&decide (0≤x))=true:=by
     rw [hx]
     unfold Zon at hx
     simp only [Ru,decide_eq_true_eq] at hx
     simp;omega
    rw [ZeC hx',←hps] at hk
    simp (maxSteps:=2000000) +contextual only [YR,hi,h,Zu _ hl,hw,hx,hi0,gt_iff_lt,hsw,decide_true,decide_false,pp,go_sem,reduceIte,Ra,Rb,Rc,Rd]
    exact ⟨j - 1,by omega,i+1,_,_,by omega,hk,rfl⟩
  ·have hip:(0:Int)<(i:Int):=by omega
   have hl1:k[i - 1]?=some k[i - 1]:=Rj (by omega)
   have hp:Zhg k i=k[i - 1]:=by
    unfold Zhg
    rw [if_neg h0,WR,hl1];rfl
   have hwi:IntKind.i64.wrap ((i:Int) - 1)=((i - 1:Nat):Int):=by rw [ZP (by omega) (by omega)];omega
   have hi1:i - 1<k.length:=by omega
   rw [hp] at hk
   generalize k[i - 1]=p at *
   cases hx:Zon x with
   | false=>
    rw [Zck (by rw [hx];rfl)] at hk
    unfold Zcj
    rw [←hk]
    simp (maxSteps:=2000000) +contextual only [YR,JA,hi,h,Zu _ hl,hw,hx,hip,gt_iff_lt,decide_true,decide_false,RU,pp,go_sem,reduceIte,Ra,Rb,Rc,Rd]
   | true=>
    by_cases hxp:x<p
    ·rw [Zck (by rw [hx,decide_eq_false (by omega)];rfl)] at hk
     unfold Zcj
     rw [←hk]
     simp (maxSteps:=2000000) +contextual only [YR,JA,hi,hi1,h,Zu _ hl,Zu _ hl1,hw,hx,hip,hwi,hxp,gt_iff_lt,decide_true,decide_false,RU,pp,go_sem,reduceIte,Ra,Rb,Rc,Rd]
    ·rw [ZeC (by rw [hx,decide_eq_true (by omega)];rfl),←hps] at hk
     simp (maxSteps:=2000000) +contextual only [YR,hi,hi1,h,Zu _ hl,Zu _ hl1,hw,hx,hip,hwi,hxp,gt_iff_lt,hsw,decide_true,decide_false,pp,go_sem,reduceIte,Ra,Rb,Rc,Rd]
     exact ⟨j - 1,by omega,i+1,_,_,by omega,hk,rfl⟩
structure ZDO (b0 q n:Nat) (cap:Option Nat) (kit:List Int) (g:FuncId) (caps:List AV) (sg:List Int) (L:List Blk):Prop where
 kc:Zb L q=some (ZR kit)
 k0:L[b0]?=some (.cells [slI q n cap] true)
 k1:L[b0+1]?=some (.cells [.int .i64 (-1)] true)
 k2:L[b0+2]?=some (.cells [.fn g [] caps] true)
 k3:L[b0+3]?=some (.cells (ZR sg) true)
 k4:L[b0+4]?=some (.cells [slI (b0+3) n (some n)] true)
 k5:L[b0+5]?=some (.cells [.fn YA [] [.ptr (some (b0,0)),.ptr (some (b0+2,0)),.ptr (some (b0+4,0)),.ptr (some (b0+1,0)),.ptr (some (b0+5,0))]] true)
 len:sg.length=n
 kl:kit.length=n
 ql:q<b0
theorem ZDO.put {b0 q n:Nat} {cap:Option Nat} {kit:List Int} {g:FuncId} {caps:List AV} {sg:List Int} {L:List Blk} (h:ZDO b0 q n cap kit g caps sg L) (sg':List Int) (hl:sg'.length=n):ZDO b0 q n cap kit g caps sg' (L.set (b0+3) (.cells (ZR sg') true)):=by
 have hlt:b0+3<L.length:=(RB.mp h.k3).1
 have hq:=h.ql
 refine ⟨?_,?_,?_,?_,?_,?_,?_,hl,h.kl,hq⟩
 ·have:=h.kc
  unfold Zb at this ⊢
  rw [WA (by omega)]
  exact this
 ·rw [WA (by omega)];exact h.k0
 ·rw [WA (by omega)];exact h.k1
 ·rw [WA (by omega)];exact h.k2
 ·rw [WL hlt]
 ·rw [WA (by omega)];exact h.k4
 ·rw [WA (by omega)];exact h.k5
def ZIE (pr:Zy) (b0 q n B:Nat) (cap:Option Nat) (kit:List Int) (g:FuncId) (caps:List AV) (Inv:List (List Int)→List Blk→Prop):Prop :=
 ∀ (L:List Blk) (sg:List Int) (e:Option Nat) (done:List (List Int)),ZDO b0 q n cap kit g caps sg L→Inv done L→done.length<3 ^ n→Wc (call T pr g ([slI (b0+3) n (some n),.int .i64 (dotZ kit sg)]++caps) ⟨L,e⟩)
  (fun v m=>v=.tup []∧∃ L' e',m=⟨L',e'⟩∧ZDO b0 q n cap kit g caps sg L'∧Inv (done++[sg]) L'∧(clean B e=true→clean B e'=true))
theorem ZlN:∀ (kit sg:List Int) (i:Nat) (w s:Int),kit[i]?=some w→sg.length=i→dotZ kit (sg++[s])=dotZ kit sg+w*s
 | [],_,_,_,_,h,_=>by simp at h
 | w0::kit,[],i,w,s,h,hl=>by
  simp only [RM] at hl
  subst hl
  simp only [List.getElem?_cons_zero,RV] at h
  subst h
  have:dotZ kit []=0:=by cases kit <;> rfl
  simp [dotZ,this]
 | w0::kit,s0::sg,i,w,s,h,hl=>by
  cases i with
  | zero=>simp at hl
  | succ i=>
   have ih:=ZlN kit sg i w s (by simpa using h) (by simpa using hl)
   simp only [List.cons_append,dotZ,ih]
   omega
theorem ZlO (sg:List Int) (i:Nat) (s:Int) (h:i<sg.length):(sg.set i s).take (i+1)=sg.take i++[s]:=by
 rw [RL (by simpa using h),List.take_set_of_le (Rz _)]
 simp
theorem Yl {B:Nat}:∀ {a b:Option Nat},clean B a=true→clean B b=true→clean B (joinEsc a b)=true
 | none,none,_,_=>rfl
 | none,some b,_,h=>h
 | some a,none,h,_=>h
 | some a,some b,h1,h2=>by
  rw [Zaj,decide_eq_true_eq] at h1 h2
  show clean B (some (min a b))=true
  rw [Zaj,decide_eq_true_eq]
  omega
theorem Zid:∀ (kit sg:List Int),(∀ w∈kit,0≤w∧w≤99)→(∀ x∈sg,x = -1∨x=0∨x=1) → -(99*(kit.length:Int))≤dotZ kit sg∧dotZ kit sg≤99*(kit.length:Int)
 | [],sg,_,_=>by simp [dotZ]
 | w::k,[],hk,_=>by
  simp only [dotZ,Rl];omega
 | w::k,s::sg,hk,hs=>by
  have ih:=Zid k sg (fun x hx=>hk x (Wu _ hx)) (fun x hx=>hs x (Wu _ hx))
  have h1:=hk w Wf
  rcases hs s Wf with rfl | rfl | rfl <;> simp only [dotZ,Rl] <;> omega
theorem Zbz:∀ d,(XD d).length=3 ^ d
 | 0=>rfl
 | d+1=>by
  have ih:=Zbz d
  simp only [XD,List.flatMap_cons,List.flatMap_nil,R3,WB,ih,RM,WO]
  omega
set_option maxHeartbeats 1000000 in
theorem ZF7 {b0 q n B:Nat} {cap:Option Nat} {kit:List Int} {g:FuncId} {caps:List AV} {Inv:List (List Int)→List Blk→Prop} (hT:ZIE pr b0 q n B cap kit g caps Inv)
  (hS:∀ L x done,Inv done L→Inv done (L.set (b0+3) x)) (hn:n≤1000000) (hk:∀ w∈kit,0≤w∧w≤99) :
  ∀ (d at':Nat) (sg:List Int) (L:List Blk) (e:Option Nat) (done:List (List Int)),at'+d=n→ZDO b0 q n cap kit g caps sg L→(∀ x∈sg.take at',x = -1∨x=0∨x=1)→Inv done L→done.length+3 ^ d≤3 ^ n →
  Wc (call T pr YA [.int .i64 at',.int .i64 (dotZ kit (sg.take at')),.ptr (some (b0,0)),.ptr (some (b0+2,0)),.ptr (some (b0+4,0)),.ptr (some (b0+1,0)),.ptr (some (b0+5,0))] ⟨L,e⟩)
   (fun v m=>v=.tup []∧∃ L' e' sg',m=⟨L',e'⟩∧ZDO b0 q n cap kit g caps sg' L'∧sg'.take at'=sg.take at'∧Inv (done++(XD d).map (sg.take at' ++ ·)) L'∧(clean B e=true→clean B e'=true))
 | 0,at',sg,L,e,done,hat,hE,hsg,hI,hdl=>by
  have hat':at'=n:=by omega
  subst hat'
  have htk:sg.take at'=sg:=by rw [←hE.len,Wl]
  rw [htk]
  rw [Zs ZaP]
  simp (maxSteps:=2000000) +contextual only [Z8,KE,Zg hE.k0,Zg hE.k2,Zg hE.k4,decide_true,pp,go_sem,reduceIte,Ra,Rb,Rc,Rd]
  refine (hT L sg none done hE hI (by have:3 ^ 0=1:=rfl;omega)).mono ?_
  rintro v m ⟨rfl,L',e',rfl,hE',hI',hcl⟩
  simp (maxSteps:=2000000) +contextual only [Z8,finish,pp,go_sem,reduceIte,Ra,Rb,Rc,Rd]
  have hm:(XD 0).map (sg ++ ·)=[sg]:=by simp [XD]
  rw [hm]
  have hl':sg.take at'=sg:=htk
  exact ⟨L',joinEsc e e',sg,rfl,hE',hl',hI',fun h=>Yl h (hcl rfl)⟩
 | d+1,at',sg,L,e,done,hat,hE,hsg,hI,hdl=>by
  rw [Zs ZaP]
  have hne:¬ ((at':Nat):Int)=((n:Nat):Int):=by omega
  simp (maxSteps:=2000000) +contextual only [Z8,KE,Zg hE.k0,Zg hE.k1,hne,decide_false,pp,go_sem,reduceIte,Ra,Rb,Rc,Rd]
  refine ZM (fun k st=>∃ (L':List Blk) (e1:Option Nat) (sg':List Int) (w9:AV),k≤3∧ZDO b0 q n cap kit g caps sg' L'∧sg'.take at'=sg.take at'∧Inv (done++(([-1,0,1]:List Int).take (3 - k)).flatMap fun s=>(XD d).map fun x=>sg.take at'++s::x) L'∧clean B e1=true ∧
   st=⟨[.int .i64 at',.int .i64 (dotZ kit (sg.take at')),.ptr (some (b0,0)),.ptr (some (b0+2,0)),.ptr (some (b0+4,0)),.ptr (some (b0+1,0)),.ptr (some (b0+5,0)),.int .i64 (2 - (k:Int)),.bool false,w9],⟨L',e1⟩⟩) ?_ 3 _ ⟨L,none,sg,_,Rz _,hE,rfl,by simpa using hI,rfl,rfl⟩
  rintro k _ ⟨L',e1,sg',w9,hk3,hE',htk,hI',hcl,rfl⟩
  by_cases hk0:k=0
  ·subst hk0
   have hc:¬ (2 - ((0:Nat):Int)≤1):=by omega
   simp (maxSteps:=2000000) +contextual only [Jz,Z8,finish,hc,decide_false,pp,go_sem,reduceIte,Ra,Rb,Rc,Rd]
   have hall:(([-1,0,1]:List Int).take (3 - 0)).flatMap (fun s=>(XD d).map fun x=>sg.take at'++s::x)=(XD (d+1)).map (sg.take at' ++ ·):=by
    simp [XD]
    rfl
   rw [hall] at hI'
   exact ⟨L',joinEsc e e1,sg',rfl,hE',htk,hI',fun h=>Yl h hcl⟩
  ·have hc:2 - (k:Int)≤1:=by omega
   have hi:at'<n:=by omega
   obtain ⟨w,hw⟩:∃ w,kit[at']?=some w:=⟨kit[at']'(by rw [hE.kl];exact hi),Rj _⟩
   have hwk:=hk w (WK hw)
   have hsl:sg'.length=n:=hE'.len
   have hsv:2 - (k:Int) = -1∨2 - (k:Int)=0∨2 - (k:Int)=1:=by omega
   have hF:(([-1,0,1]:List Int).take (3 - (k - 1))).flatMap (fun s=>(XD d).map fun x=>sg.take at'++s::x)=(([-1,0,1]:List Int).take (3 - k)).flatMap (fun s=>(XD d).map fun x=>sg.take at'++s::x)++(XD d).map fun x=>sg.take at'++(2 - (k:Int))::x:=by
    have:k=1∨k=2∨k=3:=by omega
    rcases this with rfl | rfl | rfl <;> simp
   have hnx:2 - (k:Int)+1=2 - ((k - 1:Nat):Int):=by omega
   generalize hs:2 - (k:Int)=s at *
   have hls:=ZlO sg' at' s (by omega)
   rw [htk] at hls
   have hd:=ZlN kit (sg.take at') at' w s hw (by rw [Wn,hE.len];omega)
   rw [←hls] at hd
   have hb:=Zid kit (sg.take at') hk hsg
   rw [hE.kl] at hb
   have hws : -99≤w*s∧w*s≤99:=by rcases hsv with h | h | h <;> rw [h] <;> omega
   have w1:IntKind.i64.wrap (s*w)=w*s:=by rw [Int.mul_comm];exact ZP (by omega) (by omega)
   have w2:IntKind.i64.wrap (dotZ kit (sg.take at')+w*s)=dotZ kit ((sg'.set at' s).take (at'+1)):=by rw [hd];exact ZP (by omega) (by omega)
   have w3:=Zh (show at'<9223372036854775807 by omega)
   have w4:IntKind.i64.wrap (s+1)=2 - ((k - 1:Nat):Int):=by rw [←hnx];exact ZP (by omega) (by omega)
   have hse:=Zlo (X:=sg') (i:=at') (a:=s) (by omega)
   have hle:at'+1≤(ZR sg').length:=by rw [ZR,WB];omega
   have E2:=hE'.put (sg'.set at' s) (by rw [List.length_set];exact hsl)
   simp (maxSteps:=2000000) +contextual only [Jz,Zg hE'.k0,Zg hE'.k1,Zg hE'.k4,Zg hE'.k5,Zg hE'.k3,hE'.kc,hE'.k3,hc,hi,hse,hle,Zg E2.k0,Zg E2.k5,E2.kc,Zu _ hw,w1,w2,w3,decide_true,pp,go_sem,reduceIte,Ra,Rb,Rc,Rd]
   refine (ZF7 hT hS hn hk d (at'+1) (sg'.set at' s) _ e1 _ (by omega) E2 ?_ (hS _ _ _ hI') ?_).mono ?_
   ·rw [hls]
    intro x hx
    rcases List.mem_append.mp hx with h | h
    ·exact hsg x h
    ·simp only [List.mem_singleton] at h
     rw [h]
     exact hsv
   ·have hfl:∀ l:List Int,(l.flatMap fun s=>(XD d).map fun x=>sg.take at'++s::x).length=l.length*3 ^ d:=by
     intro l
     induction l with
     | nil=>simp
     | cons a l ih=>
      simp only [List.flatMap_cons,R3,WB,Zbz,ih,Rl,Nat.add_mul,Rq]
      omega
    rw [R3,hfl,Wn]
    have:min (3 - k) ([-1,0,1]:List Int).length≤2:=by simp;omega
    have h2:=Nat.mul_le_mul_right (3 ^ d) this
    rw [WO] at hdl
    omega
   ·rintro v m ⟨rfl,L3,e3,sg3,rfl,E3,htk3,hI3,hcl3⟩
    simp (maxSteps:=2000000) +contextual only [w4,pp,go_sem,reduceIte,Ra,Rb,Rc,Rd]
    have htk3':sg3.take at'=sg.take at':=by
     have:=congrArg (List.take at') htk3
     rw [List.take_take,List.take_take,Nat.min_eq_left (by omega)] at this
     rw [this,List.take_set_of_le (Rz _)]
     exact htk
    rw [hls] at hI3
    have hI4:Inv (done++(([-1,0,1]:List Int).take (3 - (k - 1))).flatMap fun s=>(XD d).map fun x=>sg.take at'++s::x) L3:=by
     rw [hF]
     rw [Rs] at hI3
     have e5:(XD d).map (fun x=>sg.take at'++[s]++x)=(XD d).map fun x=>sg.take at'++s::x:=by
      congr 1
      funext x
      simp
     rw [←e5]
     exact hI3
    exact ⟨k - 1,by omega,L3,e3,sg3,_,by omega,E3,htk3',hI4,hcl3 hcl,rfl⟩
theorem ZDO.of {b0 q n:Nat} {cap:Option Nat} {kit:List Int} {g:FuncId} {caps:List AV} {sg:List Int} {L L':List Blk} (h:ZDO b0 q n cap kit g caps sg L) (hL:∀ i,i=q∨(b0≤i∧i≤b0+5)→L'[i]?=L[i]?):ZDO b0 q n cap kit g caps sg L':=by
 refine ⟨?_,?_,?_,?_,?_,?_,?_,h.len,h.kl,h.ql⟩
 ·have:=h.kc
  unfold Zb at this ⊢
  rw [hL q (.inl rfl)]
  exact this
 ·rw [hL _ (.inr ⟨by omega,by omega⟩)];exact h.k0
 ·rw [hL _ (.inr ⟨by omega,by omega⟩)];exact h.k1
 ·rw [hL _ (.inr ⟨by omega,by omega⟩)];exact h.k2
 ·rw [hL _ (.inr ⟨by omega,by omega⟩)];exact h.k3
 ·rw [hL _ (.inr ⟨by omega,by omega⟩)];exact h.k4
 ·rw [hL _ (.inr ⟨by omega,by omega⟩)];exact h.k5
theorem Zj {B k:Nat}:∀ {a:Option Nat},clean B a=true→B≤k→clean B (Z7 a k)=true
 | none,_,h=>by rw [Zkj,Zaj];exact decide_eq_true h
 | some a,h1,h=>by
  rw [Zaj,decide_eq_true_eq] at h1
  rw [Zkk,Zaj]
  exact decide_eq_true (by omega)
theorem Zl {B:Nat} {a b:Option Nat} (c:Prop) [Decidable c] (h1:clean B a=true) (h2:clean B b=true):clean B (if c then a else b)=true:=by
 split
 ·exact h1
 ·exact h2
theorem Zxt {L:List Blk} {q B:Nat} {cap:Option Nat} {kit:List Int} {g:FuncId} {caps:List AV} {Inv:List (List Int)→List Blk→Prop} (hq:Zb L q=some (ZR kit)) (hB:B≤L.length) (hn:kit.length≤1000000) (hk:∀ w∈kit,0≤w∧w≤99) (hT:ZIE pr L.length q kit.length B cap kit g caps Inv)
  (hS:∀ L' x done,Inv done L'→Inv done (L'.set (L.length+3) x)) (hI:∀ G,Inv [] (L++G)) (e:Option Nat) :
  Wc (call T pr KO [slI q kit.length cap,.int .i64 (-1),.fn g [] caps] ⟨L,e⟩) (fun v m=>v=.tup []∧∃ L' e',m=⟨L',e'⟩∧Inv (XD kit.length) L'∧(clean B e=true→clean B e'=true)):=by
 have hql:q<L.length:=Yk hq
 rw [Zs Zlc]
 simp (maxSteps:=2000000) +contextual only [JX,Zgk,Zc,Zmv,pp,go_sem,reduceIte,Ra,Rb,Rc,Rd]
 refine ⟨fun _ => ?_,fun h=>absurd (show ((kit.length:Nat):Int)*((8:Nat):Int)≤((maxBytes:Nat):Int) by unfold maxBytes;omega) h⟩
 have hE:ZDO L.length q kit.length cap kit g caps (Ry kit.length 0) (L++[.cells [.slice (some (q,0)) 1 kit.length cap] true,.cells [.int .i64 (-1)] true,.cells [.fn g [] caps] true,.cells (ZR (Ry kit.length 0)) true,.cells [.slice (some (L.length+3,0)) 1 kit.length (some kit.length)] true,
   .cells [.fn YA [] [.ptr (some (L.length,0)),.ptr (some (L.length+2,0)),.ptr (some (L.length+4,0)),.ptr (some (L.length+1,0)),.ptr (some (L.length+5,0))]] true]):=by
  refine ⟨Za hq _,?_,?_,?_,?_,?_,?_,List.length_replicate,rfl,hql⟩
  ·rw [RN (by omega)];simp
  all_goals (rw [RN (by omega)];simp)
 have hz:dotZ kit ((Ry kit.length (0:Int)).take 0)=0:=by cases kit <;> rfl
 have hw:=fun e1=>ZF7 (B:=B) hT hS hn hk kit.length 0 (Ry kit.length 0) _ e1 [] (by omega) hE (by simp) (hI _) (by simp)
 have h0:((0:Nat):Int)=0:=rfl
 rw [hz,h0] at hw
 refine (hw _).mono ?_
 rintro v m ⟨rfl,L',e',sg',rfl,hE',_,hI',hcl⟩
 simp (maxSteps:=2000000) +contextual only [JX,finish,pp,go_sem,reduceIte,Ra,Rb,Rc,Rd]
 have hm:(XD kit.length).map ((Ry kit.length (0:Int)).take 0 ++ ·)=XD kit.length:=by simp
 rw [hm] at hI'
 refine ⟨L',joinEsc e e',rfl,hI',fun h=>Yl h (hcl ?_)⟩
 have c4:∀ (c:Prop) [Decidable c],clean B (if c then none else Z7 none (L.length+4))=true:=fun c _=>Zl c rfl (Zj rfl (by omega))
 exact Zl _ (c4 _) (Zj (c4 _) (by omega))
def Za1 (kit:List Int) (done:List (List Int)):List Int:=(done.map (dotZ kit)).filter fun x=>decide (0<x)
def ZKs (q b0 o:Nat) (kit:List Int) (H:List Blk) (done:List (List Int)) (L:List Blk):Prop :=
 Z4 H L∧b0+6≤L.length+6∧∃ b cc,L[o]?=some (.cells [slI b (Za1 kit done).length cc] true)∧L[b]?=some (.cells (ZR (Za1 kit done)) true)∧(cc=some 0→(Za1 kit done).length=0)∧H.length≤b∧b≠q∧b≠o∧(b<b0∨b0+6≤b)
theorem ZHv (zs:List Int) (z:Int):ZR zs++[.int .i64 z]=ZR (zs++[z]):=by simp [ZR]
theorem Zuv {q o b0 n:Nat} {cap:Option Nat} {kit:List Int} (ho:H.length≤o) (ho0:o<b0) (hqH:q<H.length) (hn:n≤6) (hk:∀ w∈kit,0≤w∧w≤99):ZIE pr b0 q n H.length cap kit Zax [.ptr (some (o,0))] (ZKs q b0 o kit H):=by
 intro L sg e done hE hI hdn
 obtain ⟨hL,hb6,b,cc,h1,h2,h3,h4,h5,h6,h7⟩:=hI
 show Wc (call T pr Zax [slI (b0+3) n (some n),.int .i64 (dotZ kit sg),.ptr (some (o,0))] ⟨L,e⟩) _
 have hm:(done++[sg]).map (dotZ kit)=done.map (dotZ kit)++[dotZ kit sg]:=by simp
 rw [Zs Ztl]
 by_cases hs:0<dotZ kit sg
 ·have hout:Za1 kit (done++[sg])=Za1 kit done++[dotZ kit sg]:=by
   unfold Za1
   rw [hm,WS]
   simp [hs]
  simp (maxSteps:=2000000) +contextual only [KX,Zgp,Zc,gt_iff_lt,hs,Zg h1,decide_true,pp,go_sem,reduceIte,Ra,Rb,Rc,Rd]
  have hp3:3 ^ n≤3 ^ 6:=RP (by omega) hn
  have h36:(3:Nat) ^ 6=729:=by decide
  have holen:(Za1 kit done).length≤done.length:=by
   unfold Za1
   have:=WG (fun x:Int=>decide (0<x)) (done.map (dotZ kit))
   simpa using this
  refine Zja (k:=1) (new:=[.int .i64 (dotZ kit sg)]) (Yv h2 _) (Qk _ 1 1 _ _ L.length (by simp +contextual only [go_sem,reduceIte,Ra,Rb,Rc,Rd]) rfl) (by simp) rfl (by unfold maxBytes;omega) h3 ?_
  intro L2 e1 e2 e3 e4
  rw [ZHv,←hout] at e3
  have hol:o<L.length:=(RB.mp h1).1
  have ho2:L2[o]?=some (.cells [slI b (Za1 kit done).length cc] true):=by
   rw [e2 o (by omega) (by simp;omega),Wt hol]
   exact h1
  simp (maxSteps:=2000000) +contextual only [KX,finish,Zg ho2,ho2,pp,go_sem,reduceIte,Ra,Rb,Rc,Rd]
  have hl2:L2.length=L.length+2:=by rw [e1];simp
  have e3':L2[L.length+1]?=some (.cells (ZR (Za1 kit (done++[sg]))) true):=by simpa using e3
  have hb5:b0+5<L.length:=(RB.mp hE.k5).1
  have hlen:(Za1 kit (done++[sg])).length=(Za1 kit done).length+1:=by rw [hout];simp
  refine ⟨_,joinEsc e (if AV.under (o+1) (AV.slice (some (L.length+1,0)) 1 ((Za1 kit done).length+1) none)=true then none else Z7 none o),rfl,hE.of ?_,?_,fun h=>Yl h (Zl _ rfl (Zj rfl ho))⟩
  ·intro i hi
   have hiq:i<L.length:=by
    rcases hi with rfl | ⟨_,h⟩
    ·exact Yk hE.kc
    ·omega
   have hio:o≠i:=by
    rcases hi with rfl | ⟨h,_⟩ <;> omega
   have hib:i≠b:=by
    rcases hi with rfl | ⟨h8,h9⟩
    ·exact fun h=>h5 h.symm
    ·rcases h7 with h | h <;> omega
   rw [WA hio,e2 i hib (by simp;omega),Wt hiq]
  ·unfold ZKs
   rw [hlen]
   refine ⟨(e4 _ (hL.more _) h4).put ho _,by rw [List.length_set];omega,L.length+1,none,by rw [WL (by omega)],by rw [WA (by omega)];exact e3',by simp,by have:=hL.le;omega,by have:=Yk hE.kc;omega,by omega,.inr (by omega)⟩
 ·have hout:Za1 kit (done++[sg])=Za1 kit done:=by
   unfold Za1
   rw [hm,WS]
   simp [hs]
  simp (maxSteps:=2000000) +contextual only [KX,Zgp,finish,gt_iff_lt,hs,decide_false,pp,go_sem,reduceIte,Ra,Rb,Rc,Rd]
  refine ⟨L,_,rfl,hE,?_,fun h=>h⟩
  unfold ZKs
  rw [hout]
  exact ⟨hL,hb6,b,cc,h1,h2,h3,h4,h5,h6,h7⟩
def Zcd (kit:List Int):List Int:=Lib.compact ((Za1 kit (XD kit.length)).mergeSort fun x y=>decide (x≤y))
theorem ZHw {kit:List Int} (h1:kit≠[]) (hk:∀ w∈kit,1≤w∧w≤99):0<(Za1 kit (XD kit.length)).length:=by
 have hall:∀ (k:List Int),(∀ w∈k,1≤w∧w≤99)→k≠[]→0<dotZ k (Ry k.length 1):=by
  intro k
  induction k with
  | nil=>intro _ h;exact absurd rfl h
  | cons w k ih=>
   intro hk _
   have hw:=hk w Wf
   simp only [Rl,List.replicate_succ,dotZ,Int.mul_one]
   cases k with
   | nil=>simp [dotZ];omega
   | cons w' k'=>
    have:=ih (fun x hx=>hk x (Wu _ hx)) (by simp)
    omega
 have hmem:∀ n,Ry n (1:Int)∈XD n:=by
  intro n
  induction n with
  | zero=>simp [XD]
  | succ n ih=>
   simp only [XD,WV,Wg]
   exact ⟨1,by simp,_,ih,rfl⟩
 have:dotZ kit (Ry kit.length 1)∈Za1 kit (XD kit.length):=by
  unfold Za1
  rw [Ws]
  exact ⟨Wg.mpr ⟨_,hmem _,rfl⟩,decide_eq_true (hall kit hk h1)⟩
 exact List.length_pos_of_mem this
theorem ZDw (hl:Zuo pr) {q:Nat} {cap:Option Nat} {kit:List Int} (h:Zb H q=some (ZR kit)) (h0:kit≠[]) (hn:kit.length≤6) (hk:∀ w∈kit,1≤w∧w≤99):Wc (call T pr ZfT [slI q kit.length cap,.int .i64 (-1)] ⟨H,e⟩)
  (fun v m=>∃ X,v=slI H.length (Zcd kit).length none∧m=⟨H++[.cells (ZR (Zcd kit++X)) true],e⟩):=by
 have hql:q<H.length:=Yk h
 have hk0:∀ w∈kit,0≤w∧w≤99:=fun w hw=>by have:=hk w hw;omega
 have hpos:=ZHw h0 hk
 have hle:(Za1 kit (XD kit.length)).length≤729:=by
  unfold Za1
  have:=WG (fun x:Int=>decide (0<x)) ((XD kit.length).map (dotZ kit))
  rw [WB,Zbz] at this
  have hp3:3 ^ kit.length≤3 ^ 6:=RP (by omega) hn
  have h36:(3:Nat) ^ 6=729:=by decide
  omega
 rw [Zs ZyB]
 simp (maxSteps:=2000000) +contextual only [Zdj,Zpc,Zc,pp,go_sem,reduceIte,Ra,Rb,Rc,Rd]
 have hb0:(H++[Blk.cells [] true,.cells [AV.slice (some (H.length,0)) 1 0 (some 0)] true]).length=H.length+2:=by simp
 refine (Zxt (B:=H.length) (Inv:=ZKs q (H++[Blk.cells [] true,.cells [AV.slice (some (H.length,0)) 1 0 (some 0)] true]).length (H.length+1) kit H) (Za h _) (by rw [hb0];omega) (by omega) hk0 (Zuv (by omega) (by rw [hb0];omega) hql hn hk0) ?_ ?_ _).mono ?_
 ·rintro L' x done ⟨hL,g0,b,cc,g1,g2,g3,g4,g5,g6,g7⟩
  rw [hb0] at g7 ⊢
  exact ⟨hL.put (by omega) _,by rw [List.length_set];rw [hb0] at g0;omega,b,cc,by rw [WA (by omega)];exact g1,by rw [WA (by omega)];exact g2,g3,g4,g5,g6,g7⟩
 ·intro G
  rw [hb0]
  refine ⟨⟨_,Rs _ _ _⟩,by simp,H.length,some 0,?_,?_,fun _=>rfl,Rz _,by omega,by omega,.inl (by omega)⟩
  ·rw [Rs,RN (by omega)];simp [Za1]
  ·rw [Rs,RN (by omega)];simp [Za1]
 ·rintro v m ⟨rfl,L',e',rfl,⟨hL,_,b,cc,g1,g2,g3,g4,g5,g6,g7⟩,hcl⟩
  have hcl':clean H.length e'=true:=hcl (Zl _ rfl (Zj rfl (by omega)))
  generalize hzs:Za1 kit (XD kit.length)=zs at *
  have hsort:=hl.sor zs b cc L' e' g2 hpos (by omega)
  have hlm:(zs.mergeSort fun x y=>decide (x≤y)).length=zs.length:=List.length_mergeSort _
  have hbl:b<L'.length:=(RB.mp g2).1
  have hcomp:=hl.com (zs.mergeSort fun x y=>decide (x≤y)) b cc (L'.set b (.cells ((zs.mergeSort fun x y=>decide (x≤y)).map (.int .i64)) true)) e' (by rw [WL hbl]) (by omega) (by omega)
  rw [hlm,List.set_set] at hcomp
  have ho:(L'.set b (.cells ((zs.mergeSort fun x y=>decide (x≤y)).map (.int .i64)) true))[H.length+1]?=some (.cells [slI b zs.length cc] true):=by
   rw [WA (by omega)];exact g1
  have hf:∀ e0,finish 2 H.length e0 (slX b (Lib.compact (zs.mergeSort fun x y=>decide (x≤y))).length none) ⟨L'.set b (.cells ((Lib.compact (zs.mergeSort fun x y=>decide (x≤y))++Ry (zs.length - (Lib.compact (zs.mergeSort fun x y=>decide (x≤y))).length) 0).map (.int .i64)) true),e'⟩=_:=fun e0=>
   ZFY (hL.put g4 _) e0 e' hcl' g4 (by rw [WL hbl]) (K3 _ _)
  simp (maxSteps:=2000000) +contextual only [Zdj,Zg g1,hsort,Zg ho,hcomp,hf,pp,go_sem,reduceIte,Ra,Rb,Rc,Rd]
  refine ⟨Ry (zs.length - (Lib.compact (zs.mergeSort fun x y=>decide (x≤y))).length) 0,?_,?_⟩
  ·unfold Zcd
   rw [hzs]
  ·unfold Zcd
   rw [hzs]
theorem ZA4:∀ (p:Int) (k:List Int),Zqu p k=true→∀ w∈k,1≤w∧w≤99
 | _,[],_,w,h=>by simp at h
 | p,x::k,hk,w,h=>by
  unfold Zqu at hk
  simp only [Ru] at hk
  rcases List.mem_cons.mp h with rfl | h
  ·have:=hk.1
   unfold Zon at this
   simpa [Ru,decide_eq_true_eq] using this
  ·exact ZA4 x k hk.2.2 w h
theorem Zfr {k:List Int} (h:Zcj k=true):k≠[]∧k.length≤6∧∀ w∈k,1≤w∧w≤99:=by
 unfold Zcj at h
 simp only [Ru,decide_eq_true_eq] at h
 refine ⟨fun e => ?_,by omega,ZA4 0 k h.1⟩
 subst e
 simp at h
def Zg9 (k:List Int):Int:=ZDv 0 (Zcd k)
theorem Zqv {kit:List Int} (hn:kit.length≤6) (hk:∀ w∈kit,0≤w∧w≤99):∀ x∈Zcd kit,0<x∧x≤594:=by
 intro x hx
 unfold Zcd at hx
 rw [Zqt,List.mem_mergeSort] at hx
 unfold Za1 at hx
 rw [Ws,decide_eq_true_eq] at hx
 obtain ⟨h1,h2⟩:=hx
 obtain ⟨l,hl,rfl⟩:=Wg.mp h1
 have:=Zid kit l hk (Zi1 _ l hl).2
 omega
theorem Zxu (zs:List Int):(Lib.compact zs).length≤zs.length:=by
 unfold Lib.compact Lib.compactUpTo
 rw [WB]
 have:=WG (Lib.keeps zs.toArray) (WD zs.length)
 simpa using this
theorem ZDx {kit:List Int} (hn:kit.length≤6):(Zcd kit).length≤729:=by
 unfold Zcd
 refine WF (Zxu _) ?_
 rw [List.length_mergeSort]
 unfold Za1
 have:=WG (fun x:Int=>decide (0<x)) ((XD kit.length).map (dotZ kit))
 rw [WB,Zbz] at this
 have hp3:3 ^ kit.length≤3 ^ 6:=RP (by omega) hn
 have h36:(3:Nat) ^ 6=729:=by decide
 omega
theorem Zxv (hl:Zuo pr) {q:Nat} {cap:Option Nat} {k:List Int} (h:Zb H q=some (ZR k)) (hn:k.length≤1000000):call T pr ZdU [slI q k.length cap,.bool true] ⟨H,e⟩=some (.tup [.int .i64 (if Zcj k=true then Zg9 k else 0),.bool (Zcj k)],⟨H,e⟩):=by
 have h1:∀ L,Zb L q=some (ZR k)→call T pr Zat [slI q k.length cap] ⟨L,none⟩=some (.bool (Zcj k),⟨L,none⟩):=fun L hL=>ZF5 hL hn
 apply Wc.eq
 rw [Zs Zvl]
 cases hk:Zcj k with
 | false=>
  rw [hk] at h1
  simp (maxSteps:=2000000) +contextual only [Kz,Zhy,h,h1,R7,if_false,pp,go_sem,reduceIte,Ra,Rb,Rc,Rd]
 | true=>
  rw [hk] at h1
  obtain ⟨k0,k6,kw⟩:=Zfr hk
  simp (maxSteps:=2000000) +contextual only [Kz,Zhy,h,h1,if_true,pp,go_sem,reduceIte,Ra,Rb,Rc,Rd]
  refine (ZDw hl h k0 k6 kw).mono ?_
  rintro v m ⟨X,rfl,rfl⟩
  have hwl:=ZDx k6
  have hws:=Zqv k6 fun w hw=>by have:=kw w hw;omega
  unfold Zg9
  generalize Zcd k=W at *
  simp (maxSteps:=2000000) +contextual only [pp,go_sem,reduceIte,Ra,Rb,Rc,Rd]
  refine ZM (fun j st=>∃ (i:Nat) (r:Int) (w6 w12 w13:AV),i+j=W.length∧0≤r∧r≤594∧ZDv r (W.drop i)=ZDv 0 W ∧
   st=⟨[slI q k.length cap,.bool true,.int .i64 0,.bool false,.int .i64 (-1),.int .i64 r,w6,.bool false,.bool true,slI H.length W.length none,.int .i64 W.length,.int .i64 i,w12,w13],⟨H++[.cells (ZR (W++X)) true],none⟩⟩) ?_ W.length _
   ⟨0,0,_,_,_,by omega,by omega,by omega,by rw [Rk],rfl⟩
  rintro j _ ⟨i,r,w6,w12,w13,hij,hr0,hr1,hrun,rfl⟩
  by_cases hj:j=0
  ·have he:i=W.length:=by omega
   subst he
   rw [Rp] at hrun
   simp only [ZDv] at hrun
   rw [←hrun]
   simp (maxSteps:=2000000) +contextual only [ZbK,Kz,Rh,decide_false,pp,go_sem,reduceIte,Ra,Rb,Rc,Rd]
  ·have hi:i<W.length:=by omega
   have hl:(W++X)[i]?=some W[i]:=by rw [Wt hi,Rj hi]
   have hwi:=hws W[i] (WC hi)
   rw [Rm hi] at hrun
   generalize W[i]=x at *
   have w1:IntKind.i64.wrap (r+1)=r+1:=ZP (by omega) (by omega)
   have hsw:=Zh (show i<9223372036854775807 by omega)
   by_cases hx:x=r+1
   ·simp only [ZDv,if_pos hx] at hrun
    simp (maxSteps:=2000000) +contextual only [ZbK,hi,Zu _ hl,w1,hx,hsw,decide_true,pp,go_sem,reduceIte,Ra,Rb,Rc,Rd]
    exact ⟨j - 1,by omega,i+1,_,_,_,_,by omega,by omega,by omega,by rw [←hx];exact hrun,rfl⟩
   ·simp only [ZDv,if_neg hx] at hrun
    rw [←hrun]
    simp (maxSteps:=2000000) +contextual only [ZbK,Kz,hi,Zu _ hl,w1,hx,decide_true,decide_false,pp,go_sem,reduceIte,Ra,Rb,Rc,Rd]
theorem ZDy (l:List Int) (x:Int):usedZ (l++[x])=usedZ l+if x=0 then 0 else 1:=by
 unfold usedZ
 rw [WS,R3]
 by_cases h:x=0 <;> simp [h]
theorem ZsP {q:Nat} {cap:Option Nat} {k:List Int} (h:Zb H q=some (ZR k)) (hn:k.length≤1000000):call T pr Zbf [slI q k.length cap] ⟨H,e⟩=some (.int .i64 (usedZ k),⟨H,e⟩):=by
 apply Wc.eq
 rw [Zs ZBL]
 simp (maxSteps:=2000000) +contextual only [Ze7,Zr3,pp,go_sem,reduceIte,Ra,Rb,Rc,Rd]
 refine ZM (fun j st=>∃ (i:Nat) (w3 w7 w8:AV),i+j=k.length∧st=⟨[slI q k.length cap,.int .i64 0,.int .i64 (usedZ (k.take i)),w3,slI q k.length cap,.int .i64 k.length,.int .i64 i,w7,w8],⟨H,none⟩⟩) ?_ k.length _ ⟨0,_,_,_,by omega,rfl⟩
 rintro j _ ⟨i,w3,w7,w8,hij,rfl⟩
 by_cases hj:j=0
 ·have he:i=k.length:=by omega
  subst he
  rw [Wl]
  simp (maxSteps:=2000000) +contextual only [Zeg,Ze7,Rh,decide_false,pp,go_sem,reduceIte,Ra,Rb,Rc,Rd]
 ·have hi:i<k.length:=by omega
  have hl:k[i]?=some k[i]:=Rj hi
  have hs:=ZDy (k.take i) k[i]
  rw [←RL hi] at hs
  have hb:=Zuu (k.take i)
  rw [Wn] at hb
  generalize k[i]=x at *
  have hsw:=Zh (show i<9223372036854775807 by omega)
  by_cases hx:x=0
  ·rw [if_pos hx,Int.add_zero] at hs
   simp (maxSteps:=2000000) +contextual only [Zeg,hi,h,Zu _ hl,hx,hsw,decide_true,decide_false,pp,go_sem,reduceIte,Ra,Rb,Rc,Rd]
   exact ⟨j - 1,by omega,i+1,_,_,_,by omega,by rw [hs]⟩
  ·rw [if_neg hx] at hs
   have w1:IntKind.i64.wrap (usedZ (k.take i)+1)=usedZ (k.take (i+1)):=by rw [hs];exact ZP (by omega) (by omega)
   simp (maxSteps:=2000000) +contextual only [Zeg,hi,h,Zu _ hl,hx,w1,hsw,decide_true,decide_false,pp,go_sem,reduceIte,Ra,Rb,Rc,Rd]
   exact ⟨j - 1,by omega,i+1,_,_,_,by omega,rfl⟩
def JG (kit:List Int) (n:Int) (done:List (List Int)):List Int:=done.foldl (ZdK kit n) []
theorem ZDz (kit:List Int) (n:Int) (done:List (List Int)) (sg:List Int):JG kit n (done++[sg])=ZdK kit n (JG kit n done) sg:=by
 unfold JG
 rw [List.foldl_append];rfl
theorem ZF8 (kit:List Int) (n:Int) (m:Nat):∀ (done:List (List Int)),(∀ l∈done,l.length=m)→(JG kit n done).length=0∨(JG kit n done).length=m:=by
 have key:∀ (done:List (List Int)) (b:List Int),(∀ l∈done,l.length=m)→(b.length=0∨b.length=m)→(done.foldl (ZdK kit n) b).length=0∨(done.foldl (ZdK kit n) b).length=m:=by
  intro done
  induction done with
  | nil=>intro b _ hb;exact hb
  | cons l done ih=>
   intro b hl hb
   refine ih _ (fun x hx=>hl x (Wu _ hx)) ?_
   unfold ZdK
   split
   ·exact .inr (hl l Wf)
   ·exact hb
 exact fun done hl=>key done [] hl (.inl rfl)
def ZJh (q b0 on o m:Nat) (kit:List Int) (n:Int) (H:List Blk) (done:List (List Int)) (L:List Blk):Prop :=
 Z4 H L∧(∀ l∈done,l.length=m)∧∃ b cc,L[o]?=some (.cells [slI b (JG kit n done).length cc] true)∧Zb L b=some (ZR (JG kit n done))∧L[on]?=some (.cells [.int .i64 n] true)∧H.length≤b∧b≠o∧(b<b0∨b0+6≤b)
theorem ZIF {q:Nat} {cap:Option Nat} {k:List Int} (h:Zb H q=some (ZR k)) (hn:k.length≤1000000):call T pr Yz [slI q k.length cap] ⟨H,e⟩=some (slI H.length k.length none,⟨H++[.cells (ZR k) true],e⟩):=by
 have ha:=fun L b e' (hb:L[b]?=some (.cells [] true)) hq=>Zc4 (e:=e') (L:=L) (b:=b) (q:=q) (n:=k.length) (sz:=1) (bytes:=8) (c:=cap) (cs:=ZR k) hb hq (by simp [ZR]) (by unfold maxBytes;omega)
 have hf:∀ (B:Blk) (e0:Option Nat),finish 2 H.length e0 (slI (H.length+1) k.length none) ⟨H++[B,.cells (ZR k) true],none⟩=some (slI H.length k.length none,⟨H++[.cells (ZR k) true],e0⟩) :=
  fun B e0=>ZcS e0 rfl (K3 _ _)
 rw [Zi Zgx]
 simp +contextual only [Xh,ZaJ,Zlt,Zc,ha,Za h,ZiS,ZpW,hf,go_sem,reduceIte,Ra,Rb,Rc,Rd]
theorem Zqw {q:Nat} {cap:Option Nat} {k:List Int} (h:Zb H q=some (ZR k)) (hn:k.length≤1000000):call T pr Zav [slI q k.length cap] ⟨H,e⟩=some (slI H.length k.length none,⟨H++[.cells (ZR k) true],e⟩):=by
 have ha:=fun L b e' (hb:L[b]?=some (.cells [] true)) hq=>Zc4 (e:=e') (L:=L) (b:=b) (q:=q) (n:=k.length) (sz:=1) (bytes:=8) (c:=cap) (cs:=ZR k) hb hq (by simp [ZR]) (by unfold maxBytes;omega)
 have hf:∀ (B:Blk) (e0:Option Nat),finish 2 H.length e0 (slI (H.length+1) k.length none) ⟨H++[B,.cells (ZR k) true],none⟩=some (slI H.length k.length none,⟨H++[.cells (ZR k) true],e0⟩) :=
  fun B e0=>ZcS e0 rfl (K3 _ _)
 rw [Zi ZEn]
 simp +contextual only [ZkW,Zu7,Zlt,Zc,ha,Za h,ZiS,ZpW,hf,go_sem,reduceIte,Ra,Rb,Rc,Rd]
def ZlP (kit:List Int) (n:Int):List Int:=JG kit n (XD kit.length)
def Zxw (M:Nat) (f:Nat→Bool):List AV:=ZHX ((WD M).map f)
theorem Zuw (M:Nat) (f:Nat→Bool):(Zxw M f).length=M:=by simp [Zxw,ZHX]
theorem ZsQ (M:Nat):Zhb M [.bool false]=Zxw M fun _=>false:=by
 rw [Zsj]
 unfold Zxw
 congr 1
 apply List.ext_getElem <;> simp
theorem ZlQ (M:Nat) (f:Nat→Bool) (i sz:Nat) (hi:i<M):Zco false (Zxw M f) i sz=some (.bool (f i)):=by
 unfold Zxw
 rw [ZE8 sz (by simpa using hi),WR]
 simp [hi]
theorem Zoo (M:Nat) (f:Nat→Bool) (i:Nat) (hi:i<M):ZN (Zxw M f) i [.bool true]=Zxw M (ZxQ f i):=by
 rw [ZwY _ (by rw [Zuw];exact hi)]
 unfold Zxw ZHX
 apply List.ext_getElem?
 intro j
 rw [List.getElem?_set]
 by_cases hij:i=j
 ·subst hij
  simp [hi,ZxQ]
 ·simp only [if_neg hij,List.getElem?_map]
  by_cases hj:j<M
  ·rw [List.getElem?_range hj]
   simp only [Option.map_some,ZxQ,if_neg (Ne.symm hij)]
  ·rw [List.getElem?_eq_none (by simpa using hj)]
   rfl
theorem ZDA (n M:Nat) (f:Nat→Bool):((Zxw M f).all fun c=>c.under n)=true:=ZCW _ _
theorem ZDB {L:List Blk} {b o sz n:Nat} {c:Option Nat} {cs:List AV} {w:Bool} (hL:Z4 H L) (e0 e1:Option Nat) (hc:clean H.length e1=true) (hb:H.length≤b) (hG:L[b]?=some (.cells cs w)) (hu:(cs.all fun c=>c.under H.length)=true) :
  finish 2 H.length e0 (.slice (some (b,o)) sz n c) ⟨L,e1⟩=some (.slice (some (H.length,o)) sz n c,⟨H++[.cells cs w],e0⟩):=by
 obtain ⟨G,rfl⟩:=hL
 obtain ⟨j,rfl⟩:∃ j,b=H.length+j:=⟨b - H.length,by omega⟩
 have hlt:¬ H.length+j<H.length:=by omega
 have hr:XQ (AV.roots H.length (.slice (some (H.length+j,o)) sz n c))=[H.length+j]:=by simp [AV.roots,XQ,hlt]
 unfold finish
 simp only [hr]
 have h2:([H.length+j].all fun b=>Y5 H.length (H++G)[b]?)=true:=by
  simp only [Rv,List.all_nil,Bool.and_true,hG,Y5,hu]
 simp only [hc,h2,and_self,if_true]
 simp [AV.rename,ZbT,hlt,hG]
theorem Zxx (sz b n l:Nat) (hl:l≤n):ZbR sz (.slice (some (b,0)) sz n (some n)) (.int .i64 l)=some (.slice (some (b,l*sz)) sz (n - l) (some (n - l))):=by
 unfold ZbR natOf QK
 simp [hl]
theorem ZF9 (k:List Int) (x:Int):sumK (k++[x])=sumK k+x:=by
 induction k with
 | nil=>simp [sumK]
 | cons a k ih=>simp only [List.cons_append,sumK,ih];omega
theorem Zi3:∀ (k:List Int),(∀ w∈k,1≤w∧w≤99)→0≤sumK k∧sumK k≤99*(k.length:Int)
 | [],_=>by simp [sumK]
 | w::k,h=>by
  have ih:=Zi3 k fun x hx=>h x (Wu _ hx)
  have:=h w Wf
  simp only [sumK,Rl]
  omega
theorem Zxy (a b:Int):call T pr Zdc [.int .i64 a,.int .i64 b] ⟨H,e⟩=some (.int .i64 (if a<b then a else b),⟨H,e⟩):=by
 rw [Zi ZyH]
 by_cases h:a<b
 ·simp +contextual only [Zdo,ZjW,h,decide_true,if_true,go_sem,reduceIte,Ra,Rb,Rc,Rd]
 ·simp +contextual only [Zdo,ZjW,h,decide_false,if_false,go_sem,reduceIte,Ra,Rb,Rc,Rd]
def Zqx (k:List Int):Nat→Bool:=ZH5 (sumK k).toNat (ZxQ (fun _=>false) (sumK k).toNat) k
theorem ZDC {q:Nat} {cap:Option Nat} {k:List Int} {t:Nat} (h:Zb H q=some (ZR k)) (hn:k.length≤6) (hk:∀ w∈k,1≤w∧w≤99) (hT:sumK k=t):call T pr Ze1 [slI q k.length cap,.bool true] ⟨H,e⟩=some (.slice (some (H.length,t)) 1 (t+1) (some (t+1)),⟨H++[.cells (Zxw (2*t+1) (Zqx k)) true],e⟩):=by
 have hTs:=Zi3 k hk
 apply Wc.eq
 rw [Zs ZBX]
 simp (maxSteps:=2000000) +contextual only [Zc3,Zsb,pp,go_sem,reduceIte,Ra,Rb,Rc,Rd]
 refine ZM (fun j st=>∃ (i:Nat) (w5 w6 w7 w8 w9 w10 w11 w12 w13:AV),i+j=k.length ∧
  st=⟨[slI q k.length cap,.bool true,ZZ,.int .i64 (sumK (k.take i)),.int .i64 i,w5,w6,w7,w8,w9,w10,w11,w12,w13],⟨H,none⟩⟩) ?_ k.length _ ⟨0,_,_,_,_,_,_,_,_,_,by omega,rfl⟩
 rintro j _ ⟨i,w5,w6,w7,w8,w9,w10,w11,w12,w13,hij,rfl⟩
 by_cases hj:j=0
 ·have he:i=k.length:=by omega
  subst he
  have w1:IntKind.i64.wrap (2*(t:Int))=((2*t:Nat):Int):=by rw [ZP (by omega) (by omega)];omega
  have w2:IntKind.i64.wrap (((2*t:Nat):Int)+1)=((2*t+1:Nat):Int):=by rw [ZP (by omega) (by omega)];omega
  simp (maxSteps:=2000000) +contextual only [ZhF,Zc3,Wl,hT,w1,w2,Rh,decide_false,Zc,ZsQ,pp,go_sem,reduceIte,Ra,Rb,Rc,Rd]
  refine ⟨fun _=>⟨fun _=>⟨fun _ => ?_,fun h=>absurd (by rw [Zuw];omega) h⟩,fun h=>absurd (by omega) h⟩,fun h=>absurd (by unfold maxBytes;omega) h⟩
  rw [Zoo _ _ _ (by omega)]
  refine ZM (fun j st=>∃ (i b:Nat) (f:Nat→Bool) (L:List Blk) (w7 w8 w9 w10 w11 w12 w13:AV),i+j=k.length∧Z4 H L∧H.length≤b∧L[b]?=some (.cells (Zxw (2*t+1) f) true)∧ZH5 t f (k.drop i)=Zqx k ∧
   st=⟨[slI q k.length cap,.bool true,ZZ,.int .i64 t,.int .i64 k.length,.slice (some (b,0)) 1 (2*t+1) (some (2*t+1)),.int .i64 i,w7,w8,w9,w10,w11,w12,w13],⟨L,none⟩⟩) ?_ k.length _
   ⟨0,_,_,_,_,_,_,_,_,_,_,by omega,⟨_,rfl⟩,Rz _,by rw [ZY];rfl,by rw [Rk];unfold Zqx;rw [hT];rfl,rfl⟩
  clear w7 w8 w9 w10 w11 w12 w13
  rintro j _ ⟨i,b,f,L,w7,w8,w9,w10,w11,w12,w13,hij,hL,hb,hLb,htab,rfl⟩
  have hq:Zb L q=some (ZR k):=by
   obtain ⟨G,rfl⟩:=hL
   exact Za h G
  by_cases hj:j=0
  ·have he:i=k.length:=by omega
   subst he
   rw [Rp] at htab
   unfold ZH5 at htab
   subst htab
   have hsl:ZbR 1 (.slice (some (b,0)) 1 (2*t+1) (some (2*t+1))) (.int .i64 t)=some (.slice (some (b,t)) 1 (t+1) (some (t+1))):=by
    rw [Zxx _ _ _ _ (by omega),show t*1=t by omega,show 2*t+1 - t=t+1 by omega]
   have hf:=fun e0 e1 he=>ZDB (sz:=1) (o:=t) (n:=t+1) (c:=some (t+1)) hL e0 e1 he hb hLb (ZDA _ _ _)
   simp (maxSteps:=2000000) +contextual only [ZhG,Zc3,Rh,decide_false,Zby,hsl,hf,Zo,pp,go_sem,reduceIte,Ra,Rb,Rc,Rd]
  ·have hi:i<k.length:=by omega
   have hl:k[i]?=some k[i]:=Rj hi
   have hkx:=hk k[i] (WC hi)
   rw [Rm hi] at htab
   unfold ZH5 at htab
   generalize k[i]=x at *
   obtain ⟨v,rfl⟩:∃ v:Nat,x=v:=⟨x.toNat,by omega⟩
   rw [RC] at htab
   have hsw:=Zh (show i<9223372036854775807 by omega)
   simp (maxSteps:=2000000) +contextual only [ZhG,hi,Zc,ZsQ,decide_true,pp,go_sem,reduceIte,Ra,Rb,Rc,Rd]
   refine ⟨fun _ => ?_,fun h=>absurd (by unfold maxBytes;omega) h⟩
   have hbl:b<L.length:=(RB.mp hLb).1
   refine ZM (fun j2 st=>∃ (c:Nat) (w9 w11 w12 w13:AV),c+j2=2*t+1 ∧
    st=⟨[slI q k.length cap,.bool true,ZZ,.int .i64 t,.int .i64 k.length,.slice (some (b,0)) 1 (2*t+1) (some (2*t+1)),.int .i64 i,.slice (some (L.length,0)) 1 (2*t+1) (some (2*t+1)),.int .i64 c,w9,.bool true,w11,w12,w13],⟨L++[.cells (Zxw (2*t+1) (Zkq f v (2*t) c)) true],none⟩⟩) ?_ (2*t+1) _
    ⟨0,_,_,_,_,by omega,rfl⟩
   clear w9 w11 w12 w13
   rintro j2 _ ⟨c,w9,w11,w12,w13,hcj,rfl⟩
   by_cases hj2:j2=0
   ·have he:c=2*t+1:=by omega
    subst he
    simp (maxSteps:=2000000) +contextual only [Zem,Rh,hsw,decide_false,pp,go_sem,reduceIte,Ra,Rb,Rc,Rd]
    exact ⟨j - 1,by omega,i+1,_,_,_,_,_,_,_,_,_,_,by omega,hL.more _,by have:=hL.le;omega,by rw [ZY];rfl,htab,rfl⟩
   ·have hc:c<2*t+1:=by omega
    have hcw:=Zh (show c<9223372036854775807 by omega)
    have hcell:Zb (L++[.cells (Zxw (2*t+1) (Zkq f v (2*t) c)) true]) b=some (Zxw (2*t+1) f):=Zg (Yv hLb _)
    have hst:Zkq f v (2*t) (c+1)=if f c then ZxQ (ZxQ (ZxQ (Zkq f v (2*t) c) c) (min (c+v) (2*t))) (c - v) else Zkq f v (2*t) c:=rfl
    cases hfc:f c with
    | false=>
     rw [hfc] at hst
     simp (maxSteps:=2000000) +contextual only [Zem,hc,hcell,ZlQ _ _ _ _ hc,hfc,hcw,decide_true,pp,go_sem,reduceIte,Ra,Rb,Rc,Rd]
     exact ⟨j2 - 1,by omega,c+1,_,_,_,_,by omega,by rw [hst];rfl⟩
    | true=>
     rw [hfc] at hst
     have w1:IntKind.i64.wrap ((c:Int)+v)=((c+v:Nat):Int):=by rw [ZP (by omega) (by omega)];omega
     have w2:IntKind.i64.wrap (2*(t:Int))=((2*t:Nat):Int):=by rw [ZP (by omega) (by omega)];omega
     have w3:IntKind.i64.wrap ((c:Int) - v)=(c:Int) - v:=ZP (by omega) (by omega)
     have m1:(if ((c+v:Nat):Int)<((2*t:Nat):Int) then ((c+v:Nat):Int) else ((2*t:Nat):Int))=((min (c+v) (2*t):Nat):Int):=by split <;> omega
     have m2:(if (0:Int)<(c:Int) - v then (c:Int) - v else 0)=((c - v:Nat):Int):=by split <;> omega
     have c1:min (c+v) (2*t)<2*t+1:=by omega
     have c2:c - v<2*t+1:=by omega
     have hL1:∀ L m,call T pr Zdc [.int .i64 ((c+v:Nat):Int),.int .i64 ((2*t:Nat):Int)] ⟨L,m⟩=some (.int .i64 ((min (c+v) (2*t):Nat):Int),⟨L,m⟩):=fun L m=>by rw [Zxy,m1]
     have hL2:∀ L m,call T pr Zc0 [.int .i64 ((c:Int) - v),.int .i64 0] ⟨L,m⟩=some (.int .i64 ((c - v:Nat):Int),⟨L,m⟩):=fun L m=>by rw [Zsl,m2]
     have hqs:∀ B,Zb (L++[B]) q=some (ZR k):=fun B=>Za hq _
     simp (maxSteps:=2000000) +contextual only [Zem,hc,hcell,hqs,hi,Zu _ hl,ZlQ _ _ _ _ hc,hfc,hcw,w1,w2,w3,hL1,hL2,c1,c2,Zuw,Zoo _ _ _ hc,Zoo _ _ _ c1,Zoo _ _ _ c2,decide_true,pp,go_sem,reduceIte,Ra,Rb,Rc,Rd]
     refine ⟨fun _=>⟨fun _=>⟨fun _ => ?_,fun h=>absurd (by omega) h⟩,fun h=>absurd (by omega) h⟩,fun h=>absurd (by omega) h⟩
     exact ⟨j2 - 1,by omega,c+1,_,_,_,_,by omega,by rw [hst];rfl⟩
 ·have hi:i<k.length:=by omega
  have hl:k[i]?=some k[i]:=Rj hi
  have hs:=ZF9 (k.take i) k[i]
  rw [←RL hi] at hs
  have hb:=Zi3 (k.take i) fun w hw=>hk w (List.mem_of_mem_take hw)
  have hkx:=hk k[i] (WC hi)
  rw [Wn] at hb
  generalize k[i]=x at *
  have hsw:=Zh (show i<9223372036854775807 by omega)
  have w1:IntKind.i64.wrap (sumK (k.take i)+x)=sumK (k.take (i+1)):=by rw [hs];exact ZP (by omega) (by omega)
  simp (maxSteps:=2000000) +contextual only [ZhF,hi,h,Zu _ hl,w1,hsw,decide_true,pp,go_sem,reduceIte,Ra,Rb,Rc,Rd]
  exact ⟨j - 1,by omega,i+1,_,_,_,_,_,_,_,_,_,by omega,rfl⟩
theorem Zxz {k:List Int} {t:Nat} (hk:∀ w∈k,1≤w∧w≤99) (hT:sumK k=t) (s:Nat):Zqx k s=true↔∃ l,l∈XD k.length∧(s:Int)=t+dotZ k l:=by
 unfold Zqx
 rw [hT,RC,ZA3 t k _ (fun q=>q=0) 0 (fun w hw=>by have:=hk w hw;omega) (fun s=>by
  constructor
  ·intro h
   unfold ZxQ at h
   split at h
   ·exact ⟨0,rfl,by omega⟩
   ·exact absurd h (by simp)
  ·rintro ⟨q,rfl,h⟩
   unfold ZxQ
   rw [if_pos (by omega)]) (fun q hq=>by omega) (by omega)]
 constructor
 ·rintro ⟨q,l,rfl,h1,h2⟩
  exact ⟨l,h1,by omega⟩
 ·rintro ⟨l,h1,h2⟩
  exact ⟨0,l,rfl,h1,by omega⟩
theorem Zi4 (k:List Int) (x:Int):x∈Zcd k↔0<x∧∃ l,l∈XD k.length∧dotZ k l=x:=by
 unfold Zcd
 rw [Zqt,List.mem_mergeSort]
 unfold Za1
 rw [Ws,decide_eq_true_eq,Wg]
 constructor
 ·rintro ⟨⟨l,h1,h2⟩,h3⟩;exact ⟨h3,l,h1,h2⟩
 ·rintro ⟨h3,l,h1,h2⟩;exact ⟨⟨l,h1,h2⟩,h3⟩
theorem ZlR (k:List Int):(Zcd k).Pairwise (· < ·):=by
 unfold Zcd
 apply ZrH
 have:=List.pairwise_mergeSort (le:=fun x y:Int=>decide (x≤y)) (fun a b c h1 h2=>by simp only [decide_eq_true_eq] at *;omega) (fun a b=>by simp;omega) (Za1 k (XD k.length))
 exact this.imp fun h=>by simpa using h
theorem ZA5 {k:List Int} {t r:Nat} (hk:∀ w∈k,1≤w∧w≤99) (hT:sumK k=t) (h1:∀ i:Nat,0<i→i≤r→Zqx k (t+i)=true) (h2:r=t∨Zqx k (t+(r+1))=false):Zg9 k=r:=by
 have hk0:∀ w∈k,0≤w:=fun w hw=>by have:=hk w hw;omega
 obtain ⟨g1,g2,g3⟩:=Zqs (Zcd k) 0 (ZlR k) fun x hx=>((Zi4 k x).mp hx).1
 refine ZHu (R:=fun i=>0<i∧∃ l,l∈XD k.length∧dotZ k l=i) g1 (by omega) (fun i h3 h4=>(Zi4 k i).mp (g2 i h3 h4)) (fun h=>g3 ((Zi4 k _).mpr h)) (fun i h3 h4=>⟨h3,?_⟩) ?_
 ·have:=h1 i.toNat (by omega) (by omega)
  obtain ⟨l,h5,h6⟩:=(Zxz hk hT _).mp this
  exact ⟨l,h5,by omega⟩
 ·rintro ⟨_,l,h5,h6⟩
  rcases h2 with rfl | h2
  ·have:=(ZAc k l hk0 (Zi1 _ l h5).2).2
   omega
  ·have:=(Zxz hk hT (t+(r+1))).mpr ⟨l,h5,by omega⟩
   rw [h2] at this
   exact absurd this (by simp)
theorem ZxA {q:Nat} {cap:Option Nat} {k:List Int} (h:Zb H q=some (ZR k)) (hn:k.length≤1000000):call T pr Zd0 [slI q k.length cap,.bool true] ⟨H,e⟩=some (.tup [.int .i64 (if Zcj k=true then Zg9 k else 0),.bool (Zcj k)],⟨H,e⟩):=by
 have h1:∀ L,Zb L q=some (ZR k)→call T pr ZaA [slI q k.length cap] ⟨L,none⟩=some (.bool (Zcj k),⟨L,none⟩):=fun L hL=>ZF6 hL hn
 apply Wc.eq
 rw [Zs Zvu]
 cases hk:Zcj k with
 | false=>
  rw [hk] at h1
  simp (maxSteps:=2000000) +contextual only [KD,ZhD,h,h1,R7,if_false,pp,go_sem,reduceIte,Ra,Rb,Rc,Rd]
 | true=>
  rw [hk] at h1
  obtain ⟨k0,k6,kw⟩:=Zfr hk
  have hTs:=Zi3 k kw
  obtain ⟨t,hT⟩:∃ t:Nat,sumK k=t:=⟨(sumK k).toNat,by omega⟩
  have h2:∀ L e',Zb L q=some (ZR k)→call T pr Ze1 [slI q k.length cap,.bool true] ⟨L,e'⟩=some (.slice (some (L.length,t)) 1 (t+1) (some (t+1)),⟨L++[.cells (Zxw (2*t+1) (Zqx k)) true],e'⟩):=fun L e' hL=>ZDC hL k6 kw hT
  simp (maxSteps:=2000000) +contextual only [KD,ZhD,h,h1,h2,if_true,pp,go_sem,reduceIte,Ra,Rb,Rc,Rd]
  refine ZM (fun j st=>∃ (r:Nat) (w6 w7:AV),r+j=t+1∧r≤t∧(∀ i:Nat,0<i→i≤r→Zqx k (t+i)=true) ∧
   st=⟨[slI q k.length cap,.bool true,.int .i64 0,.bool false,.slice (some (H.length,t)) 1 (t+1) (some (t+1)),.int .i64 r,w6,w7],⟨H++[.cells (Zxw (2*t+1) (Zqx k)) true],none⟩⟩) ?_ (t+1) _
   ⟨0,_,_,by omega,by omega,fun i h1 h2=>by omega,rfl⟩
  rintro j _ ⟨r,w6,w7,hrj,hrt,hall,rfl⟩
  have w1:=Zh (show r<9223372036854775807 by omega)
  by_cases hr:r=t
  ·have hlt:¬ r+1<t+1:=by omega
   have hR:=ZA5 kw hT hall (.inl hr)
   simp (maxSteps:=2000000) +contextual only [ZbO,KD,w1,hlt,hR,decide_false,pp,go_sem,reduceIte,Ra,Rb,Rc,Rd]
  ·have hlt:r+1<t+1:=by omega
   have hlt2:t+(r+1)<2*t+1:=by omega
   cases hs:Zqx k (t+(r+1)) with
   | false=>
    have hR:=ZA5 kw hT hall (.inr hs)
    simp (maxSteps:=2000000) +contextual only [ZbO,KD,w1,hlt,ZlQ _ _ _ _ hlt2,hs,hR,decide_true,pp,go_sem,reduceIte,Ra,Rb,Rc,Rd]
   | true=>
    simp (maxSteps:=2000000) +contextual only [ZbO,w1,hlt,ZlQ _ _ _ _ hlt2,hs,decide_true,pp,go_sem,reduceIte,Ra,Rb,Rc,Rd]
    refine ⟨j - 1,by omega,r+1,_,_,by omega,by omega,fun i g1 g2 => ?_,rfl⟩
    by_cases he:i=r+1
    ·rw [he];exact hs
    ·exact hall i g1 (by omega)
def XE (L:List Blk) (lo hi:Nat) (es:List AV) (ls:List (List Int)):Prop :=
 es.length=ls.length∧∀ (i:Nat) (l:List Int),ls[i]?=some l→∃ (q:Nat) (c:Option Nat),es[i]?=some (slI q l.length c)∧lo≤q∧q<hi∧L[q]?=some (.cells (ZR l) true)
theorem XE.of {L L':List Blk} {lo hi hi':Nat} {es:List AV} {ls:List (List Int)} (h:XE L lo hi es ls) (hL:∀ i,i<hi→L'[i]?=L[i]?) (hh:hi≤hi'):XE L' lo hi' es ls:=by
 refine ⟨h.1,fun i l hl => ?_⟩
 obtain ⟨q,c,h1,h2,h3,h4⟩:=h.2 i l hl
 exact ⟨q,c,h1,h2,by omega,by rw [hL q h3];exact h4⟩
theorem XE.snoc {L:List Blk} {lo hi:Nat} {es:List AV} {ls:List (List Int)} (h:XE L lo hi es ls) {q:Nat} {c:Option Nat} {l:List Int} (h1:lo≤q) (h2:q<hi) (h3:L[q]?=some (.cells (ZR l) true)):XE L lo hi (es++[slI q l.length c]) (ls++[l]):=by
 refine ⟨by simp [h.1],fun i m hm => ?_⟩
 by_cases hi:i<ls.length
 ·rw [Wt hi] at hm
  obtain ⟨q',c',g1,g2⟩:=h.2 i m hm
  exact ⟨q',c',by rw [Wt (by rw [h.1];exact hi)];exact g1,g2⟩
 ·have hi':=(RB.mp hm).1
  rw [R3,List.length_singleton] at hi'
  have he:i=ls.length:=by omega
  subst he
  rw [RN (Rz _),WH,List.getElem?_cons_zero,RV] at hm
  subst hm
  exact ⟨q,c,by rw [RN (by rw [h.1];exact Rz _),h.1,WH];rfl,h1,h2,h3⟩
theorem YX {es:List AV} {i:Nat} {v:AV} (sz:Nat) (h:es[i]?=some v):Zco false es i sz=some v:=by
 rw [Zfd];exact h
set_option maxHeartbeats 1000000 in
theorem ZDD (n:Nat) (hn:n≤6):Wc (call T pr ZkF [.int .i64 n] ⟨H,e⟩)
  (fun v m=>∃ L' e' b c es,v=.slice (some (b,0)) 1 (3 ^ n) c∧m=⟨L',e'⟩∧Z4 H L'∧H.length≤b∧L'[b]?=some (.cells es true)∧XE L' H.length b es (XD n)∧(clean H.length e=true→clean H.length e'=true)):=by
 rw [Zs ZEr]
 simp (maxSteps:=2000000) +contextual only [ZhH,Zvb,Zc,pp,go_sem,reduceIte,Ra,Rb,Rc,Rd]
 have he0:∀ (c:Prop) [Decidable c],clean H.length (if c then (none:Option Nat) else Z7 none (H.length+1))=true:=fun c _=>Zl c rfl (Zj rfl (by omega))
 refine ZM (fun j st=>∃ (d b:Nat) (c:Option Nat) (es:List AV) (L:List Blk) (e1:Option Nat) (w4 w5 w6 w7 w8 w9:AV),d+j=n∧Z4 H L∧H.length≤b∧L[b]?=some (.cells es true)∧XE L H.length b es (XD d)∧clean H.length e1=true ∧
  st=⟨[.int .i64 n,ZZ,.slice (some (b,0)) 1 (3 ^ d) c,.int .i64 d,w4,w5,w6,w7,w8,w9],⟨L,e1⟩⟩) ?_ n _ ⟨0,H.length+1,some 1,[slI H.length 0 (some 0)],_,_,_,_,_,_,_,_,by omega,⟨_,rfl⟩,by omega,?_,?_,?_,rfl⟩
 ·rintro j _ ⟨d,b,c,es,L,e1,w4,w5,w6,w7,w8,w9,hdj,hL,hb,hLb,hR,he1,rfl⟩
  by_cases hj:j=0
  ·have he:d=n:=by omega
   subst he
   simp (maxSteps:=2000000) +contextual only [Zj0,ZhH,finish,Rh,decide_false,pp,go_sem,reduceIte,Ra,Rb,Rc,Rd]
   exact ⟨L,_,b,c,es,rfl,rfl,hL,hb,hLb,hR,fun h=>Yl h he1⟩
  ·have hd:d<n:=by omega
   have hbl:b<L.length:=(RB.mp hLb).1
   have hcnt:=Zbz d
   have hp3:3 ^ (d+1)≤3 ^ 6:=RP (by omega) (by omega)
   have h36:(3:Nat) ^ 6=729:=by decide
   have hps:(3:Nat) ^ (d+1)=3 ^ d*3:=WO ..
   have hdw:=Zh (show d<9223372036854775807 by omega)
   simp (maxSteps:=2000000) +contextual only [Zj0,hd,Zc,decide_true,pp,go_sem,reduceIte,Ra,Rb,Rc,Rd]
   refine ZM (fun j2 st=>∃ (i b4:Nat) (c4:Option Nat) (es4:List AV) (L4:List Blk) (e4:Option Nat) (w6 w8 w9:AV),i+j2=3 ^ d∧Z4 L L4∧L.length≤b4∧(c4=some 0→i*3=0)∧L4[b4]?=some (.cells es4 true)∧XE L4 H.length b4 es4 (((XD d).take i).flatMap fun l=>[l++[-1],l++[0],l++[1]])∧clean H.length e4=true ∧
    st=⟨[.int .i64 n,ZZ,.slice (some (b,0)) 1 (3 ^ d) c,.int .i64 d,.slice (some (b4,0)) 1 (i*3) c4,.int .i64 i,w6,.bool true,w8,w9],⟨L4,e4⟩⟩) ?_ (3 ^ d) _
    ⟨0,L.length,some 0,[],L++[.cells [] true],_,_,_,_,by omega,⟨_,rfl⟩,by omega,fun _=>rfl,by rw [ZY];rfl,⟨rfl,fun i l hl=>absurd hl (by simp)⟩,he1,rfl⟩
   clear w4 w5 w6 w7 w8 w9
   rintro j2 _ ⟨i,b4,c4,es4,L4,e4,w6,w8,w9,hij,hL4,hb4,hc4,hLb4,hR4,he4,rfl⟩
   by_cases hj2:j2=0
   ·have he:i=3 ^ d:=by omega
    subst he
    rw [List.take_of_length_le (by omega),Zxr] at hR4
    simp (maxSteps:=2000000) +contextual only [ZjZ,Rh,hdw,decide_false,pp,go_sem,reduceIte,Ra,Rb,Rc,Rd]
    have hgr:Z4 H L4:=by
     obtain ⟨G1,rfl⟩:=hL
     obtain ⟨G2,rfl⟩:=hL4
     exact ⟨G1++G2,by rw [Rs]⟩
    exact ⟨j - 1,by omega,d+1,b4,c4,es4,L4,e4,_,_,_,_,_,_,by omega,hgr,by omega,hLb4,hR4,he4,by rw [hps]⟩
   ·have hi:i<3 ^ d:=by omega
    obtain ⟨l,hl⟩:∃ l,(XD d)[i]?=some l:=⟨_,Rj (by omega)⟩
    obtain ⟨q,cq,hq1,hq2,hq3,hq4⟩:=hR.2 i l hl
    have hll:=(Zi1 d l (WK hl)).1
    have hiw:=Zh (show i<9223372036854775807 by omega)
    simp (maxSteps:=2000000) +contextual only [ZjZ,hi,decide_true,pp,go_sem,reduceIte,Ra,Rb,Rc,Rd]
    refine ZM (fun j3 st=>∃ (b5:Nat) (c5:Option Nat) (es5:List AV) (L5:List Blk) (e5:Option Nat) (w9:AV),j3≤3∧Z4 L L5∧L.length≤b5∧(c5=some 0→i*3+(3 - j3)=0)∧L5[b5]?=some (.cells es5 true)∧XE L5 H.length b5 es5 ((((XD d).take i).flatMap fun l=>[l++[-1],l++[0],l++[1]])++[l++[-1],l++[0],l++[1]].take (3 - j3))∧clean H.length e5=true ∧
     st=⟨[.int .i64 n,ZZ,.slice (some (b,0)) 1 (3 ^ d) c,.int .i64 d,.slice (some (b5,0)) 1 (i*3+(3 - j3)) c5,.int .i64 i,.int .i64 (2 - (j3:Int)),.bool true,.bool true,w9],⟨L5,e5⟩⟩) ?_ 3 _
     ⟨b4,c4,es4,_,_,_,Rz _,hL4,hb4,hc4,hLb4,by simpa using hR4,he4,rfl⟩
    clear w6 w8 w9
    rintro j3 _ ⟨b5,c5,es5,L5,e5,w9,hj33,hL5,hb5,hc5,hLb5,hR5,he5,rfl⟩
    by_cases hj3:j3=0
    ·subst hj3
     have hc:¬ (2 - ((0:Nat):Int)≤1):=by omega
     simp (maxSteps:=2000000) +contextual only [ZjY,hc,hiw,decide_false,pp,go_sem,reduceIte,Ra,Rb,Rc,Rd]
     have hR5':XE L5 H.length b5 es5 (((XD d).take (i+1)).flatMap fun l=>[l++[-1],l++[0],l++[1]]):=by
      have he:(XD d).take (i+1)=(XD d).take i++[l]:=by
       rw [RL (by omega)]
       rw [Rj (by omega),RV] at hl
       rw [hl]
      rw [he,List.flatMap_append]
      simpa using hR5
     exact ⟨j2 - 1,by omega,i+1,b5,c5,es5,L5,e5,_,_,_,by omega,hL5,hb5,fun h=>by have:=hc5 h;omega,hLb5,hR5',he5,by rw [show (i+1)*3=i*3+(3 - 0) by omega]⟩
    ·have hc:2 - (j3:Int)≤1:=by omega
     obtain ⟨s,hs⟩:∃ s,2 - (j3:Int)=s:=⟨_,rfl⟩
     have hb2:Zb L5 b=some es:=by
      obtain ⟨G,rfl⟩:=hL5
      exact Za (Zg hLb) G
     have hqc:Zb L5 q=some (ZR l):=by
      obtain ⟨G,rfl⟩:=hL5
      exact Za (Zg hq4) G
     have hown:∀ L e',Zb L q=some (ZR l)→call T pr Zav [slI q l.length cq] ⟨L,e'⟩=some (slI L.length l.length none,⟨L++[.cells (ZR l) true],e'⟩):=fun L e' hL=>Zqw hL (by omega)
     have w4:IntKind.i64.wrap (s+1)=2 - ((j3 - 1:Nat):Int):=by rw [←hs,ZP (by omega) (by omega)];omega
     rw [hs]
     have hc':s≤1:=by omega
     simp (maxSteps:=2000000) +contextual only [ZjY,hc',Zc,hi,hb2,YX _ hq1,hown,hqc,decide_true,pp,go_sem,reduceIte,Ra,Rb,Rc,Rd]
     refine Zja (k:=1) (new:=[.int .i64 s]) (cs:=ZR l) (by rw [RN (Rz _),WH];rfl) (Qk _ 1 1 _ _ (L5.length+1) (by simp +contextual only [go_sem,reduceIte,Ra,Rb,Rc,Rd]) rfl) (by simp [ZR]) rfl (by unfold maxBytes;omega) (by simp) ?_
     intro L6 f1 f2 f3 f4
     rw [ZHv] at f3
     have hl6:L6.length=L5.length+3:=by rw [f1];simp
     have f3':L6[L5.length+2]?=some (.cells (ZR (l++[s])) true):=by simpa using f3
     have keep6:∀ x,x<L5.length→L6[x]?=L5[x]?:=fun x hx=>by
      rw [f2 x (by omega) (by simp;omega),Wt hx]
     have hb5l:b5<L5.length:=(RB.mp hLb5).1
     have hLe5:=hL5.le
     simp (maxSteps:=2000000) +contextual only [Zc,R3,Rl,RM,pp,go_sem,reduceIte,Ra,Rb,Rc,Rd]
     have hfl:((((XD d).take i).flatMap fun l=>[l++[-1],l++[0],l++[1]])++[l++[-1],l++[0],l++[1]].take (3 - j3)).length=i*3+([l++[-1],l++[0],l++[1]].take (3 - j3)).length:=by
      have:∀ ll:List (List Int),(ll.flatMap fun l=>[l++[-1],l++[0],l++[1]]).length=ll.length*3:=by
       intro ll
       induction ll with
       | nil=>rfl
       | cons a ll ih=>simp only [List.flatMap_cons,R3,ih,Rl,RM];omega
      rw [R3,this,Wn]
      omega
     refine Zja (k:=1) (new:=[slI (L5.length+2) (l.length+1) none]) (cs:=es5) (by rw [Wt (by omega),keep6 _ hb5l];exact hLb5) (Qk _ 1 1 _ _ L6.length (by simp +contextual only [go_sem,reduceIte,Ra,Rb,Rc,Rd]) rfl) (by rw [hR5.1,hfl,Wn];simp <;> omega) rfl (by unfold maxBytes;omega) (fun h=>by have:=hc5 h;omega) ?_
     intro L7 g1 g2 g3 g4
     have hl7:L7.length=L5.length+5:=by rw [g1];simp;omega
     simp (maxSteps:=2000000) +contextual only [w4,pp,go_sem,reduceIte,Ra,Rb,Rc,Rd]
     have g3':L7[L6.length+1]?=some (.cells (es5++[slI (L5.length+2) (l++[s]).length none]) true):=by
      rw [R3 (bs:=[s])]
      simpa using g3
     have keep7:∀ x,x≠b5→x<L6.length→L7[x]?=L6[x]?:=fun x h1 h2=>by
      rw [g2 x h1 (by simp;omega),Wt h2]
     have hgr:Z4 L L7:=g4 _ ((f4 _ ((hL5.more _)) (by omega)).more _) hb5
     have hR7:=(hR5.of (L':=L7) (hi':=L6.length+1) (fun x hx=>by rw [keep7 x (by omega) (by omega),keep6 x (by omega)]) (by omega)).snoc (q:=L5.length+2) (c:=none) (l:=l++[s]) (by have:=hL.le;omega) (by omega) (by rw [keep7 _ (by omega) (by omega)];exact f3')
     have ht:(((XD d).take i).flatMap fun l=>[l++[-1],l++[0],l++[1]])++[l++[-1],l++[0],l++[1]].take (3 - (j3 - 1))=(((XD d).take i).flatMap fun l=>[l++[-1],l++[0],l++[1]])++[l++[-1],l++[0],l++[1]].take (3 - j3)++[l++[s]]:=by
      rw [Rs]
      congr 1
      have:j3=1∨j3=2∨j3=3:=by omega
      rcases this with rfl | rfl | rfl
      ·rw [show s=1 by omega];rfl
      ·rw [show s=0 by omega];rfl
      ·rw [show s = -1 by omega];rfl
     rw [←ht] at hR7
     exact ⟨j3 - 1,by omega,L6.length+1,none,_,L7,e5,_,by omega,hgr,by omega,by simp,g3',hR7,he5,by rw [show i*3+(3 - j3)+1=i*3+(3 - (j3 - 1)) by omega]⟩
 ·rw [RN (by omega),show H.length+1 - H.length=1 by omega];rfl
 ·refine ⟨rfl,fun i l hl => ?_⟩
  have hi:=(RB.mp hl).1
  have hi0:i=0:=by simp [XD] at hi;omega
  subst hi0
  have hl':l=[]:=by simpa [XD] using hl.symm
  subst hl'
  exact ⟨H.length,some 0,rfl,Rz _,by omega,by rw [RN (by omega),WH];rfl⟩
 ·first | exact rfl | exact he0 _
theorem ZHx (l:List Int) (x:Int):sqZ (l++[x])=sqZ l+x*x:=by
 induction l with
 | nil=>simp [sqZ]
 | cons a l ih=>simp only [List.cons_append,sqZ,ih];omega
theorem ZKF (c:Nat) (hc:c<4096) (i:Nat) (hi:i<12):decide (ZKj .i64 (ZJe .i64 c (i:Int)) 1=1)=c.testBit i:=by
 have h1:ZJe .i64 (c:Int) (i:Int)=((c / 2 ^ i:Nat):Int):=by
  unfold ZJe
  have:min (i:Int).toNat IntKind.i64.bits=i:=by show min (i:Int).toNat 64=i;omega
  rw [this,Int.fdiv_eq_ediv_of_nonneg _ (Int.pow_nonneg (by omega))]
  simp
 have h2:∀ n:Nat,n<4096→ZKj .i64 (n:Int) 1=((n % 2:Nat):Int):=by
  intro n hn
  have e1:(BitVec.ofInt 64 (n:Int) &&& BitVec.ofInt 64 1).toNat=n % 2:=by
   rw [BitVec.toNat_and,BitVec.ofInt_natCast,BitVec.toNat_ofNat,Nat.mod_eq_of_lt (by omega)]
   exact Nat.and_one_is_mod n
  show IntKind.i64.wrap ((BitVec.ofInt 64 (n:Int) &&& BitVec.ofInt 64 1).toNat:Int)=_
  rw [e1]
  exact Ki (by omega)
 have h3:c / 2 ^ i<4096:=Nat.lt_of_le_of_lt (Rt _ _) hc
 rw [h1,h2 _ h3,Nat.testBit_eq_decide_div_mod_eq]
 congr 1
 exact propext ⟨fun h=>by omega,fun h=>by omega⟩
theorem ZKG:∀ n:Nat,n<13→ZKi .i64 1 (n:Int)=((2 ^ n:Nat):Int):=by decide +kernel
theorem ZHy (x:Int) (i:Nat):Xv 0 .shl (.int .i64 x) (.int .i64 (i:Int))=some (.int .i64 (ZKi .i64 x i)):=by
 rw [Zwp,if_neg (by omega)]
theorem ZA6 (x:Int) (i:Nat):Xv 0 .shr (.int .i64 x) (.int .i64 (i:Int))=some (.int .i64 (ZJe .i64 x i)):=by
 rw [Zwq,if_neg (by omega)]
theorem ZGa (c i:Nat):Zhf (i+1) c=Zhf i c++if c.testBit i then [i] else []:=by
 unfold Zhf
 rw [List.range_succ,WS]
 cases h:c.testBit i <;> simp [h]
theorem ZA7 (n c:Nat):(Zhf n c).length≤n:=by
 have:=WG (fun i=>c.testBit i) (WD n)
 simpa [Zhf] using this
def ZGb (ls:List Ld) (p:Int) (l:List Nat):Int:=(l.map fun i=>ls.getD i (0,0)).foldl (ZaS p) 0
theorem ZxB (ls:List Ld) (p:Int) (l:List Nat) (i:Nat) (x:Ld) (h:ls[i]?=some x):ZGb ls p (l++[i])=ZaS p (ZGb ls p l) x:=by
 unfold ZGb
 rw [WP,List.foldl_append]
 simp [WR,h]
def ZbA (ls:List Ld) (p:Int) (l:List Nat):Bool:=decide (ZGb ls p l=0)
def ZAd (ls:List Ld) (p:Int) (c:Nat):List (List Nat):=((WD c).map (Zhf ls.length)).filter (ZbA ls p)
theorem ZGc (ls:List Ld) (p:Int) (c:Nat):ZAd ls p (c+1)=ZAd ls p c++if ZbA ls p (Zhf ls.length c) then [Zhf ls.length c] else []:=by
 unfold ZAd
 rw [List.range_succ,WP,WS]
 cases h:ZbA ls p (Zhf ls.length c) <;> simp [h]
theorem ZA8 (ls:List Ld) (p:Int) (c:Nat):(ZAd ls p c).length≤c:=by
 unfold ZAd
 have:=WG (ZbA ls p) ((WD c).map (Zhf ls.length))
 simpa using this
theorem ZA9 (l:List Nat) (i:Nat):ZR (asZ l)++[.int .i64 i]=ZR (asZ (l++[i])):=by
 unfold asZ ZR
 simp
theorem ZgU (l:List Nat):(asZ l).length=l.length:=by simp [asZ]
theorem XE.grown {L L':List Blk} {lo hi hi':Nat} {es:List AV} {ls:List (List Int)} (h:XE L lo hi es ls) (hg:Z4 L L') (h1:hi≤L.length) (hh:hi≤hi'):XE L' lo hi' es ls:=by
 obtain ⟨G,rfl⟩:=hg
 exact h.of (fun i hi=>Wt (by omega)) hh
theorem ZdF {A B C:List Blk} (h1:Z4 A B) (h2:Z4 B C):Z4 A C:=by
 obtain ⟨G1,rfl⟩:=h1
 obtain ⟨G2,rfl⟩:=h2
 exact ⟨G1++G2,by rw [Rs]⟩
theorem Xa {A B:List Blk} {q:Nat} {cs:List AV} (h1:Z4 A B) (h:Zb A q=some cs):Zb B q=some cs:=by
 obtain ⟨G1,rfl⟩:=h1
 exact Za h G1
theorem ZlS {A B:List Blk} {q:Nat} {b:Blk} (h1:Z4 A B) (h:A[q]?=some b):B[q]?=some b:=by
 obtain ⟨G1,rfl⟩:=h1
 exact Yv h G1
theorem XE.sorted {L:List Blk} {lo hi:Nat} {es:List AV} {ks:List (List Int)} (h:XE L lo hi es ks):XE L lo hi ((ZAV ks).map fun i=>(es[i]?).getD .undef) ((ZAV ks).map fun i=>ks.getD i []):=by
 refine ⟨by simp,fun i l hl => ?_⟩
 rw [List.getElem?_map] at hl ⊢
 cases hx:(ZAV ks)[i]? with
 | none=>rw [hx] at hl;exact absurd hl (by simp)
 | some x=>
  rw [hx] at hl
  simp only [Option.map_some,RV] at hl ⊢
  have hlt:x<ks.length:=List.mem_range.mp ((ZlI ks).1.mem_iff.mp (WK hx))
  have hkx:ks[x]?=some l:=by
   rw [WR,Rj hlt] at hl
   rw [Rj hlt,←hl];rfl
  obtain ⟨q,c,g1,g2⟩:=h.2 x l hkx
  exact ⟨q,c,by rw [g1];rfl,g2⟩
theorem XE.keys {L:List Blk} {lo hi:Nat} {es:List AV} {ks:List (List Int)} (h:XE L lo hi es ks) (hs:∀ l∈ks,l.length≤1073741824):Zh5 L es=some ks:=by
 refine Zxb h.1 fun i c zs h1 h2 => ?_
 obtain ⟨q,cc,g1,_,_,g4⟩:=h.2 i zs h2
 rw [g1,RV] at h1
 exact ⟨q,cc,h1.symm,Zg g4,hs zs (WK h2)⟩
theorem Zqy (ks:List (List Int)):((ZAV ks).map fun i=>ks.getD i []).Perm ks:=by
 have h:=((ZlI ks).1).map fun i=>ks.getD i []
 have e:(WD ks.length).map (fun i=>ks.getD i [])=ks:=by
  apply List.ext_getElem
  ·simp
  ·intro i h1 h2
   simp [WR,h2]
 rw [e] at h
 exact h
def Yw (ls:List Ld) (p:Int):List (List Int):=(ZGA ls.length (ZbA ls p)).map asZ
set_option maxHeartbeats 1000000 in
theorem Zie (hl:Zuo pr) {q:Nat} {cap:Option Nat} {ls:List Ld} {p:Int} (h:Zb H q=some (Zm ls)) (hn:ls.length≤12):Wc (call T pr Qy [slL q ls.length cap,.int .i64 p] ⟨H,e⟩)
  (fun v m=>∃ (L':List Blk) (e':Option Nat) (b:Nat) (c:Option Nat) (es:List AV),v=slX b (Yw ls p).length c∧m=⟨L',e'⟩∧Z4 H L'∧H.length≤b∧L'[b]?=some (.cells es true)∧XE L' H.length b es (Yw ls p)∧(clean H.length e=true→clean H.length e'=true)):=by
 have hp2:2 ^ ls.length≤2 ^ 12:=RP (by omega) hn
 have h4096:(2:Nat) ^ 12=4096:=by decide
 have hsh:=ZKG ls.length (by omega)
 rw [Zs ZqP]
 simp (maxSteps:=2000000) +contextual only [Ka,Zjj,Zc,ZHy,hsh,pp,go_sem,reduceIte,Ra,Rb,Rc,Rd]
 refine ZM (fun j st=>∃ (c b3:Nat) (c3:Option Nat) (es:List AV) (L:List Blk) (e1:Option Nat) (w4 w5 w6 w7 w8 w11 w12 w13 w14 w15 w16 w17:AV),c+j=2 ^ ls.length∧Z4 H L∧H.length≤b3∧(c3=some 0→(ZAd ls p c).length=0)∧L[b3]?=some (.cells es true)∧XE L H.length b3 es ((ZAd ls p c).map asZ)∧clean H.length e1=true ∧
  st=⟨[slL q ls.length cap,.int .i64 p,ZZ,slX b3 (ZAd ls p c).length c3,w4,w5,w6,w7,w8,.int .i64 ((2 ^ ls.length:Nat):Int),.int .i64 c,w11,w12,w13,w14,w15,w16,w17],⟨L,e1⟩⟩) ?_ (2 ^ ls.length) _
  ⟨0,H.length,some 0,[],H++[.cells [] true],none,_,_,_,_,_,_,_,_,_,_,_,_,by omega,⟨_,rfl⟩,Rz _,fun _=>rfl,by rw [ZY];rfl,⟨rfl,fun i l hl=>absurd hl (by simp [ZAd])⟩,rfl,rfl⟩
 rintro j _ ⟨c,b3,c3,es,L,e1,w4,w5,w6,w7,w8,w11,w12,w13,w14,w15,w16,w17,hcj,hL,hb3,hc3,hLb,hR,he1,rfl⟩
 by_cases hj:j=0
 ·have he:c=2 ^ ls.length:=by omega
  subst he
  simp (maxSteps:=2000000) +contextual only [Zch,Ka,Rh,decide_false,pp,go_sem,reduceIte,Ra,Rb,Rc,Rd]
  have hU:(ZAd ls p (2 ^ ls.length)).map asZ=(Zz0 ls.length (ZbA ls p)).map asZ:=rfl
  generalize hks:(ZAd ls p (2 ^ ls.length)).map asZ=ks at *
  have hkl:(ZAd ls p (2 ^ ls.length)).length=ks.length:=by rw [←hks,WB]
  have hS:((ZAV ks).map fun i=>ks.getD i [])=Yw ls p:=by
   refine Zun ls.length (ZbA ls p) _ (by rw [←hU];exact Zqy ks) ?_
   rw [List.pairwise_map]
   exact (ZlI ks).2
  have hmem:[]∈ks:=by
   rw [←hks,Wg]
   refine ⟨[],?_,rfl⟩
   unfold ZAd
   rw [Ws,Wg]
   exact ⟨⟨0,List.mem_range.mpr (Nat.pow_pos (by omega)),by unfold Zhf;simp⟩,rfl⟩
  have hpos:0<ks.length:=List.length_pos_of_mem hmem
  have hsm:∀ l∈ks,l.length≤1073741824:=by
   intro l hl
   rw [hU,Wg] at hl
   obtain ⟨g,hg,rfl⟩:=hl
   unfold Zz0 at hg
   obtain ⟨c,_,rfl⟩:=Wg.mp (Ws.mp hg).1
   rw [ZgU]
   have:=ZA7 ls.length c
   omega
  have hul:=ZA8 ls p (2 ^ ls.length)
  have hsort:=hl.srt es ks b3 c3 L e1 hLb (hR.keys hsm) hpos (by omega)
  have hRS:=hR.sorted
  rw [hS] at hRS
  have hgl:ks.length=(Yw ls p).length:=by rw [←hS];exact (Zqy ks).length_eq.symm
  rw [hkl]
  simp (maxSteps:=2000000) +contextual only [Ka,hsort,finish,pp,go_sem,reduceIte,Ra,Rb,Rc,Rd]
  exact ⟨_,_,b3,c3,(ZAV ks).map fun i=>(es[i]?).getD .undef,by rw [hgl],rfl,hL.put hb3 _,hb3,by rw [WL (RB.mp hLb).1],hRS.of (fun i hi=>by rw [WA (by omega)]) (Rz _),fun h=>Yl h he1⟩
 ·have hc:c<2 ^ ls.length:=by omega
  have hbl:b3<L.length:=(RB.mp hLb).1
  have hcw:=Zh (show c<9223372036854775807 by omega)
  simp (maxSteps:=2000000) +contextual only [Zch,hc,Zc,decide_true,pp,go_sem,reduceIte,Ra,Rb,Rc,Rd]
  refine ZM (fun j2 st=>∃ (i b5:Nat) (c5:Option Nat) (L5:List Blk) (e5:Option Nat) (w7 w8 w15 w16:AV),i+j2=ls.length∧Z4 L L5∧L.length≤b5∧(c5=some 0→(Zhf i c).length=0)∧L5[b5]?=some (.cells (ZR (asZ (Zhf i c))) true)∧clean H.length e5=true ∧
   st=⟨[slL q ls.length cap,.int .i64 p,ZZ,slX b3 (ZAd ls p c).length c3,.int .i64 c,slI b5 (Zhf i c).length c5,.int .i64 (ZGb ls p (Zhf i c)),w7,w8,.int .i64 ((2 ^ ls.length:Nat):Int),.int .i64 c,.bool true,slL q ls.length cap,.int .i64 ls.length,.int .i64 i,w15,w16,w17],⟨L5,e5⟩⟩) ?_ ls.length _
   ⟨0,L.length,some 0,L++[.cells [] true],_,_,_,_,_,by omega,⟨_,rfl⟩,Rz _,fun _=>rfl,by rw [ZY];rfl,he1,rfl⟩
  clear w4 w5 w6 w7 w8 w11 w12 w13 w14 w15 w16
  rintro j2 _ ⟨i,b5,c5,L5,e5,w7,w8,w15,w16,hij,hL5,hb5,hc5,hLb5,he5,rfl⟩
  have hq5:Zb L5 q=some (Zm ls):=Xa hL5 (Xa hL h)
  have hb5l:b5<L5.length:=(RB.mp hLb5).1
  have hgl:=ZA7 i c
  by_cases hj2:j2=0
  ·have he:i=ls.length:=by omega
   subst he
   have hup:=ZGc ls p c
   have hul:=ZA8 ls p c
   by_cases hz:ZGb ls p (Zhf ls.length c)=0
   ·have hzb:ZbA ls p (Zhf ls.length c)=true:=decide_eq_true hz
    rw [hzb,if_pos rfl] at hup
    simp (maxSteps:=2000000) +contextual only [J4,Rh,Zc,hz,decide_true,decide_false,pp,go_sem,reduceIte,Ra,Rb,Rc,Rd]
    have hLb5':L5[b3]?=some (.cells es true):=ZlS hL5 hLb
    have hLe:=hL5.le
    have hles:es.length=(ZAd ls p c).length:=by rw [hR.1,WB]
    refine Zja (k:=1) (new:=[slI b5 (Zhf ls.length c).length c5]) (cs:=es) (by rw [Wt (by omega)];exact hLb5') (Qk _ 1 1 _ _ L5.length (by simp +contextual only [go_sem,reduceIte,Ra,Rb,Rc,Rd]) rfl) (by omega) rfl (by unfold maxBytes;omega) hc3 ?_
    intro L6 g1 g2 g3 g4
    have hl6:L6.length=L5.length+2:=by rw [g1];simp
    simp (maxSteps:=2000000) +contextual only [hcw,pp,go_sem,reduceIte,Ra,Rb,Rc,Rd]
    have g3':L6[L5.length+1]?=some (.cells (es++[slI b5 (asZ (Zhf ls.length c)).length c5]) true):=by
     rw [ZgU]
     simpa using g3
    have keep:∀ x,x≠b3→x<L5.length→L6[x]?=L5[x]?:=fun x h1 h2=>by
     rw [g2 x h1 (by simp;omega),Wt h2]
    have hR5:=hR.grown hL5 (by omega) (Rz _)
    have hR6:=(hR5.of (L':=L6) (hi':=L5.length+1) (fun x hx=>keep x (by omega) (by omega)) (by omega)).snoc (q:=b5) (c:=c5) (l:=asZ (Zhf ls.length c)) (by have:=hL.le;omega) (by omega) (by rw [keep b5 (by omega) hb5l];exact hLb5)
    exact ⟨j - 1,by omega,c+1,L5.length+1,none,_,L6,e5,_,_,_,_,_,_,_,_,_,_,_,_,by omega,g4 _ ((ZdF hL hL5).more _) hb3,by have:=hL.le;omega,by simp,g3',by rw [hup,WP];exact hR6,he5,by rw [hup,R3];rfl⟩
   ·have hzb:ZbA ls p (Zhf ls.length c)=false:=decide_eq_false hz
    rw [hzb] at hup
    simp only [R7,if_false,RA] at hup
    simp (maxSteps:=2000000) +contextual only [J4,Rh,hz,hcw,decide_false,pp,go_sem,reduceIte,Ra,Rb,Rc,Rd]
    exact ⟨j - 1,by omega,c+1,b3,c3,es,L5,e5,_,_,_,_,_,_,_,_,_,_,_,_,by omega,ZdF hL hL5,hb3,by rw [hup];exact hc3,ZlS hL5 hLb,by rw [hup];exact hR.grown hL5 (by omega) (Rz _),he5,by rw [hup]⟩
  ·have hi:i<ls.length:=by omega
   have hl':ls[i]?=some ls[i]:=Rj hi
   have hiw:=Zh (show i<9223372036854775807 by omega)
   have hb:=ZKF c (by omega) i (by omega)
   have hms:=ZxB ls p (Zhf i c) i ls[i] hl'
   have hgs:=ZGa c i
   generalize ls[i]=x at *
   cases hbt:c.testBit i with
   | false=>
    rw [hbt] at hb hgs
    simp only [R7,if_false,RA] at hgs
    simp (maxSteps:=2000000) +contextual only [J4,hi,hq5,X6 hl',ZA6,hb,hiw,decide_true,pp,go_sem,reduceIte,Ra,Rb,Rc,Rd]
    exact ⟨j2 - 1,by omega,i+1,b5,c5,L5++[.cells [.int .i64 x.1,.int .i64 x.2] true],_,_,_,_,_,by omega,hL5.more _,hb5,by rw [hgs];exact hc5,by rw [hgs];exact Yv hLb5 _,he5,by rw [hgs]⟩
   | true=>
    rw [hbt] at hb hgs
    simp only [if_true] at hgs
    simp (maxSteps:=2000000) +contextual only [J4,hi,hq5,X6 hl',ZA6,hb,Zc,decide_true,pp,go_sem,reduceIte,Ra,Rb,Rc,Rd]
    have hLe:=hL5.le
    refine Zja (k:=1) (new:=[.int .i64 i]) (cs:=ZR (asZ (Zhf i c))) (Yv hLb5 _) (Qk _ 1 1 _ _ (L5.length+1) (by simp +contextual only [go_sem,reduceIte,Ra,Rb,Rc,Rd]) rfl) (by simp [ZR,asZ]) rfl (by unfold maxBytes;omega) hc5 ?_
    intro L6 g1 g2 g3 g4
    have hl6:L6.length=L5.length+3:=by rw [g1];simp
    rw [ZA9,←hgs] at g3
    have g3':L6[L5.length+2]?=some (.cells (ZR (asZ (Zhf (i+1) c))) true):=by simpa using g3
    have hld:Zb L6 L5.length=some [.int .i64 x.1,.int .i64 x.2]:=by
     refine Zg (w:=true) ?_
     rw [g2 L5.length (by omega) (by simp),RN (Rz _),WH];rfl
    have hmst:IntKind.i64.wrap (ZGb ls p (Zhf i c)+IntKind.i64.wrap (x.2*IntKind.i64.wrap (x.1 - p)))=ZGb ls p (Zhf (i+1) c):=by rw [hgs,hms];rfl
    simp (maxSteps:=2000000) +contextual only [hld,Zbv,Zbw,Za7,Wd,RH,RI,Rr,Rq,hmst,hiw,pp,go_sem,reduceIte,Ra,Rb,Rc,Rd]
    have hgl':(Zhf (i+1) c).length=(Zhf i c).length+1:=by rw [hgs];simp
    exact ⟨j2 - 1,by omega,i+1,L5.length+2,none,L6,e5,_,_,_,_,by omega,g4 _ (hL5.more _) hb5,by omega,by simp,g3',he5,by rw [hgl']⟩
theorem XE.low {L:List Blk} {lo lo' hi:Nat} {es:List AV} {ls:List (List Int)} (h:XE L lo hi es ls) (hh:lo'≤lo):XE L lo' hi es ls:=by
 refine ⟨h.1,fun i l hl => ?_⟩
 obtain ⟨q,c,h1,h2,h3,h4⟩:=h.2 i l hl
 exact ⟨q,c,h1,by omega,h3,h4⟩
theorem ZDE {B B':Nat} (h:B≤B'):∀ {a:Option Nat},clean B' a=true→clean B a=true
 | none,_=>rfl
 | some a,h1=>by
  rw [Zaj,decide_eq_true_eq] at h1 ⊢
  omega
def Zaa (n:Nat) (l:List Nat):List (List Nat):=(List.range' (firstN l) (n - firstN l)).map fun x=>l++[x]
theorem Zif (n:Nat) (l:List Nat):(Zaa n l).length=n - firstN l:=by simp [Zaa]
theorem ZgV (n m:Nat):∀ (ll:List (List Nat)),(∀ l∈ll,n - firstN l≤m)→(ll.flatMap (Zaa n)).length≤ll.length*m
 | [],_=>by simp
 | l::ll,h=>by
  have ih:=ZgV n m ll fun x hx=>h x (Wu _ hx)
  have h1:=h l Wf
  simp only [List.flatMap_cons,R3,Zif,Rl,Nat.add_mul,Rq]
  omega
theorem Zqz (n:Nat):∀ (d:Nat) (l:List Nat),l∈Z2 n d→d≤firstN l
 | 0,_,_=>Nat.zero_le _
 | d+1,l,h=>by
  simp only [Z2,WV,Wg,List.mem_range'_1] at h
  obtain ⟨l0,h0,x,⟨h1,_⟩,rfl⟩:=h
  have:=Zqz n d l0 h0
  simp only [firstN,List.getLast?_append,List.getLast?_singleton,Option.some_or]
  omega
def ZAe (n:Nat):Nat→Nat
 | 0=>1
 | d+1=>ZAe n d*(n - d)
theorem ZxC:∀ n:Nat,n<13→∀ d:Nat,d<14→ZAe n d≤479001600:=by decide +kernel
theorem Zfs (n:Nat):∀ k,(Z2 n k).length≤ZAe n k
 | 0=>by simp [Z2,ZAe]
 | k+1=>by
  have ih:=Zfs n k
  have h:=ZgV n (n - k) (Z2 n k) fun l hl=>by have:=Zqz n k l hl;omega
  have e:Z2 n (k+1)=(Z2 n k).flatMap (Zaa n):=rfl
  rw [e,ZAe]
  exact WF h (Nat.mul_le_mul_right _ ih)
theorem ZDF (n:Nat) (l:List Nat) (j:Nat) (hj:j<n - firstN l):(Zaa n l).take (j+1)=(Zaa n l).take j++[l++[firstN l+j]]:=by
 rw [RL (by rw [Zif];exact hj)]
 congr 2
 simp [Zaa]
set_option maxHeartbeats 1000000 in
theorem ZAf {n k:Nat} (hn:n≤12) (hk:k≤n):Wc (call T pr ZiA [.int .i64 n,.int .i64 k] ⟨H,e⟩)
  (fun v m=>∃ (L':List Blk) (e':Option Nat) (b:Nat) (c:Option Nat) (es:List AV),v=slX b (Z2 n k).length c∧m=⟨L',e'⟩∧Z4 H L'∧H.length≤b∧L'[b]?=some (.cells es true)∧XE L' H.length b es ((Z2 n k).map asZ)∧(∀ B,B≤H.length→clean B e=true→clean B e'=true)):=by
 rw [Zs ZBY]
 simp (maxSteps:=2000000) +contextual only [Ze9,Zsc,Zc,pp,go_sem,reduceIte,Ra,Rb,Rc,Rd]
 refine ZM (fun j st=>∃ (d b:Nat) (c:Option Nat) (es:List AV) (L:List Blk) (e1:Option Nat) (w5 w6 w7 w8 w9 w10 w11 w12:AV),d+j=k∧Z4 H L∧H.length≤b∧L[b]?=some (.cells es true)∧XE L H.length b es ((Z2 n d).map asZ)∧clean H.length e1=true ∧
  st=⟨[.int .i64 n,.int .i64 k,ZZ,slX b (Z2 n d).length c,.int .i64 d,w5,w6,w7,w8,w9,w10,w11,w12],⟨L,e1⟩⟩) ?_ k _
  ⟨0,H.length+1,some 1,[slI H.length 0 (some 0)],_,_,_,_,_,_,_,_,_,_,by omega,⟨_,rfl⟩,by omega,?_,?_,?_,rfl⟩
 ·rintro j _ ⟨d,b,c,es,L,e1,w5,w6,w7,w8,w9,w10,w11,w12,hdj,hL,hb,hLb,hR,he1,rfl⟩
  by_cases hj:j=0
  ·have he:d=k:=by omega
   subst he
   simp (maxSteps:=2000000) +contextual only [ZhL,Ze9,finish,Rh,decide_false,pp,go_sem,reduceIte,Ra,Rb,Rc,Rd]
   exact ⟨L,_,b,c,es,rfl,rfl,hL,hb,hLb,hR,fun B hB h=>Yl h (ZDE hB he1)⟩
  ·have hd:d<k:=by omega
   have hbl:b<L.length:=(RB.mp hLb).1
   have hcnt:=Zfs n d
   have hcnt1:=Zfs n (d+1)
   have hp1:=ZxC n (by omega) d (by omega)
   have hp2:=ZxC n (by omega) (d+1) (by omega)
   have hdw:=Zh (show d<9223372036854775807 by omega)
   simp (maxSteps:=2000000) +contextual only [ZhL,hd,Zc,decide_true,pp,go_sem,reduceIte,Ra,Rb,Rc,Rd]
   refine ZM (fun j2 st=>∃ (i b5:Nat) (c5:Option Nat) (es5:List AV) (L5:List Blk) (e5:Option Nat) (w7 w8 w10 w11 w12:AV),i+j2=(Z2 n d).length∧Z4 L L5∧L.length≤b5∧(c5=some 0→(((Z2 n d).take i).flatMap (Zaa n)).length=0)∧L5[b5]?=some (.cells es5 true)∧XE L5 H.length b5 es5 ((((Z2 n d).take i).flatMap (Zaa n)).map asZ)∧clean H.length e5=true ∧
    st=⟨[.int .i64 n,.int .i64 k,ZZ,slX b (Z2 n d).length c,.int .i64 d,slX b5 (((Z2 n d).take i).flatMap (Zaa n)).length c5,.int .i64 i,w7,w8,.bool true,w10,w11,w12],⟨L5,e5⟩⟩) ?_ (Z2 n d).length _
    ⟨0,L.length,some 0,[],L++[.cells [] true],_,_,_,_,_,_,by omega,⟨_,rfl⟩,by omega,fun _=>rfl,by rw [ZY];rfl,⟨rfl,fun i l hl=>absurd hl (by simp)⟩,he1,rfl⟩
   clear w5 w6 w7 w8 w9 w10 w11 w12
   rintro j2 _ ⟨i,b5,c5,es5,L5,e5,w7,w8,w10,w11,w12,hij,hL5,hb5,hc5,hLb5,hR5,he5,rfl⟩
   by_cases hj2:j2=0
   ·have he:i=(Z2 n d).length:=by omega
    subst he
    rw [Wl] at *
    have e:(Z2 n d).flatMap (Zaa n)=Z2 n (d+1):=rfl
    rw [e] at *
    simp (maxSteps:=2000000) +contextual only [Zeo,Rh,hdw,decide_false,pp,go_sem,reduceIte,Ra,Rb,Rc,Rd]
    exact ⟨j - 1,by omega,d+1,b5,c5,es5,L5,e5,_,_,_,_,_,_,_,_,by omega,ZdF hL hL5,by omega,hLb5,hR5,he5,rfl⟩
   ·have hi:i<(Z2 n d).length:=by omega
    obtain ⟨l,hl⟩:∃ l,(Z2 n d)[i]?=some l:=⟨_,Rj hi⟩
    obtain ⟨q,cq,hq1,hq2,hq3,hq4⟩:=hR.2 i (asZ l) (by rw [List.getElem?_map,hl];rfl)
    rw [ZgU] at hq1
    obtain ⟨hll,hlp,hlx⟩:=(Ja n d l).mp (WK hl)
    have hiw:=Zh (show i<9223372036854775807 by omega)
    have hb2:Zb L5 b=some es:=Xa hL5 (Zg hLb)
    have hqc:Zb L5 q=some (ZR (asZ l)):=Xa hL5 (Zg hq4)
    have htk:(Z2 n d).take (i+1)=(Z2 n d).take i++[l]:=by
     rw [RL (by omega)]
     rw [Rj (by omega),RV] at hl
     rw [hl]
    have hfm:((Z2 n d).take (i+1)).flatMap (Zaa n)=((Z2 n d).take i).flatMap (Zaa n)++Zaa n l:=by
     rw [htk,List.flatMap_append];simp
    have hfl:(((Z2 n d).take i).flatMap (Zaa n)).length+(n - firstN l)≤ZAe n (d+1):=by
     have g1:=ZgV n (n - d) ((Z2 n d).take (i+1)) fun l hl=>by have:=Zqz n d l (List.mem_of_mem_take hl);omega
     rw [hfm,R3,Zif,Wn] at g1
     refine WF g1 ?_
     rw [ZAe]
     exact Nat.mul_le_mul_right _ (by omega)
    have hfn:firstN l≤n:=Zw5 l n hlx
    have hw1:=Zh (show firstN l - 1<9223372036854775807 by omega)
    have hstart:0<d→(asZ l)[d - 1]?=some ((firstN l - 1:Nat):Int)∧0<firstN l:=fun h0=>by
     rcases List.eq_nil_or_concat l with rfl | ⟨l0,y,rfl⟩
     ·simp at hll;omega
     ·simp only [List.concat_eq_append] at hll ⊢
      have:d - 1=l0.length:=by simp at hll;omega
      rw [this]
      unfold asZ
      simp [firstN]
    have key:∀ (Q:Ex→St→Prop) (w7 w11 w12:AV),(∀ (b6:Nat) (c6:Option Nat) (es6:List AV) (L6:List Blk) (e6:Option Nat) (w8 w12:AV),Z4 L L6→L.length≤b6→(c6=some 0→(((Z2 n d).take (i+1)).flatMap (Zaa n)).length=0)→L6[b6]?=some (.cells es6 true)→XE L6 H.length b6 es6 ((((Z2 n d).take (i+1)).flatMap (Zaa n)).map asZ)→clean H.length e6=true →
      Q (.exit 4) ⟨[.int .i64 n,.int .i64 k,ZZ,slX b (Z2 n d).length c,.int .i64 d,slX b6 (((Z2 n d).take (i+1)).flatMap (Zaa n)).length c6,.int .i64 i,w7,w8,.bool true,.bool true,w11,w12],⟨L6,e6⟩⟩) →
      Wp (run T pr (.loop Zen) ⟨[.int .i64 n,.int .i64 k,ZZ,slX b (Z2 n d).length c,.int .i64 d,slX b5 (((Z2 n d).take i).flatMap (Zaa n)).length c5,.int .i64 i,w7,.int .i64 (firstN l),.bool true,.bool true,w11,w12],⟨L5,e5⟩⟩) Q:=by
     intro Q w7 w11 w12 hQ
     refine ZM (fun j3 st=>∃ (x b6:Nat) (c6:Option Nat) (es6:List AV) (L6:List Blk) (e6:Option Nat) (w12:AV),x+j3=n - firstN l∧Z4 L L6∧L.length≤b6∧(c6=some 0→(((Z2 n d).take i).flatMap (Zaa n)).length+x=0)∧L6[b6]?=some (.cells es6 true)∧XE L6 H.length b6 es6 ((((Z2 n d).take i).flatMap (Zaa n)++(Zaa n l).take x).map asZ)∧clean H.length e6=true ∧
      st=⟨[.int .i64 n,.int .i64 k,ZZ,slX b (Z2 n d).length c,.int .i64 d,slX b6 ((((Z2 n d).take i).flatMap (Zaa n)).length+x) c6,.int .i64 i,w7,.int .i64 ((firstN l+x:Nat):Int),.bool true,.bool true,w11,w12],⟨L6,e6⟩⟩) ?_ (n - firstN l) _
      ⟨0,b5,c5,es5,_,_,_,by omega,hL5,hb5,hc5,hLb5,by simpa using hR5,he5,rfl⟩
     clear w12
     rintro j3 _ ⟨x,b6,c6,es6,L6,e6,w12,hxj,hL6,hb6,hc6,hLb6,hR6,he6,rfl⟩
     by_cases hj3:j3=0
     ·have he:firstN l+x=n:=by omega
      rw [he]
      have hx:x=(Zaa n l).length:=by rw [Zif];omega
      rw [hx,Wl,←hfm] at hR6
      have hlen:(((Z2 n d).take i).flatMap (Zaa n)).length+x=(((Z2 n d).take (i+1)).flatMap (Zaa n)).length:=by rw [hfm,R3,hx]
      rw [hlen] at hc6 ⊢
      simp (maxSteps:=2000000) +contextual only [Zen,Rh,decide_false,pp,go_sem,reduceIte,Ra,Rb,Rc,Rd]
      exact hQ b6 c6 es6 L6 e6 _ _ hL6 hb6 hc6 hLb6 hR6 he6
     ·have hxn:firstN l+x<n:=by omega
      have hxw:=Zh (show firstN l+x<9223372036854775807 by omega)
      have hb26:Zb L6 b=some es:=Xa hL6 (Zg hLb)
      have hqc6:Zb L6 q=some (ZR (asZ l)):=Xa hL6 (Zg hq4)
      have hown:∀ L e',Zb L q=some (ZR (asZ l))→call T pr Zav [slI q l.length cq] ⟨L,e'⟩=some (slI L.length l.length none,⟨L++[.cells (ZR (asZ l)) true],e'⟩):=fun L e' hL=>by
       have:=Zqw (pr:=pr) (e:=e') (cap:=cq) hL (by rw [ZgU];omega)
       rw [ZgU] at this
       exact this
      simp (maxSteps:=2000000) +contextual only [Zen,hxn,Zc,hi,hb26,YX _ hq1,hown,hqc6,decide_true,pp,go_sem,reduceIte,Ra,Rb,Rc,Rd]
      have hLe6:=hL6.le
      have hb6l:b6<L6.length:=(RB.mp hLb6).1
      have hes6:es6.length=(((Z2 n d).take i).flatMap (Zaa n)).length+x:=by
       rw [hR6.1,WB,R3,Wn,Zif];omega
      refine Zja (k:=1) (new:=[.int .i64 ((firstN l+x:Nat):Int)]) (cs:=ZR (asZ l)) (by rw [RN (Rz _),WH];rfl) (Qk _ 1 1 _ _ (L6.length+1) (by simp +contextual only [go_sem,reduceIte,Ra,Rb,Rc,Rd]) rfl) (by simp [ZR,asZ]) rfl (by unfold maxBytes;omega) (by simp) ?_
      intro L7 f1 f2 f3 f4
      rw [ZA9] at f3
      have hl7:L7.length=L6.length+3:=by rw [f1];simp
      have f3':L7[L6.length+2]?=some (.cells (ZR (asZ (l++[firstN l+x]))) true):=by simpa using f3
      have keep7:∀ y,y<L6.length→L7[y]?=L6[y]?:=fun y hy=>by
       rw [f2 y (by omega) (by simp;omega),Wt hy]
      simp (maxSteps:=2000000) +contextual only [Zc,R3,Rl,RM,pp,go_sem,reduceIte,Ra,Rb,Rc,Rd]
      refine Zja (k:=1) (new:=[slI (L6.length+2) (l.length+1) none]) (cs:=es6) (by rw [Wt (by omega),keep7 _ hb6l];exact hLb6) (Qk _ 1 1 _ _ L7.length (by simp +contextual only [go_sem,reduceIte,Ra,Rb,Rc,Rd]) rfl) (by omega) rfl (by unfold maxBytes;omega) (fun h=>by have:=hc6 h;omega) ?_
      intro L8 g1 g2 g3 g4
      have hl8:L8.length=L6.length+5:=by rw [g1];simp;omega
      simp (maxSteps:=2000000) +contextual only [hxw,pp,go_sem,reduceIte,Ra,Rb,Rc,Rd]
      have g3':L8[L7.length+1]?=some (.cells (es6++[slI (L6.length+2) (asZ (l++[firstN l+x])).length none]) true):=by
       rw [ZgU,R3 (bs:=[firstN l+x])]
       simpa using g3
      have keep8:∀ y,y≠b6→y<L7.length→L8[y]?=L7[y]?:=fun y h1 h2=>by
       rw [g2 y h1 (by simp;omega),Wt h2]
      have hgr:Z4 L L8:=g4 _ ((f4 _ ((hL6.more _)) (by omega)).more _) hb6
      have hR8:=(hR6.of (L':=L8) (hi':=L7.length+1) (fun y hy=>by rw [keep8 y (by omega) (by omega),keep7 y (by omega)]) (by omega)).snoc (q:=L6.length+2) (c:=none) (l:=asZ (l++[firstN l+x])) (by have:=hL.le;omega) (by omega) (by rw [keep8 _ (by omega) (by omega)];exact f3')
      have ht:(((Z2 n d).take i).flatMap (Zaa n)++(Zaa n l).take (x+1)).map asZ=(((Z2 n d).take i).flatMap (Zaa n)++(Zaa n l).take x).map asZ++[asZ (l++[firstN l+x])]:=by
       rw [ZDF n l x (by omega),←Rs,WP]
       rfl
      rw [←ht] at hR8
      exact ⟨j3 - 1,by omega,x+1,L7.length+1,none,_,L8,e6,_,by omega,hgr,by omega,by simp,g3',hR8,he6,rfl⟩
    by_cases hd0:d=0
    ·have hd0':¬ (0:Int)<(d:Int):=by omega
     have hl0:l=[]:=by rw [hd0] at hll;exact List.length_eq_zero_iff.mp hll
     have hf0:((firstN l:Nat):Int)=0:=by rw [hl0];rfl
     rw [hf0] at key
     simp (maxSteps:=2000000) +contextual only [Zeo,hi,gt_iff_lt,hd0',decide_true,decide_false,pp,go_sem,reduceIte,Ra,Rb,Rc,Rd]
     refine key _ _ _ _ ?_
     intro b6 c6 es6 L6 e6 w8 w12 g1 g2 g3 g4 g5 g6
     simp (maxSteps:=2000000) +contextual only [hiw,pp,go_sem,reduceIte,Ra,Rb,Rc,Rd]
     exact ⟨j2 - 1,by omega,i+1,b6,c6,es6,L6,e6,_,_,_,_,_,by omega,g1,g2,g3,g4,g5,g6,rfl⟩
    ·have hd0':(0:Int)<(d:Int):=by omega
     have hwd:IntKind.i64.wrap ((d:Int) - 1)=((d - 1:Nat):Int):=by rw [ZP (by omega) (by omega)];omega
     obtain ⟨hs1,hs2⟩:=hstart (by omega)
     have hwf:IntKind.i64.wrap (((firstN l - 1:Nat):Int)+1)=(firstN l:Int):=by rw [hw1];omega
     have hdl:d - 1<l.length:=by omega
     simp (maxSteps:=2000000) +contextual only [Zeo,hi,gt_iff_lt,hd0',hb2,YX _ hq1,hqc,hwd,Zu _ hs1,hwf,hdl,decide_true,pp,go_sem,reduceIte,Ra,Rb,Rc,Rd]
     refine key _ _ _ _ ?_
     intro b6 c6 es6 L6 e6 w8 w12 g1 g2 g3 g4 g5 g6
     simp (maxSteps:=2000000) +contextual only [hiw,pp,go_sem,reduceIte,Ra,Rb,Rc,Rd]
     exact ⟨j2 - 1,by omega,i+1,b6,c6,es6,L6,e6,_,_,_,_,_,by omega,g1,g2,g3,g4,g5,g6,rfl⟩
 ·rw [RN (by omega),show H.length+1 - H.length=1 by omega];rfl
 ·refine ⟨rfl,fun i l hl => ?_⟩
  have hi:=(RB.mp hl).1
  have hi0:i=0:=by simp [Z2] at hi;omega
  subst hi0
  have hl':l=[]:=by simpa [Z2,asZ] using hl.symm
  subst hl'
  exact ⟨H.length,some 0,rfl,Rz _,by omega,by rw [RN (by omega),WH];rfl⟩
 ·rfl
theorem ZDG {q q2:Nat} {cap cap2:Option Nat} {ls:List Ld} {p:Int} {l:List Nat} (h:Zb H q=some (Zm ls)) (h2:Zb H q2=some (ZR (asZ l))) (hn:ls.length≤12) (hl:∀ x∈l,x<ls.length) (hll:l.length≤1000000) :
  call T pr Ze2 [slL q ls.length cap,.int .i64 p,slI q2 l.length cap2] ⟨H,e⟩=some (.bool (ZbA ls p l),⟨H,e⟩):=by
 apply Wc.eq
 rw [Zs ZBZ]
 simp (maxSteps:=2000000) +contextual only [Zfa,Zsd,pp,go_sem,reduceIte,Ra,Rb,Rc,Rd]
 refine ZM (fun j st=>∃ (i:Nat) (w6:AV),i+j=l.length ∧
  st=⟨[slL q ls.length cap,.int .i64 p,slI q2 l.length cap2,.bool false,.int .i64 (ZGb ls p (l.take i)),.int .i64 i,w6],⟨H,none⟩⟩) ?_ l.length _ ⟨0,_,by omega,by rw [List.take_zero];rfl⟩
 rintro j _ ⟨i,w6,hij,rfl⟩
 by_cases hj:j=0
 ·have he:i=l.length:=by omega
  subst he
  rw [Wl]
  simp (maxSteps:=2000000) +contextual only [ZhM,Zfa,ZbA,Rh,decide_false,pp,go_sem,reduceIte,Ra,Rb,Rc,Rd]
 ·have hi:i<l.length:=by omega
  have g2:(asZ l)[i]?=some ((l[i]:Nat):Int):=by simp [asZ,hi]
  have hx:=hl l[i] (WC hi)
  have htk:=RL hi
  generalize l[i]=x at *
  have hlx:ls[x]?=some ls[x]:=Rj hx
  have hms:=ZxB ls p (l.take i) x ls[x] hlx
  rw [←htk] at hms
  generalize ls[x]=y at *
  have hsw:=Zh (show i<9223372036854775807 by omega)
  have hmst:IntKind.i64.wrap (ZGb ls p (l.take i)+IntKind.i64.wrap (y.2*IntKind.i64.wrap (y.1 - p)))=ZGb ls p (l.take (i+1)):=by rw [hms];rfl
  simp (maxSteps:=2000000) +contextual only [ZhM,hi,hx,h,h2,Zu _ g2,JC _ hlx,XO _ hlx,hmst,hsw,decide_true,pp,go_sem,reduceIte,Ra,Rb,Rc,Rd]
  exact ⟨j - 1,by omega,i+1,_,by omega,rfl⟩
def ZuK (n:Nat) (Z:List Nat→Bool) (k i:Nat):List (List Nat):=((WD k).flatMap (Z2 n)).filter Z++((Z2 n k).take i).filter Z
theorem ZlT (n:Nat) (Z:List Nat→Bool) (k:Nat):ZuK n Z k 0=((WD k).flatMap (Z2 n)).filter Z:=by
 unfold ZuK;simp
theorem ZHz (n:Nat) (Z:List Nat→Bool) (k:Nat):ZuK n Z k (Z2 n k).length=ZuK n Z (k+1) 0:=by
 unfold ZuK
 rw [Wl,List.range_succ,List.flatMap_append,WS]
 simp
theorem ZGd (n:Nat) (Z:List Nat→Bool) (k i:Nat) (l:List Nat) (h:(Z2 n k)[i]?=some l):ZuK n Z k (i+1)=ZuK n Z k i++if Z l then [l] else []:=by
 obtain ⟨hi,rfl⟩:=RB.mp h
 unfold ZuK
 rw [RL hi,WS,Rs]
 congr 2
 cases hz:Z (Z2 n k)[i] <;> simp [hz]
theorem Zop (n:Nat) (hn:n≤12) (Z:List Nat→Bool) (k i:Nat) (hk:k≤13):(ZuK n Z k i).length≤(k+1)*479001600:=by
 have h1:∀ k,k≤13→((WD k).flatMap (Z2 n)).length≤k*479001600:=by
  intro k
  induction k with
  | zero=>intro _;simp
  | succ k ih=>
   intro hk
   have:=ih (by omega)
   have h2:=Zfs n k
   have h3:=ZxC n (by omega) k (by omega)
   rw [List.range_succ,List.flatMap_append,R3]
   simp only [List.flatMap_cons,List.flatMap_nil,RA]
   omega
 have h2:=h1 k hk
 have h3:=Zfs n k
 have h4:=ZxC n (by omega) k (by omega)
 have h5:=WG Z ((WD k).flatMap (Z2 n))
 have h6:=WG Z ((Z2 n k).take i)
 have h7:=List.length_take_le i (Z2 n k)
 have h8:=List.length_take_le' i (Z2 n k)
 unfold ZuK
 rw [R3]
 omega
set_option maxHeartbeats 1000000 in
theorem ZlU {q:Nat} {cap:Option Nat} {ls:List Ld} {p:Int} (h:Zb H q=some (Zm ls)) (hn:ls.length≤12):Wc (call T pr ZbX [slL q ls.length cap,.int .i64 p] ⟨H,e⟩)
  (fun v m=>∃ (L':List Blk) (e':Option Nat) (b:Nat) (c:Option Nat) (es:List AV),v=slX b (Yw ls p).length c∧m=⟨L',e'⟩∧Z4 H L'∧H.length≤b∧L'[b]?=some (.cells es true)∧XE L' H.length b es (Yw ls p)∧(clean H.length e=true→clean H.length e'=true)):=by
 rw [Zs Zvy]
 simp (maxSteps:=2000000) +contextual only [Zb5,Znf,Zc,pp,go_sem,reduceIte,Ra,Rb,Rc,Rd]
 refine ZM (fun j st=>∃ (k b3:Nat) (c3:Option Nat) (es:List AV) (L:List Blk) (e1:Option Nat) (w5 w6 w7 w8 w9:AV),k+j=ls.length+1∧Z4 H L∧H.length≤b3∧(c3=some 0→(ZuK ls.length (ZbA ls p) k 0).length=0)∧L[b3]?=some (.cells es true)∧XE L H.length b3 es ((ZuK ls.length (ZbA ls p) k 0).map asZ)∧clean H.length e1=true ∧
  st=⟨[slL q ls.length cap,.int .i64 p,ZZ,slX b3 (ZuK ls.length (ZbA ls p) k 0).length c3,.int .i64 k,w5,w6,w7,w8,w9],⟨L,e1⟩⟩) ?_ (ls.length+1) _
  ⟨0,H.length,some 0,[],H++[.cells [] true],none,_,_,_,_,_,by omega,⟨_,rfl⟩,Rz _,fun _=>rfl,by rw [ZY];rfl,⟨rfl,fun i l hl=>absurd hl (by simp [ZuK])⟩,rfl,rfl⟩
 rintro j _ ⟨k,b3,c3,es,L,e1,w5,w6,w7,w8,w9,hkj,hL,hb3,hc3,hLb,hR,he1,rfl⟩
 by_cases hj:j=0
 ·have he:k=ls.length+1:=by omega
  subst he
  have hle:¬ ((ls.length+1:Nat):Int)≤((ls.length:Nat):Int):=by omega
  rw [ZlT] at *
  have hg:(((WD (ls.length+1)).flatMap (Z2 ls.length)).filter (ZbA ls p)).map asZ=Yw ls p:=rfl
  have hgl:(((WD (ls.length+1)).flatMap (Z2 ls.length)).filter (ZbA ls p)).length=(Yw ls p).length:=by rw [←hg,WB]
  rw [hg] at hR
  rw [hgl]
  simp (maxSteps:=2000000) +contextual only [ZeN,Zb5,finish,hle,decide_false,pp,go_sem,reduceIte,Ra,Rb,Rc,Rd]
  exact ⟨L,_,b3,c3,es,rfl,rfl,hL,hb3,hLb,hR,fun h=>Yl h he1⟩
 ·have hk:k≤ls.length:=by omega
  have hkw:=Zh (show k<9223372036854775807 by omega)
  have hkZ:(k:Int)≤(ls.length:Int):=by omega
  simp (maxSteps:=2000000) +contextual only [ZeN,hkZ,decide_true,pp,go_sem,reduceIte,Ra,Rb,Rc,Rd]
  refine (ZAf hn hk).mono ?_
  rintro v m ⟨L',e2,bs,cs,ess,rfl,rfl,hLL,hbs,hLs,hRs,hcl⟩
  have he2:=hcl H.length hL.le he1
  simp (maxSteps:=2000000) +contextual only [pp,go_sem,reduceIte,Ra,Rb,Rc,Rd]
  have hbl:b3<L.length:=(RB.mp hLb).1
  have hbsl:bs<L'.length:=(RB.mp hLs).1
  have hLe:=hLL.le
  have hHe:=hL.le
  have hR':=hR.grown hLL (by omega) (Rz _)
  refine ZM (fun j2 st=>∃ (i b5:Nat) (c5:Option Nat) (es5:List AV) (L5:List Blk) (w8 w9:AV),i+j2=(Z2 ls.length k).length∧Z4 H L5∧H.length≤b5∧(b5<L.length∨bs<b5)∧(c5=some 0→(ZuK ls.length (ZbA ls p) k i).length=0)∧L5[b5]?=some (.cells es5 true)∧XE L5 H.length b5 es5 ((ZuK ls.length (ZbA ls p) k i).map asZ)∧XE L5 L.length bs ess ((Z2 ls.length k).map asZ)∧L5[bs]?=some (.cells ess true)∧Zb L5 q=some (Zm ls) ∧
   st=⟨[slL q ls.length cap,.int .i64 p,ZZ,slX b5 (ZuK ls.length (ZbA ls p) k i).length c5,.int .i64 k,slX bs (Z2 ls.length k).length cs,.int .i64 i,.bool true,w8,w9],⟨L5,e2⟩⟩) ?_ (Z2 ls.length k).length _
   ⟨0,b3,c3,es,L',_,_,by omega,ZdF hL hLL,hb3,.inl hbl,hc3,ZlS hLL hLb,hR',hRs,hLs,Xa hLL (Xa hL h),rfl⟩
  clear w5 w6 w7 w8 w9
  rintro j2 _ ⟨i,b5,c5,es5,L5,w8,w9,hij,hL5,hb5,hb5o,hc5,hLb5,hR5,hRs5,hLs5,hq5,rfl⟩
  by_cases hj2:j2=0
  ·have he:i=(Z2 ls.length k).length:=by omega
   subst he
   rw [ZHz] at *
   simp (maxSteps:=2000000) +contextual only [ZbQ,Rh,hkw,decide_false,pp,go_sem,reduceIte,Ra,Rb,Rc,Rd]
   exact ⟨j - 1,by omega,k+1,b5,c5,es5,L5,e2,_,_,_,_,_,by omega,hL5,hb5,hc5,hLb5,hR5,he2,rfl⟩
  ·have hi:i<(Z2 ls.length k).length:=by omega
   obtain ⟨l,hl⟩:∃ l,(Z2 ls.length k)[i]?=some l:=⟨_,Rj hi⟩
   obtain ⟨q2,cq,hq1,hq2,hq3,hq4⟩:=hRs5.2 i (asZ l) (by rw [List.getElem?_map,hl];rfl)
   rw [ZgU] at hq1
   obtain ⟨hll,hlp,hlx⟩:=(Ja ls.length k l).mp (WK hl)
   have hiw:=Zh (show i<9223372036854775807 by have:=Zfs ls.length k;have:=ZxC ls.length (by omega) k (by omega);omega)
   have hsn:=ZGd ls.length (ZbA ls p) k i l hl
   have hpl:=Zop ls.length hn (ZbA ls p) k i (by omega)
   have hz:∀ e',call T pr Ze2 [slL q ls.length cap,.int .i64 p,slI q2 l.length cq] ⟨L5,e'⟩=some (.bool (ZbA ls p l),⟨L5,e'⟩):=fun e'=>ZDG hq5 (Zg hq4) hn hlx (by omega)
   have hbs5:=Zg hLs5
   cases hzb:ZbA ls p l with
   | false=>
    rw [hzb] at hsn hz
    simp only [R7,if_false,RA] at hsn
    simp (maxSteps:=2000000) +contextual only [ZbQ,hi,hbs5,YX _ hq1,hz,hiw,decide_true,pp,go_sem,reduceIte,Ra,Rb,Rc,Rd]
    exact ⟨j2 - 1,by omega,i+1,b5,c5,es5,L5,_,_,by omega,hL5,hb5,hb5o,by rw [hsn];exact hc5,hLb5,by rw [hsn];exact hR5,hRs5,hLs5,hq5,by rw [hsn]⟩
   | true=>
    rw [hzb] at hsn hz
    simp only [if_true] at hsn
    simp (maxSteps:=2000000) +contextual only [ZbQ,hi,hbs5,YX _ hq1,hz,Zc,decide_true,pp,go_sem,reduceIte,Ra,Rb,Rc,Rd]
    have hb5l:b5<L5.length:=(RB.mp hLb5).1
    have hes5:es5.length=(ZuK ls.length (ZbA ls p) k i).length:=by rw [hR5.1,WB]
    refine Zja (k:=1) (new:=[slI q2 l.length cq]) (cs:=es5) (Yv hLb5 _) (Qk _ 1 1 _ _ L5.length (by simp +contextual only [go_sem,reduceIte,Ra,Rb,Rc,Rd]) rfl) (by omega) rfl (by unfold maxBytes;omega) hc5 ?_
    intro L6 g1 g2 g3 g4
    have hl6:L6.length=L5.length+2:=by rw [g1];simp
    simp (maxSteps:=2000000) +contextual only [hiw,pp,go_sem,reduceIte,Ra,Rb,Rc,Rd]
    have g3':L6[L5.length+1]?=some (.cells (es5++[slI q2 (asZ l).length cq]) true):=by
     rw [ZgU]
     simpa using g3
    have keep:∀ x,x≠b5→x<L5.length→L6[x]?=L5[x]?:=fun x h1 h2=>by
     rw [g2 x h1 (by simp;omega),Wt h2]
    have hbs5l:bs<L5.length:=(RB.mp hLs5).1
    have hqH:q<H.length:=Yk h
    have hR6:=(hR5.of (L':=L6) (hi':=L5.length+1) (fun x hx=>keep x (by omega) (by omega)) (by omega)).snoc (q:=q2) (c:=cq) (l:=asZ l) (by omega) (by omega) (by rw [keep q2 (by omega) (by omega)];exact hq4)
    refine ⟨j2 - 1,by omega,i+1,L5.length+1,none,_,L6,_,_,by omega,g4 _ (hL5.more _) hb5,by have:=hL5.le;omega,.inr (by omega),by simp,g3',by rw [hsn,WP];exact hR6,⟨hRs5.1,fun i' l' hl' => ?_⟩,by rw [keep bs (by omega) hbs5l];exact hLs5,?_,by rw [hsn,R3];rfl⟩
    ·obtain ⟨q',c',r1,r2,r3,r4⟩:=hRs5.2 i' l' hl'
     exact ⟨q',c',r1,r2,r3,by rw [keep q' (by omega) (by omega)];exact r4⟩
    ·unfold Zb at hq5 ⊢
     rw [keep q (by omega) (by omega)]
     exact hq5
theorem ZAg {L:List Blk} {v:AV} (h0:AV.roots H.length v=[]) (h0':∀ f,AV.rename f v=v) (hL:Z4 H L) (e0 e1:Option Nat) (hc:clean H.length e1=true):finish 2 H.length e0 v ⟨L,e1⟩=some (v,⟨H,e0⟩):=by
 obtain ⟨G,rfl⟩:=hL
 unfold finish
 simp only [h0,h0',hc]
 simp [XQ]
theorem Za2 {ls:List Ld} (h:YZ ls=true):ls.length≤12:=by
 unfold YZ at h
 rw [Ru,decide_eq_true_eq] at h
 exact h.1
theorem Zux (hl:Zuo pr) {q:Nat} {cap:Option Nat} {ls:List Ld} (h:Zb H q=some (Zm ls)) (hr:YZ ls=true) (p:Int):call T pr Zcq [slL q ls.length cap,.int .i64 p] ⟨H,e⟩=some (.tup [.int .i64 (if Zhh p=true then ((Yw ls p).length:Int) else 0),.bool (Zhh p)],⟨H,e⟩):=by
 have hn:=Za2 hr
 have h1:=fun (L:List Blk) (hL:Zb L q=some (Zm ls))=>QG (pr:=pr) (H:=L) (e:=none) (c:=cap) hL
 have h3:=fun G=>Zdw (pr:=pr) (H:=G) (e:=none) p
 rw [hr] at h1
 apply Wc.eq
 rw [Zs Zs9]
 unfold Zhh
 cases hp:(decide (0≤p)&&decide (p≤60)) with
 | false=>
  rw [hp] at h3
  simp (maxSteps:=2000000) +contextual only [KR,Zf4,h,h1,h3,R7,if_false,if_true,pp,go_sem,reduceIte,Ra,Rb,Rc,Rd]
 | true=>
  rw [hp] at h3
  simp (maxSteps:=2000000) +contextual only [KR,Zf4,h,h1,h3,R7,if_false,if_true,pp,go_sem,reduceIte,Ra,Rb,Rc,Rd]
  refine (Zie hl h hn).mono ?_
  rintro v m ⟨L',e',b,c,es,rfl,rfl,hL,hb,hLb,hR,hcl⟩
  have hf:=fun e0=>ZIA hL e0 e' (.tup [.int .i64 ((Yw ls p).length:Nat),.bool true]) rfl (hcl rfl)
  simp (maxSteps:=2000000) +contextual only [KR,hf,pp,go_sem,reduceIte,Ra,Rb,Rc,Rd]
theorem Zuy {q:Nat} {cap:Option Nat} {ls:List Ld} (h:Zb H q=some (Zm ls)) (hr:YZ ls=true) (p:Int):call T pr Zcy [slL q ls.length cap,.int .i64 p] ⟨H,e⟩=some (.tup [.int .i64 (if Zhh p=true then ((Yw ls p).length:Int) else 0),.bool (Zhh p)],⟨H,e⟩):=by
 have hn:=Za2 hr
 have h1:=fun (L:List Blk) (hL:Zb L q=some (Zm ls))=>ZaR (pr:=pr) (H:=L) (e:=none) (c:=cap) hL
 have h3:=fun G=>ZgA (pr:=pr) (H:=G) (e:=none) p
 rw [hr] at h1
 apply Wc.eq
 rw [Zs Ztq]
 unfold Zhh
 cases hp:(decide (0≤p)&&decide (p≤60)) with
 | false=>
  rw [hp] at h3
  simp (maxSteps:=2000000) +contextual only [K0,Zgs,h,h1,h3,R7,if_false,if_true,pp,go_sem,reduceIte,Ra,Rb,Rc,Rd]
 | true=>
  rw [hp] at h3
  simp (maxSteps:=2000000) +contextual only [K0,Zgs,h,h1,h3,R7,if_false,if_true,pp,go_sem,reduceIte,Ra,Rb,Rc,Rd]
  refine (ZlU h hn).mono ?_
  rintro v m ⟨L',e',b,c,es,rfl,rfl,hL,hb,hLb,hR,hcl⟩
  have hf:=fun e0=>ZIA hL e0 e' (.tup [.int .i64 ((Yw ls p).length:Nat),.bool true]) rfl (hcl rfl)
  simp (maxSteps:=2000000) +contextual only [K0,hf,pp,go_sem,reduceIte,Ra,Rb,Rc,Rd]
def Zft (n:Nat) (g:List Int):Bool:=decide ((0:Int)∈g)&&decide (g.length<n)
def ZdG (ls:List Ld):Int:=((Zln ls 0).toNat / (Q6 ls).toNat:Nat)
def ZqA (ls:List Ld):Bool:=decide (2≤ls.length)&&decide ((Zln ls 0).toNat % (Q6 ls).toNat=0)
def Zal (ls:List Ld):Option (List Int):=if ZqA ls=true then (Yw ls (ZdG ls)).find? (Zft ls.length) else none
theorem ZeD {ls:List Ld} {p:Int} {g:List Int} (h:g∈Yw ls p):((0:Int)∈g↔g[0]?=some 0)∧g.length≤ls.length:=by
 unfold Yw ZGA at h
 obtain ⟨l,hl,rfl⟩:=Wg.mp h
 obtain ⟨k,hk,hm⟩:=WV.mp (Ws.mp hl).1
 obtain ⟨h1,h2,h3⟩:=(Ja ls.length k l).mp hm
 have hk':=List.mem_range.mp hk
 refine ⟨?_,by rw [ZgU];omega⟩
 cases l with
 | nil=>simp [asZ]
 | cons a l=>
  obtain ⟨h4,h5⟩:=List.pairwise_cons.mp h2
  simp only [asZ,List.map_cons,List.mem_cons,Wg,List.getElem?_cons_zero,RV]
  constructor
  ·rintro (h | ⟨x,hx,h6⟩)
   ·exact h.symm
   ·have:=h4 x hx;omega
  ·intro h;exact .inl h.symm
theorem ZqB (hl:Zuo pr) {q:Nat} {cap:Option Nat} {ls:List Ld} (h:Zb H q=some (Zm ls)) (hr:YZ ls=true):Wc (call T pr ZbC [slL q ls.length cap] ⟨H,e⟩)
  (fun v m=>match Zal ls with
   | some g=>∃ (c:Option Nat),v=.tup [slI H.length g.length c,.bool true]∧m=⟨H++[.cells (ZR g) true],e⟩
   | none=>v=.tup [ZZ,.bool false]∧m=⟨H,e⟩):=by
 have hn:=Za2 hr
 have h1:=fun (L:List Blk) (hL:Zb L q=some (Zm ls))=>QG (pr:=pr) (H:=L) (e:=none) (c:=cap) hL
 have h2:=fun (L:List Blk) (hL:Zb L q=some (Zm ls))=>ZaT (pr:=pr) (H:=L) (e:=none) (c:=cap) hL (by omega) 0
 have h3:=fun (L:List Blk) (hL:Zb L q=some (Zm ls))=>Zet (pr:=pr) (H:=L) (e:=none) (c:=cap) hL (by omega)
 rw [hr] at h1
 obtain ⟨m,hm,hm1⟩:=Zxi hr
 obtain ⟨w,hw,hw1⟩:=ZaV hr
 rw [hm] at h2
 rw [hw] at h3
 rw [Zs ZqN]
 by_cases h20:ls.length<2
 ·have h20':((ls.length:Nat):Int)<2:=by omega
  have ha:Zal ls=none:=by unfold Zal ZqA;rw [decide_eq_false (by omega:¬ 2≤ls.length)];rfl
  rw [ha]
  simp (maxSteps:=2000000) +contextual only [Xl,ZbH,h,h1,h20,h20',decide_true,pp,go_sem,reduceIte,Ra,Rb,Rc,Rd,ff]
 ·have h20':¬ ((ls.length:Nat):Int)<2:=by omega
  have hwp:=Zi0 hr (by omega)
  rw [hw,RC] at hwp
  have hw0:¬ ((w:Nat):Int)=0:=by omega
  have hq1:Int.tmod (m:Int) (w:Int)=((m % w:Nat):Int):=rfl
  by_cases hmw:m % w=0
  ·have hmz:((m % w:Nat):Int)=0:=by omega
   have hq2:IntKind.i64.wrap (WJ (m:Int) (w:Int))=ZdG ls:=by
    unfold ZdG
    rw [hm,hw,RC,RC,←Int.ofNat_tdiv]
    exact Ki (by have:=Rt m w;omega)
   have ha:Zal ls=(Yw ls (ZdG ls)).find? (Zft ls.length):=by
    unfold Zal ZqA
    rw [hm,hw,RC,RC,decide_eq_true (by omega:2≤ls.length),decide_eq_true hmw];rfl
   rw [ha]
   simp (maxSteps:=2000000) +contextual only [Xl,ZbH,h,h1,h2,h3,h20,h20',hw0,hq1,hmz,hq2,decide_true,decide_false,pp,go_sem,reduceIte,Ra,Rb,Rc,Rd]
   refine (Zie hl h hn).mono ?_
   rintro v mm ⟨L',e',b,c,es,rfl,rfl,hL,hb,hLb,hR,hcl⟩
   have he':=hcl rfl
   simp (maxSteps:=2000000) +contextual only [pp,go_sem,reduceIte,Ra,Rb,Rc,Rd]
   have hgb:=Zop ls.length hn (ZbA ls (ZdG ls)) (ls.length+1) 0 (by omega)
   rw [ZlT] at hgb
   have hgb2:(Yw ls (ZdG ls)).length≤(ls.length+1+1)*479001600:=by unfold Yw ZGA;rw [WB];exact hgb
   clear hgb
   have hgf:=fun g=>ZeD (ls:=ls) (p:=ZdG ls) (g:=g)
   generalize Yw ls (ZdG ls)=gs at *
   have hes:es.length=gs.length:=hR.1
   have hbc:=Zg hLb
   refine ZM (fun j st=>∃ (i:Nat) (w5 w11 w12:AV),i+j=gs.length∧(gs.drop i).find? (Zft ls.length)=gs.find? (Zft ls.length) ∧
    st=⟨[slL q ls.length cap,ZZ,.bool false,.int .i64 m,.int .i64 w,w5,.bool false,.bool false,slX b gs.length c,.int .i64 gs.length,.int .i64 i,w11,w12],⟨L',e'⟩⟩) ?_ gs.length _ ⟨0,_,_,_,by omega,rfl,rfl⟩
   rintro j _ ⟨i,w5,w11,w12,hij,hfd,rfl⟩
   by_cases hj:j=0
   ·have he:i=gs.length:=by omega
    subst he
    rw [Rp] at hfd
    rw [←hfd]
    have hf:=fun e0=>ZAg (v:=.tup [.slice none 0 0 none,.bool false]) (by simp [AV.roots,AV.roots.go]) (by simp [AV.rename,AV.rename.go]) hL e0 e' he'
    simp (maxSteps:=2000000) +contextual only [XK,Xl,List.find?_nil,Rh,decide_false,hf,pp,go_sem,reduceIte,Ra,Rb,Rc,Rd]
   ·have hi:i<gs.length:=by omega
    obtain ⟨g,hg⟩:∃ g,gs[i]?=some g:=⟨_,Rj hi⟩
    obtain ⟨q2,cq,hq1,hq2,hq3,hq4⟩:=hR.2 i g hg
    have hiw:IntKind.i64.wrap ((i:Int)+1)=((i+1:Nat):Int):=Zh (by omega)
    obtain ⟨hz,hgl⟩:=hgf g (WK hg)
    have hdr:gs.drop i=g::gs.drop (i+1):=by
     rw [Rm hi]
     rw [Rj hi,RV] at hg
     rw [hg]
    rw [hdr,List.find?_cons] at hfd
    have hqc:=Zg hq4
    by_cases h0:g.length=0
    ·have hpg:Zft ls.length g=false:=by
      have:g=[]:=List.length_eq_zero_iff.mp h0
      subst this;rfl
     rw [hpg] at hfd
     have h0':¬ (0:Int)<((g.length:Nat):Int):=by omega
     simp (maxSteps:=2000000) +contextual only [XK,hi,hbc,YX _ hq1,gt_iff_lt,h0',hiw,decide_true,decide_false,pp,go_sem,reduceIte,Ra,Rb,Rc,Rd]
     exact ⟨j - 1,by omega,i+1,_,_,_,by omega,hfd,rfl⟩
    ·have h0':(0:Int)<((g.length:Nat):Int):=by omega
     have hg0:0<g.length:=by omega
     obtain ⟨x,hx⟩:∃ x,g[0]?=some x:=⟨_,Rj hg0⟩
     by_cases hlt:g.length<ls.length
     ·by_cases hx0:x=0
      ·subst hx0
       have hpg:Zft ls.length g=true:=by unfold Zft;rw [decide_eq_true (hz.mpr hx),decide_eq_true hlt];rfl
       rw [hpg] at hfd
       have hf:=fun e0=>Yf true hL e0 e' he' hq2 hq4 (n:=g.length) (sz:=1) (c:=cq) (K3 _ _)
       rw [←hfd]
       simp (maxSteps:=2000000) +contextual only [XK,Xl,hi,hbc,YX _ hq1,gt_iff_lt,h0',hg0,hlt,hqc,Za7,Wd,RH,Zu _ hx,hf,decide_true,decide_false,pp,go_sem,reduceIte,Ra,Rb,Rc,Rd]
       exact ⟨cq,rfl⟩
      ·have hpg:Zft ls.length g=false:=by
        unfold Zft
        rw [decide_eq_false (p:=(0:Int)∈g)];rfl
        intro h;have:=hz.mp h;rw [hx,RV] at this;exact hx0 this
       rw [hpg] at hfd
       simp (maxSteps:=2000000) +contextual only [XK,hi,hbc,YX _ hq1,gt_iff_lt,h0',hg0,hlt,hqc,Za7,Wd,RH,Zu _ hx,hx0,hiw,decide_true,decide_false,pp,go_sem,reduceIte,Ra,Rb,Rc,Rd]
       exact ⟨j - 1,by omega,i+1,_,_,_,by omega,hfd,rfl⟩
     ·have hpg:Zft ls.length g=false:=by unfold Zft;rw [decide_eq_false hlt,Bool.and_false]
      rw [hpg] at hfd
      simp (maxSteps:=2000000) +contextual only [XK,hi,hbc,YX _ hq1,gt_iff_lt,h0',hlt,hiw,decide_true,decide_false,pp,go_sem,reduceIte,Ra,Rb,Rc,Rd]
      exact ⟨j - 1,by omega,i+1,_,_,_,by omega,hfd,rfl⟩
  ·have hmz:¬ ((m % w:Nat):Int)=0:=by omega
   have ha:Zal ls=none:=by unfold Zal ZqA;rw [hm,hw,RC,RC,decide_eq_false hmw,Bool.and_false];rfl
   rw [ha]
   simp (maxSteps:=2000000) +contextual only [Xl,ZbH,h,h1,h2,h3,h20,h20',hw0,hq1,hmz,decide_true,decide_false,pp,go_sem,reduceIte,Ra,Rb,Rc,Rd,ff]
theorem ZqC {q:Nat} {cap:Option Nat} {ls:List Ld} (h:Zb H q=some (Zm ls)) (hr:YZ ls=true):Wc (call T pr ZbG [slL q ls.length cap] ⟨H,e⟩)
  (fun v m=>match Zal ls with
   | some g=>∃ (c:Option Nat),v=.tup [slI H.length g.length c,.bool true]∧m=⟨H++[.cells (ZR g) true],e⟩
   | none=>∃ (G:List Blk) (c:Option Nat),v=.tup [slI H.length 0 c,.bool false]∧m=⟨H++G,e⟩):=by
 have hn:=Za2 hr
 have h1:=fun (L:List Blk) (hL:Zb L q=some (Zm ls))=>ZaR (pr:=pr) (H:=L) (e:=none) (c:=cap) hL
 have h2:=fun (L:List Blk) (hL:Zb L q=some (Zm ls))=>Zb9 (pr:=pr) (H:=L) (e:=none) (c:=cap) hL (by omega) 0
 have h3:=fun (L:List Blk) (hL:Zb L q=some (Zm ls))=>Zeu (pr:=pr) (H:=L) (e:=none) (c:=cap) hL (by omega)
 rw [hr] at h1
 obtain ⟨m,hm,hm1⟩:=Zxi hr
 obtain ⟨w,hw,hw1⟩:=ZaV hr
 rw [hm] at h2
 rw [hw] at h3
 have hno:∀ (e0 e1:Option Nat),clean H.length e1=true→finish 2 H.length e0 (.tup [slI H.length 0 (some 0),.bool false]) ⟨H++[.cells [] true],e1⟩=some (.tup [slI H.length 0 (some 0),.bool false],⟨H++[.cells [] true],e0⟩) :=
  fun e0 e1 hc=>Yf false ⟨_,rfl⟩ e0 e1 hc (Rz _) (by rw [RN (by omega)];simp) rfl
 rw [Zs ZqT]
 by_cases h20:ls.length<2
 ·have h20':((ls.length:Nat):Int)<2:=by omega
  have ha:Zal ls=none:=by unfold Zal ZqA;rw [decide_eq_false (by omega:¬ 2≤ls.length)];rfl
  rw [ha]
  simp (maxSteps:=2000000) +contextual only [Xp,ZbN,h,h1,h20,h20',hno,Zo,Zc,decide_true,pp,go_sem,reduceIte,Ra,Rb,Rc,Rd]
  exact ⟨_,_,rfl,rfl⟩
 ·have h20':¬ ((ls.length:Nat):Int)<2:=by omega
  have hwp:=Zi0 hr (by omega)
  rw [hw,RC] at hwp
  have hw0:¬ ((w:Nat):Int)=0:=by omega
  have hq1:Int.tmod (m:Int) (w:Int)=((m % w:Nat):Int):=rfl
  by_cases hmw:m % w=0
  ·have hmz:((m % w:Nat):Int)=0:=by omega
   have hq2:IntKind.i64.wrap (WJ (m:Int) (w:Int))=ZdG ls:=by
    unfold ZdG
    rw [hm,hw,RC,RC,←Int.ofNat_tdiv]
    exact Ki (by have:=Rt m w;omega)
   have ha:Zal ls=(Yw ls (ZdG ls)).find? (Zft ls.length):=by
    unfold Zal ZqA
    rw [hm,hw,RC,RC,decide_eq_true (by omega:2≤ls.length),decide_eq_true hmw];rfl
   rw [ha]
   simp (maxSteps:=2000000) +contextual only [Xp,ZbN,h,h1,h2,h3,h20,h20',hw0,hq1,hmz,hq2,decide_true,decide_false,pp,go_sem,reduceIte,Ra,Rb,Rc,Rd]
   refine (ZlU h hn).mono ?_
   rintro v mm ⟨L',e',b,c,es,rfl,rfl,hL,hb,hLb,hR,hcl⟩
   have he':=hcl rfl
   simp (maxSteps:=2000000) +contextual only [pp,go_sem,reduceIte,Ra,Rb,Rc,Rd]
   have hgb:=Zop ls.length hn (ZbA ls (ZdG ls)) (ls.length+1) 0 (by omega)
   rw [ZlT] at hgb
   have hgb2:(Yw ls (ZdG ls)).length≤(ls.length+1+1)*479001600:=by unfold Yw ZGA;rw [WB];exact hgb
   clear hgb
   have hgf:=fun g=>ZeD (ls:=ls) (p:=ZdG ls) (g:=g)
   generalize Yw ls (ZdG ls)=gs at *
   have hes:es.length=gs.length:=hR.1
   have hbc:=Zg hLb
   refine ZM (fun j st=>∃ (i:Nat) (w6 w7:AV),i+j=gs.length∧(gs.drop i).find? (Zft ls.length)=gs.find? (Zft ls.length) ∧
    st=⟨[slL q ls.length cap,ZZ,.bool false,slX b gs.length c,.int .i64 i,.bool false,w6,w7],⟨L',e'⟩⟩) ?_ gs.length _ ⟨0,_,_,by omega,rfl,rfl⟩
   rintro j _ ⟨i,w6,w7,hij,hfd,rfl⟩
   by_cases hj:j=0
   ·have he:i=gs.length:=by omega
    subst he
    rw [Rp] at hfd
    rw [←hfd]
    have hLe:=hL.le
    have hf:=fun e0=>Yf (cs:=[]) (w:=true) (n:=0) (sz:=1) (c:=some 0) false (hL.more [.cells [] true]) e0 e' he' hLe (by rw [ZY];rfl) rfl
    simp (maxSteps:=2000000) +contextual only [J7,Xp,List.find?_nil,Rh,Zc,decide_false,hf,pp,go_sem,reduceIte,Ra,Rb,Rc,Rd]
    exact ⟨_,_,rfl,rfl⟩
   ·have hi:i<gs.length:=by omega
    obtain ⟨g,hg⟩:∃ g,gs[i]?=some g:=⟨_,Rj hi⟩
    obtain ⟨q2,cq,hq1,hq2,hq3,hq4⟩:=hR.2 i g hg
    have hiw:IntKind.i64.wrap ((i:Int)+1)=((i+1:Nat):Int):=Zh (by omega)
    obtain ⟨hz,hgl⟩:=hgf g (WK hg)
    have hdr:gs.drop i=g::gs.drop (i+1):=by
     rw [Rm hi]
     rw [Rj hi,RV] at hg
     rw [hg]
    rw [hdr,List.find?_cons] at hfd
    have hqc:=Zg hq4
    have hhas:∀ e0,call T pr Zhp [slI q2 g.length cq,.int .i64 0] ⟨L',e0⟩=some (.bool (decide ((0:Int)∈g)),⟨L',e0⟩):=fun e0=>ZE7 hqc (by omega) 0
    by_cases h0:(0:Int)∈g
    ·rw [decide_eq_true h0] at hhas
     by_cases hlt:g.length<ls.length
     ·have hpg:Zft ls.length g=true:=by unfold Zft;rw [decide_eq_true h0,decide_eq_true hlt];rfl
      rw [hpg] at hfd
      have hf:=fun e0=>Yf true hL e0 e' he' hq2 hq4 (n:=g.length) (sz:=1) (c:=cq) (K3 _ _)
      rw [←hfd]
      simp (maxSteps:=2000000) +contextual only [J7,Xp,hi,hbc,YX _ hq1,hhas,hlt,hf,decide_true,decide_false,pp,go_sem,reduceIte,Ra,Rb,Rc,Rd]
      exact ⟨cq,rfl⟩
     ·have hpg:Zft ls.length g=false:=by unfold Zft;rw [decide_eq_false hlt,Bool.and_false]
      rw [hpg] at hfd
      simp (maxSteps:=2000000) +contextual only [J7,hi,hbc,YX _ hq1,hhas,hlt,hiw,decide_true,decide_false,pp,go_sem,reduceIte,Ra,Rb,Rc,Rd]
      exact ⟨j - 1,by omega,i+1,_,_,by omega,hfd,rfl⟩
    ·rw [decide_eq_false h0] at hhas
     have hpg:Zft ls.length g=false:=by unfold Zft;rw [decide_eq_false h0,RU]
     rw [hpg] at hfd
     simp (maxSteps:=2000000) +contextual only [J7,hi,hbc,YX _ hq1,hhas,hiw,decide_true,decide_false,pp,go_sem,reduceIte,Ra,Rb,Rc,Rd]
     exact ⟨j - 1,by omega,i+1,_,_,by omega,hfd,rfl⟩
  ·have hmz:¬ ((m % w:Nat):Int)=0:=by omega
   have ha:Zal ls=none:=by unfold Zal ZqA;rw [hm,hw,RC,RC,decide_eq_false hmw,Bool.and_false];rfl
   rw [ha]
   simp (maxSteps:=2000000) +contextual only [Xp,ZbN,h,h1,h2,h3,h20,h20',hw0,hq1,hmz,hno,Zo,Zc,decide_true,decide_false,pp,go_sem,reduceIte,Ra,Rb,Rc,Rd]
   exact ⟨_,_,rfl,rfl⟩
abbrev cnV (row:AV) (a b:Int) (chain:AV) (t k:Int) (d p:By) (c:Int):AV:=.agg [row,.int .i64 a,.int .i64 b,chain,.int .i64 t,.int .i64 k,sV d,sV p,.int .i64 c]
theorem Zuz {p1 p2:Option (Nat×Nat)} {s1 s2 n1 n2:Nat} {c1 c2:Option Nat} (hn1:n1≤maxLen) (hn2:n2≤maxLen) (a b t k c:Int) {d p:By} (hd:d.length≤maxLen) (hp:p.length≤maxLen):call T pr KK [cnV (.slice p1 s1 n1 c1) a b (.slice p2 s2 n2 c2) t k d p c,.int .i64 1048576] ⟨H,e⟩ =
  some (.int .i64 (if n1+n2+(d.length+p.length)≤1048576 then 1048576 - ((n1+n2+(d.length+p.length):Nat):Int) else -1),⟨H,e⟩):=by
 rw [Zi Zs6]
 have hst:=fun G e'=>ZzH (pr:=pr) (H:=G) (e:=e') (p1:=p1) (p2:=p2) (s1:=s1) (s2:=s2) (c1:=c1) (c2:=c2) hn1 hn2 a b t k
 by_cases h1:n1+n2≤1048576
 ·have hlg:=fun G e'=>ZFB (pr:=pr) (H:=G) (e:=e') (1048576 - ((n1+n2:Nat):Int)) c (by omega) hd hp
  have h2:¬ (1048576 - ((n1+n2:Nat):Int)<0):=by omega
  simp only [if_pos h1] at hst
  by_cases h3:n1+n2+(d.length+p.length)≤1048576
  ·have h4:((d.length+p.length:Nat):Int)≤1048576 - ((n1+n2:Nat):Int):=by omega
   have h5:¬ (1048576 - ((n1+n2:Nat):Int) - ((d.length+p.length:Nat):Int)<0):=by omega
   simp only [if_pos h4] at hlg
   have h6:(1048576 - ((n1+n2:Nat):Int) - ((d.length+p.length:Nat):Int))=1048576 - ((n1+n2+(d.length+p.length):Nat):Int):=by omega
   have h7:¬ (1048576 - ((n1+n2+(d.length+p.length):Nat):Int)<0):=by omega
   rw [h6] at hlg
   simp +contextual only [KQ,Zcz,hst,hlg,h2,h3,h7,decide_false,decide_true,go_sem,reduceIte,Ra,Rb,Rc,Rd]
  ·have h4:¬ ((d.length+p.length:Nat):Int)≤1048576 - ((n1+n2:Nat):Int):=by omega
   simp only [if_neg h4] at hlg
   simp +contextual only [KQ,Zcz,hst,hlg,h2,h3,decide_false,decide_true,show ((-1:Int)<0) by omega,go_sem,reduceIte,Ra,Rb,Rc,Rd]
 ·have h3:¬ n1+n2+(d.length+p.length)≤1048576:=by omega
  simp only [if_neg h1] at hst
  simp +contextual only [KQ,Zcz,hst,h3,decide_true,show ((-1:Int)<0) by omega,go_sem,reduceIte,Ra,Rb,Rc,Rd]
theorem ZDH {G:List Blk} {j1 j2 n1 n2:Nat} {c1 c2:Option Nat} {cs1 cs2:List AV} {w1 w2:Bool} (a b t k c:Int) (d p:By) (e0 e1:Option Nat) (hc:clean H.length e1=true) (h1:G[j1]?=some (.cells cs1 w1)) (h2:G[j2]?=some (.cells cs2 w2)) (hne:j1≠j2)
  (u1:(cs1.all fun c=>c.under H.length)=true) (u2:(cs2.all fun c=>c.under H.length)=true) :
  finish 2 H.length e0 (cnV (slL (H.length+j1) n1 c1) a b (slS (H.length+j2) n2 c2) t k d p c) ⟨H++G,e1⟩=some (cnV (slL H.length n1 c1) a b (slS (H.length+1) n2 c2) t k d p c,⟨H++[.cells cs1 w1,.cells cs2 w2],e0⟩):=by
 have hlt1:¬ H.length+j1<H.length:=by omega
 have hlt2:¬ H.length+j2<H.length:=by omega
 have hne':¬ H.length+j2=H.length+j1:=by omega
 have hr:XQ (AV.roots H.length (cnV (slL (H.length+j1) n1 c1) a b (slS (H.length+j2) n2 c2) t k d p c))=[H.length+j1,H.length+j2]:=by
  simp only [AV.roots,AV.roots.go,if_neg hlt1,if_neg hlt2,List.nil_append,List.cons_append,RA]
  simp [XQ,hne',hne,Ne.symm hne]
 have hb1:(H++G)[H.length+j1]?=some (.cells cs1 w1):=by rw [RN (by omega)];simpa using h1
 have hb2:(H++G)[H.length+j2]?=some (.cells cs2 w2):=by rw [RN (by omega)];simpa using h2
 unfold finish
 simp only [hr]
 have h3:([H.length+j1,H.length+j2].all fun b=>Y5 H.length (H++G)[b]?)=true:=by
  simp only [Rv,List.all_nil,Bool.and_true,hb1,hb2,Y5,u1,u2,Bool.and_self]
 simp only [hc,h3,and_self,if_true]
 have hq:(H.length+j1==H.length+j2)=false:=by simpa using hne
 simp [AV.rename,AV.rename.go,ZbT,hb1,hb2,List.idxOf_cons]
 refine ⟨fun h=>by omega,?_⟩
 rw [if_neg hlt2,hq]
 rfl
theorem ZuA {row chain:AV} {ls:List Ld} {ss:List Sg} (ha:ZHW H row ls) (hs:ZHY H chain ss) (hn:ls.length≤1048576) (hm:ss.length≤1048576) (a b t k c:Int) (d p:By):call T pr JP [cnV row a b chain t k d p c] ⟨H,e⟩ =
  some (cnV (slL H.length ls.length (some ls.length)) a b (slS (H.length+1) ss.length (some ss.length)) t k d p c,⟨H++[.cells (Zm ls) true,.cells (Zr ss) true],e⟩):=by
 have hto:=fun G=>ZzI (pr:=pr) (e:=none) (ha.more G) (hs.more G) hn hm a b t k
 have hlg:=fun G e'=>ZFC (pr:=pr) (H:=G) (e:=e') d p c
 have hf:∀ (B0 B1 B2:Blk) (e0 e1:Option Nat),clean H.length e1=true→finish 2 H.length e0 (cnV (slL (H.length+3) ls.length (some ls.length)) a b (slS (H.length+4) ss.length (some ss.length)) t k d p c) ⟨H++[B0,B1,B2,.cells (Zm ls) true,.cells (Zr ss) true],e1⟩=some (cnV (slL H.length ls.length (some ls.length)) a b (slS (H.length+1) ss.length (some ss.length)) t k d p c,⟨H++[.cells (Zm ls) true,.cells (Zr ss) true],e0⟩) :=
  fun B0 B1 B2 e0 e1 hc=>ZDH a b t k c d p e0 e1 hc rfl rfl (by decide) (ZU _ _) (Z6 _ _)
 rw [Zi Zs7]
 simp +contextual only [ZcA,ZkI,Zc,hto,hlg,Nat.add_assoc,Nat.add_lt_add_iff_left,decide_false,decide_true,Zv,ZA,hf,Zq,Zo,Nat.le_add_right,Rz,go_sem,entry,joinEsc,if_pos,reduceIte,Nat.reduceAdd,Nat.reduceLeDiff,Nat.reduceLT,Nat.reduceEqDiff]
theorem ZrI {r1 r2 c1 c2:AV} (h1:∀ G,call T pr Zbe [r1,r2] ⟨H++G,none⟩=some (.bool true,⟨H++G,none⟩)) (h2:∀ G,call T pr Zae [c1,c2] ⟨H++G,none⟩=some (.bool true,⟨H++G,none⟩)) (a b t k c:Int) (d p:By) :
  call T pr XR [cnV r1 a b c1 t k d p c,cnV r2 a b c2 t k d p c] ⟨H,e⟩=some (.bool true,⟨H,e⟩):=by
 have hst:=fun G=>ZzJ (pr:=pr) (H:=H++G) (e:=none) (r1:=r1) (r2:=r2) (c1:=c1) (c2:=c2) (fun G2=>by rw [Rs];exact h1 _) (fun G2=>by rw [Rs];exact h2 _) a b t k
 have hlg:=fun G e'=>ZrE (pr:=pr) (H:=G) (e:=e') d p c
 rw [Zi Zs8]
 simp +contextual only [ZcB,ZkJ,hst,hlg,decide_true,go_sem,reduceIte,Ra,Rb,Rc,Rd]
def Zcn (ls:List Ld) (ss:List Sg) (a b t k:Int):Bool:=YZ ls&&(ZJ ss&&Zcb a b t k)
theorem ZlV (hi:KJ pr) (hp:Y9 pr) (hx:ZaX pr) {q q':Nat} {c1 c2:Option Nat} {ls:List Ld} {ss:List Sg} (h1:Zb H q=some (Zm ls)) (h2:Zb H q'=some (Zr ss)) (hm:ss.length≤1048576) (a b t k c:Int) {d p:By} (hd:d.length≤1048576) (hpp:p.length≤1048576):call T pr Kj [cnV (slL q ls.length c1) a b (slS q' ss.length c2) t k d p c] ⟨H,e⟩=some (.bool (Zcn ls ss a b t k&&Zfn d p c),⟨H,e⟩):=by
 have hst:∀ G,call T pr Je [stV (slL q ls.length c1) a b (slS q' ss.length c2) t k] ⟨H++G,none⟩=some (.bool (Zcn ls ss a b t k),⟨H++G,none⟩) :=
  fun G=>Zkb (fun G2=>QG (Za (Za h1 G) G2)) (fun G2=>KH (Za (Za h2 G) G2) (by omega)) a b t k
 have hlg:=fun L=>ZjC (pr:=pr) (H:=L) (e:=none) hi hp hx d p c hd hpp
 rw [Zi Zk9]
 cases hA:Zcn ls ss a b t k <;> rw [hA] at hst <;> cases hB:Zfn d p c <;> rw [hB] at hlg <;> simp +contextual only [Kn,Zd5,hst,hlg,go_sem,reduceIte,Ra,Rb,Rc,Rd]
theorem ZlW {q q':Nat} {c1 c2:Option Nat} {ls:List Ld} {ss:List Sg} (h1:Zb H q=some (Zm ls)) (h2:Zb H q'=some (Zr ss)) (hm:ss.length≤1048576) (a b t k c:Int) {d p:By} (hd:d.length≤1048576) (hpp:p.length≤1048576):call T pr Kk [cnV (slL q ls.length c1) a b (slS q' ss.length c2) t k d p c] ⟨H,e⟩=some (.bool (Zcn ls ss a b t k&&Zfn d p c),⟨H,e⟩):=by
 have hst:∀ G,call T pr JQ [stV (slL q ls.length c1) a b (slS q' ss.length c2) t k] ⟨H++G,none⟩=some (.bool (Zcn ls ss a b t k),⟨H++G,none⟩):=by
  intro G
  exact Zkc (fun G2=>ZaR (Za (Za h1 G) G2)) (fun G2=>Zca (Za (Za h2 G) G2) (by omega)) a b t k
 have hlg:∀ L,call T pr Zad [lgV d p c] ⟨L,none⟩=some (.bool (Zfn d p c),⟨L,none⟩):=by
  intro L
  exact Znw d p c hd hpp
 rw [Zi Zla]
 cases hA:Zcn ls ss a b t k <;> rw [hA] at hst <;> cases hB:Zfn d p c <;> rw [hB] at hlg <;> simp +contextual only [Ko,Zd6,hst,hlg,go_sem,reduceIte,Ra,Rb,Rc,Rd]
structure ZsR (pr:Zy):Prop where
 all:Zuo pr
 del:Zdy pr
abbrev sdL (row:AV) (a b:Int) (chain:AV) (t k:Int) (rest:List AV):List AV:=row::.int .i64 a::.int .i64 b::chain::.int .i64 t::.int .i64 k::rest
def askW (ls:List Ld) (a b:Int) (ss:List Sg) (t:Int) (w:By):Option By :=
 if w=[114,111,119] then some (ZeB ls)
 else if w=[119,101,105,103,104,116] then some (Lib.itoa (Q6 ls))
 else if w=[99,101,110,116,114,101] then (if ls.length=0 then none else some (Xd 47 [(cenA ls:Int),(cenB ls:Int)]))
 else if w=[115,105,100,101] then some (Lib.itoa (Zdx ls a b))
 else if w=[116,105,112,115] then some (Lib.itoa t)
 else if w=[112,117,108,108] then some (Lib.itoa (rowPullW ls ss true))
 else if w=[115,112,108,105,116] then (Zal ls).map ZeR
 else none
def ZHA (r:Option By) (v:AV):Prop:=∃ x:By,v=.tup [sV x,.bool r.isSome]∧∀ y,r=some y→x=y
theorem fit_small {z:Int} (h1 : -1000000000000000000≤z) (h2:z≤1000000000000000000):Zfo z:=⟨by omega,by omega⟩
theorem J0 {ls:List Ld} {ss:List Sg} {a b t k:Int} (h:Zcn ls ss a b t k=true):YZ ls=true∧ZJ ss=true∧Zg0 a b=true∧ss.length≤5∧ls.length≤12∧0≤t∧t≤1000∧0≤k∧k≤1000∧Zcb a b t k=true:=by
 unfold Zcn at h
 rw [Ru,Ru] at h
 have h3:=h.2.2
 unfold Zcb at h3
 simp only [Ru,decide_eq_true_eq] at h3
 have hc:=h.2.1
 unfold ZJ at hc
 rw [Ru,decide_eq_true_eq] at hc
 have hr:=Za2 h.1
 exact ⟨h.1,h.2.1,h3.1,by omega,hr,by omega,by omega,by omega,by omega,h.2.2⟩
theorem Zce (ls:List Ld) (a b:Int):Zfo (Zdx ls a b):=by
 unfold Zdx
 split
 ·exact fit_small (by omega) (by omega)
 ·split
  ·exact fit_small (by omega) (by omega)
  ·exact fit_small (by omega) (by omega)
theorem Zi5 {ls:List Ld} (h:YZ ls=true):Zfo (Q6 ls):=by
 obtain ⟨w,hw,hw1⟩:=ZaV h
 rw [hw]
 exact fit_small (by omega) (by omega)
theorem ZmM {ls:List Ld} (h:YZ ls=true):Zfo (cenA ls:Int)∧Zfo (cenB ls:Int):=by
 obtain ⟨m,hm,hm1⟩:=Zxi h
 obtain ⟨w,hw,hw1⟩:=ZaV h
 have h1:cenA ls≤m:=by unfold cenA fracA;rw [hm];exact Rt _ _
 have h2:cenB ls≤w:=by unfold cenB fracB;rw [hw];exact Rt _ _
 exact ⟨fit_small (by omega) (by omega),fit_small (by omega) (by omega)⟩
theorem ZuB {ls:List Ld} {ss:List Sg} (h:YZ ls=true) (hc:ZJ ss=true):Zfo (rowPullW ls ss true:Int):=by
 obtain ⟨w,hw,hw1⟩:=ZaV h
 obtain ⟨a1,a2,b1,b2,_⟩:=Q9 hc w hw1
 unfold rowPullW
 rw [if_pos rfl,hw,RC]
 unfold pullW
 have h1:w*ZC 1 1 ss≤1000000*254803968:=WU hw1 b2
 have h2:=Rt (w*ZC 1 1 ss+ZB 1 1 ss - 1) (ZB 1 1 ss)
 generalize (w*ZC 1 1 ss+ZB 1 1 ss - 1) / ZB 1 1 ss=z at *
 generalize w*ZC 1 1 ss=y at *
 exact fit_small (by omega) (by omega)
theorem ZqD {ls:List Ld} {g:List Int} (h:Zal ls=some g) (hn:ls.length≤12):g.length≤1000000∧∀ z∈g,Zfo z:=by
 unfold Zal at h
 split at h
 ·have hm:=List.mem_of_find?_eq_some h
  refine ⟨by have:=(ZeD hm).2;omega,?_⟩
  unfold Yw ZGA at hm
  obtain ⟨l,hl,rfl⟩:=Wg.mp hm
  obtain ⟨k,hk,hm⟩:=WV.mp (Ws.mp hl).1
  obtain ⟨h1,h2,h3⟩:=(Ja ls.length k l).mp hm
  intro z hz
  unfold asZ at hz
  obtain ⟨x,hx,rfl⟩:=Wg.mp hz
  have:=h3 x hx
  exact fit_small (by omega) (by omega)
 ·exact absurd h (by simp)
theorem Zab (w a:By):decide (bs w=⟨a.toArray⟩)=decide (w=a):=by
 congr 1
 exact propext ⟨fun h=>by
  have:=congrArg (fun b:ByteArray=>b.data.toList) h
  simpa using this,fun h=>by rw [h]⟩
set_option maxHeartbeats 2000000 in
theorem ZBa (hl:Zuo pr) {u q1 q2:Nat} {c1 c2:Option Nat} {ls:List Ld} {ss:List Sg} {a b t k:Int} {rest:List AV} (hu:Zb H u=some (sdL (slL q1 ls.length c1) a b (slS q2 ss.length c2) t k rest)) (h1:Zb H q1=some (Zm ls)) (h2:Zb H q2=some (Zr ss)) (hs:Zcn ls ss a b t k=true) (w:By) :
  Wc (call T pr Zcs [.ptr (some (u,0)),sV w] ⟨H,e⟩) (fun v m=>ZHA (askW ls a b ss t w) v∧m=⟨H,e⟩):=by
 obtain ⟨hr,hc,hb,hss,hls,ht1,ht2,hk1,hk2,hre⟩:=J0 hs
 have weq:=fun a=>Zab w a
 have e1:decide (bs w=⟨#[114,111,119]⟩)=decide (w=[114,111,119]):=weq _
 have e2:decide (bs w=⟨#[119,101,105,103,104,116]⟩)=decide (w=[119,101,105,103,104,116]):=weq _
 have e3:decide (bs w=⟨#[99,101,110,116,114,101]⟩)=decide (w=[99,101,110,116,114,101]):=weq _
 have e4:decide (bs w=⟨#[115,105,100,101]⟩)=decide (w=[115,105,100,101]):=weq _
 have e5:decide (bs w=⟨#[116,105,112,115]⟩)=decide (w=[116,105,112,115]):=weq _
 have e6:decide (bs w=⟨#[112,117,108,108]⟩)=decide (w=[112,117,108,108]):=weq _
 have e7:decide (bs w=⟨#[115,112,108,105,116]⟩)=decide (w=[115,112,108,105,116]):=weq _
 rw [Zs Ztf]
 unfold ZcI ZkS askW
 generalize (⟨#[114,111,119]⟩:ByteArray)=k1 at *
 generalize (⟨#[119,101,105,103,104,116]⟩:ByteArray)=k2 at *
 generalize (⟨#[99,101,110,116,114,101]⟩:ByteArray)=k3 at *
 generalize (⟨#[115,105,100,101]⟩:ByteArray)=k4 at *
 generalize (⟨#[116,105,112,115]⟩:ByteArray)=k5 at *
 generalize (⟨#[112,117,108,108]⟩:ByteArray)=k6 at *
 generalize (⟨#[115,112,108,105,116]⟩:ByteArray)=k7 at *
 clear weq
 by_cases w1:w=[114,111,119]
 ·rw [decide_eq_true w1] at e1
  rw [if_pos w1]
  have hf:=fun L (hL:Zb L q1=some (Zm ls))=>ZAa (pr:=pr) (e:=none) (cap:=c1) hl.ito hl.joi hL hr
  simp (maxSteps:=2000000) +contextual only [hu,h1,h2,hf,e1,Zz,Zt,Za h1,Za h2,pp,go_sem,reduceIte,Ra,Rb,Rc,Rd]
  exact ⟨_,rfl,fun y h=>by rw [←WI h]⟩
 rw [decide_eq_false w1] at e1
 by_cases w2:w=[119,101,105,103,104,116]
 ·rw [decide_eq_true w2] at e2
  rw [if_neg w1,if_pos w2]
  have hf:=fun L (hL:Zb L q1=some (Zm ls))=>Zqn (pr:=pr) (e:=none) (c:=c1) hL (by omega) hr
  have hg:=fun L=>ZQ (pr:=pr) (H:=L) (e:=none) hl.ito (Q6 ls) (Zi5 hr) true
  simp (maxSteps:=2000000) +contextual only [hu,h1,h2,hf,hg,e1,e2,Zz,Zt,Za h1,Za h2,pp,go_sem,reduceIte,Ra,Rb,Rc,Rd]
  exact ⟨_,rfl,fun y h=>by rw [←WI h]⟩
 rw [decide_eq_false w2] at e2
 by_cases w3:w=[99,101,110,116,114,101]
 ·rw [decide_eq_true w3] at e3
  rw [if_neg w1,if_neg w2,if_pos w3]
  have hf:=fun L (hL:Zb L q1=some (Zm ls))=>Zxj (pr:=pr) (e:=none) (cap:=c1) hL hr (by omega)
  by_cases h0:ls.length=0
  ·simp only [if_pos h0] at hf
   have hg:=fun L=>QS (pr:=pr) (H:=L) (e:=none) hl.ito hl.joi 0 0 (fit_small (by omega) (by omega)) (fit_small (by omega) (by omega)) false
   rw [if_pos h0]
   simp (maxSteps:=2000000) +contextual only [hu,h1,h2,hf,hg,e1,e2,e3,Zz,Zt,Za h1,Za h2,pp,go_sem,reduceIte,Ra,Rb,Rc,Rd]
   exact ⟨_,rfl,fun y h=>absurd h (by simp)⟩
  ·simp only [if_neg h0] at hf
   have hg:=fun L=>QS (pr:=pr) (H:=L) (e:=none) hl.ito hl.joi (cenA ls) (cenB ls) (ZmM hr).1 (ZmM hr).2 true
   rw [if_neg h0]
   simp (maxSteps:=2000000) +contextual only [hu,h1,h2,hf,hg,e1,e2,e3,Zz,Zt,Za h1,Za h2,pp,go_sem,reduceIte,Ra,Rb,Rc,Rd]
   exact ⟨_,rfl,fun y h=>by rw [←WI h]⟩
 rw [decide_eq_false w3] at e3
 by_cases w4:w=[115,105,100,101]
 ·rw [decide_eq_true w4] at e4
  rw [if_neg w1,if_neg w2,if_neg w3,if_pos w4]
  have hf:=fun L (hL:Zb L q1=some (Zm ls))=>ZjD (pr:=pr) (e:=none) (c:=c1) hL (by omega) a b hr hb
  have hg:=fun L=>ZQ (pr:=pr) (H:=L) (e:=none) hl.ito (Zdx ls a b) (Zce ls a b) true
  simp (maxSteps:=2000000) +contextual only [hu,h1,h2,hf,hg,e1,e2,e3,e4,Zz,Zt,Za h1,Za h2,pp,go_sem,reduceIte,Ra,Rb,Rc,Rd]
  exact ⟨_,rfl,fun y h=>by rw [←WI h]⟩
 rw [decide_eq_false w4] at e4
 by_cases w5:w=[116,105,112,115]
 ·rw [decide_eq_true w5] at e5
  rw [if_neg w1,if_neg w2,if_neg w3,if_neg w4,if_pos w5]
  have hg:=fun L=>ZQ (pr:=pr) (H:=L) (e:=none) hl.ito t (fit_small (by omega) (by omega)) true
  simp (maxSteps:=2000000) +contextual only [hu,h1,h2,hg,e1,e2,e3,e4,e5,Zz,Zt,Za h1,Za h2,pp,go_sem,reduceIte,Ra,Rb,Rc,Rd]
  exact ⟨_,rfl,fun y h=>by rw [←WI h]⟩
 rw [decide_eq_false w5] at e5
 by_cases w6:w=[112,117,108,108]
 ·rw [decide_eq_true w6] at e6
  rw [if_neg w1,if_neg w2,if_neg w3,if_neg w4,if_neg w5,if_pos w6]
  have hf:=fun L (g1:Zb L q1=some (Zm ls)) (g2:Zb L q2=some (Zr ss))=>ZzL (pr:=pr) (e:=none) (c:=c1) (c':=c2) g1 g2 (by omega) (by omega) a b t k
  simp only [hr,hc,hre,Bool.and_self] at hf
  have hg:=fun L=>ZQ (pr:=pr) (H:=L) (e:=none) hl.ito (rowPullW ls ss true) (ZuB hr hc) true
  simp (maxSteps:=2000000) +contextual only [hu,h1,h2,hf,hg,e1,e2,e3,e4,e5,e6,Zz,Zt,Za h1,Za h2,pp,go_sem,reduceIte,Ra,Rb,Rc,Rd]
  exact ⟨_,rfl,fun y h=>by rw [←WI h]⟩
 rw [decide_eq_false w6] at e6
 by_cases w7:w=[115,112,108,105,116]
 ·rw [decide_eq_true w7] at e7
  rw [if_neg w1,if_neg w2,if_neg w3,if_neg w4,if_neg w5,if_neg w6,if_pos w7]
  simp (maxSteps:=2000000) +contextual only [hu,h1,h2,e1,e2,e3,e4,e5,e6,e7,Zz,Zt,Za h1,Za h2,pp,go_sem,reduceIte,Ra,Rb,Rc,Rd]
  refine (ZqB hl h1 hr).mono ?_
  have hfit:=fun g=>ZqD (ls:=ls) (g:=g)
  generalize Zal ls=o at *
  rintro v m hv
  cases o with
  | some g=>
   obtain ⟨c,rfl,rfl⟩:=hv
   obtain ⟨f1,f2⟩:=hfit g rfl hls
   have hg:=fun L e0 (hL:Zb L H.length=some (ZR g))=>ZeA (pr:=pr) (e:=e0) (cap:=c) hl.ito hl.joi hL f1 f2 true
   have hnew:Zb (H++[.cells (ZR g) true]) H.length=some (ZR g):=Zg (w:=true) (by rw [ZY];rfl)
   simp (maxSteps:=2000000) +contextual only [hg,hnew,Option.map_some,pp,go_sem,reduceIte,Ra,Rb,Rc,Rd]
   exact ⟨_,rfl,fun y h=>by rw [←WI h]⟩
  | none=>
   obtain ⟨rfl,rfl⟩:=hv
   have hg:=fun L e0=>Zh9 (pr:=pr) (H:=L) (e:=e0) false (p:=none) (s:=0) (cap:=none)
   simp (maxSteps:=2000000) +contextual only [hg,Option.map_none,pp,go_sem,reduceIte,Ra,Rb,Rc,Rd]
   exact ⟨_,rfl,fun y h=>absurd h (by simp)⟩
 rw [decide_eq_false w7] at e7
 rw [if_neg w1,if_neg w2,if_neg w3,if_neg w4,if_neg w5,if_neg w6,if_neg w7]
 simp (maxSteps:=2000000) +contextual only [hu,h1,h2,e1,e2,e3,e4,e5,e6,e7,Zz,Zt,Za h1,Za h2,pp,go_sem,reduceIte,Ra,Rb,Rc,Rd]
 exact ⟨_,rfl,fun y h=>absurd h (by simp)⟩
end Go.Proofs.YtemcdiajejekoaaGreatDoor.Slim
namespace Go.Proofs.YtemcdiajejekoaaGreatDoor.Slim
open Go Go.Sort Go.Lib Go.RowKit
theorem Za3 {f : FuncId} (h : ((Tryz.prog.funcs[f]?).map fun fn => fn.body.isSome && decide (fn.name ≠ "runtime.NumGoroutine")) = some true) : ∃ fn, Tryz.prog.funcs[f]? = some fn ∧ fn.body.isSome = true ∧ fn.name ≠ "runtime.NumGoroutine" := by
 obtain ⟨fn,h1,h2⟩:=Option.map_eq_some_iff.mp h
 simp only [Bool.and_eq_true,decide_eq_true_eq] at h2
 exact ⟨fn,h1,h2.1,h2.2⟩
def ZGe (args:List AV) (m:Mem):Option (AV×Mem):=match args with
 | [.str s,.str t]=>(match t.data.toList with
  | [c]=>some (.bool (decide (0≤Lib.indexByte s.data.toList c)),m)
  | _=>none)
 | _=>none
theorem ZGf {args:List AV} {m m':Mem} {v:AV} (h:ZGe args m=some (v,m')):m'=m∧∃ (s:ByteArray) (c:UInt8),args=[.str s,.str ⟨#[c]⟩]∧v=.bool (decide (0≤Lib.indexByte s.data.toList c)):=by
 unfold ZGe at h
 split at h
 ·rename_i s t
  split at h
  ·rename_i c hc
   cases h
   refine ⟨rfl,s,c,?_,rfl⟩
   cases t with
   | mk d=>
    cases d
    simp at hc
    subst hc
    rfl
  ·cases h
 ·cases h
theorem ZKH {ι:Emb} {m m':Mem} {w:World} {args:List AV} {vs:List Value} {v:AV} (h:ZGe args m=some (v,m')) (R:Rel ι m w) (hv:VL ι w args vs):Calls Tryz.prog Yy vs.toArray w fun e w'=>∃ (ι':Emb) (v':Value),e=.returned v'∧V ι' w' v v'∧Rel ι' m' w'∧Ext ι m w ι' m' w':=by
 obtain ⟨rfl,s,c,rfl,rfl⟩:=ZGf h
 obtain ⟨v1,vs1,rfl,rfl,v2,vs2,rfl,rfl,rfl⟩:=hv
 refine (Tryz.strings_Contains_one s c w).mono ?_
 rintro e w' ⟨rfl,rfl⟩
 exact ⟨ι,_,rfl,rfl,R,Ext.refl _ _ _⟩
theorem ZIG {args:List AV} {m m':Mem} {v:AV} (h:ZGe args m=some (v,m')):Grow m m':=by
 obtain ⟨rfl,_⟩:=ZGf h
 exact Grow.refl _
def ZGg (args:List AV) (m:Mem):Option (AV×Mem):=match args with
 | [.str s,.str t]=>(match t.data.toList with
  | [c]=>some (.int .i64 (Lib.indexByte s.data.toList c),m)
  | _=>none)
 | _=>none
theorem ZGh {args:List AV} {m m':Mem} {v:AV} (h:ZGg args m=some (v,m')):m'=m∧∃ (s:ByteArray) (c:UInt8),args=[.str s,.str ⟨#[c]⟩]∧v=.int .i64 (Lib.indexByte s.data.toList c):=by
 unfold ZGg at h
 split at h
 ·rename_i s t
  split at h
  ·rename_i c hc
   cases h
   refine ⟨rfl,s,c,?_,rfl⟩
   cases t with
   | mk d=>
    cases d
    simp at hc
    subst hc
    rfl
  ·cases h
 ·cases h
theorem ZKI {ι:Emb} {m m':Mem} {w:World} {args:List AV} {vs:List Value} {v:AV} (h:ZGg args m=some (v,m')) (R:Rel ι m w) (hv:VL ι w args vs):Calls Tryz.prog Yu vs.toArray w fun e w'=>∃ (ι':Emb) (v':Value),e=.returned v'∧V ι' w' v v'∧Rel ι' m' w'∧Ext ι m w ι' m' w':=by
 obtain ⟨rfl,s,c,rfl,rfl⟩:=ZGh h
 obtain ⟨v1,vs1,rfl,rfl,v2,vs2,rfl,rfl,rfl⟩:=hv
 refine (Tryz.stringslite_Index_one s c w).mono ?_
 rintro e w' ⟨rfl,rfl⟩
 exact ⟨ι,_,rfl,rfl,R,Ext.refl _ _ _⟩
theorem ZIH {args:List AV} {m m':Mem} {v:AV} (h:ZGg args m=some (v,m')):Grow m m':=by
 obtain ⟨rfl,_⟩:=ZGh h
 exact Grow.refl _
def ZGi (args:List AV) (m:Mem):Option (AV×Mem):=match args with
 | [.int .i64 n]=>if -9223372036854775808≤n∧n≤9223372036854775807 then some (.str ⟨(Lib.itoa n).toArray⟩,m) else none
 | _=>none
theorem ZGj {args:List AV} {m m':Mem} {v:AV} (h:ZGi args m=some (v,m')):m'=m∧∃ n:Int,args=[.int .i64 n]∧(-9223372036854775808≤n∧n≤9223372036854775807)∧v=.str ⟨(Lib.itoa n).toArray⟩:=by
 unfold ZGi at h
 split at h
 ·rename_i n
  split at h
  ·rename_i hn
   cases h
   exact ⟨rfl,n,rfl,hn,rfl⟩
  ·cases h
 ·cases h
theorem ZKJ {ι:Emb} {m m':Mem} {w:World} {args:List AV} {vs:List Value} {v:AV} (h:ZGi args m=some (v,m')) (R:Rel ι m w) (hv:VL ι w args vs):Calls Tryz.prog Xj vs.toArray w fun e w'=>∃ (ι':Emb) (v':Value),e=.returned v'∧V ι' w' v v'∧Rel ι' m' w'∧Ext ι m w ι' m' w':=by
 obtain ⟨rfl,n,rfl,hn,rfl⟩:=ZGj h
 obtain ⟨v1,vs1,rfl,rfl,rfl⟩:=hv
 refine (Tryz.strconv_Itoa n hn.1 hn.2 w (R.glob.tab (g:=5) (by kernel_rfl) (List.mem_cons_self) (fun cs h=>by rw [h];rfl))).mono ?_
 rintro e w' ⟨rfl,k,os,rfl⟩
 obtain ⟨R',E'⟩:=R.grown k os
 exact ⟨ι,_,rfl,rfl,R',E'⟩
theorem ZII {args:List AV} {m m':Mem} {v:AV} (h:ZGi args m=some (v,m')):Grow m m':=by
 obtain ⟨rfl,_⟩:=ZGj h
 exact Grow.refl _
set_option maxHeartbeats 4000000 in
set_option maxRecDepth 1000000 in
theorem ZxD (blk off n k i j:Nat) (w:World) (hij:i<j) (hjn:j≤n) (hj1:n - (i+(n - j))=1) (hnk:n≤k) (news:List Value) (hlen:news.length=(n - j)*2)
  (hsrc:∀ t u,news[t]?=some u→w.drew.cell? ⟨blk,off+j*2+t,none⟩=some u) (hone:∀ u∈news,u.oneCell'=true)
  (hsp:∀ t,t<(n - j)*2→(w.drew.cell? ⟨blk,off+i*2+t,none⟩).isSome=true∧w.drew.frozen? ⟨blk,off+i*2+t,none⟩=false)
  (hsp2:∀ t,t<2→((w.drew.setCells blk (off+i*2) news).cell? ⟨blk,off+(i+(n - j))*2+t,none⟩).isSome=true∧(w.drew.setCells blk (off+i*2) news).frozen? ⟨blk,off+(i+(n - j))*2+t,none⟩=false) :
  Calls Tryz.prog 221 #[.slice (some ⟨blk,off,none⟩) n k,.int .i64 i,.int .i64 j] w fun e w'=>
   e=.returned (.slice (some ⟨blk,off,none⟩) (i+(n - j)) k)∧w'=(w.drew.setCells blk (off+i*2) news).setCells blk (off+(i+(n - j))*2) [.int .i64 0,.int .i64 0]:=by
 have mixed:Tryz.prog.follows .mixedOrders=true:=by kernel_rfl
 have ts:Tryz.prog.underlying 34=some (.slice 114):=by kernel_rfl
 obtain ⟨i0,hi0,hz0,hz1,hz2⟩:=info_parts (show (Tryz.prog.info? 114).map (fun i=>(i.zero,i.size,i.bytes))=some (some (.agg #[.int .i64 0,.int .i64 0]),2,16) by kernel_rfl)
 obtain ⟨A,hA,hsrc'⟩:∃ A:Addr,(if k=j then some (⟨blk,off,none⟩:Addr) else some ⟨blk,off+j*2,none⟩)=some A∧Hid (∀ t u,news[t]?=some u→w.drew.cell? (A.add t)=some u):=by
  by_cases h:k=j
  ·refine ⟨⟨blk,off,none⟩,by simp [h],fun t u hu => ?_⟩
   have h0:news.length=0:=by rw [hlen];omega
   rw [List.length_eq_zero_iff.1 h0] at hu
   simp at hu
  ·refine ⟨⟨blk,off+j*2,none⟩,by simp [h],fun t u hu => ?_⟩
   rw [Addr.add_lit]
   exact hsrc t u hu
 have s1:Hid (news.length=(n - j)*2):=hlen
 have s2:Hid (∀ u∈news,u.oneCell'=true):=hone
 have s3:Hid (∀ t,t<news.length→(w.drew.cell? ⟨blk,off+i*2+t,none⟩).isSome=true∧w.drew.frozen? ⟨blk,off+i*2+t,none⟩=false):=fun t ht=>hsp t (by omega)
 obtain ⟨W1,hW1⟩:∃ W1,W1=w.drew.setCells blk (off+i*2) news:=⟨_,rfl⟩
 have hW:Hid (W1=w.drew.setCells blk (off+i*2) news):=hW1
 rw [←hW1] at hsp2 ⊢
 have hcl:∀ ty,(Builtin.clear_ #[34] ty #[.slice (some ⟨blk,off+(i+(n - j))*2,none⟩) (n - (i+(n - j))) (k - (i+(n - j)))]).run Tryz.prog W1=.ok (.tuple #[]) (W1.setCells blk (off+(i+(n - j))*2) [.int .i64 0,.int .i64 0]):=by
  intro ty
  rw [hj1]
  exact ZwF W1 34 114 ty (.agg #[.int .i64 0,.int .i64 0]) (by kernel_rfl) (fun w=>by kernel_rfl) (by intro v hv;simp [Value.cells] at hv;subst hv;rfl) blk _ _ (fun t ht=>(hsp2 t ht).1) (fun t ht=>(hsp2 t ht).2)
 have hic:i≤k:=by omega
 have hjc:j≤k:=by omega
 have hne:¬ i=j:=by omega
 clear hW1 hsp2 hsp hlen hsrc hone hj1
 go_enter Tryz.func221,Tryz.ntmps221
 go_wp2_with fail
 go_region_law_o (refine step_append_room rfl (.tmp 22) (.tmp 25) 34 rfl 114 i0 2 ts hi0 hz1 blk off i k (by simp [Act.eval,Act.put]) A (n - j) (k - j) news (by simp [Act.eval,Act.put]) s1.out hsrc'.out s2.out (by omega) s3.out ?_;rw [←hW.out])
 go_wp2
 go_ret
 exact ⟨rfl,rfl⟩
theorem ZHB {ι:Emb} {m m':Mem} {w:World} {args:List AV} {vs:List Value} {v:AV} (h:Zue 2 args m=some (v,m')) (R:Rel ι m w) (hv:VL ι w args vs) :
  Calls Tryz.prog ZO vs.toArray w fun e w'=>∃ (ι':Emb) (v':Value),e=.returned v'∧V ι' w' v v'∧Rel ι' m' w'∧Ext ι m w ι' m' w':=by
 obtain ⟨b,n,i,cap,cs,rfl,hb,hcs,hi,rfl,rfl⟩:=Zmx h
 obtain ⟨v1,vs1,rfl,h1,v2,vs2,rfl,rfl,v3,vs3,rfl,rfl,rfl⟩:=hv
 obtain ⟨c,x,k,news,rfl,h2,h3,h4,h5,h6,h7,ι',h8,h9,h10⟩:=ZFb (P:=Tryz.prog) R hb hcs hi h1
 refine (ZxD c x n k i (i+1) w (by omega) (by omega) (by omega) h2 news h3 h4 h5 h6 h7).mono ?_
 rintro e w' ⟨rfl,rfl⟩
 exact ⟨ι',_,rfl,h8,h9,h10⟩
set_option maxHeartbeats 4000000 in
set_option maxRecDepth 1000000 in
theorem ZuC (blk off n k i j:Nat) (w:World) (hij:i<j) (hjn:j≤n) (hj1:n - (i+(n - j))=1) (hnk:n≤k) (news:List Value) (hlen:news.length=(n - j)*3)
  (hsrc:∀ t u,news[t]?=some u→w.drew.cell? ⟨blk,off+j*3+t,none⟩=some u) (hone:∀ u∈news,u.oneCell'=true)
  (hsp:∀ t,t<(n - j)*3→(w.drew.cell? ⟨blk,off+i*3+t,none⟩).isSome=true∧w.drew.frozen? ⟨blk,off+i*3+t,none⟩=false)
  (hsp2:∀ t,t<3→((w.drew.setCells blk (off+i*3) news).cell? ⟨blk,off+(i+(n - j))*3+t,none⟩).isSome=true∧(w.drew.setCells blk (off+i*3) news).frozen? ⟨blk,off+(i+(n - j))*3+t,none⟩=false) :
  Calls Tryz.prog 222 #[.slice (some ⟨blk,off,none⟩) n k,.int .i64 i,.int .i64 j] w fun e w'=>
   e=.returned (.slice (some ⟨blk,off,none⟩) (i+(n - j)) k)∧w'=(w.drew.setCells blk (off+i*3) news).setCells blk (off+(i+(n - j))*3) [.int .i64 0,.int .i64 0,.int .i64 0]:=by
 have mixed:Tryz.prog.follows .mixedOrders=true:=by kernel_rfl
 have ts:Tryz.prog.underlying 35=some (.slice 135):=by kernel_rfl
 obtain ⟨i0,hi0,hz0,hz1,hz2⟩:=info_parts (show (Tryz.prog.info? 135).map (fun i=>(i.zero,i.size,i.bytes))=some (some (.agg #[.int .i64 0,.int .i64 0,.int .i64 0]),3,24) by kernel_rfl)
 obtain ⟨A,hA,hsrc'⟩:∃ A:Addr,(if k=j then some (⟨blk,off,none⟩:Addr) else some ⟨blk,off+j*3,none⟩)=some A∧Hid (∀ t u,news[t]?=some u→w.drew.cell? (A.add t)=some u):=by
  by_cases h:k=j
  ·refine ⟨⟨blk,off,none⟩,by simp [h],fun t u hu => ?_⟩
   have h0:news.length=0:=by rw [hlen];omega
   rw [List.length_eq_zero_iff.1 h0] at hu
   simp at hu
  ·refine ⟨⟨blk,off+j*3,none⟩,by simp [h],fun t u hu => ?_⟩
   rw [Addr.add_lit]
   exact hsrc t u hu
 have s1:Hid (news.length=(n - j)*3):=hlen
 have s2:Hid (∀ u∈news,u.oneCell'=true):=hone
 have s3:Hid (∀ t,t<news.length→(w.drew.cell? ⟨blk,off+i*3+t,none⟩).isSome=true∧w.drew.frozen? ⟨blk,off+i*3+t,none⟩=false):=fun t ht=>hsp t (by omega)
 obtain ⟨W1,hW1⟩:∃ W1,W1=w.drew.setCells blk (off+i*3) news:=⟨_,rfl⟩
 have hW:Hid (W1=w.drew.setCells blk (off+i*3) news):=hW1
 rw [←hW1] at hsp2 ⊢
 have hcl:∀ ty,(Builtin.clear_ #[35] ty #[.slice (some ⟨blk,off+(i+(n - j))*3,none⟩) (n - (i+(n - j))) (k - (i+(n - j)))]).run Tryz.prog W1=.ok (.tuple #[]) (W1.setCells blk (off+(i+(n - j))*3) [.int .i64 0,.int .i64 0,.int .i64 0]):=by
  intro ty
  rw [hj1]
  exact ZwF W1 35 135 ty (.agg #[.int .i64 0,.int .i64 0,.int .i64 0]) (by kernel_rfl) (fun w=>by kernel_rfl) (by intro v hv;simp [Value.cells] at hv;subst hv;rfl) blk _ _ (fun t ht=>(hsp2 t ht).1) (fun t ht=>(hsp2 t ht).2)
 have hic:i≤k:=by omega
 have hjc:j≤k:=by omega
 have hne:¬ i=j:=by omega
 clear hW1 hsp2 hsp hlen hsrc hone hj1
 go_enter Tryz.func222,Tryz.ntmps222
 go_wp2_with fail
 go_region_law_o (refine step_append_room rfl (.tmp 22) (.tmp 25) 35 rfl 135 i0 3 ts hi0 hz1 blk off i k (by simp [Act.eval,Act.put]) A (n - j) (k - j) news (by simp [Act.eval,Act.put]) s1.out hsrc'.out s2.out (by omega) s3.out ?_;rw [←hW.out])
 go_wp2
 go_ret
 exact ⟨rfl,rfl⟩
theorem ZGk {ι:Emb} {m m':Mem} {w:World} {args:List AV} {vs:List Value} {v:AV} (h:Zue 3 args m=some (v,m')) (R:Rel ι m w) (hv:VL ι w args vs) :
  Calls Tryz.prog ZK vs.toArray w fun e w'=>∃ (ι':Emb) (v':Value),e=.returned v'∧V ι' w' v v'∧Rel ι' m' w'∧Ext ι m w ι' m' w':=by
 obtain ⟨b,n,i,cap,cs,rfl,hb,hcs,hi,rfl,rfl⟩:=Zmx h
 obtain ⟨v1,vs1,rfl,h1,v2,vs2,rfl,rfl,v3,vs3,rfl,rfl,rfl⟩:=hv
 obtain ⟨c,x,k,news,rfl,h2,h3,h4,h5,h6,h7,ι',h8,h9,h10⟩:=ZFb (P:=Tryz.prog) R hb hcs hi h1
 refine (ZuC c x n k i (i+1) w (by omega) (by omega) (by omega) h2 news h3 h4 h5 h6 h7).mono ?_
 rintro e w' ⟨rfl,rfl⟩
 exact ⟨ι',_,rfl,h8,h9,h10⟩
def ZIJ (args:List AV) (m:Mem):Option (AV×Mem):=Zue 2 args m
theorem ZIK {args:List AV} {m m':Mem} {v:AV} (h:ZIJ args m=some (v,m')):Grow m m':=Zso h
theorem ZKK {ι:Emb} {m m':Mem} {w:World} {args:List AV} {vs:List Value} {v:AV} (h:ZIJ args m=some (v,m')) (R:Rel ι m w) (hv:VL ι w args vs):Calls Tryz.prog ZO vs.toArray w fun e w'=>∃ (ι':Emb) (v':Value),e=.returned v'∧V ι' w' v v'∧Rel ι' m' w'∧Ext ι m w ι' m' w':=ZHB h R hv
def ZIL (args:List AV) (m:Mem):Option (AV×Mem):=Zue 3 args m
theorem ZIM {args:List AV} {m m':Mem} {v:AV} (h:ZIL args m=some (v,m')):Grow m m':=Zso h
theorem ZKL {ι:Emb} {m m':Mem} {w:World} {args:List AV} {vs:List Value} {v:AV} (h:ZIL args m=some (v,m')) (R:Rel ι m w) (hv:VL ι w args vs):Calls Tryz.prog ZK vs.toArray w fun e w'=>∃ (ι':Emb) (v':Value),e=.returned v'∧V ι' w' v v'∧Rel ι' m' w'∧Ext ι m w ι' m' w':=ZGk h R hv
theorem ZIN {args:List AV} {m m':Mem} {v:AV} (h:ZDj args m=some (v,m')):Grow m m':=ZFM h
theorem ZIO {args:List AV} {m m':Mem} {v:AV} (h:Zw7 args m=some (v,m')):Grow m m':=ZFN h
theorem ZIP {args:List AV} {m m':Mem} {v:AV} (h:ZDk args m=some (v,m')):Grow m m':=ZFO h
theorem ZIQ {args:List AV} {m m':Mem} {v:AV} (h:Zw8 args m=some (v,m')):Grow m m':=ZFP h
theorem ZIR {args:List AV} {m m':Mem} {v:AV} (h:Zw9 args m=some (v,m')):Grow m m':=ZFQ h
theorem ZIS {args:List AV} {m m':Mem} {v:AV} (h:Zxa args m=some (v,m')):Grow m m':=ZFR h
def prC:Zy:=fun f args m=>if f=Yy then ZGe args m else if f=Yu then ZGg args m else if f=Xj then ZGi args m else if f=Zap then ZDj args m else if f=Qx then Zw7 args m else if f=ZbF then ZDk args m else if f=XC then Zw8 args m else if f=YU then Zw9 args m else if f=Yt then Zxa args m else if f=ZO then ZIJ args m else if f=ZK then ZIL args m else none
set_option maxHeartbeats 4000000 in
theorem ZJO:Zs3 Tryz.prog prC:=by
 refine ⟨fun f args m v m' ι w vs h R hv => ?_,fun f args m v m' h => ?_⟩
 ·unfold prC at h
  split at h
  ·rename_i hf
   subst hf
   exact ⟨Za3 (by kernel_rfl),ZKH h R hv⟩
  split at h
  ·rename_i hf
   subst hf
   exact ⟨Za3 (by kernel_rfl),ZKI h R hv⟩
  split at h
  ·rename_i hf
   subst hf
   exact ⟨Za3 (by kernel_rfl),ZKJ h R hv⟩
  split at h
  ·rename_i hf
   subst hf
   exact ⟨Za3 (by kernel_rfl),ZKz h R hv⟩
  split at h
  ·rename_i hf
   subst hf
   exact ⟨Za3 (by kernel_rfl),ZKA h R hv⟩
  split at h
  ·rename_i hf
   subst hf
   exact ⟨Za3 (by kernel_rfl),ZKB h R hv⟩
  split at h
  ·rename_i hf
   subst hf
   exact ⟨Za3 (by kernel_rfl),ZKC h R hv⟩
  split at h
  ·rename_i hf
   subst hf
   exact ⟨Za3 (by kernel_rfl),ZKD h R hv⟩
  split at h
  ·rename_i hf
   subst hf
   exact ⟨Za3 (by kernel_rfl),ZKE ZHs h R hv⟩
  split at h
  ·rename_i hf
   subst hf
   exact ⟨Za3 (by kernel_rfl),ZKK h R hv⟩
  split at h
  ·rename_i hf
   subst hf
   exact ⟨Za3 (by kernel_rfl),ZKL h R hv⟩
  cases h
 ·unfold prC at h
  split at h
  ·exact ZIG h
  split at h
  ·exact ZIH h
  split at h
  ·exact ZII h
  split at h
  ·exact ZIN h
  split at h
  ·exact ZIO h
  split at h
  ·exact ZIP h
  split at h
  ·exact ZIQ h
  split at h
  ·exact ZIR h
  split at h
  ·exact ZIS h
  split at h
  ·exact ZIK h
  split at h
  ·exact ZIM h
  cases h
theorem ZIT:Y9 prC:=fun s c m=>by
 rw [Ks rfl]
 rfl
theorem ZIU:ZaX prC:=fun s c m=>by
 rw [Ks rfl]
 rfl
theorem ZIV:KJ prC:=fun n m h1 h2=>by
 rw [Ks rfl]
 unfold prC
 rw [if_neg (by decide),if_neg (by decide),if_pos rfl]
 exact if_pos ⟨h1,h2⟩
theorem ZIW:ZAW prC:=fun l c L e h=>by
 rw [Ks rfl]
 unfold prC
 rw [if_neg (by decide),if_neg (by decide),if_neg (by decide),if_pos rfl]
 show (if l.length≤1073741824 then _ else none)=_
 rw [if_pos h]
theorem ZIX:ZmL prC:=fun xs c b cap L e h1 h2 h3=>by
 rw [Ks rfl]
 unfold prC
 rw [if_neg (by decide),if_neg (by decide),if_neg (by decide),if_neg (by decide),if_pos rfl]
 exact ZHn h1 h2 h3
theorem ZIY:Zz1 prC:=fun l m h=>by
 rw [Ks rfl]
 unfold prC
 rw [if_neg (by decide),if_neg (by decide),if_neg (by decide),if_neg (by decide),if_neg (by decide),if_pos rfl]
 exact if_pos h
theorem ZIZ:ZFK prC:=fun zs b cap L e h1 h2 h3=>by
 rw [Ks rfl]
 unfold prC
 rw [if_neg (by decide),if_neg (by decide),if_neg (by decide),if_neg (by decide),if_neg (by decide),if_neg (by decide),if_pos rfl]
 exact ZHo h1 h2 h3
theorem ZI0:ZsN prC:=fun zs b cap L e h1 h2 h3=>by
 rw [Ks rfl]
 unfold prC
 rw [if_neg (by decide),if_neg (by decide),if_neg (by decide),if_neg (by decide),if_neg (by decide),if_neg (by decide),if_neg (by decide),if_pos rfl]
 exact ZHp h1 h2 h3
theorem ZI1:ZAX prC:=fun cs ks b cap L e h1 h2 h3 h4=>by
 rw [Ks rfl]
 unfold prC
 rw [if_neg (by decide),if_neg (by decide),if_neg (by decide),if_neg (by decide),if_neg (by decide),if_neg (by decide),if_neg (by decide),if_neg (by decide),if_pos rfl]
 exact ZHq h1 h2 h3 h4
theorem ZI2:Zdy prC:=by
 refine ⟨fun L e b n i cap cs h1 h2 h3 => ?_,fun L e b n i cap cs h1 h2 h3 => ?_⟩
 ·rw [Ks rfl]
  unfold prC
  rw [if_neg (by decide),if_neg (by decide),if_neg (by decide),if_neg (by decide),if_neg (by decide),if_neg (by decide),if_neg (by decide),if_neg (by decide),if_neg (by decide),if_pos rfl]
  exact ZAG (cap:=cap) h1 h2 h3
 ·rw [Ks rfl]
  unfold prC
  rw [if_neg (by decide),if_neg (by decide),if_neg (by decide),if_neg (by decide),if_neg (by decide),if_neg (by decide),if_neg (by decide),if_neg (by decide),if_neg (by decide),if_neg (by decide),if_pos rfl]
  exact ZAG (cap:=cap) h1 h2 h3
theorem ZI3:Zuo prC:=⟨ZIV,ZIT,ZIU,ZIW,ZIX,ZIY,ZIZ,ZI0,ZI1⟩
theorem ZHC:ZsR prC:=⟨ZI3,ZI2⟩
end Go.Proofs.YtemcdiajejekoaaGreatDoor.Slim
namespace Go.Proofs.YtemcdiajejekoaaGreatDoor.Slim
open Go
open Nat renaming reduceAdd → Ra, reduceLeDiff → Rb, reduceLT → Rc, reduceEqDiff → Rd
open Int renaming le_refl → Wd, toNat_zero → RH, toNat_one → RI
open Nat renaming zero_mul → Rr, one_mul → Rq
open Option renaming getD_some → WW, some.inj → WI
open Bool renaming false_eq_true → R7, and_eq_true → Ru
variable {pr : Zy} {H : List Blk} {e : Option Nat}
theorem ZjE {b:Nat} {cap:Option Nat}:call T pr Xy [slI b 0 cap,.bool false] ⟨H,e⟩=some (sV [63],⟨H,e⟩):=by
 have h0:¬ (0:Int)<((0:Nat):Int):=by omega
 rw [Zi Zpt]
 simp +contextual only [KC,ZjU,go_sem,reduceIte,Ra,Rb,Rc,Rd]
 rw [Zw]
 simp +contextual only [JY,h0,decide_false,go_sem,reduceIte,Ra,Rb,Rc,Rd]
set_option maxHeartbeats 2000000 in
theorem ZAh {q1 q2:Nat} {c1 c2:Option Nat} {ls:List Ld} {ss:List Sg} {a b t k:Int} (h1:Zb H q1=some (Zm ls)) (h2:Zb H q2=some (Zr ss)) (hs:Zcn ls ss a b t k=true) (w:By) :
  call T pr ZfL [stV (slL q1 ls.length c1) a b (slS q2 ss.length c2) t k,sV w] ⟨H,e⟩=some (sV ((askW ls a b ss t w).getD [63]),⟨H,e⟩):=by
 obtain ⟨hr,hc,hb,hss,hls,ht1,ht2,hk1,hk2,hre⟩:=J0 hs
 have weq:=fun a=>Zab w a
 have e1:decide (bs w=⟨#[114,111,119]⟩)=decide (w=[114,111,119]):=weq _
 have e2:decide (bs w=⟨#[119,101,105,103,104,116]⟩)=decide (w=[119,101,105,103,104,116]):=weq _
 have e3:decide (bs w=⟨#[99,101,110,116,114,101]⟩)=decide (w=[99,101,110,116,114,101]):=weq _
 have e4:decide (bs w=⟨#[115,105,100,101]⟩)=decide (w=[115,105,100,101]):=weq _
 have e5:decide (bs w=⟨#[116,105,112,115]⟩)=decide (w=[116,105,112,115]):=weq _
 have e6:decide (bs w=⟨#[112,117,108,108]⟩)=decide (w=[112,117,108,108]):=weq _
 have e7:decide (bs w=⟨#[115,112,108,105,116]⟩)=decide (w=[115,112,108,105,116]):=weq _
 apply Wc.eq
 rw [Zs Zyq]
 unfold Zge Zo3 askW
 generalize (⟨#[114,111,119]⟩:ByteArray)=k1 at *
 generalize (⟨#[119,101,105,103,104,116]⟩:ByteArray)=k2 at *
 generalize (⟨#[99,101,110,116,114,101]⟩:ByteArray)=k3 at *
 generalize (⟨#[115,105,100,101]⟩:ByteArray)=k4 at *
 generalize (⟨#[116,105,112,115]⟩:ByteArray)=k5 at *
 generalize (⟨#[112,117,108,108]⟩:ByteArray)=k6 at *
 generalize (⟨#[115,112,108,105,116]⟩:ByteArray)=k7 at *
 clear weq
 by_cases w1:w=[114,111,119]
 ·rw [decide_eq_true w1] at e1
  rw [if_pos w1]
  have hf:=fun L (hL:Zb L q1=some (Zm ls))=>ZAb (pr:=pr) (e:=none) (cap:=c1) hL hr
  simp (maxSteps:=2000000) +contextual only [hf,WW,e1,Za h1,Za h2,pp,go_sem,reduceIte,Ra,Rb,Rc,Rd]
 rw [decide_eq_false w1] at e1
 by_cases w2:w=[119,101,105,103,104,116]
 ·rw [decide_eq_true w2] at e2
  rw [if_neg w1,if_pos w2]
  have hf:=fun L (hL:Zb L q1=some (Zm ls))=>Zeu (pr:=pr) (e:=none) (c:=c1) hL (by omega)
  have hg:=fun L=>XA (pr:=pr) (H:=L) (e:=none) (Q6 ls) (Zi5 hr).1 (Zi5 hr).2
  simp (maxSteps:=2000000) +contextual only [hf,hg,WW,e1,e2,Za h1,Za h2,pp,go_sem,reduceIte,Ra,Rb,Rc,Rd]
 rw [decide_eq_false w2] at e2
 by_cases w3:w=[99,101,110,116,114,101]
 ·rw [decide_eq_true w3] at e3
  rw [if_neg w1,if_neg w2,if_pos w3]
  have hf:=fun L (hL:Zb L q1=some (Zm ls))=>Zxk (pr:=pr) (e:=none) (cap:=c1) hL hr (by omega)
  by_cases h0:ls.length=0
  ·simp only [if_pos h0] at hf
   have hg:=fun L=>ZgS (pr:=pr) (H:=L) (e:=none) 0 0 (fit_small (by omega) (by omega)) (fit_small (by omega) (by omega)) false
   simp only [R7,if_false] at hg
   rw [if_pos h0]
   simp (maxSteps:=2000000) +contextual only [hf,hg,Option.getD_none,e1,e2,e3,Za h1,Za h2,pp,go_sem,reduceIte,Ra,Rb,Rc,Rd]
  ·simp only [if_neg h0] at hf
   have hg:=fun L=>ZgS (pr:=pr) (H:=L) (e:=none) (cenA ls) (cenB ls) (ZmM hr).1 (ZmM hr).2 true
   simp only [if_true] at hg
   rw [if_neg h0]
   simp (maxSteps:=2000000) +contextual only [hf,hg,WW,e1,e2,e3,Za h1,Za h2,pp,go_sem,reduceIte,Ra,Rb,Rc,Rd]
 rw [decide_eq_false w3] at e3
 by_cases w4:w=[115,105,100,101]
 ·rw [decide_eq_true w4] at e4
  rw [if_neg w1,if_neg w2,if_neg w3,if_pos w4]
  have hf:=fun L (hL:Zb L q1=some (Zm ls))=>Zmu (pr:=pr) (e:=none) (c:=c1) hL (by omega) a b
  have hg:=fun L=>XA (pr:=pr) (H:=L) (e:=none) (Zdx ls a b) (Zce ls a b).1 (Zce ls a b).2
  simp (maxSteps:=2000000) +contextual only [hf,hg,WW,e1,e2,e3,e4,Za h1,Za h2,pp,go_sem,reduceIte,Ra,Rb,Rc,Rd]
 rw [decide_eq_false w4] at e4
 by_cases w5:w=[116,105,112,115]
 ·rw [decide_eq_true w5] at e5
  rw [if_neg w1,if_neg w2,if_neg w3,if_neg w4,if_pos w5]
  have hg:=fun L=>XA (pr:=pr) (H:=L) (e:=none) t (by omega) (by omega)
  simp (maxSteps:=2000000) +contextual only [hg,WW,e1,e2,e3,e4,e5,Za h1,Za h2,pp,go_sem,reduceIte,Ra,Rb,Rc,Rd]
 rw [decide_eq_false w5] at e5
 by_cases w6:w=[112,117,108,108]
 ·rw [decide_eq_true w6] at e6
  rw [if_neg w1,if_neg w2,if_neg w3,if_neg w4,if_neg w5,if_pos w6]
  have hf:=fun L (g1:Zb L q1=some (Zm ls)) (g2:Zb L q2=some (Zr ss))=>ZzM (pr:=pr) (e:=none) (c:=c1) (c':=c2) g1 g2 (by omega) (by omega) a b t k
  simp only [hr,hc,hre,Bool.and_self] at hf
  have hg:=fun L=>JF (pr:=pr) (H:=L) (e:=none) (rowPullW ls ss true) (ZuB hr hc) true
  simp only [if_true] at hg
  simp (maxSteps:=2000000) +contextual only [hf,hg,WW,e1,e2,e3,e4,e5,e6,Za h1,Za h2,pp,go_sem,reduceIte,Ra,Rb,Rc,Rd]
 rw [decide_eq_false w6] at e6
 by_cases w7:w=[115,112,108,105,116]
 ·rw [decide_eq_true w7] at e7
  rw [if_neg w1,if_neg w2,if_neg w3,if_neg w4,if_neg w5,if_neg w6,if_pos w7]
  simp (maxSteps:=2000000) +contextual only [e1,e2,e3,e4,e5,e6,e7,Za h1,Za h2,pp,go_sem,reduceIte,Ra,Rb,Rc,Rd]
  refine (ZqC (Za h1 _) hr).mono ?_
  have hfit:=fun g=>ZqD (ls:=ls) (g:=g)
  generalize Zal ls=o at *
  rintro v m hv
  cases o with
  | some g=>
   obtain ⟨c,rfl,rfl⟩:=hv
   obtain ⟨f1,f2⟩:=hfit g rfl hls
   have hg:∀ X e0,call T pr Xy [slI (H.length+1) g.length c,.bool true] ⟨H++[X,.cells (ZR g) true],e0⟩=some (sV (ZeR g),⟨H++[X,.cells (ZR g) true],e0⟩):=fun X e0=>by
    have:=ZgT (pr:=pr) (H:=H++[X,.cells (ZR g) true]) (e:=e0) (q:=H.length+1) (cap:=c) (Zg (w:=true) (by rw [List.getElem?_append_right (by omega),show H.length+1 - H.length=1 by omega];rfl)) f1 f2 true
    rw [if_pos rfl] at this
    exact this
   simp (maxSteps:=2000000) +contextual only [hg,Option.map_some,WW,pp,go_sem,reduceIte,Ra,Rb,Rc,Rd]
  | none=>
   obtain ⟨G,c,rfl,rfl⟩:=hv
   have hg:=fun L b e0=>ZjE (pr:=pr) (H:=L) (e:=e0) (b:=b) (cap:=c)
   simp (maxSteps:=2000000) +contextual only [hg,Option.map_none,Option.getD_none,pp,go_sem,reduceIte,Ra,Rb,Rc,Rd]
 rw [decide_eq_false w7] at e7
 rw [if_neg w1,if_neg w2,if_neg w3,if_neg w4,if_neg w5,if_neg w6,if_neg w7]
 simp (maxSteps:=2000000) +contextual only [Option.getD_none,e1,e2,e3,e4,e5,e6,e7,Za h1,Za h2,pp,go_sem,reduceIte,Ra,Rb,Rc,Rd]
def askOneW (ls:List Ld) (ss:List Sg) (w:By) (n:Int):Option By :=
 if w=[109,111,109,101,110,116] then (if Zhh n=true then some (Lib.itoa (Zln ls n)) else none)
 else if w=[109,111,115,116] then (if Zom n=true then some (Lib.itoa (mostW ss n.toNat)) else none)
 else if w=[115,116,101,112,115] then (if Zom n=true then some (Xd 47 [(stepA ss n.toNat:Int),(stepBW ss n.toNat:Int)]) else none)
 else if w=[122,101,114,111] then (if Zhh n=true then some (Lib.itoa ((Yw ls n).length:Int)) else none)
 else if w=[109,101,110,100] then (ZrG ls n).map fun p=>ZeR [(p.1:Int),p.2]
 else if w=[99,111,105,110,115] then (if Zz6 n=true then some (Lib.itoa (Zg8 n)) else none)
 else none
theorem ZH6 (p:Int) (hp:0≤p∧p≤60):∀ (ls:List Ld) (a:Int),ls.all okL=true→∀ B:Int,-B≤a→a≤B→B+(ls.length:Int)*5940≤1000000 → -(B+(ls.length:Int)*5940)≤ls.foldl (ZaS p) a∧ls.foldl (ZaS p) a≤B+(ls.length:Int)*5940
 | [],a,_,B,h1,h2,_=>by simp only [List.foldl_nil,List.length_nil];omega
 | l::ls,a,h,B,h1,h2,hB=>by
  rw [List.all_cons,Ru] at h
  simp only [List.length_cons] at hB ⊢
  have h3:=h.1
  unfold okL at h3
  simp only [Ru,decide_eq_true_eq] at h3
  obtain ⟨x,hx⟩:∃ x:Nat,l.1=x:=⟨l.1.toNat,by omega⟩
  obtain ⟨y,hy⟩:∃ y:Nat,l.2=y:=⟨l.2.toNat,by omega⟩
  obtain ⟨z,rfl⟩:∃ z:Nat,p=z:=⟨p.toNat,by omega⟩
  have hxy:y*x≤99*60:=Nat.mul_le_mul (by omega) (by omega)
  have hxz:y*z≤99*60:=Nat.mul_le_mul (by omega) (by omega)
  have e0:(y:Int)*((x:Int) - (z:Int))=((y*x:Nat):Int) - ((y*z:Nat):Int):=by rw [Int.mul_sub,Int.natCast_mul,Int.natCast_mul]
  have e1:ZaS z a l=a+(((y*x:Nat):Int) - ((y*z:Nat):Int)):=by
   unfold ZaS
   rw [hx,hy,ZP (x:=(x:Int) - (z:Int)) (by omega) (by omega),e0,ZP (x:=((y*x:Nat):Int) - ((y*z:Nat):Int)) (by omega) (by omega),ZP (by omega) (by omega)]
  rw [List.foldl_cons,e1]
  have:=ZH6 z hp ls (a+(((y*x:Nat):Int) - ((y*z:Nat):Int))) h.2 (B+5940) (by omega) (by omega) (by omega)
  omega
theorem ZAi {ls:List Ld} (h:YZ ls=true) {n:Int} (hn:Zhh n=true):Zfo (Zln ls n):=by
 unfold Zhh at hn
 simp only [Ru,decide_eq_true_eq] at hn
 unfold YZ at h
 rw [Ru,decide_eq_true_eq] at h
 have h3:=ZH6 n hn ls 0 h.2 0 (by omega) (by omega) (by omega)
 unfold Zln
 exact fit_small (by omega) (by omega)
theorem ZuD {n:Int} (hn:Zom n=true):∃ x:Nat,n=x∧x≤1000000:=by
 unfold Zom at hn
 simp only [Ru,decide_eq_true_eq] at hn
 exact ⟨n.toNat,by omega,by omega⟩
theorem ZuE {ss:List Sg} (hc:ZJ ss=true) {n:Int} (hn:Zom n=true):Zfo (mostW ss n.toNat:Int):=by
 obtain ⟨x,rfl,hx⟩:=ZuD hn
 obtain ⟨a1,a2,b1,b2,h3⟩:=Q9 hc x hx
 rw [Int.toNat_natCast]
 unfold mostW
 have:=Nat.div_le_self (x*ZB 1 1 ss) (ZC 1 1 ss)
 generalize x*ZB 1 1 ss / ZC 1 1 ss=z at *
 exact fit_small (by omega) (by omega)
theorem ZqE {ss:List Sg} (hc:ZJ ss=true) (x:Nat) (hx:x≤1000000):Zfo (stepA ss x:Int)∧Zfo (stepBW ss x:Int):=by
 obtain ⟨a1,a2,b1,b2,h3⟩:=Q9 hc x hx
 have h1:x*ZC 1 1 ss≤1000000*254803968:=Nat.mul_le_mul hx b2
 have e1:stepA ss x≤x*ZC 1 1 ss:=Nat.div_le_self _ _
 have e2:stepBW ss x≤ZB 1 1 ss:=Nat.div_le_self _ _
 generalize stepA ss x=u at *
 generalize stepBW ss x=v at *
 generalize x*ZC 1 1 ss=y at *
 exact ⟨fit_small (by omega) (by omega),fit_small (by omega) (by omega)⟩
theorem ZmN {ls:List Ld} (hn:ls.length≤12) (p:Int):Zfo ((Yw ls p).length:Int):=by
 have hgb:=Zop ls.length hn (ZbA ls p) (ls.length+1) 0 (by omega)
 rw [ZlT] at hgb
 have hgb2:(Yw ls p).length≤(ls.length+1+1)*479001600:=by unfold Yw ZGA;rw [List.length_map];exact hgb
 exact fit_small (by omega) (by omega)
theorem ZqF (n:Int):Zfo (Zg8 n):=by
 unfold Zg8
 split
 ·exact fit_small (by omega) (by omega)
 ·split
  ·exact fit_small (by omega) (by omega)
  ·split <;> exact fit_small (by omega) (by omega)
def ZJP:Option (Nat×Int)→Prop
 | some (i,p)=>i≤12∧0≤p∧p≤60
 | none=>True
theorem ZuF (ls:List Ld) (n:Int) (hn:ls.length≤12):ZJP (ZrG ls n):=by
 cases h:ZrG ls n with
 | none=>trivial
 | some x=>
  obtain ⟨i,p⟩:=x
  unfold ZrG at h
  split at h
  ·obtain ⟨h1,h2,h3⟩:=ZH4 h
   exact ⟨by omega,h2,h3⟩
  ·cases h
theorem ZAj {i:Nat} {p:Int} (h:ZJP (some (i,p))):∀ z∈[(i:Int),p],Zfo z:=by
 obtain ⟨h1,h2,h3⟩:i≤12∧0≤p∧p≤60:=h
 intro z hz
 simp only [List.mem_cons,List.not_mem_nil,or_false] at hz
 rcases hz with rfl | rfl
 ·exact fit_small (by omega) (by omega)
 ·exact fit_small (by omega) (by omega)
set_option maxHeartbeats 2000000 in
theorem ZqG (hl:Zuo pr) {u q1 q2:Nat} {c1 c2:Option Nat} {ls:List Ld} {ss:List Sg} {a b t k:Int} {rest:List AV} (hu:Zb H u=some (sdL (slL q1 ls.length c1) a b (slS q2 ss.length c2) t k rest)) (h1:Zb H q1=some (Zm ls)) (h2:Zb H q2=some (Zr ss)) (hs:Zcn ls ss a b t k=true) (w:By) (n:Int) :
  Wc (call T pr QO [.ptr (some (u,0)),sV w,.int .i64 n] ⟨H,e⟩) (fun v m=>ZHA (askOneW ls ss w n) v∧m=⟨H,e⟩):=by
 obtain ⟨hr,hc,hb,hss,hls,ht1,ht2,hk1,hk2,hre⟩:=J0 hs
 have weq:=fun a=>Zab w a
 have e1:decide (bs w=⟨#[109,111,109,101,110,116]⟩)=decide (w=[109,111,109,101,110,116]):=weq _
 have e2:decide (bs w=⟨#[109,111,115,116]⟩)=decide (w=[109,111,115,116]):=weq _
 have e3:decide (bs w=⟨#[115,116,101,112,115]⟩)=decide (w=[115,116,101,112,115]):=weq _
 have e4:decide (bs w=⟨#[122,101,114,111]⟩)=decide (w=[122,101,114,111]):=weq _
 have e5:decide (bs w=⟨#[109,101,110,100]⟩)=decide (w=[109,101,110,100]):=weq _
 have e6:decide (bs w=⟨#[99,111,105,110,115]⟩)=decide (w=[99,111,105,110,115]):=weq _
 rw [Zs ZnF]
 unfold QP ZgY askOneW
 generalize (⟨#[109,111,109,101,110,116]⟩:ByteArray)=k1 at *
 generalize (⟨#[109,111,115,116]⟩:ByteArray)=k2 at *
 generalize (⟨#[115,116,101,112,115]⟩:ByteArray)=k3 at *
 generalize (⟨#[122,101,114,111]⟩:ByteArray)=k4 at *
 generalize (⟨#[109,101,110,100]⟩:ByteArray)=k5 at *
 generalize (⟨#[99,111,105,110,115]⟩:ByteArray)=k6 at *
 clear weq
 by_cases w1:w=[109,111,109,101,110,116]
 ·rw [decide_eq_true w1] at e1
  rw [if_pos w1]
  have hf:=fun L (hL:Zb L q1=some (Zm ls))=>Zib (pr:=pr) (e:=none) (cap:=c1) hL hr (by omega) n
  cases hB:Zhh n with
  | false=>
   simp only [hB,R7,if_false] at hf ⊢
   have hg:=fun L=>ZQ (pr:=pr) (H:=L) (e:=none) hl.ito 0 (fit_small (by omega) (by omega)) false
   simp (maxSteps:=2000000) +contextual only [hu,h1,h2,hf,hg,e1,Zz,Zt,Za h1,Za h2,Zbv,Zbw,Za7,Wd,RH,RI,Rr,Rq,Zc,pp,go_sem,reduceIte,Ra,Rb,Rc,Rd]
   exact ⟨_,rfl,fun y h=>absurd h (by simp)⟩
  | true=>
   simp only [hB,if_true] at hf ⊢
   have hg:=fun L=>ZQ (pr:=pr) (H:=L) (e:=none) hl.ito (Zln ls n) (ZAi hr hB) true
   simp (maxSteps:=2000000) +contextual only [hu,h1,h2,hf,hg,e1,Zz,Zt,Za h1,Za h2,Zbv,Zbw,Za7,Wd,RH,RI,Rr,Rq,Zc,pp,go_sem,reduceIte,Ra,Rb,Rc,Rd]
   exact ⟨_,rfl,fun y h=>by rw [←WI h]⟩
 rw [decide_eq_false w1] at e1
 by_cases w2:w=[109,111,115,116]
 ·rw [decide_eq_true w2] at e2
  rw [if_neg w1,if_pos w2]
  have hf:=fun L (hL:Zb L q2=some (Zr ss))=>Zxl (pr:=pr) (e:=none) (c:=c2) hL hc (by omega) n
  cases hB:Zom n with
  | false=>
   simp only [hB,R7,if_false] at hf ⊢
   have hg:=fun L=>ZQ (pr:=pr) (H:=L) (e:=none) hl.ito 0 (fit_small (by omega) (by omega)) false
   simp (maxSteps:=2000000) +contextual only [hu,h1,h2,hf,hg,e1,e2,Zz,Zt,Za h1,Za h2,Zbv,Zbw,Za7,Wd,RH,RI,Rr,Rq,Zc,pp,go_sem,reduceIte,Ra,Rb,Rc,Rd]
   exact ⟨_,rfl,fun y h=>absurd h (by simp)⟩
  | true=>
   simp only [hB,if_true] at hf ⊢
   have hg:=fun L=>ZQ (pr:=pr) (H:=L) (e:=none) hl.ito (mostW ss n.toNat) (ZuE hc hB) true
   simp (maxSteps:=2000000) +contextual only [hu,h1,h2,hf,hg,e1,e2,Zz,Zt,Za h1,Za h2,Zbv,Zbw,Za7,Wd,RH,RI,Rr,Rq,Zc,pp,go_sem,reduceIte,Ra,Rb,Rc,Rd]
   exact ⟨_,rfl,fun y h=>by rw [←WI h]⟩
 rw [decide_eq_false w2] at e2
 by_cases w3:w=[115,116,101,112,115]
 ·rw [decide_eq_true w3] at e3
  rw [if_neg w1,if_neg w2,if_pos w3]
  cases hB:Zom n with
  | false=>
   simp only [R7,if_false]
   have hf:=fun L (hL:Zb L q2=some (Zr ss))=>Zn0 (pr:=pr) (e:=none) (c:=c2) hL hc (by omega) n hB
   simp (maxSteps:=2000000) +contextual only [hu,h1,h2,hf,e1,e2,e3,Zz,Zt,Za h1,Za h2,Zbv,Zbw,Za7,Wd,RH,RI,Rr,Rq,Zc,pp,go_sem,reduceIte,Ra,Rb,Rc,Rd]
   exact ⟨_,rfl,fun y h=>absurd h (by simp)⟩
  | true=>
   obtain ⟨x,rfl,hx⟩:=ZuD hB
   simp only [if_true,Int.toNat_natCast]
   simp (maxSteps:=2000000) +contextual only [hu,h1,h2,e1,e2,e3,Zz,Zt,Za h1,Za h2,Zbv,Zbw,Za7,Wd,RH,RI,Rr,Rq,Zc,pp,go_sem,reduceIte,Ra,Rb,Rc,Rd]
   refine (Zur h2 hc x hx).mono ?_
   rintro v m ⟨cap,ps,rfl,rfl,hp1,hp2⟩
   have hnew:Zb (H++[.cells (Zm ps) true]) H.length=some (Zm ps):=Zg (w:=true) (by rw [ZY];rfl)
   obtain ⟨f1,f2⟩:=ZqE (ss:=ss) hc x hx
   have hg:=fun L=>QS (pr:=pr) (H:=L) (e:=none) hl.ito hl.joi (stepA ss x) (stepBW ss x) f1 f2 true
   have hw:IntKind.i64.wrap (((ss.length+1:Nat):Int) - 1)=(ss.length:Int):=by rw [ZP (by omega) (by omega)];omega
   have hlt:ss.length<ss.length+1:=by omega
   simp (maxSteps:=2000000) +contextual only [hu,h1,h2,hnew,hg,hw,hlt,X6 hp2,e1,e2,e3,Zz,Zt,Za h1,Za h2,Zbv,Zbw,Za7,Wd,RH,RI,Rr,Rq,Zc,pp,go_sem,reduceIte,Ra,Rb,Rc,Rd]
   exact ⟨_,rfl,fun y h=>by rw [←WI h]⟩
 rw [decide_eq_false w3] at e3
 by_cases w4:w=[122,101,114,111]
 ·rw [decide_eq_true w4] at e4
  rw [if_neg w1,if_neg w2,if_neg w3,if_pos w4]
  have hf:=fun L (hL:Zb L q1=some (Zm ls))=>Zux (pr:=pr) (e:=none) (cap:=c1) hl hL hr n
  cases hB:Zhh n with
  | false=>
   simp only [hB,R7,if_false] at hf ⊢
   have hg:=fun L=>ZQ (pr:=pr) (H:=L) (e:=none) hl.ito 0 (fit_small (by omega) (by omega)) false
   simp (maxSteps:=2000000) +contextual only [hu,h1,h2,hf,hg,e1,e2,e3,e4,Zz,Zt,Za h1,Za h2,Zbv,Zbw,Za7,Wd,RH,RI,Rr,Rq,Zc,pp,go_sem,reduceIte,Ra,Rb,Rc,Rd]
   exact ⟨_,rfl,fun y h=>absurd h (by simp)⟩
  | true=>
   simp only [hB,if_true] at hf ⊢
   have hg:=fun L=>ZQ (pr:=pr) (H:=L) (e:=none) hl.ito ((Yw ls n).length) (ZmN hls n) true
   simp (maxSteps:=2000000) +contextual only [hu,h1,h2,hf,hg,e1,e2,e3,e4,Zz,Zt,Za h1,Za h2,Zbv,Zbw,Za7,Wd,RH,RI,Rr,Rq,Zc,pp,go_sem,reduceIte,Ra,Rb,Rc,Rd]
   exact ⟨_,rfl,fun y h=>by rw [←WI h]⟩
 rw [decide_eq_false w4] at e4
 by_cases w5:w=[109,101,110,100]
 ·rw [decide_eq_true w5] at e5
  rw [if_neg w1,if_neg w2,if_neg w3,if_neg w4,if_pos w5]
  have hf:=fun L (hL:Zb L q1=some (Zm ls))=>Zz7 (pr:=pr) (e:=none) (cap:=c1) hL hr (by omega) n
  have hfit:=ZuF ls n hls
  generalize ZrG ls n=o at *
  cases o with
  | some x=>
   obtain ⟨i,p⟩:=x
   have hg:call T pr XT [.slice (some (H.length,0)) 1 2 (some 2),.bool true] ⟨H++[.cells [.int .i64 i,.int .i64 p] true],none⟩=some (.tup [sV (ZeR [(i:Int),p]),.bool true],⟨H++[.cells [.int .i64 i,.int .i64 p] true],none⟩) :=
    ZeA (zs:=[(i:Int),p]) hl.ito hl.joi (Zg (w:=true) (by rw [ZY];rfl)) (by simp) (ZAj hfit) true
   simp only [mvV] at hf
   simp (maxSteps:=2000000) +contextual only [hu,h1,h2,hf,hg,Option.map_some,e1,e2,e3,e4,e5,Zz,Zt,Za h1,Za h2,Zbv,Zbw,Za7,Wd,RH,RI,Rr,Rq,Zc,pp,go_sem,reduceIte,Ra,Rb,Rc,Rd]
   exact ⟨_,rfl,fun y h=>by rw [←WI h]⟩
  | none=>
   have hg:call T pr XT [.slice (some (H.length,0)) 1 2 (some 2),.bool false] ⟨H++[.cells [.int .i64 0,.int .i64 0] true],none⟩=some (.tup [sV (ZeR [0,0]),.bool false],⟨H++[.cells [.int .i64 0,.int .i64 0] true],none⟩) :=
    ZeA (zs:=[0,0]) hl.ito hl.joi (Zg (w:=true) (by rw [ZY];rfl)) (by simp) (fun z hz=>by simp at hz;subst hz;exact fit_small (by omega) (by omega)) false
   simp only [mvV] at hf
   simp (maxSteps:=2000000) +contextual only [hu,h1,h2,hf,hg,Option.map_none,e1,e2,e3,e4,e5,Zz,Zt,Za h1,Za h2,Zbv,Zbw,Za7,Wd,RH,RI,Rr,Rq,Zc,pp,go_sem,reduceIte,Ra,Rb,Rc,Rd]
   exact ⟨_,rfl,fun y h=>absurd h (by simp)⟩
 rw [decide_eq_false w5] at e5
 by_cases w6:w=[99,111,105,110,115]
 ·rw [decide_eq_true w6] at e6
  rw [if_neg w1,if_neg w2,if_neg w3,if_neg w4,if_neg w5,if_pos w6]
  have hf:=fun L=>Zko (pr:=pr) (H:=L) (e:=none) n
  cases hB:Zz6 n with
  | false=>
   simp only [hB,R7,if_false] at hf ⊢
   have hg:=fun L=>ZQ (pr:=pr) (H:=L) (e:=none) hl.ito 0 (fit_small (by omega) (by omega)) false
   simp (maxSteps:=2000000) +contextual only [hu,h1,h2,hf,hg,e1,e2,e3,e4,e5,e6,Zz,Zt,Za h1,Za h2,Zbv,Zbw,Za7,Wd,RH,RI,Rr,Rq,Zc,pp,go_sem,reduceIte,Ra,Rb,Rc,Rd]
   exact ⟨_,rfl,fun y h=>absurd h (by simp)⟩
  | true=>
   simp only [hB,if_true] at hf ⊢
   have hg:=fun L=>ZQ (pr:=pr) (H:=L) (e:=none) hl.ito (Zg8 n) (ZqF n) true
   simp (maxSteps:=2000000) +contextual only [hu,h1,h2,hf,hg,e1,e2,e3,e4,e5,e6,Zz,Zt,Za h1,Za h2,Zbv,Zbw,Za7,Wd,RH,RI,Rr,Rq,Zc,pp,go_sem,reduceIte,Ra,Rb,Rc,Rd]
   exact ⟨_,rfl,fun y h=>by rw [←WI h]⟩
 rw [decide_eq_false w6] at e6
 rw [if_neg w1,if_neg w2,if_neg w3,if_neg w4,if_neg w5,if_neg w6]
 simp (maxSteps:=2000000) +contextual only [hu,h1,h2,e1,e2,e3,e4,e5,e6,Zz,Zt,Za h1,Za h2,Zbv,Zbw,Za7,Wd,RH,RI,Rr,Rq,Zc,pp,go_sem,reduceIte,Ra,Rb,Rc,Rd]
 exact ⟨_,rfl,fun y h=>absurd h (by simp)⟩
end Go.Proofs.YtemcdiajejekoaaGreatDoor.Slim
