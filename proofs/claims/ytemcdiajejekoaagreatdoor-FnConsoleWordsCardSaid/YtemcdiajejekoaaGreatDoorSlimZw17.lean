/- Parts of the proof. -/
import Derived.Test.YtemcdiajejekoaaGreatDoorSlimZw16
import Derived.WalkKit
import Derived.Deep.LoopGhost
import Derived.Deep.Draws
import Derived.Shelf.RegionOpenPlain
import Derived.Lib.Walk
import Derived.Lib.Slices
import Derived.Lib.ItoaMem
import Derived.Lib.SlicesCompact
set_option linter.unusedSimpArgs false
set_option linter.unusedVariables false
namespace Go.Proofs.YtemcdiajejekoaaGreatDoor.Slim
open Go Go.Lib Go.RowKit Go.Shelf
theorem ZrM (x y:Int) (w:World):Calls Tryz.prog 270 #[.int .i64 x,.int .i64 y] w fun e w'=>e=.returned (.int .i64 (if x<y then -1 else if y<x then 1 else 0))∧w'=w:=by
 have mixed:Tryz.prog.follows .mixedOrders=true:=by kernel_rfl
 go_enter Tryz.func270,Tryz.ntmps270
 go_wp2_with (go_at_call 299;refine (Tryz.cmp_isNaN_int2 _ _).mono ?_;rintro e w' ⟨rfl,hw⟩;rw [hw])
 all_goals (go_ret;refine ⟨?_,rfl⟩;(repeat' split) <;> first | rfl | (exfalso;omega))
theorem ZgV:∀ (k:Nat) (A B:List Int),k≤A.length→k≤B.length→(∀ j,j<k→A.getD j 0=B.getD j 0)→Zqk A B=Zqk (A.drop k) (B.drop k)
 | 0,_,_,_,_,_=>rfl
 | k+1,[],_,h,_,_=>by simp at h
 | k+1,_::_,[],_,h,_=>by simp at h
 | k+1,a::x,b::y,h1,h2,h=>by
  have e:a=b:=h 0 (by omega)
  subst e
  have ih:=ZgV k x y (by simpa using h1) (by simpa using h2) fun j hj=>by simpa using h (j+1) (by omega)
  rw [List.drop_succ_cons,List.drop_succ_cons,←ih]
  conv=>lhs;unfold Zqk
  rw [if_neg (Int.lt_irrefl a),if_neg (Int.lt_irrefl a)]
theorem Zz2 (A B:List Int) (k:Nat) (x y:Int) (h1:k<A.length) (h2:k<B.length) (hx:A.getD k 0=x) (hy:B.getD k 0=y) (h:∀ j,j<k→A.getD j 0=B.getD j 0) (hne:x≠y):Zqk A B=if x<y then -1 else 1:=by
 have e1:A[k]=x:=by rw [←hx];simp [List.getD_eq_getElem?_getD,h1]
 have e2:B[k]=y:=by rw [←hy];simp [List.getD_eq_getElem?_getD,h2]
 rw [ZgV k A B (by omega) (by omega) h,List.drop_eq_getElem_cons h1,List.drop_eq_getElem_cons h2,e1,e2]
 unfold Zqk
 by_cases hlt:x<y
 ·rw [if_pos hlt,if_pos hlt]
 ·rw [if_neg hlt,if_neg hlt,if_pos (by omega)]
theorem ZyM (A B:List Int) (h1:A.length≤B.length) (h:∀ j,j<A.length→A.getD j 0=B.getD j 0):Zqk A B=if A.length<B.length then -1 else 0:=by
 rw [ZgV A.length A B (Nat.le_refl _) h1 h,List.drop_length]
 by_cases hlt:A.length<B.length
 ·rw [if_pos hlt,List.drop_eq_getElem_cons hlt];rfl
 ·rw [if_neg hlt,List.drop_eq_nil_of_le (by omega)];rfl
theorem ZwR (A B:List Int) (h1:B.length<A.length) (h:∀ j,j<B.length→A.getD j 0=B.getD j 0):Zqk A B=1:=by
 rw [ZgV B.length A B (by omega) (Nat.le_refl _) h,List.drop_length,List.drop_eq_getElem_cons h1];rfl
set_option maxHeartbeats 2000000 in
set_option maxRecDepth 100000 in
theorem Zuy (b1 o1 c1 b2 o2 c2 n m:Nat) (A B:List Int) (w:World) (hA:A.length=n) (hB:B.length=m) (hbig:n≤1073741824) (hbig2:m≤1073741824) (hc1:∀ j,j<n→w.cell? ⟨b1,o1+j,none⟩=some (.int .i64 (A.getD j 0))) (hc2:∀ j,j<m→w.cell? ⟨b2,o2+j,none⟩=some (.int .i64 (B.getD j 0))) :
  Calls Tryz.prog 211 #[.slice (some ⟨b1,o1,none⟩) n c1,.slice (some ⟨b2,o2,none⟩) m c2] w fun e w'=>e=.returned (.int .i64 (Zqk A B))∧∃ q,w'=w.drewN q:=by
 have mixed:Tryz.prog.follows .mixedOrders=true:=by kernel_rfl
 go_enter Tryz.func211,Tryz.ntmps211
 go_wp2
 go_loopg [11] n (fun g s11 wr=>∃ k q:Nat,k≤n∧k≤m∧n - k≤g∧s11=.int .i64 k∧wr=w.drewN q∧∀ j,j<k→A.getD j 0=B.getD j 0)
 case atStart=>exact ⟨0,0,Nat.zero_le _,Nat.zero_le _,by omega,rfl,rfl,fun j hj=>absurd hj (Nat.not_lt_zero _)⟩
 case round=>
  obtain ⟨k,q,hk,hkm,hg,rfl,rfl,heq⟩:=hrel
  by_cases hlt:k<n
  ·have g1:w.cell? ⟨b1,o1+k,none⟩=some (.int .i64 (A.getD k 0)):=hc1 k (by omega)
   by_cases hltm:k<m
   ·have g2:w.cell? ⟨b2,o2+k,none⟩=some (.int .i64 (B.getD k 0)):=hc2 k (by omega)
    have AS:Aside (∀ j,j<k→A.getD j 0=B.getD j 0):=heq
    clear heq hc1 hc2
    generalize hxk:A.getD k 0=x at g1
    generalize hyk:B.getD k 0=y at g2
    have BS:Aside (A.getD k 0=x∧B.getD k 0=y):=⟨hxk,hyk⟩
    clear hxk hyk
    by_cases hxy:x=y
    ·subst hxy
     have hcmp:=fun w'=>ZrM x x w'
     simp only [Int.lt_irrefl,if_false] at hcmp
     go_wp2_with (go_at_call 270;refine (hcmp _).mono ?_;rintro e w' ⟨rfl,hw⟩;rw [hw])
     go_roundg (n - (k+1))
     case measure=>omega
     case rel=>
      refine ⟨k+1,q,by omega,by omega,by omega,by go_num,rfl,fun j hj => ?_⟩
      by_cases e:j=k
      ·subst e
       rw [BS.out.1,BS.out.2]
      ·exact AS.out j (by omega)
    ·have hat:=Zz2 A B k x y (by omega) (by omega) BS.out.1 BS.out.2 AS.out hxy
     by_cases hxlt:x<y
     ·rw [if_pos hxlt] at hat
      have hcmp:=fun w'=>ZrM x y w'
      simp only [if_pos hxlt] at hcmp
      go_wp2_with (go_at_call 270;refine (hcmp _).mono ?_;rintro e w' ⟨rfl,hw⟩;rw [hw])
      go_ret
      refine ⟨?_,q,rfl⟩
      rw [hat]
      rfl
     ·rw [if_neg hxlt] at hat
      have hyx:y<x:=by omega
      have hcmp:=fun w'=>ZrM x y w'
      simp only [if_neg hxlt,if_pos hyx] at hcmp
      go_wp2_with (go_at_call 270;refine (hcmp _).mono ?_;rintro e w' ⟨rfl,hw⟩;rw [hw])
      go_ret
      refine ⟨?_,q,rfl⟩
      rw [hat]
      rfl
   ·have hov:=ZwR A B (by omega) fun j hj=>heq j (by omega)
    have hge:((m:Nat):Int)≤((k:Nat):Int):=by omega
    clear hc1 hc2
    go_wp2
    go_ret
    refine ⟨?_,q,rfl⟩
    rw [hov]
    rfl
  ·have hkn:k=n:=by omega
   subst hkn
   have hen:=ZyM A B (by omega) fun j hj=>heq j (by omega)
   rw [hA,hB] at hen
   clear hc1 hc2
   by_cases hlm:k<m
   ·rw [if_pos hlm] at hen
    go_wp2
    go_ret
    refine ⟨?_,q,rfl⟩
    rw [hen]
    rfl
   ·rw [if_neg hlm] at hen
    go_wp2
    go_ret
    refine ⟨?_,q,rfl⟩
    rw [hen]
    rfl
set_option maxHeartbeats 2000000 in
set_option maxRecDepth 100000 in
theorem ZyN:ZwQ Tryz.prog:=by
 intro w b1 o1 k1 b2 o2 k2 A B hA hB hc1 hc2
 have mixed:Tryz.prog.follows .mixedOrders=true:=by kernel_rfl
 have hs:=fun w' hc1 hc2=>Zuy b1 o1 k1 b2 o2 k2 A.length B.length A B w' rfl rfl hA hB hc1 hc2
 show Calls Tryz.prog 147 _ _ _
 unfold cfG
 by_cases h:A.length=B.length
 ·rw [if_pos h]
  have h':((A.length:Nat):Int)=((B.length:Nat):Int):=by omega
  have hs':=hs w hc1 hc2
  clear hs hc1 hc2
  generalize Zqk A B=z at *
  rw [←h] at hs' ⊢
  clear h h'
  go_enter Tryz.func147,Tryz.ntmps147
  go_wp2_with (go_at_call 211;refine hs'.mono ?_;rintro e w' ⟨rfl,q,hw⟩;rw [hw])
  go_ret
  exact ⟨rfl,q,rfl⟩
 ·rw [if_neg h]
  have h':¬ ((A.length:Nat):Int)=((B.length:Nat):Int):=by omega
  have hw:IntKind.i64.wrap (((A.length:Nat):Int) - ((B.length:Nat):Int))=((A.length:Nat):Int) - ((B.length:Nat):Int):=Yc (by omega) (by omega)
  clear hs hc1 hc2
  go_enter Tryz.func147,Tryz.ntmps147
  go_wp2
  go_ret
  exact ⟨rfl,0,rfl⟩
end Go.Proofs.YtemcdiajejekoaaGreatDoor.Slim
namespace Go.Proofs.YtemcdiajejekoaaGreatDoor.Slim
open Go
open Nat renaming reduceAdd → Ra, reduceLeDiff → Rb, reduceLT → Rc, reduceEqDiff → Rd
open List renaming set_set → Wk, length_set → Wl, getElem?_append_right → Rs, getElem?_eq_getElem → Rl, getElem?_set_ne → Wm, mem_map → RS, length_append → RL, length_cons → RB, getElem?_eq_some_iff → Wb, getElem?_append_left → Wd, length_map → Wn, replicate → Wr, length_filter_le → Ws, range → Wt, getElem?_set_self → Wu, mem_cons_self → RR, append_nil → Rq, getElem_mem → Wx, mem_cons_of_mem → We, mem_filter → RZ, drop_zero → Rk, all_cons → Rn, map_append → WE, drop_length → Rp, drop_eq_getElem_cons → Rm, mem_flatMap → WG, mem_cons → RQ, getD_eq_getElem?_getD → WH, append_assoc → Rj, filter_append → WI, take_length → WK, take_succ_eq_append_getElem → WL
open Nat renaming add_assoc → Rw, le_refl → Rt, lt_irrefl → Ri, le_add_right → Ry, one_mul → Wv, div_le_self → Rr, le_trans → Ww, mul_comm → Wy, mul_left_comm → Wz, mul_pos → WB, pow_le_pow_right → RD, pow_succ → WD, mul_le_mul → WF, mul_div_cancel_left → WJ
open Bool renaming and_eq_true → Ru, false_eq_true → RO, true_and → RI
open Int renaming le_refl → Wo, toNat_natCast → Wq, toNat_zero → WC
open Option renaming some.injEq → RH, some.inj → WA, getD_none → WM, isSome_none → WN
variable {pr : Zq} {H : List Blk} {e : Option Nat}
section
variable {C : FuncId → List AV → Mem → Option (AV × Mem)} {g : X → AV} {m : Mem}
def Zk1 (v:AV):Option AV:=match v with
 | .ptr (some p)=>some (.ptr (some p))
 | .fn f a b=>some (.fn f a b)
 | _=>none
theorem Zs (x:X):aop C g m (.nilCheck x)=J8 m (Zk1 (g x)):=by
 rw [ZF rfl]
 simp only [Ji,Zk1]
 generalize g x=v
 cases v with
 | ptr p=>cases p <;> rfl
 | _=>rfl
theorem Zo (p:Nat×Nat):Zk1 (.ptr (some p))=some (.ptr (some p)):=rfl
end
def ZdO (L:List Blk) (av:AV):Prop :=
 ∃ zs:List Int,zs.length≤70000∧(∀ z∈zs,0≤z∧z≤255)∧((av=.slice none 0 0 none∧zs=[])∨∃ b c,av=.slice (some (b,0)) 1 zs.length c∧Za L b=some (zs.map (AV.int .u8)))
theorem ZdO.more {L:List Blk} {av:AV} (h:ZdO L av) (G:List Blk):ZdO (L++G) av:=by
 obtain ⟨zs,h1,h2,h3 | ⟨b,c,h3,h4⟩⟩:=h
 ·exact ⟨zs,h1,h2,.inl h3⟩
 ·exact ⟨zs,h1,h2,.inr ⟨b,c,h3,Zc h4 G⟩⟩
abbrev ZgW (av:AV) (p h:Int):Blk:=.cells [av,.int .i64 p,.int .u64 h] true
def Cu (L:List Blk) (q:Nat) (av:AV) (p:Int):Prop:=(∃ h,L[q]?=some (ZgW av p h))∧ZdO L av∧0≤p
theorem Cu.lt {L:List Blk} {q:Nat} {av:AV} {p:Int} (h:Cu L q av p):q<L.length:=by
 obtain ⟨⟨_,h⟩,_⟩:=h
 exact (Wb.mp h).1
theorem Cu.more {L:List Blk} {q:Nat} {av:AV} {p:Int} (h:Cu L q av p) (G:List Blk):Cu (L++G) q av p:=by
 have hl:=h.lt
 obtain ⟨⟨z,h1⟩,h2,h3⟩:=h
 exact ⟨⟨z,by rw [Wd hl,h1]⟩,h2.more G,h3⟩
theorem Cu.step {L:List Blk} {q:Nat} {av:AV} {p:Int} (h:Cu L q av p) {y:Int} (hy:0≤y) (z:Int):Cu (L.set q (ZgW av y z)) q av y:=by
 have hl:=h.lt
 obtain ⟨⟨w,h1⟩,⟨zs,g1,g2,g3⟩,h3⟩:=h
 refine ⟨⟨z,Wu hl⟩,⟨zs,g1,g2,?_⟩,hy⟩
 rcases g3 with g3 | ⟨b,c,e2,e3⟩
 ·exact .inl g3
 refine .inr ⟨b,c,e2,?_⟩
 have hbq:b≠q:=by
  rintro rfl
  unfold Za at e3
  rw [h1] at e3
  simp at e3
  match zs with
  | []=>simp at e3
  | [_]=>simp at e3
  | _::_::_=>simp at e3
 unfold Za at e3 ⊢
 rw [Wm (fun h=>hbq h.symm)]
 exact e3
theorem ZwS {L:List Blk} {q:Nat} (h:q<L.length) (x:Blk) (G:List Blk):(L++G).set q x=L.set q x++G:=List.set_append_left _ _ h
theorem Zbg (v:AV) (e0 e1:Option Nat) (b:Nat) (x:Blk) (G:List Blk):finish 1 H.length e0 v ⟨H.set b x++G,e1⟩=if v.under H.length=true∧clean H.length e1=true then some (v,⟨H.set b x,e0⟩) else none:=by
 unfold finish
 have:(H.set b x++G).take H.length=H.set b x:=by
  rw [List.take_append_of_le_length (by simp),List.take_of_length_le (by simp)]
 simp [this]
theorem Xl (v:AV) (e0 e1:Option Nat) (b:Nat) (x:Blk):finish 1 H.length e0 v ⟨H.set b x,e1⟩=if v.under H.length=true∧clean H.length e1=true then some (v,⟨H.set b x,e0⟩) else none:=by
 have:=Zbg (H:=H) v e0 e1 b x []
 rwa [Rq] at this
theorem ZmR (q:Nat) (x:Blk) (l:List Blk):Za (H.set q x++l) H.length=Za l 0:=by simp [Za,Rs]
theorem ZmS (q:Nat) (x:Blk) (l:List Blk) (k:Nat):Za (H.set q x++l) (H.length+k)=Za l k:=by simp [Za,Rs]
theorem Zsv (q:Nat) (x:Blk) (l:List Blk):(H.set q x++l)[H.length]?=l[0]?:=by simp [Rs]
theorem Zsw (q:Nat) (x:Blk) (l:List Blk) (k:Nat):(H.set q x++l)[H.length+k]?=l[k]?:=by simp [Rs]
theorem Zzw (q:Nat) (x:Blk) (l:List Blk) (b:Blk):(H.set q x++l).set H.length b=H.set q x++l.set 0 b:=by simp [List.set_append_right]
theorem Zzx (q:Nat) (x:Blk) (l:List Blk) (b:Blk) (k:Nat):(H.set q x++l).set (H.length+k) b=H.set q x++l.set k b:=by simp [List.set_append_right]
theorem Zsx {q:Nat} (h:q<H.length) (x y:Blk) (l:List Blk):(H.set q x++l).set q y=H.set q y++l:=by
 rw [List.set_append_left _ _ (by simpa using h),Wk]
theorem Cu.new {G:List Blk} {k:Nat} {av:AV} {y z:Int} (hG:G[k]?=some (ZgW av y z)) (hc:ZdO H av) (hy:0≤y):Cu (H++G) (H.length+k) av y :=
 ⟨⟨z,by rw [Rs (by omega),Nat.add_sub_cancel_left,hG]⟩,hc.more G,hy⟩
theorem Cu.cells {L:List Blk} {q:Nat} {av:AV} {p:Int} (h:Cu L q av p):∃ w,L[q]?=some (ZgW av p w)∧Za L q=some [av,.int .i64 p,.int .u64 w]:=by
 obtain ⟨⟨w,h1⟩,_⟩:=h
 exact ⟨w,h1,by unfold Za;rw [h1]⟩
theorem Zk2 {L:List Blk} {q:Nat} (h:q<L.length) (cs:List AV) (wr:Bool):Za (L.set q (.cells cs wr)) q=some cs:=by
 unfold Za
 rw [Wu h]
theorem Zjj (x:Int):0≤Zyr .u64 x 255∧Zyr .u64 x 255≤255:=by
 have h1:(BitVec.ofInt 64 x &&& BitVec.ofInt 64 255).toNat≤255:=by
  rw [BitVec.toNat_and]
  exact Ww Nat.and_le_right (by decide)
 have h2:Zyr .u64 x 255=IntKind.u64.wrap ((BitVec.ofInt 64 x &&& BitVec.ofInt 64 255).toNat:Int):=rfl
 rw [h2]
 generalize (BitVec.ofInt 64 x &&& BitVec.ofInt 64 255).toNat=n at *
 have:IntKind.u64.wrap (n:Int)=n:=by
  simp [IntKind.wrap,IntKind.bits,IntKind.signed]
  omega
 rw [this]
 omega
theorem ZwT {q:Nat} {av:AV} {p:Int} (h:Cu H q av p) (hp:p≤1000000000000):Wc (call T pr Kh [.ptr (some (q,0))] ⟨H,e⟩) (fun v m=>∃ x y z:Int,v=.int .i64 x∧0≤x∧x≤255∧0≤y∧y≤p+1∧m=⟨H.set q (ZgW av y z),e⟩):=by
 have hl:=h.lt
 obtain ⟨w,h1,hcell⟩:=h.cells
 obtain ⟨_,⟨zs,g2,g3,g4⟩,h3⟩:=h
 obtain ⟨p',sz,c,rfl⟩:∃ p' sz c,av=.slice p' sz zs.length c:=by
  rcases g4 with ⟨rfl,rfl⟩|⟨b,c,rfl,_⟩
  ·exact ⟨_,_,_,rfl⟩
  ·exact ⟨_,_,_,rfl⟩
 obtain ⟨n,rfl⟩:∃ n:Nat,p=(n:Int):=⟨p.toNat,by omega⟩
 have hw:=Zw (show n<9223372036854775807 by omega)
 have hsg:∀ (y:Blk),(H.set q y)[q]?=some y:=fun y=>Wu hl
 have hcs:=fun cs wr=>Zk2 (L:=H) hl cs wr
 rw [ZK Zlr]
 by_cases hn:n<zs.length
 ·have hne:zs≠[]:=by intro h0;rw [h0] at hn;simp at hn
  obtain ⟨b,hq,hb⟩:∃ b,(p'=some (b,0)∧sz=1)∧Za H b=some (zs.map (AV.int .u8)):=by
   rcases g4 with ⟨_,rfl⟩|⟨b,c',hq,hb⟩
   ·exact absurd rfl hne
   ·cases hq;exact ⟨b,⟨rfl,rfl⟩,hb⟩
  obtain ⟨rfl,rfl⟩:=hq
  have hz:=g3 zs[n] (Wx _)
  have hpart:ZdV false (zs.map (AV.int .u8)) n 1=some (.int .u8 zs[n]):=by
   rw [ZaQ,List.getElem?_map,Rl hn]
   rfl
  have hcv:IntKind.i64.wrap zs[n]=zs[n]:=Yc (by omega) (by omega)
  have hle:decide (((n+1:Nat):Int)≤(zs.length:Int))=true:=decide_eq_true (by omega)
  have hle':n+1≤zs.length:=hn
  simp +contextual only [Kl,Zb8,Zs,Zo,h1,hcell,hsg,hcs,hn,hb,hpart,hcv,hw,hle,hle',Wk,Nat.mul_one,decide_true,Xl,Z9,pp,go_sem,reduceIte,Ra,Rb,Rc,Rd]
  exact ⟨_,_,_,rfl,hz.1,hz.2,by omega,by omega,rfl⟩
 ·have hle:decide (((n+1:Nat):Int)≤(zs.length:Int))=false:=decide_eq_false (by omega)
  have hle':¬ n+1≤zs.length:=by omega
  have hcv:∀ x:Int,IntKind.i64.wrap (Zyr .u64 x 255)=Zyr .u64 x 255:=fun x=>Yc (by have:=Zjj x;omega) (by have:=Zjj x;omega)
  simp +contextual only [Kl,Zb8,Zs,Zo,h1,hcell,hsg,hcs,hn,hcv,hw,hle,hle',show ¬ ((40:Int)<0) by omega,Wk,Nat.mul_one,decide_true,decide_false,Xl,Z9,pp,go_sem,reduceIte,Ra,Rb,Rc,Rd]
  exact ⟨_,_,_,rfl,(Zjj _).1,(Zjj _).2,by omega,by omega,rfl⟩
theorem JR {q:Nat} {av:AV} {p:Int} (n:Int) (h:Cu H q av p) (hp:p≤100000000000) (hn:n≤1000000000000):Wc (call T pr Zz [.ptr (some (q,0)),.int .i64 n] ⟨H,e⟩) (fun v m=>∃ x y z:Int,v=.int .i64 x∧0≤x∧(x<n∨x=0)∧0≤y∧y≤p+2∧m=⟨H.set q (ZgW av y z),e⟩):=by
 have hl:=h.lt
 rw [ZK Zlo]
 by_cases h1:n≤1
 ·obtain ⟨w,hw,_⟩:=h.cells
  have hsame:H=H.set q (ZgW av p w):=by
   obtain ⟨hb,he⟩:=Wb.mp hw
   rw [←he,List.set_getElem_self]
  have h1':decide (n≤1)=true:=decide_eq_true h1
  simp +contextual only [XL,Zb7,h1,h1',decide_true,pp,ff,go_sem,reduceIte,Ra,Rb,Rc,Rd]
  exact ⟨0,p,w,rfl,Wo _,.inr rfl,h.2.2,by omega,by rw [←hsame]⟩
 ·have h1':decide (n≤1)=false:=decide_eq_false h1
  simp +contextual only [XL,Zb7,h1,h1',decide_false,pp,go_sem,reduceIte,Ra,Rb,Rc,Rd]
  refine (ZwT h (by omega)).mono ?_
  rintro v m ⟨x,y,z,rfl,hx0,hx1,hy0,hy1,rfl⟩
  have h':=h.step hy0 z
  have hmod:∀ u:Int,0≤u→0≤u.tmod n∧u.tmod n<n:=fun u hu=>⟨Int.tmod_nonneg _ hu,Int.tmod_lt_of_pos _ (by omega)⟩
  have hnz:¬ n=0:=by omega
  by_cases h2:200<n
  ·have h2':decide (200<n)=true:=decide_eq_true h2
   have hm1:IntKind.i64.wrap (x*256)=x*256:=Yc (by omega) (by omega)
   simp +contextual only [gt_iff_lt,h2,h2',hm1,decide_true,pp,go_sem,reduceIte,Ra,Rb,Rc,Rd]
   refine (ZwT h' (by omega)).mono ?_
   rintro v m ⟨x2,y2,z2,rfl,hx20,hx21,hy20,hy21,rfl⟩
   have hm2:IntKind.i64.wrap (x*256+x2)=x*256+x2:=Yc (by omega) (by omega)
   have hm:=hmod (x*256+x2) (by omega)
   simp +contextual only [XL,hm2,hnz,Wk,Xl,Z9,pp,ff,go_sem,reduceIte,Ra,Rb,Rc,Rd]
   exact ⟨_,_,_,rfl,hm.1,.inl hm.2,hy20,by omega,rfl⟩
  ·have h2':decide (200<n)=false:=decide_eq_false h2
   have hm:=hmod x hx0
   simp +contextual only [XL,gt_iff_lt,h2,h2',hnz,Wk,Xl,Z9,decide_false,pp,ff,go_sem,reduceIte,Ra,Rb,Rc,Rd]
   exact ⟨_,_,_,rfl,hm.1,.inl hm.2,hy0,by omega,rfl⟩
theorem ZyO {q b:Nat} {av:AV} {p:Int} {c:Option Nat} {zs:List Int} (h:Cu H q av p) (hp:p≤100000000000) (hb:Za H b=some (zs.map (AV.int .i64))) (hbq:b≠q) (h0:0<zs.length) (hn:zs.length≤1000000):Wc (call T pr ZG [.ptr (some (q,0)),.slice (some (b,0)) 1 zs.length c] ⟨H,e⟩) (fun v m=>∃ x y z:Int,v=.int .i64 x∧x∈zs∧0≤y∧y≤p+2∧m=⟨H.set q (ZgW av y z),e⟩):=by
 rw [ZK Zj3]
 simp +contextual only [JI,Zd3,pp,go_sem,reduceIte,Ra,Rb,Rc,Rd]
 refine (JR (zs.length:Int) h hp (by omega)).mono ?_
 rintro v m ⟨x,y,z,rfl,hx0,hx1,hy0,hy1,rfl⟩
 obtain ⟨i,rfl⟩:∃ i:Nat,x=(i:Int):=⟨x.toNat,by omega⟩
 have hi:i<zs.length:=by omega
 have hcs:Za (H.set q (ZgW av y z)) b=some (zs.map (AV.int .i64)):=by
  unfold Za at hb ⊢
  rw [Wm (fun h=>hbq h.symm)]
  exact hb
 have hpart:ZdV false (zs.map (AV.int .i64)) i 1=some (.int .i64 zs[i]):=by
  rw [ZaQ,List.getElem?_map,Rl hi]
  rfl
 simp +contextual only [JI,hi,hcs,hpart,Nat.mul_one,Wk,Xl,Z9,pp,ff,go_sem,reduceIte,Ra,Rb,Rc,Rd]
 exact ⟨_,_,_,rfl,Wx _,hy0,by omega,rfl⟩
def Xr:Zg→Zg
 | .seq a _=>a
 | c=>c
def Zk:Zg→Zg
 | .seq _ c=>c
 | c=>c
section
variable {C : FuncId → List AV → Mem → Option (AV × Mem)} {g : X → AV} {m : Mem}
end
theorem Zbh (L:List Blk) (n sz:Nat) (cap:Option Nat) (cs:List AV) (b:Nat) (h:Za L b=some cs) (hl:cs.length=n*sz):YK false L (.slice (some (b,0)) sz n cap)=some (n,cs):=by
 unfold YK
 simp [h,←hl]
theorem Zsy (p:Option (Nat×Nat)) (sz n:Nat) (c:Option Nat):call T pr Zjb [.slice p sz n c] ⟨H,e⟩=some (.bool (decide ((65536:Int)<(n:Int))),⟨H,e⟩):=by
 rw [Zl Zyd]
 simp +contextual only [Zjd,Zr8,gt_iff_lt,go_sem,reduceIte,Ra,Rb,Rc,Rd]
theorem ZdO.form {L:List Blk} {av:AV} (h:ZdO L av):∃ p sz n c,av=.slice p sz n c:=by
 obtain ⟨zs,_,_,⟨rfl,_⟩|⟨b,c,rfl,_⟩⟩:=h
 ·exact ⟨_,_,_,_,rfl⟩
 ·exact ⟨_,_,_,_,rfl⟩
def ZBV (L:List Blk) (av:AV) (zs:List Int):Prop :=
 (∀ z∈zs,0≤z∧z≤255)∧((av=.slice none 0 0 none∧zs=[])∨∃ b c,av=.slice (some (b,0)) 1 zs.length c∧Za L b=some (zs.map (AV.int .u8)))
theorem Zsz:∀ (es:List (List Int)),(∀ e∈es,e.length=1∧∀ z∈e,(Lit.int .u8 z).wf=true)→es.flatten.length=es.length∧∀ z∈es.flatten,0≤z∧z≤255
 | [],_=>by simp
 | x::es,h=>by
  obtain ⟨h1,h2⟩:=Zsz es fun e he=>h e (by simp [he])
  obtain ⟨hx1,hx2⟩:=h x (by simp)
  match x,hx1 with
  | [a],_=>
   refine ⟨by simp [h1],fun z hz => ?_⟩
   rw [List.flatten_cons] at hz
   rcases List.mem_append.mp hz with hz | hz
   ·have:=hx2 z hz
    simp [Lit.wf,IntKind.min,IntKind.max,IntKind.signed,IntKind.bits] at this
    omega
   ·exact h2 z hz
theorem Zz3 {av:AV} {es:List (List Int)} (h:Zoy H av .u8 1 es):∃ zs,ZBV H av zs:=by
 obtain ⟨h1,h2⟩:=h
 obtain ⟨h6,h7⟩:=Zsz es h1
 rcases h2 with ⟨rfl,rfl⟩|⟨b,cap,rfl,h3,h4,h5⟩
 ·exact ⟨[],by simp,.inl ⟨rfl,rfl⟩⟩
 ·refine ⟨es.flatten,h7,.inr ⟨b,some cap,by rw [h6],?_⟩⟩
  unfold Za
  rw [h5]
theorem ZBV.form {L:List Blk} {av:AV} {zs:List Int} (h:ZBV L av zs):∃ p sz n c,av=.slice p sz n c∧(n≤65536→ZdO L av):=by
 obtain ⟨h1,⟨rfl,rfl⟩|⟨b,c,rfl,h2⟩⟩:=h
 ·exact ⟨_,_,_,_,rfl,fun _=>⟨[],by simp,by simp,.inl ⟨rfl,rfl⟩⟩⟩
 ·exact ⟨_,_,_,_,rfl,fun hn=>⟨zs,by omega,h1,.inr ⟨b,c,rfl,h2⟩⟩⟩
theorem ZdO.new {G:List Blk} {k:Nat} {zs:List Int} {c:Option Nat} (hG:G[k]?=some (.cells (zs.map (AV.int .u8)) true)) (h1:zs.length≤70000) (h2:∀ z∈zs,0≤z∧z≤255):ZdO (H++G) (.slice (some (H.length+k,0)) 1 zs.length c):=by
 refine ⟨zs,h1,h2,.inr ⟨_,_,rfl,?_⟩⟩
 rw [JO]
 unfold Za
 rw [hG]
section
variable {C : FuncId → List AV → Mem → Option (AV × Mem)} {g : X → AV} {m : Mem}
end
theorem Ya (a b:Int):call T pr ZaZ [.int .i64 a,.int .i64 b] ⟨H,e⟩=some (.int .i64 (if a<b then a else b),⟨H,e⟩):=by
 rw [Zl ZqR]
 by_cases h:a<b <;> simp +contextual only [Zde,ZjW,h,decide_true,decide_false,go_sem,reduceIte,Ra,Rb,Rc,Rd]
theorem ZdP {q b n:Nat} {av:AV} {p:Int} {c:Option Nat} (zs:List Int) (h:Cu H q av p) (hp:p≤100000000000) (hb:Za H b=some (zs.map (AV.int .i64))) (hbq:b≠q) (hn:zs.length=n) (h0:0<n) (hn2:n≤1000000):Wc (call T pr ZG [.ptr (some (q,0)),.slice (some (b,0)) 1 n c] ⟨H,e⟩) (fun v m=>∃ x y z:Int,v=.int .i64 x∧x∈zs∧0≤y∧y≤p+2∧m=⟨H.set q (ZgW av y z),e⟩):=by
 subst hn
 exact ZyO h hp hb hbq h0 hn2
theorem ZwU {q:Nat} {av:AV} {p:Int} (h:Cu H q av p) (hp:p≤10000000000):Wc (call T pr Ku [.ptr (some (q,0))] ⟨H,e⟩) (fun v m=>∃ k a b y z:Int,v=.agg [.int .i64 k,.int .i64 a,.int .i64 b]∧0≤y∧y≤p+20∧m=⟨H.set q (ZgW av y z),e⟩):=by
 have hl:=h.lt
 rw [ZK ZiK]
 obtain ⟨R2,hR2⟩:∃ R,R=Zk (Zk (Zk (Zk ZO))):=⟨_,rfl⟩
 obtain ⟨R1,hR1⟩:∃ R,R=Zk (Zk (Zk ZO)):=⟨_,rfl⟩
 have hc1:R1=.seq (Xr (Zk (Zk (Zk ZO)))) R2:=by rw [hR1,hR2];rfl
 have hc:ZO=.seq (Xr ZO) (.seq (Xr (Zk ZO)) (.seq (Xr (Zk (Zk ZO))) R1)):=by rw [hR1];rfl
 have r2:∀ (k a b y z:Int) (B0 B1:Blk) (G:List Blk) (w3 w4 w5 w6 w7 w8 w9 w10:AV),0≤y→y≤p+20→B0=.cells [.int .i64 0,.int .i64 0,.int .i64 0] true →
   Wp (run T pr R2 ⟨[.ptr (some (q,0)),.ptr (some (H.length,0)),.ptr (some (H.length+2,0)),w3,w4,w5,w6,w7,w8,w9,w10],⟨H.set q (ZgW av y z)++(B0::B1::.cells [.int .i64 k,.int .i64 a,.int .i64 b] true::G),none⟩⟩) (retQ YX ⟨H,e⟩ fun v m=>∃ k a b y z:Int,v=.agg [.int .i64 k,.int .i64 a,.int .i64 b]∧0≤y∧y≤p+20∧m=⟨H.set q (ZgW av y z),e⟩):=by
  rintro k a b y z _ B1 G w3 w4 w5 w6 w7 w8 w9 w10 hy0 hy1 rfl
  rw [hR2]
  simp +contextual only [YX,ZO,Zk,Xr,hl,ZmR,ZmS,Zsv,Zsw,Zzw,Zzx,Zsx,ZwS,Wk,Wl,Zbg,Xl,Z9,Rw,pp,ff,go_sem,reduceIte,Ra,Rb,Rc,Rd]
  exact ⟨k,a,b,y,z,rfl,hy0,hy1,rfl⟩
 have r1:∀ (k a b y z:Int) (B0 B1:Blk) (w3 w4 w5 w6 w7 w8 w9 w10:AV),0≤y→y≤p+10→B0=.cells [.int .i64 0,.int .i64 0,.int .i64 0] true →
   Wp (run T pr R1 ⟨[.ptr (some (q,0)),.ptr (some (H.length,0)),.ptr (some (H.length+2,0)),w3,w4,w5,w6,w7,w8,w9,w10],⟨H.set q (ZgW av y z)++[B0,B1,.cells [.int .i64 k,.int .i64 a,.int .i64 b] true],none⟩⟩) (retQ YX ⟨H,e⟩ fun v m=>∃ k a b y z:Int,v=.agg [.int .i64 k,.int .i64 a,.int .i64 b]∧0≤y∧y≤p+20∧m=⟨H.set q (ZgW av y z),e⟩):=by
  rintro k a b y z B0 B1 w3 w4 w5 w6 w7 w8 w9 w10 hy0 hy1 hB
  have h1:=h.step hy0 z
  rw [hc1]
  simp +contextual only [ZO,Zk,Xr,hl,ZmR,ZmS,Zsv,Zsw,Zzw,Zzx,Zsx,ZwS,Wk,Wl,Zbg,Xl,Z9,Rw,pp,go_sem,reduceIte,Ra,Rb,Rc,Rd]
  refine (JR 40 (h1.more _) (by omega) (by omega)).mono ?_
  rintro v m ⟨x2,y2,z2,rfl,hx20,hx21,hy20,hy21,rfl⟩
  have h2:=h1.step hy20 z2
  rw [Wk] at h2
  by_cases c0:x2=0
  ·subst c0
   simp +contextual only [Zb,hl,decide_true,ZmR,ZmS,Zsv,Zsw,Zzw,Zzx,Zsx,ZwS,Wk,Wl,Zbg,Xl,Z9,Rw,pp,go_sem,reduceIte,Ra,Rb,Rc,Rd]
   refine (ZdP (n:=4) [0,-1,24,25] (h2.more _) (by omega) (by simp +contextual only [ZmR,ZmS,Zsv,Zsw,Zzw,Zzx,Zsx,ZwS,Wk,Wl,Zbg,Xl,Z9,Rw,go_sem,reduceIte,Ra,Rb,Rc,Rd]) (by omega) rfl (by omega) (by omega)).mono ?_
   rintro v m ⟨x3,y3,z3,rfl,hx3,hy30,hy31,rfl⟩
   simp +contextual only [Zb,hl,decide_true,ZmR,ZmS,Zsv,Zsw,Zzw,Zzx,Zsx,ZwS,Wk,Wl,Zbg,Xl,Z9,Rw,pp,go_sem,reduceIte,Ra,Rb,Rc,Rd]
   exact r2 _ _ _ _ _ _ _ _ _ _ _ _ _ _ _ _ hy30 (by omega) hB
  ·have c0':decide (x2=0)=false:=decide_eq_false c0
   by_cases c1:x2=1
   ·subst c1
    simp +contextual only [Zb,hl,c0',decide_true,ZmR,ZmS,Zsv,Zsw,Zzw,Zzx,Zsx,ZwS,Wk,Wl,Zbg,Xl,Z9,Rw,pp,go_sem,reduceIte,Ra,Rb,Rc,Rd]
    refine (ZdP (n:=4) [0,24,25,-1] (h2.more _) (by omega) (by simp +contextual only [ZmR,ZmS,Zsv,Zsw,Zzw,Zzx,Zsx,ZwS,Wk,Wl,Zbg,Xl,Z9,Rw,go_sem,reduceIte,Ra,Rb,Rc,Rd]) (by omega) rfl (by omega) (by omega)).mono ?_
    rintro v m ⟨x3,y3,z3,rfl,hx3,hy30,hy31,rfl⟩
    simp +contextual only [Zb,hl,decide_true,ZmR,ZmS,Zsv,Zsw,Zzw,Zzx,Zsx,ZwS,Wk,Wl,Zbg,Xl,Z9,Rw,pp,go_sem,reduceIte,Ra,Rb,Rc,Rd]
    exact r2 _ _ _ _ _ _ _ _ _ _ _ _ _ _ _ _ hy30 (by omega) hB
   ·have c1':decide (x2=1)=false:=decide_eq_false c1
    by_cases c2:x2=2
    ·subst c2
     simp +contextual only [Zb,hl,c0',c1',decide_true,ZmR,ZmS,Zsv,Zsw,Zzw,Zzx,Zsx,ZwS,Wk,Wl,Zbg,Xl,Z9,Rw,pp,go_sem,reduceIte,Ra,Rb,Rc,Rd]
     refine (ZdP (n:=3) [0,6,-1] (h2.more _) (by omega) (by simp +contextual only [ZmR,ZmS,Zsv,Zsw,Zzw,Zzx,Zsx,ZwS,Wk,Wl,Zbg,Xl,Z9,Rw,go_sem,reduceIte,Ra,Rb,Rc,Rd]) (by omega) rfl (by omega) (by omega)).mono ?_
     rintro v m ⟨x3,y3,z3,rfl,hx3,hy30,hy31,rfl⟩
     simp +contextual only [Zb,hl,decide_true,ZmR,ZmS,Zsv,Zsw,Zzw,Zzx,Zsx,ZwS,Wk,Wl,Zbg,Xl,Z9,Rw,pp,go_sem,reduceIte,Ra,Rb,Rc,Rd]
     exact r2 _ _ _ _ _ _ _ _ _ _ _ _ _ _ _ _ hy30 (by omega) hB
    ·have c2':decide (x2=2)=false:=decide_eq_false c2
     simp +contextual only [hl,c0',c1',c2',ZmR,ZmS,Zsv,Zsw,Zzw,Zzx,Zsx,ZwS,Wk,Wl,Zbg,Xl,Z9,Rw,pp,go_sem,reduceIte,Ra,Rb,Rc,Rd]
     exact r2 _ _ _ _ _ _ _ _ _ _ _ _ _ _ _ _ hy20 (by omega) hB
 show Wp (run T pr ZO _) _
 rw [hc]
 simp +contextual only [YX,ZO,Zk,Xr,Zb,ZmR,ZmS,Zsv,Zsw,Zzw,Zzx,Zsx,ZwS,Wk,Wl,Zbg,Xl,Z9,Rw,pp,go_sem,reduceIte,Ra,Rb,Rc,Rd]
 refine (ZdP (n:=5) [1,2,3,4,5] (h.more _) (by omega) (by simp +contextual only [ZmR,ZmS,Zsv,Zsw,Zzw,Zzx,Zsx,ZwS,Wk,Wl,Zbg,Xl,Z9,Rw,go_sem,reduceIte,Ra,Rb,Rc,Rd]) (by omega) rfl (by omega) (by omega)).mono ?_
 rintro v m ⟨x1,y1,z1,rfl,hx1,hy10,hy11,rfl⟩
 have h1:=h.step hy10 z1
 simp +contextual only [Zb,hl,ZmR,ZmS,Zsv,Zsw,Zzw,Zzx,Zsx,ZwS,Wk,Wl,Zbg,Xl,Z9,Rw,pp,go_sem,reduceIte,Ra,Rb,Rc,Rd]
 refine (JR 6 (h1.more _) (by omega) (by omega)).mono ?_
 rintro v m ⟨x2,y2,z2,rfl,hx20,hx21,hy20,hy21,rfl⟩
 have h2:=h1.step hy20 z2
 rw [Wk] at h2
 simp +contextual only [Zb,hl,ZmR,ZmS,Zsv,Zsw,Zzw,Zzx,Zsx,ZwS,Wk,Wl,Zbg,Xl,Z9,Rw,pp,go_sem,reduceIte,Ra,Rb,Rc,Rd]
 refine (JR 4 (h2.more _) (by omega) (by omega)).mono ?_
 rintro v m ⟨x3,y3,z3,rfl,hx30,hx31,hy30,hy31,rfl⟩
 have h3:=h2.step hy30 z3
 rw [Wk] at h3
 by_cases c0:x1=2
 ·subst c0
  simp +contextual only [Zb,hl,decide_true,ZmR,ZmS,Zsv,Zsw,Zzw,Zzx,Zsx,ZwS,Wk,Wl,Zbg,Xl,Z9,Rw,pp,go_sem,reduceIte,Ra,Rb,Rc,Rd]
  exact r1 _ _ _ _ _ _ _ _ _ _ _ _ _ _ _ hy30 (by omega) rfl
 ·have c0':decide (x1=2)=false:=decide_eq_false c0
  by_cases c1:x1=4
  ·subst c1
   simp +contextual only [Zb,hl,c0',Yl,decide_true,ZmR,ZmS,Zsv,Zsw,Zzw,Zzx,Zsx,ZwS,Wk,Wl,Zbg,Xl,Z9,Rw,pp,go_sem,reduceIte,Ra,Rb,Rc,Rd]
   exact r1 _ _ _ _ _ _ _ _ _ _ _ _ _ _ _ hy30 (by omega) rfl
  ·have c1':decide (x1=4)=false:=decide_eq_false c1
   by_cases c2:x1=5
   ·subst c2
    simp +contextual only [Zb,hl,c0',c1',decide_true,ZmR,ZmS,Zsv,Zsw,Zzw,Zzx,Zsx,ZwS,Wk,Wl,Zbg,Xl,Z9,Rw,pp,go_sem,reduceIte,Ra,Rb,Rc,Rd]
    exact r1 _ _ _ _ _ _ _ _ _ _ _ _ _ _ _ hy30 (by omega) rfl
   ·have c2':decide (x1=5)=false:=decide_eq_false c2
    simp +contextual only [Zb,hl,c0',c1',c2',ZmR,ZmS,Zsv,Zsw,Zzw,Zzx,Zsx,ZwS,Wk,Wl,Zbg,Xl,Z9,Rw,pp,go_sem,reduceIte,Ra,Rb,Rc,Rd]
    exact r1 _ _ _ _ _ _ _ _ _ _ _ _ _ _ _ hy30 (by omega) rfl
set_option maxHeartbeats 4000000 in
theorem ZwV {q n1 n2 s1 s2:Nat} {p1 p2:Option (Nat×Nat)} {k1 k2:Option Nat} {av:AV} {p:Int} (a b t c:Int) (h:Cu H q av p) (hp:p≤1000000000):Wc (call T pr Kt [.ptr (some (q,0)),stV (.slice p1 s1 n1 k1) a b (.slice p2 s2 n2 k2) t c] ⟨H,e⟩) (fun v m=>∃ k a b c y z:Int,v=tkV k a b c∧0≤y∧y≤p+60∧m=⟨H.set q (ZgW av y z),e⟩):=by
 have hl:=h.lt
 rw [ZK ZiH]
 obtain ⟨R2,hR2⟩:∃ R,R=Zk (Zk (Zk (Zk (Zk ZL)))):=⟨_,rfl⟩
 obtain ⟨R1,hR1⟩:∃ R,R=Zk (Zk (Zk (Zk ZL))):=⟨_,rfl⟩
 have hc1:R1=.seq (Xr (Zk (Zk (Zk (Zk ZL))))) R2:=by rw [hR1,hR2];rfl
 have hc:ZL=.seq (Xr ZL) (.seq (Xr (Zk ZL)) (.seq (Xr (Zk (Zk ZL))) (.seq (Xr (Zk (Zk (Zk ZL)))) R1))):=by rw [hR1];rfl
 have r2:∀ (k' a' b' c' y z:Int) (B0 B1 B2:Blk) (G:List Blk) (w1 w5 w6 w7 w8 w9 w10 w11 w12 w13 w14 w15 w16 w17 w18:AV),0≤y→y≤p+60→B1=.cells [.int .i64 0,.int .i64 0,.int .i64 0,.int .i64 0] true →
   Wp (run T pr R2 ⟨[.ptr (some (q,0)),w1,.ptr (some (H.length,0)),.ptr (some (H.length+1,0)),.ptr (some (H.length+3,0)),w5,w6,w7,w8,w9,w10,w11,w12,w13,w14,w15,w16,w17,w18],⟨H.set q (ZgW av y z)++(B0::B1::B2::.cells [.int .i64 k',.int .i64 a',.int .i64 b',.int .i64 c'] true::G),none⟩⟩) (retQ YV ⟨H,e⟩ fun v m=>∃ k a b c y z:Int,v=tkV k a b c∧0≤y∧y≤p+60∧m=⟨H.set q (ZgW av y z),e⟩):=by
  rintro k' a' b' c' y z B0 _ B2 G w1 w5 w6 w7 w8 w9 w10 w11 w12 w13 w14 w15 w16 w17 w18 hy0 hy1 rfl
  rw [hR2]
  simp (maxSteps:=2000000) +contextual only [YV,ZL,Zk,Xr,hl,ZmR,ZmS,Zsv,Zsw,Zzw,Zzx,Zsx,ZwS,Wk,Wl,Zbg,Xl,Z9,Rw,pp,ff,go_sem,reduceIte,Ra,Rb,Rc,Rd]
  exact ⟨k',a',b',c',y,z,rfl,hy0,hy1,rfl⟩
 have r1:∀ (k' a' b' c' y z:Int) (B0 B1 B2:Blk) (G:List Blk) (w1 w5 w6 w7 w8 w9 w10 w11 w12 w13 w14 w15 w16 w17 w18:AV),0≤y→y≤p+40→B1=.cells [.int .i64 0,.int .i64 0,.int .i64 0,.int .i64 0] true →
   Wp (run T pr R1 ⟨[.ptr (some (q,0)),w1,.ptr (some (H.length,0)),.ptr (some (H.length+1,0)),.ptr (some (H.length+3,0)),w5,w6,w7,w8,w9,w10,w11,w12,w13,w14,w15,w16,w17,w18],⟨H.set q (ZgW av y z)++(B0::B1::B2::.cells [.int .i64 k',.int .i64 a',.int .i64 b',.int .i64 c'] true::G),none⟩⟩) (retQ YV ⟨H,e⟩ fun v m=>∃ k a b c y z:Int,v=tkV k a b c∧0≤y∧y≤p+60∧m=⟨H.set q (ZgW av y z),e⟩):=by
  rintro k' a' b' c' y z B0 B1 B2 G w1 w5 w6 w7 w8 w9 w10 w11 w12 w13 w14 w15 w16 w17 w18 hy0 hy1 hB
  have h1:=h.step hy0 z
  rw [hc1]
  simp (maxSteps:=2000000) +contextual only [ZL,Zk,Xr,hl,ZmR,ZmS,Zsv,Zsw,Zzw,Zzx,Zsx,ZwS,Wk,Wl,Zbg,Xl,Z9,Rw,pp,go_sem,reduceIte,Ra,Rb,Rc,Rd]
  refine (JR 32 (h1.more _) (by omega) (by omega)).mono ?_
  rintro v m ⟨x2,y2,z2,rfl,hx20,hx21,hy20,hy21,rfl⟩
  have h2:=h1.step hy20 z2
  rw [Wk] at h2
  by_cases c0:x2=0
  ·subst c0
   simp (maxSteps:=2000000) +contextual only [Zb,hl,  decide_true,ZmR,ZmS,Zsv,Zsw,Zzw,Zzx,Zsx,ZwS,Wk,Wl,Zbg,Xl,Z9,Rw,pp,go_sem,reduceIte,Ra,Rb,Rc,Rd]
   refine (ZdP (n:=5) [-1,60,61,12,4611686018427387904] (h2.more _) (by omega) (by simp (maxSteps:=2000000) +contextual only [ZmR,ZmS,Zsv,Zsw,Zzw,Zzx,Zsx,ZwS,Wk,Wl,Zbg,Xl,Z9,Rw,go_sem,reduceIte,Ra,Rb,Rc,Rd]) (by omega) rfl (by omega) (by omega)).mono ?_
   rintro v m ⟨x3,y3,z3,rfl,hx3,hy30,hy31,rfl⟩
   simp (maxSteps:=2000000) +contextual only [Zb,hl,decide_true,ZmR,ZmS,Zsv,Zsw,Zzw,Zzx,Zsx,ZwS,Wk,Wl,Zbg,Xl,Z9,Rw,pp,go_sem,reduceIte,Ra,Rb,Rc,Rd]
   exact r2 _ _ _ _ _ _ _ _ _ _ _ _ _ _ _ _ _ _ _ _ _ _ _ _ _ hy30 (by omega) hB
  ·have c0':decide (x2=0)=false:=decide_eq_false c0
   by_cases c1:x2=1
   ·subst c1
    simp (maxSteps:=2000000) +contextual only [Zb,hl,c0',decide_true,ZmR,ZmS,Zsv,Zsw,Zzw,Zzx,Zsx,ZwS,Wk,Wl,Zbg,Xl,Z9,Rw,pp,go_sem,reduceIte,Ra,Rb,Rc,Rd]
    refine (ZdP (n:=4) [0,99,100,-1] (h2.more _) (by omega) (by simp (maxSteps:=2000000) +contextual only [ZmR,ZmS,Zsv,Zsw,Zzw,Zzx,Zsx,ZwS,Wk,Wl,Zbg,Xl,Z9,Rw,go_sem,reduceIte,Ra,Rb,Rc,Rd]) (by omega) rfl (by omega) (by omega)).mono ?_
    rintro v m ⟨x3,y3,z3,rfl,hx3,hy30,hy31,rfl⟩
    simp (maxSteps:=2000000) +contextual only [Zb,hl,decide_true,ZmR,ZmS,Zsv,Zsw,Zzw,Zzx,Zsx,ZwS,Wk,Wl,Zbg,Xl,Z9,Rw,pp,go_sem,reduceIte,Ra,Rb,Rc,Rd]
    exact r2 _ _ _ _ _ _ _ _ _ _ _ _ _ _ _ _ _ _ _ _ _ _ _ _ _ hy30 (by omega) hB
   ·have c1':decide (x2=1)=false:=decide_eq_false c1
    by_cases c2:x2=2
    ·subst c2
     simp (maxSteps:=2000000) +contextual only [Zb,hl,c0',c1',decide_true,ZmR,ZmS,Zsv,Zsw,Zzw,Zzx,Zsx,ZwS,Wk,Wl,Zbg,Xl,Z9,Rw,pp,go_sem,reduceIte,Ra,Rb,Rc,Rd]
     refine (ZdP (n:=3) [1,25,-1] (h2.more _) (by omega) (by simp (maxSteps:=2000000) +contextual only [ZmR,ZmS,Zsv,Zsw,Zzw,Zzx,Zsx,ZwS,Wk,Wl,Zbg,Xl,Z9,Rw,go_sem,reduceIte,Ra,Rb,Rc,Rd]) (by omega) rfl (by omega) (by omega)).mono ?_
     rintro v m ⟨x3,y3,z3,rfl,hx3,hy30,hy31,rfl⟩
     simp (maxSteps:=2000000) +contextual only [Zb,hl,decide_true,ZmR,ZmS,Zsv,Zsw,Zzw,Zzx,Zsx,ZwS,Wk,Wl,Zbg,Xl,Z9,Rw,pp,go_sem,reduceIte,Ra,Rb,Rc,Rd]
     exact r2 _ _ _ _ _ _ _ _ _ _ _ _ _ _ _ _ _ _ _ _ _ _ _ _ _ hy30 (by omega) hB
    ·have c2':decide (x2=2)=false:=decide_eq_false c2
     by_cases c3:x2=3
     ·subst c3
      simp (maxSteps:=2000000) +contextual only [Zb,hl,c0',c1',c2',decide_true,ZmR,ZmS,Zsv,Zsw,Zzw,Zzx,Zsx,ZwS,Wk,Wl,Zbg,Xl,Z9,Rw,pp,go_sem,reduceIte,Ra,Rb,Rc,Rd]
      refine (ZdP (n:=3) [0,7,-1] (h2.more _) (by omega) (by simp (maxSteps:=2000000) +contextual only [ZmR,ZmS,Zsv,Zsw,Zzw,Zzx,Zsx,ZwS,Wk,Wl,Zbg,Xl,Z9,Rw,go_sem,reduceIte,Ra,Rb,Rc,Rd]) (by omega) rfl (by omega) (by omega)).mono ?_
      rintro v m ⟨x3,y3,z3,rfl,hx3,hy30,hy31,rfl⟩
      simp (maxSteps:=2000000) +contextual only [Zb,hl,decide_true,ZmR,ZmS,Zsv,Zsw,Zzw,Zzx,Zsx,ZwS,Wk,Wl,Zbg,Xl,Z9,Rw,pp,go_sem,reduceIte,Ra,Rb,Rc,Rd]
      exact r2 _ _ _ _ _ _ _ _ _ _ _ _ _ _ _ _ _ _ _ _ _ _ _ _ _ hy30 (by omega) hB
     ·have c3':decide (x2=3)=false:=decide_eq_false c3
      simp (maxSteps:=2000000) +contextual only [hl,c0',c1',c2',c3',ZmR,ZmS,Zsv,Zsw,Zzw,Zzx,Zsx,ZwS,Wk,Wl,Zbg,Xl,Z9,Rw,pp,go_sem,reduceIte,Ra,Rb,Rc,Rd]
      exact r2 _ _ _ _ _ _ _ _ _ _ _ _ _ _ _ _ _ _ _ _ _ _ _ _ _ hy20 (by omega) hB
 show Wp (run T pr ZL _) _
 rw [hc]
 simp (maxSteps:=2000000) +contextual only [YV,ZL,Zk,Xr,Zb,ZmR,ZmS,Zsv,Zsw,Zzw,Zzx,Zsx,ZwS,Wk,Wl,Zbg,Xl,Z9,Rw,pp,go_sem,reduceIte,Ra,Rb,Rc,Rd]
 refine (ZdP (n:=10) [1,1,1,2,3,3,4,5,5,6] (h.more _) (by omega) (by simp (maxSteps:=2000000) +contextual only [ZmR,ZmS,Zsv,Zsw,Zzw,Zzx,Zsx,ZwS,Wk,Wl,Zbg,Xl,Z9,Rw,go_sem,reduceIte,Ra,Rb,Rc,Rd]) (by omega) rfl (by omega) (by omega)).mono ?_
 rintro v m ⟨x1,y1,z1,rfl,hx1,hy10,hy11,rfl⟩
 have h1:=h.step hy10 z1
 obtain ⟨N,hN,hN2⟩:∃ N:Int,(if (if (n1:Int)<12 then (n1:Int) else 12)<1 then (1:Int) else (if (n1:Int)<12 then (n1:Int) else 12))=N∧N≤12:=⟨_,rfl,by split <;> (try split) <;> omega⟩
 obtain ⟨M,hM,hM2⟩:∃ N:Int,(if (if (n2:Int)<5 then (n2:Int) else 5)<1 then (1:Int) else (if (n2:Int)<5 then (n2:Int) else 5))=N∧N≤12:=⟨_,rfl,by split <;> (try split) <;> omega⟩
 by_cases c1:x1=1
 ·subst c1
  simp (maxSteps:=2000000) +contextual only [Zb,hl,Ya,Yl,hN,hM,  decide_true,ZmR,ZmS,Zsv,Zsw,Zzw,Zzx,Zsx,ZwS,Wk,Wl,Zbg,Xl,Z9,Rw,pp,go_sem,reduceIte,Ra,Rb,Rc,Rd]
  refine (JR 9 (h1.more _) (by omega) (by omega)).mono ?_
  rintro v m ⟨x2,y2,z2,rfl,hx20,hx21,hy20,hy21,rfl⟩
  have h2:=h1.step hy20 z2
  rw [Wk] at h2
  simp (maxSteps:=2000000) +contextual only [Zb,hl,Ya,Yl,hN,hM,  decide_true,ZmR,ZmS,Zsv,Zsw,Zzw,Zzx,Zsx,ZwS,Wk,Wl,Zbg,Xl,Z9,Rw,pp,go_sem,reduceIte,Ra,Rb,Rc,Rd]
  refine (JR 6 (h2.more _) (by omega) (by omega)).mono ?_
  rintro v m ⟨x3,y3,z3,rfl,hx30,hx31,hy30,hy31,rfl⟩
  have h3:=h2.step hy30 z3
  rw [Wk] at h3
  simp (maxSteps:=2000000) +contextual only [Zb,hl,Ya,Yl,hN,hM,  decide_true,ZmR,ZmS,Zsv,Zsw,Zzw,Zzx,Zsx,ZwS,Wk,Wl,Zbg,Xl,Z9,Rw,pp,go_sem,reduceIte,Ra,Rb,Rc,Rd]
  exact r1 _ _ _ _ _ _ _ _ _ _ _ _ _ _ _ _ _ _ _ _ _ _ _ _ _ hy30 (by omega) rfl
 ·have c1':decide (x1=1)=false:=decide_eq_false c1
  by_cases c2:x1=2
  ·subst c2
   simp (maxSteps:=2000000) +contextual only [Zb,hl,Ya,Yl,hN,hM,c1',decide_true,ZmR,ZmS,Zsv,Zsw,Zzw,Zzx,Zsx,ZwS,Wk,Wl,Zbg,Xl,Z9,Rw,pp,go_sem,reduceIte,Ra,Rb,Rc,Rd]
   refine (JR N (h1.more _) (by omega) (by omega)).mono ?_
   rintro v m ⟨x2,y2,z2,rfl,hx20,hx21,hy20,hy21,rfl⟩
   have h2:=h1.step hy20 z2
   rw [Wk] at h2
   simp (maxSteps:=2000000) +contextual only [Zb,hl,Ya,Yl,hN,hM,  decide_true,ZmR,ZmS,Zsv,Zsw,Zzw,Zzx,Zsx,ZwS,Wk,Wl,Zbg,Xl,Z9,Rw,pp,go_sem,reduceIte,Ra,Rb,Rc,Rd]
   exact r1 _ _ _ _ _ _ _ _ _ _ _ _ _ _ _ _ _ _ _ _ _ _ _ _ _ hy20 (by omega) rfl
  ·have c2':decide (x1=2)=false:=decide_eq_false c2
   by_cases c3:x1=3
   ·subst c3
    simp (maxSteps:=2000000) +contextual only [Zb,hl,Ya,Yl,hN,hM,c1',c2',decide_true,ZmR,ZmS,Zsv,Zsw,Zzw,Zzx,Zsx,ZwS,Wk,Wl,Zbg,Xl,Z9,Rw,pp,go_sem,reduceIte,Ra,Rb,Rc,Rd]
    refine (JR N (h1.more _) (by omega) (by omega)).mono ?_
    rintro v m ⟨x2,y2,z2,rfl,hx20,hx21,hy20,hy21,rfl⟩
    have h2:=h1.step hy20 z2
    rw [Wk] at h2
    simp (maxSteps:=2000000) +contextual only [Zb,hl,Ya,Yl,hN,hM,  decide_true,ZmR,ZmS,Zsv,Zsw,Zzw,Zzx,Zsx,ZwS,Wk,Wl,Zbg,Xl,Z9,Rw,pp,go_sem,reduceIte,Ra,Rb,Rc,Rd]
    refine (JR 9 (h2.more _) (by omega) (by omega)).mono ?_
    rintro v m ⟨x3,y3,z3,rfl,hx30,hx31,hy30,hy31,rfl⟩
    have h3:=h2.step hy30 z3
    rw [Wk] at h3
    simp (maxSteps:=2000000) +contextual only [Zb,hl,Ya,Yl,hN,hM,  decide_true,ZmR,ZmS,Zsv,Zsw,Zzw,Zzx,Zsx,ZwS,Wk,Wl,Zbg,Xl,Z9,Rw,pp,go_sem,reduceIte,Ra,Rb,Rc,Rd]
    exact r1 _ _ _ _ _ _ _ _ _ _ _ _ _ _ _ _ _ _ _ _ _ _ _ _ _ hy30 (by omega) rfl
   ·have c3':decide (x1=3)=false:=decide_eq_false c3
    by_cases c4:x1=4
    ·subst c4
     simp (maxSteps:=2000000) +contextual only [Zb,hl,Ya,Yl,hN,hM,c1',c2',c3',decide_true,ZmR,ZmS,Zsv,Zsw,Zzw,Zzx,Zsx,ZwS,Wk,Wl,Zbg,Xl,Z9,Rw,pp,go_sem,reduceIte,Ra,Rb,Rc,Rd]
     refine (JR 4 (h1.more _) (by omega) (by omega)).mono ?_
     rintro v m ⟨x2,y2,z2,rfl,hx20,hx21,hy20,hy21,rfl⟩
     have h2:=h1.step hy20 z2
     rw [Wk] at h2
     simp (maxSteps:=2000000) +contextual only [Zb,hl,Ya,Yl,hN,hM,  decide_true,ZmR,ZmS,Zsv,Zsw,Zzw,Zzx,Zsx,ZwS,Wk,Wl,Zbg,Xl,Z9,Rw,pp,go_sem,reduceIte,Ra,Rb,Rc,Rd]
     refine (JR 5 (h2.more _) (by omega) (by omega)).mono ?_
     rintro v m ⟨x3,y3,z3,rfl,hx30,hx31,hy30,hy31,rfl⟩
     have h3:=h2.step hy30 z3
     rw [Wk] at h3
     simp (maxSteps:=2000000) +contextual only [Zb,hl,Ya,Yl,hN,hM,  decide_true,ZmR,ZmS,Zsv,Zsw,Zzw,Zzx,Zsx,ZwS,Wk,Wl,Zbg,Xl,Z9,Rw,pp,go_sem,reduceIte,Ra,Rb,Rc,Rd]
     exact r1 _ _ _ _ _ _ _ _ _ _ _ _ _ _ _ _ _ _ _ _ _ _ _ _ _ hy30 (by omega) rfl
    ·have c4':decide (x1=4)=false:=decide_eq_false c4
     by_cases c5:x1=5
     ·subst c5
      simp (maxSteps:=2000000) +contextual only [Zb,hl,Ya,Yl,hN,hM,c1',c2',c3',c4',decide_true,ZmR,ZmS,Zsv,Zsw,Zzw,Zzx,Zsx,ZwS,Wk,Wl,Zbg,Xl,Z9,Rw,pp,go_sem,reduceIte,Ra,Rb,Rc,Rd]
      refine (ZwU (h1.more _) (by omega)).mono ?_
      rintro v m ⟨g1,g2,g3,y2,z2,rfl,hy20,hy21,rfl⟩
      simp (maxSteps:=2000000) +contextual only [Zb,hl,Ya,Yl,hN,hM,  decide_true,ZmR,ZmS,Zsv,Zsw,Zzw,Zzx,Zsx,ZwS,Wk,Wl,Zbg,Xl,Z9,Rw,pp,go_sem,reduceIte,Ra,Rb,Rc,Rd]
      exact r1 _ _ _ _ _ _ _ _ _ _ _ _ _ _ _ _ _ _ _ _ _ _ _ _ _ hy20 (by omega) rfl
     ·have c5':decide (x1=5)=false:=decide_eq_false c5
      by_cases c6:x1=6
      ·subst c6
       simp (maxSteps:=2000000) +contextual only [Zb,hl,Ya,Yl,hN,hM,c1',c2',c3',c4',c5',decide_true,ZmR,ZmS,Zsv,Zsw,Zzw,Zzx,Zsx,ZwS,Wk,Wl,Zbg,Xl,Z9,Rw,pp,go_sem,reduceIte,Ra,Rb,Rc,Rd]
       refine (JR M (h1.more _) (by omega) (by omega)).mono ?_
       rintro v m ⟨x2,y2,z2,rfl,hx20,hx21,hy20,hy21,rfl⟩
       have h2:=h1.step hy20 z2
       rw [Wk] at h2
       simp (maxSteps:=2000000) +contextual only [Zb,hl,Ya,Yl,hN,hM,  decide_true,ZmR,ZmS,Zsv,Zsw,Zzw,Zzx,Zsx,ZwS,Wk,Wl,Zbg,Xl,Z9,Rw,pp,go_sem,reduceIte,Ra,Rb,Rc,Rd]
       exact r1 _ _ _ _ _ _ _ _ _ _ _ _ _ _ _ _ _ _ _ _ _ _ _ _ _ hy20 (by omega) rfl
      ·have c6':decide (x1=6)=false:=decide_eq_false c6
       simp (maxSteps:=2000000) +contextual only [Zb,hl,Ya,Yl,hN,hM,c1',c2',c3',c4',c5',c6',decide_true,ZmR,ZmS,Zsv,Zsw,Zzw,Zzx,Zsx,ZwS,Wk,Wl,Zbg,Xl,Z9,Rw,pp,go_sem,reduceIte,Ra,Rb,Rc,Rd]
       exact r1 _ _ _ _ _ _ _ _ _ _ _ _ _ _ _ _ _ _ _ _ _ _ _ _ _ hy10 (by omega) rfl
theorem ZBd {L:List Blk} {b q sz bytes n:Nat} {cs:List AV} {c:Option Nat} (hq:Za L q=some cs) (hb:L[b]?=some (.cells [] true)) (hcs:cs.length=n*sz) (hm:n*bytes≤maxBytes) :
  XO L e false sz bytes (.slice (some (b,0)) sz 0 (some 0)) (.slice (some (q,0)) sz n c)=some (.slice (some (L.length,0)) sz n none,⟨L.set b (if n=0 then .dead else .cells [] true)++[.cells cs true],e⟩):=by
 have hs:=Zbh L n sz c cs q hq hcs
 unfold XO
 simp only [hb,hs]
 rw [if_pos ⟨trivial,by rw [Nat.zero_add];exact hm,hcs,by simp⟩]
 by_cases h0:n=0
 ·subst h0
  rw [if_neg (by simp),if_pos trivial,if_pos rfl]
  simp
 ·rw [if_pos ⟨trivial,by omega⟩,if_neg h0,Nat.zero_add]
  have:L.set b (.cells [] true)=L:=by
   obtain ⟨hlt,he⟩:=Wb.mp hb
   rw [←he,List.set_getElem_self]
  rw [this]
theorem Zz4 {L:List Blk} {b q n:Nat} {cs new:List AV} {c:Option Nat} (hb:L[b]?=some (.cells cs true)) (hq:Za L q=some new) (hcs:cs.length=n*2) (hnew:new.length=2) (hn:n≤1000000) :
  XO L e false 2 16 (.slice (some (b,0)) 2 n none) (.slice (some (q,0)) 2 1 c)=some (.slice (some (L.length,0)) 2 (n+1) none,⟨L.set b .dead++[.cells (cs++new) true],e⟩):=by
 have hs:=Zbh L 1 2 c new q hq (by omega)
 unfold XO
 simp only [hb,hs]
 rw [if_pos ⟨trivial,by unfold maxBytes;omega,by omega,by omega⟩,if_neg (by simp),Rk,List.take_of_length_le (by omega),if_pos trivial]
theorem ZiZ {q j1 j2 n1 n2:Nat} {X:Blk} {G:List Blk} {cs1 cs2:List AV} (a b t k:Int) (e0 e1:Option Nat) (hc:clean H.length e1=true) (h1:G[j1]?=some (.cells cs1 true)) (h2:G[j2]?=some (.cells cs2 true)) (hne:j1≠j2) (u1:(cs1.all fun c=>c.under H.length)=true) (u2:(cs2.all fun c=>c.under H.length)=true) :
  finish 2 H.length e0 (stV (slL (H.length+j1) n1 none) a b (slS (H.length+j2) n2 none) t k) ⟨H.set q X++G,e1⟩=some (stV (slL H.length n1 none) a b (slS (H.length+1) n2 none) t k,⟨H.set q X++[.cells cs1 true,.cells cs2 true],e0⟩):=by
 have hl:(H.set q X).length=H.length:=Wl
 have:=YQ (H:=H.set q X) (n1:=n1) (n2:=n2) (c1:=none) (c2:=none) a b t k e0 e1 (by rw [hl];exact hc) h1 h2 hne (by rw [hl];exact u1) (by rw [hl];exact u2)
 rw [hl] at this
 exact this
set_option maxHeartbeats 4000000 in
theorem ZyP {q:Nat} {av:AV} {p:Int} (h:Cu H q av p) (hp:p≤100000000):Wc (call T pr K2 [.ptr (some (q,0))] ⟨H,e⟩) (fun v m=>∃ (s:Sd) (y z:Int),v=stV (slL H.length s.ls.length none) s.a s.b (slS (H.length+1) s.ss.length none) s.t s.c∧s.ls.length≤13∧s.ss.length≤5∧0≤y∧y≤p+2000∧m=⟨H.set q (ZgW av y z)++[.cells (Zu s.ls) true,.cells (ZI s.ss) true],e⟩):=by
 have hl:=h.lt
 rw [ZK Zj4]
 obtain ⟨R2,hR2⟩:∃ R,R=Zk (Zk (Zk (Zk (Zk ZP)))):=⟨_,rfl⟩
 obtain ⟨R1,hR1⟩:∃ R,R=Zk (Zk (Zk (Zk ZP))):=⟨_,rfl⟩
 have hc1:R1=.seq (Xr (Zk (Zk (Zk (Zk ZP))))) R2:=by rw [hR1,hR2];rfl
 have hc:ZP=.seq (Xr ZP) (.seq (Xr (Zk ZP)) (.seq (Xr (Zk (Zk ZP))) (.seq (Xr (Zk (Zk (Zk ZP)))) R1))):=by rw [hR1];rfl
 have r2:∀ (s:Sd) (j1 j2:Nat) (y z:Int) (B0 B1 B2:Blk) (G:List Blk) (e':Option Nat) (w2 w4 w5 w6 w7 w8 w9 w10 w11 w12 w13 w14:AV),0≤y→y≤p+2000→s.ls.length≤13→s.ss.length≤5→j1≠j2→clean H.length e'=true→(∀ M N,(M::B1::B2::N::G)[j1]?=some (.cells (Zu s.ls) true))→(∀ M N,(M::B1::B2::N::G)[j2]?=some (.cells (ZI s.ss) true))→(∃ v0 v1 v2 v3 v4 v5,B0=.cells [v0,v1,v2,v3,v4,v5] true) →
   Wp (run T pr R2 ⟨[.ptr (some (q,0)),.ptr (some (H.length,0)),w2,.ptr (some (H.length+3,0)),w4,w5,w6,w7,w8,w9,w10,w11,w12,w13,w14],⟨H.set q (ZgW av y z)++(B0::B1::B2::.cells (sdC s (H.length+j1) (H.length+j2)) true::G),e'⟩⟩) (retQ Xi ⟨H,e⟩ fun v m=>∃ (s:Sd) (y z:Int),v=stV (slL H.length s.ls.length none) s.a s.b (slS (H.length+1) s.ss.length none) s.t s.c∧s.ls.length≤13∧s.ss.length≤5∧0≤y∧y≤p+2000∧m=⟨H.set q (ZgW av y z)++[.cells (Zu s.ls) true,.cells (ZI s.ss) true],e⟩):=by
  rintro s j1 j2 y z B0 B1 B2 G e' w2 w4 w5 w6 w7 w8 w9 w10 w11 w12 w13 w14 hy0 hy1 hl1 hl2 hne he' g1 g2 ⟨v0,v1,v2,v3,v4,v5,rfl⟩
  have hf:=fun (M N:Blk) (e0 e1:Option Nat) (hc:clean H.length e1=true)=>ZiZ (H:=H) (q:=q) (X:=ZgW av y z) (G:=M::B1::B2::N::G) (n1:=s.ls.length) (n2:=s.ss.length) s.a s.b s.t s.c e0 e1 hc (g1 M N) (g2 M N) hne (Yk _ _) (Yx _ _)
  rw [hR2]
  simp (maxSteps:=2000000) +contextual only [Xi,ZP,Zk,Xr,hl,hf,Zal,Zj,he',Ry,Rt,ite_self,decide_true,ZmR,ZmS,Zsv,Zsw,Zzw,Zzx,Zsx,ZwS,Wk,Wl,Zbg,Xl,Z9,Rw,pp,go_sem,reduceIte,Ra,Rb,Rc,Rd]
  exact ⟨s,y,z,rfl,hl1,hl2,hy0,hy1,rfl⟩
 have r1:∀ (s:Sd) (j1 j2:Nat) (y z:Int) (B0 B1 B2:Blk) (G:List Blk) (e':Option Nat) (w2 w4 w5 w6 w7 w8 w9 w10 w11 w12 w13 w14:AV),0≤y→y≤p+1000→s.ls.length≤12→s.ss.length≤5→j1≠j2→clean H.length e'=true→(∀ M N,(M::B1::B2::N::G)[j1]?=some (.cells (Zu s.ls) true))→(∀ M N,(M::B1::B2::N::G)[j2]?=some (.cells (ZI s.ss) true))→(∃ v0 v1 v2 v3 v4 v5,B0=.cells [v0,v1,v2,v3,v4,v5] true) →
   Wp (run T pr R1 ⟨[.ptr (some (q,0)),.ptr (some (H.length,0)),w2,.ptr (some (H.length+3,0)),w4,w5,w6,w7,w8,w9,w10,w11,w12,w13,w14],⟨H.set q (ZgW av y z)++(B0::B1::B2::.cells (sdC s (H.length+j1) (H.length+j2)) true::G),e'⟩⟩) (retQ Xi ⟨H,e⟩ fun v m=>∃ (s:Sd) (y z:Int),v=stV (slL H.length s.ls.length none) s.a s.b (slS (H.length+1) s.ss.length none) s.t s.c∧s.ls.length≤13∧s.ss.length≤5∧0≤y∧y≤p+2000∧m=⟨H.set q (ZgW av y z)++[.cells (Zu s.ls) true,.cells (ZI s.ss) true],e⟩):=by
  rintro s j1 j2 y z B0 B1 B2 G e' w2 w4 w5 w6 w7 w8 w9 w10 w11 w12 w13 w14 hy0 hy1 hl1 hl2 hne he' g1 g2 hB
  have h1:=h.step hy0 z
  rw [hc1]
  simp (maxSteps:=2000000) +contextual only [ZP,Zk,Xr,hl,ZmR,ZmS,Zsv,Zsw,Zzw,Zzx,Zsx,ZwS,Wk,Wl,Zbg,Xl,Z9,Rw,pp,go_sem,reduceIte,Ra,Rb,Rc,Rd]
  refine (JR 48 (h1.more _) (by omega) (by omega)).mono ?_
  rintro v m ⟨x2,y2,z2,rfl,hx20,hx21,hy20,hy21,rfl⟩
  have h2:=h1.step hy20 z2
  rw [Wk] at h2
  by_cases c0:x2=0
  ·subst c0
   simp (maxSteps:=2000000) +contextual only [Zb,hl,  decide_true,ZmR,ZmS,Zsv,Zsw,Zzw,Zzx,Zsx,ZwS,Wk,Wl,Zbg,Xl,Z9,Rw,pp,go_sem,reduceIte,Ra,Rb,Rc,Rd]
   refine (ZdP (n:=3) [-1,1000,1001] (h2.more _) (by omega) (by simp +contextual only [ZmR,ZmS,Zsv,Zsw,Zzw,Zzx,Zsx,ZwS,Wk,Wl,Zbg,Xl,Z9,Rw,go_sem,reduceIte,Ra,Rb,Rc,Rd]) (by omega) rfl (by omega) (by omega)).mono ?_
   rintro v m ⟨x3,y3,z3,rfl,hx3,hy30,hy31,rfl⟩
   simp (maxSteps:=2000000) +contextual only [Zb,hl,decide_true,ZmR,ZmS,Zsv,Zsw,Zzw,Zzx,Zsx,ZwS,Wk,Wl,Zbg,Xl,Z9,Rw,pp,go_sem,reduceIte,Ra,Rb,Rc,Rd]
   exact r2 ⟨s.ls,s.ss,s.a,s.b,s.t,x3⟩ j1 j2 y3 z3 _ _ _ _ _ _ _ _ _ _ _ _ _ _ _ _ _ hy30 (by omega) (show s.ls.length≤13 by omega) hl2 hne (by simp only [Zal,Zj,Z9,he',Ry,Rt,Rw,decide_true,RI,ite_self]) (fun M N=>ZY (g1 M N) _) (fun M N=>ZY (g2 M N) _) hB
  ·have c0':decide (x2=0)=false:=decide_eq_false c0
   by_cases c1:x2=1
   ·subst c1
    simp (maxSteps:=2000000) +contextual only [Zb,hl,c0',decide_true,ZmR,ZmS,Zsv,Zsw,Zzw,Zzx,Zsx,ZwS,Wk,Wl,Zbg,Xl,Z9,Rw,pp,go_sem,reduceIte,Ra,Rb,Rc,Rd]
    refine (ZdP (n:=3) [-1,IntKind.i64.wrap (s.c+1),0] (h2.more _) (by omega) (by simp +contextual only [ZmR,ZmS,Zsv,Zsw,Zzw,Zzx,Zsx,ZwS,Wk,Wl,Zbg,Xl,Z9,Rw,go_sem,reduceIte,Ra,Rb,Rc,Rd]) (by omega) rfl (by omega) (by omega)).mono ?_
    rintro v m ⟨x3,y3,z3,rfl,hx3,hy30,hy31,rfl⟩
    simp (maxSteps:=2000000) +contextual only [Zb,hl,decide_true,ZmR,ZmS,Zsv,Zsw,Zzw,Zzx,Zsx,ZwS,Wk,Wl,Zbg,Xl,Z9,Rw,pp,go_sem,reduceIte,Ra,Rb,Rc,Rd]
    exact r2 ⟨s.ls,s.ss,s.a,s.b,x3,s.c⟩ j1 j2 y3 z3 _ _ _ _ _ _ _ _ _ _ _ _ _ _ _ _ _ hy30 (by omega) (show s.ls.length≤13 by omega) hl2 hne (by simp only [Zal,Zj,Z9,he',Ry,Rt,Rw,decide_true,RI,ite_self]) (fun M N=>ZY (g1 M N) _) (fun M N=>ZY (g2 M N) _) hB
   ·have c1':decide (x2=1)=false:=decide_eq_false c1
    by_cases c2:x2=2
    ·subst c2
     simp (maxSteps:=2000000) +contextual only [Zb,hl,c0',c1',decide_true,ZmR,ZmS,Zsv,Zsw,Zzw,Zzx,Zsx,ZwS,Wk,Wl,Zbg,Xl,Z9,Rw,pp,go_sem,reduceIte,Ra,Rb,Rc,Rd]
     refine (ZdP (n:=4) [-1,60,61,0] (h2.more _) (by omega) (by simp +contextual only [ZmR,ZmS,Zsv,Zsw,Zzw,Zzx,Zsx,ZwS,Wk,Wl,Zbg,Xl,Z9,Rw,go_sem,reduceIte,Ra,Rb,Rc,Rd]) (by omega) rfl (by omega) (by omega)).mono ?_
     rintro v m ⟨x3,y3,z3,rfl,hx3,hy30,hy31,rfl⟩
     simp (maxSteps:=2000000) +contextual only [Zb,hl,decide_true,ZmR,ZmS,Zsv,Zsw,Zzw,Zzx,Zsx,ZwS,Wk,Wl,Zbg,Xl,Z9,Rw,pp,go_sem,reduceIte,Ra,Rb,Rc,Rd]
     exact r2 ⟨s.ls,s.ss,s.a,x3,s.t,s.c⟩ j1 j2 y3 z3 _ _ _ _ _ _ _ _ _ _ _ _ _ _ _ _ _ hy30 (by omega) (show s.ls.length≤13 by omega) hl2 hne (by simp only [Zal,Zj,Z9,he',Ry,Rt,Rw,decide_true,RI,ite_self]) (fun M N=>ZY (g1 M N) _) (fun M N=>ZY (g2 M N) _) hB
    ·have c2':decide (x2=2)=false:=decide_eq_false c2
     by_cases c3:x2=3
     ·subst c3
      have hcl:∀ M N X,Za (M::B1::B2::N::(G++X)) j1=some (Zu s.ls):=fun M N X=>Ze (ZY (g1 M N) X)
      have hh1:=fun L b e' (hq:Za L (H.length+j1)=some (Zu s.ls)) (hb:L[b]?=some (Blk.cells [] true))=>ZBd (e:=e') (sz:=2) (bytes:=16) (n:=s.ls.length) (c:=none) hq hb (Yv _) (by unfold maxBytes;omega)
      have hh2:=fun L b q' e' c (hb:L[b]?=some (Blk.cells (Zu s.ls) true)) (hq:Za L q'=some [AV.int .i64 61,.int .i64 0])=>Zz4 (e:=e') (n:=s.ls.length) (c:=c) hb hq (Yv _) rfl (by omega)
      simp (maxSteps:=2000000) +contextual only [Zb,hl,c0',c1',c2',hcl,hh1,hh2,decide_true,ZmR,ZmS,Zsv,Zsw,Zzw,Zzx,Zsx,ZwS,Wk,Wl,Zbg,Xl,Z9,Rw,pp,go_sem,reduceIte,Ra,Rb,Rc,Rd]
      have hj2:j2<G.length+4:=(Wb.mp (g2 B0 B0)).1
      have hen:Zu s.ls++[AV.int .i64 61,AV.int .i64 0]=Zu (s.ls++[(61,0)]):=by rw [Q0];rfl
      have hle:s.ls.length+1=(s.ls++[(61,0)]).length:=by simp
      rw [hen,hle]
      exact r2 ⟨s.ls++[(61,0)],s.ss,s.a,s.b,s.t,s.c⟩ (G.length+7) j2 y2 z2 _ _ _ _ _ _ _ _ _ _ _ _ _ _ _ _ _ hy20 (by omega) (by rw [←hle];omega) hl2 (by omega) (by simp only [Zal,Zj,Z9,he',Ry,Rt,Rw,decide_true,RI,ite_self]) (fun M N=>by
       show (G++_)[G.length+3]?=_
       rw [Zcy]
       rfl) (fun M N=>ZY (g2 M N) _) hB
     ·have c3':decide (x2=3)=false:=decide_eq_false c3
      simp (maxSteps:=2000000) +contextual only [hl,c0',c1',c2',c3',ZmR,ZmS,Zsv,Zsw,Zzw,Zzx,Zsx,ZwS,Wk,Wl,Zbg,Xl,Z9,Rw,pp,go_sem,reduceIte,Ra,Rb,Rc,Rd]
      exact r2 s j1 j2 y2 z2 _ _ _ _ _ _ _ _ _ _ _ _ _ _ _ _ _ hy20 (by omega) (show s.ls.length≤13 by omega) hl2 hne he' g1 g2 hB
 have hz0:∀ x:Int,0≤x→x<100→IntKind.i64.wrap (27+x)=27+x:=fun x h1 h2=>Yc (by omega) (by omega)
 show Wp (run T pr ZP _) _
 rw [hc]
 simp (maxSteps:=2000000) +contextual only [Xi,ZP,Zk,Xr,Zb,ZmR,ZmS,Zsv,Zsw,Zzw,Zzx,Zsx,ZwS,Wk,Wl,Zbg,Xl,Z9,Rw,pp,go_sem,reduceIte,Ra,Rb,Rc,Rd]
 refine (JR 4 (h.more _) (by omega) (by omega)).mono ?_
 rintro v m ⟨x1,y1,z1,rfl,hx10,hx11,hy10,hy11,rfl⟩
 have h1:=h.step hy10 z1
 have hw1:IntKind.i64.wrap (27+x1)=27+x1:=Yc (by omega) (by omega)
 simp (maxSteps:=2000000) +contextual only [hl,hw1,ZmR,ZmS,Zsv,Zsw,Zzw,Zzx,Zsx,ZwS,Wk,Wl,Zbg,Xl,Z9,Rw,pp,go_sem,reduceIte,Ra,Rb,Rc,Rd]
 refine (JR 5 (h1.more _) (by omega) (by omega)).mono ?_
 rintro v m ⟨x2,y2,z2,rfl,hx20,hx21,hy20,hy21,rfl⟩
 have h2:=h1.step hy20 z2
 rw [Wk] at h2
 have hw2:IntKind.i64.wrap (27+x1+x2)=27+x1+x2:=Yc (by omega) (by omega)
 have hbase:Zba (27+x1) (27+x1+x2)=true:=by
  unfold Zba
  simp only [Ru,decide_eq_true_eq]
  omega
 have hns:=fun L e'=>ZiW (pr:=pr) (H:=L) (e:=e') (27+x1) (27+x1+x2) hbase
 simp (maxSteps:=2000000) +contextual only [hl,hw2,hns,Zr,ZmR,ZmS,Zsv,Zsw,Zzw,Zzx,Zsx,ZwS,Wk,Wl,Zbg,Xl,Z9,Rw,pp,go_sem,reduceIte,Ra,Rb,Rc,Rd]
 refine (JR 8 (h2.more _) (by omega) (by omega)).mono ?_
 rintro v m ⟨x3,y3,z3,rfl,hx30,hx31,hy30,hy31,rfl⟩
 obtain ⟨n,hn⟩:∃ n:Nat,1+x3=(n:Int):=⟨(1+x3).toNat,by omega⟩
 have hw3:IntKind.i64.wrap (1+x3)=(n:Int):=by rw [hn];exact Yc (by omega) (by omega)
 simp (maxSteps:=2000000) +contextual only [hl,hw3,ZmR,ZmS,Zsv,Zsw,Zzw,Zzx,Zsx,ZwS,Wk,Wl,Zbg,Xl,Z9,Rw,pp,go_sem,reduceIte,Ra,Rb,Rc,Rd]
 refine XQ (fun k st=>∃ (s:Sd) (j1 j2:Nat) (y z:Int) (B1 B2:Blk) (G:List Blk) (e':Option Nat) (w6 w7 w8 w9 w10 w11 w12 w13 w14:AV),s.ok=true∧j1≠j2∧clean H.length e'=true∧0≤y∧y+(k:Int)*62≤p+800 ∧
   (∀ M N,(M::B1::B2::N::G)[j1]?=some (.cells (Zu s.ls) true))∧(∀ M N,(M::B1::B2::N::G)[j2]?=some (.cells (ZI s.ss) true)) ∧
   st=⟨[.ptr (some (q,0)),.ptr (some (H.length,0)),.int .i64 (27+x1),.ptr (some (H.length+3,0)),.bool true,.int .i64 k,w6,w7,w8,w9,w10,w11,w12,w13,w14],⟨H.set q (ZgW av y z)++(.cells [.slice none 0 0 none,.int .i64 0,.int .i64 0,.slice none 0 0 none,.int .i64 0,.int .i64 0] true::B1::B2::.cells (sdC s (H.length+j1) (H.length+j2)) true::G),e'⟩⟩) ?_ n _
  ⟨⟨[],[],27+x1,27+x1+x2,0,0⟩,1,2,y3,z3,_,_,[],_,_,_,_,_,_,_,_,_,_,?_,by decide,?_,hy30,by omega,fun M N=>rfl,fun M N=>rfl,rfl⟩
 ·rintro k _ ⟨s,j1,j2,y,z,B1,B2,G,e',w6,w7,w8,w9,w10,w11,w12,w13,w14,hok,hne,he',hy0,hy1,g1,g2,rfl⟩
  have hss:=Zyw hok
  have h4:=h.step hy0 z
  by_cases hk:k=0
  ·subst hk
   have hd:decide ((0:Int)<((0:Nat):Int))=false:=by decide
   have hd':¬ ((0:Int)<((0:Nat):Int)):=by omega
   simp (maxSteps:=2000000) +contextual only [QT,gt_iff_lt,hd,hd',decide_false,ZmR,ZmS,Zsv,Zsw,Zzw,Zzx,Zsx,ZwS,Wk,Wl,Zbg,Xl,Z9,Rw,pp,go_sem,reduceIte,Ra,Rb,Rc,Rd]
   exact r1 s j1 j2 y z _ _ _ _ _ _ _ _ _ _ _ _ _ _ _ _ _ hy0 (by omega) hss.1 hss.2 hne he' g1 g2 ⟨_,_,_,_,_,_,rfl⟩
  ·have hd:decide ((0:Int)<(k:Int))=true:=decide_eq_true (by omega)
   have hd':(0:Int)<(k:Int):=by omega
   simp (maxSteps:=2000000) +contextual only [QT,gt_iff_lt,hd,hd',hl,decide_true,ZmR,ZmS,Zsv,Zsw,Zzw,Zzx,Zsx,ZwS,Wk,Wl,Zbg,Xl,Z9,Rw,pp,go_sem,reduceIte,Ra,Rb,Rc,Rd]
   refine (ZwV s.a s.b s.t s.c (h4.more _) (by omega)).mono ?_
   rintro v m ⟨tk,ta,tb,tc,y5,z5,rfl,hy50,hy51,rfl⟩
   have hg1:∀ M N X,Za (M::B1::B2::N::(G++X)) j1=some (Zu s.ls):=fun M N X=>Ze (ZY (g1 M N) X)
   have hg2:∀ M N X,Za (M::B1::B2::N::(G++X)) j2=some (ZI s.ss):=fun M N X=>Ze (ZY (g2 M N) X)
   have hg1':∀ M N,Za (M::B1::B2::N::G) j1=some (Zu s.ls):=fun M N=>Ze (g1 M N)
   have hg2':∀ M N,Za (M::B1::B2::N::G) j2=some (ZI s.ss):=fun M N=>Ze (g2 M N)
   have hdo:=fun L e' (h1:Za L (H.length+j1)=some (Zu s.ls)) (h2:Za L (H.length+j2)=some (ZI s.ss))=>(Zv8 (pr:=pr) (H:=L) (e:=e') (c1:=none) (c2:=none) h1 h2 (by omega) (by omega) s.a s.b s.t s.c tk ta tb tc).trans (ZyA L e' s (tk,ta,tb,tc))
   have hwk:IntKind.i64.wrap ((k:Int) - 1)=((k - 1:Nat):Int):=by
    rw [show ((k:Int) - 1)=((k - 1:Nat):Int) by omega];exact Yc (by omega) (by omega)
   cases hst:Zwo s (tk,ta,tb,tc) with
   | none=>
    simp only [hst] at hdo
    simp (maxSteps:=2000000) +contextual only [hl,hg1,hg2,hg1',hg2',hdo,hwk,ZmR,ZmS,Zsv,Zsw,Zzw,Zzx,Zsx,ZwS,Wk,Wl,Zbg,Xl,Z9,Rw,pp,go_sem,reduceIte,Ra,Rb,Rc,Rd]
    exact ⟨k - 1,by omega,s,j1,j2,y5,z5,B1,B2,_,_,_,_,_,_,_,_,_,_,_,hok,hne,by simp only [Zal,Zj,Z9,he',Ry,Rt,Rw,decide_true,RI,ite_self],hy50,by omega,fun M N=>ZY (g1 M N) _,fun M N=>ZY (g2 M N) _,rfl⟩
   | some s'=>
    simp only [hst] at hdo
    simp (maxSteps:=2000000) +contextual only [hl,hg1,hg2,hg1',hg2',hdo,hwk,ZmR,ZmS,Zsv,Zsw,Zzw,Zzx,Zsx,ZwS,Wk,Wl,Zbg,Xl,Z9,Rw,pp,go_sem,reduceIte,Ra,Rb,Rc,Rd]
    refine ⟨k - 1,by omega,s',G.length+4,G.length+5,y5,z5,B1,B2,_,_,_,_,_,_,_,_,_,_,_,Zyz hok hst,by omega,?_,hy50,by omega,fun M N => ?_,fun M N => ?_,rfl⟩
    ·simp only [Zal,Zj,Z9,he',Ry,Rt,Rw,decide_true,RI,ite_self]
    ·show (G++_)[G.length+0]?=_
     rw [Zcy];rfl
    ·show (G++_)[G.length+1]?=_
     rw [Zcy];rfl
 ·simp [Sd.ok,Zhb,Y1,ZU,J5,hbase]
 ·rfl
theorem ZlX {av:AV} (hc:ZdO H av):Wc (call T pr KZ [av] ⟨H,e⟩) (fun v m=>∃ s:Sd,v=stV (slL H.length s.ls.length none) s.a s.b (slS (H.length+1) s.ss.length none) s.t s.c∧s.ls.length≤13∧s.ss.length≤5∧m=⟨H++[.cells (Zu s.ls) true,.cells (ZI s.ss) true],e⟩):=by
 obtain ⟨p0,s0,n0,c0,rfl⟩:=hc.form
 rw [ZK Zj1]
 simp +contextual only [JG,Zd1,Zb,Rw,pp,go_sem,reduceIte,Ra,Rb,Rc,Rd]
 refine (ZyP (Cu.new (k:=1) (G:=[.cells [.slice none 0 0 none,.int .i64 0,.int .i64 0,.slice none 0 0 none,.int .i64 0,.int .i64 0] true,ZgW _ 0 0]) rfl hc (by omega)) (by omega)).mono ?_
 rintro v m ⟨s,y1,z1,rfl,hl1,hl2,hy10,hy11,rfl⟩
 have hf:=fun (B0 B1:Blk) (e0 e1:Option Nat) (hc:clean H.length e1=true)=>YQ (H:=H) (G:=[B0,B1,.cells (Zu s.ls) true,.cells (ZI s.ss) true]) (j1:=2) (j2:=3) (n1:=s.ls.length) (n2:=s.ss.length) (c1:=none) (c2:=none) s.a s.b s.t s.c e0 e1 hc rfl rfl (by omega) (Yk _ _) (Yx _ _)
 simp +contextual only [JG,hf,Zal,Zj,Z9,Ry,Rt,ite_self,Rw,decide_true,pp,go_sem,reduceIte,Ra,Rb,Rc,Rd]
 exact ⟨s,rfl,hl1,hl2,rfl⟩
theorem Zk3 {q:Nat} {c:Option Nat} {ls:List Ld} (h:Za H q=some (Zu ls)) (hn:ls.length≤1048576) (hr:Y1 ls=true):call T pr Zbw [slL q ls.length c] ⟨H,e⟩=some (.tup [.int .i64 (Q2 ls),.bool true],⟨H,e⟩):=by
 have h1:=fun G=>Jo (pr:=pr) (e:=none) (c:=c) (Zc h G)
 have h2:=fun G=>ZbR (pr:=pr) (e:=none) (c:=c) (Zc h G) (by omega)
 have h10:=h1 []
 have h20:=h2 []
 rw [Rq] at h10 h20
 rw [hr] at h1 h10
 rw [Zl ZoJ]
 simp +contextual only [ZbK,Zif,h1,h2,h10,h20,go_sem,reduceIte,Ra,Rb,Rc,Rd]
theorem Zi0 {q:Nat} {c:Option Nat} {ss:List Sg} (h:Za H q=some (ZI ss)) (hc:ZU ss=true) (hn:ss.length≤1048576):call T pr Zax [slS q ss.length c] ⟨H,e⟩=some (.tup [fvV (ZS 1 1 ss) (ZX 1 1 ss),.bool true],⟨H,e⟩):=by
 have h1:=fun G=>XP (pr:=pr) (e:=none) (c:=c) (Zc h G) (by omega)
 have h2:=fun G=>Zdp (pr:=pr) (e:=none) (c:=c) (Zc h G) hc
 rw [hc] at h1
 rw [Zl Znd]
 simp +contextual only [ZaC,Zgg,Zb,h1,h2,go_sem,reduceIte,Ra,Rb,Rc,Rd]
theorem Zfq {q:Nat} {c:Option Nat} {ls:List Ld} (h:Za H q=some (Zu ls)) (hn:ls.length≤1048576) (a b:Int) (hr:Y1 ls=true) (hb:Zba a b=true):call T pr ZaY [slL q ls.length c,.int .i64 a,.int .i64 b] ⟨H,e⟩=some (.tup [.int .i64 (ZcA ls a b),.bool true],⟨H,e⟩):=by
 have h1:=fun G=>Jo (pr:=pr) (e:=none) (c:=c) (Zc h G)
 have h2:=fun G=>Zkt (pr:=pr) (e:=none) (c:=c) (Zc h G) (by omega) a b
 have h10:=h1 []
 have h20:=h2 []
 rw [Rq] at h10 h20
 rw [hr] at h1 h10
 rw [Zl ZqN]
 simp +contextual only [Zdb,ZjT,h1,h2,h10,h20,ZcB,hb,go_sem,reduceIte,Ra,Rb,Rc,Rd]
theorem ZeY (x y:Nat):fracA x y*y=x*fracB x y:=by
 obtain ⟨x',hx'⟩:=Nat.gcd_dvd_right y x
 obtain ⟨y',hy'⟩:=Nat.gcd_dvd_left y x
 unfold fracA fracB
 by_cases hg:Nat.gcd y x=0
 ·have e1:=Nat.eq_zero_of_gcd_eq_zero_left hg
  have e2:=Nat.eq_zero_of_gcd_eq_zero_right hg
  subst e1;subst e2
  simp
 ·have hg:0<Nat.gcd y x:=by omega
  generalize Nat.gcd y x=g at *
  subst hx';subst hy'
  rw [WJ _ hg,WJ _ hg]
  simp [Wy,Wz,Nat.mul_assoc]
theorem Ziz (x y:Nat) (hy:0<y):Nat.Coprime (fracB x y) (fracA x y):=Nat.coprime_div_gcd_div_gcd (Nat.gcd_pos_of_pos_left _ hy)
theorem Zem (x y:Nat) (hy:0<y):0<fracB x y:=Nat.div_pos (Nat.le_of_dvd hy (Nat.gcd_dvd_left _ _)) (Nat.gcd_pos_of_pos_left _ hy)
theorem ZwW {x y x' y':Nat} (hy:0<y) (hy':0<y') (h:x*y'=x'*y):fracA x y=fracA x' y'∧fracB x y=fracB x' y':=by
 have c1:=ZeY x y
 have c2:=ZeY x' y'
 have p1:=Ziz x y hy
 have p2:=Ziz x' y' hy'
 have b1:=Zem x y hy
 have b2:=Zem x' y' hy'
 generalize fracA x y=a at *
 generalize fracB x y=b at *
 generalize fracA x' y'=a' at *
 generalize fracB x' y'=b' at *
 have key:a*b'=a'*b:=by
  have h1:(a*b')*(y*y')=(a'*b)*(y*y'):=by
   calc (a*b')*(y*y')=(a*y)*(b'*y'):=by simp [Wy,Wz]
    _=(x*b)*(b'*y'):=by rw [c1]
    _=(x*y')*(b*b'):=by simp [Wy,Wz]
    _=(x'*y)*(b*b'):=by rw [h]
    _=(x'*b')*(b*y):=by simp [Wy,Wz]
    _=(a'*y')*(b*y):=by rw [c2]
    _=(a'*b)*(y*y'):=by simp [Wy,Wz]
  exact Nat.eq_of_mul_eq_mul_right (WB hy hy') h1
 have d1:b ∣ b':=p1.dvd_of_dvd_mul_left (by rw [key];exact Nat.dvd_mul_left _ _)
 have d2:b' ∣ b:=p2.dvd_of_dvd_mul_left (by rw [←key];exact Nat.dvd_mul_left _ _)
 have e:b=b':=Nat.dvd_antisymm d1 d2
 subst e
 exact ⟨Nat.eq_of_mul_eq_mul_right b1 key,rfl⟩
theorem Zuz (x y:Nat) (hy:0<y):fracA x y / fracB x y=x / y:=by
 obtain ⟨x',hx'⟩:=Nat.gcd_dvd_right y x
 obtain ⟨y',hy'⟩:=Nat.gcd_dvd_left y x
 have hg:0<Nat.gcd y x:=Nat.gcd_pos_of_pos_left _ hy
 unfold fracA fracB
 generalize Nat.gcd y x=g at *
 subst hx';subst hy'
 rw [WJ _ hg,WJ _ hg,Nat.mul_div_mul_left _ _ hg]
def ZiA:Nat→Nat→List Sg→Nat
 | a,_,[]=>a
 | a,b,s::ss=>ZiA (fracA (a*gainB s) (b*gainA s)) (fracB (a*gainB s) (b*gainA s)) ss
def ZiB:Nat→Nat→List Sg→Nat
 | _,b,[]=>b
 | a,b,s::ss=>ZiB (fracA (a*gainB s) (b*gainA s)) (fracB (a*gainB s) (b*gainA s)) ss
theorem ZmT (n:Nat):∀ (ss:List Sg) (P Q:Nat),ss.all Xj=true→0<P→0<Q →
  ZiA (fracA (n*Q) P) (fracB (n*Q) P) ss=fracA (n*ZX P Q ss) (ZS P Q ss)∧ZiB (fracA (n*Q) P) (fracB (n*Q) P) ss=fracB (n*ZX P Q ss) (ZS P Q ss)
 | [],P,Q,_,_,_=>⟨rfl,rfl⟩
 | s::ss,P,Q,h,hP,hQ=>by
  rw [Rn,Ru] at h
  obtain ⟨g1,_,g3,_⟩:=ZfK h.1
  have hPg:0<P*gainA s:=WB hP g1
  have hQg:0<Q*gainB s:=WB hQ g3
  obtain ⟨f1,f2,_,_⟩:=ZgC hPg hQg
  have ih:=ZmT n ss (fracA (P*gainA s) (Q*gainB s)) (fracB (P*gainA s) (Q*gainB s)) h.2 f1 f2
  have c1:=ZeY (n*Q) P
  have c2:=ZeY (P*gainA s) (Q*gainB s)
  have b1:=Zem (n*Q) P hP
  have e:=ZwW (x:=fracA (n*Q) P*gainB s) (y:=fracB (n*Q) P*gainA s) (x':=n*fracB (P*gainA s) (Q*gainB s)) (y':=fracA (P*gainA s) (Q*gainB s)) (WB b1 g1) f1 (by
   generalize fracA (n*Q) P=a at *
   generalize fracB (n*Q) P=b at *
   generalize fracA (P*gainA s) (Q*gainB s)=P' at *
   generalize fracB (P*gainA s) (Q*gainB s)=Q' at *
   generalize gainA s=gA at *
   generalize gainB s=gB at *
   refine Nat.eq_of_mul_eq_mul_right (WB hP hQ) ?_
   calc a*gB*P'*(P*Q)=(a*P)*(P'*(Q*gB)):=by simp [Wy,Wz]
    _=(n*Q*b)*(P*gA*Q'):=by rw [c1,c2]
    _=n*Q'*(b*gA)*(P*Q):=by simp [Wy,Wz])
  simp only [ZiA,ZiB,ZS,ZX]
  rw [e.1,e.2]
  exact ih
theorem ZwX (n:Nat) (ss:List Sg) (h:ss.all Xj=true):ZiA n 1 ss=fracA (n*ZX 1 1 ss) (ZS 1 1 ss)∧ZiB n 1 ss=fracB (n*ZX 1 1 ss) (ZS 1 1 ss):=by
 have e:=ZmT n ss 1 1 h (by decide) (by decide)
 have e1:fracA (n*1) 1=n:=by simp [fracA]
 have e2:fracB (n*1) 1=1:=by simp [fracB]
 rw [e1,e2] at e
 exact e
def ZnZ (L:List Blk) (b:Nat) (keep:Bool):List Blk:=if keep=true then L else L.set b .dead
theorem Zen (L:List Blk) (b:Nat) (k:Bool):(ZnZ L b k).length=L.length:=by unfold ZnZ;split <;> simp
theorem ZwY {L:List Blk} {b i:Nat} (k:Bool) (h:i≠b):(ZnZ L b k)[i]?=L[i]?:=by
 unfold ZnZ
 split
 ·rfl
 ·exact Wm (fun e=>h e.symm)
theorem apG {L:List Blk} {b sz bytes n k:Nat} {cs new:List AV} {cap:Option Nat} {src:AV} (hb:L[b]?=some (.cells cs true)) (hs:YK false L src=some (k,new)) (hcs:cs.length=n*sz) (hnew:new.length=k*sz) (hm:(n+k)*bytes≤maxBytes) (hcap:cap=some 0→n=0) :
  XO L e false sz bytes (.slice (some (b,0)) sz n cap) src=some (.slice (some (L.length,0)) sz (n+k) none,⟨ZnZ L b (decide (cap=some 0∧0<k))++[.cells (cs++new) true],e⟩):=by
 unfold XO
 simp only [hb,hs]
 rw [if_pos ⟨trivial,hm,hnew,by omega⟩]
 by_cases h:cap=some 0∧0<k
 ·have hn:=hcap h.1
  subst hn
  have:cs=[]:=List.eq_nil_of_length_eq_zero (by omega)
  subst this
  rw [if_pos h]
  simp [ZnZ,h]
 ·rw [if_neg h,if_pos trivial,Rk,List.take_of_length_le (by omega)]
  simp [ZnZ,h]
def YR (H L:List Blk):Prop:=∃ G,L=H++G
theorem YR.refl (H:List Blk):YR H H:=⟨[],by simp⟩
theorem YR.le {H L:List Blk} (h:YR H L):H.length≤L.length:=by
 obtain ⟨G,rfl⟩:=h
 simp
theorem YR.more {H L:List Blk} (h:YR H L) (X:List Blk):YR H (L++X):=by
 obtain ⟨G,rfl⟩:=h
 exact ⟨G++X,by simp⟩
theorem YR.put {H L:List Blk} (h:YR H L) {b:Nat} (hb:H.length≤b) (x:Blk):YR H (L.set b x):=by
 obtain ⟨G,rfl⟩:=h
 exact ⟨G.set (b - H.length) x,List.set_append_right _ _ hb⟩
theorem YR.kill {H L:List Blk} (h:YR H L) {b:Nat} (hb:H.length≤b) (k:Bool):YR H (ZnZ L b k):=by
 unfold ZnZ
 split
 ·exact h
 ·exact h.put hb _
theorem YR.cur {H L:List Blk} {q:Nat} {x:Blk} (h:YR (H.set q x) L) (hq:q<H.length) (y:Blk):YR (H.set q y) (L.set q y):=by
 obtain ⟨G,rfl⟩:=h
 exact ⟨G,by rw [List.set_append_left _ _ (by simpa using hq),Wk]⟩
theorem YR.get {H L:List Blk} (h:YR H L) {i:Nat} (hi:i<H.length):L[i]?=H[i]?:=by
 obtain ⟨G,rfl⟩:=h
 exact Wd hi
theorem YR.cells {H L:List Blk} {q:Nat} {x:Blk} (h:YR (H.set q x) L) {b:Nat} {cs:List AV} (hb:Za H b=some cs) (hne:b≠q):Za L b=some cs:=by
 have hl:b<H.length:=by
  unfold Za at hb
  rcases Nat.lt_or_ge b H.length with h | h
  ·exact h
  ·rw [List.getElem?_eq_none h] at hb;cases hb
 unfold Za at hb ⊢
 rw [h.get (by simpa using hl),Wm (fun e=>hne e.symm)]
 exact hb
theorem YR.curs {H L:List Blk} {q:Nat} {av:AV} {p y z:Int} (h:YR (H.set q (ZgW av y z)) L) (hc:Cu H q av p) (hy:0≤y):Cu L q av y:=by
 obtain ⟨G,rfl⟩:=h
 exact (hc.step hy z).more G
theorem Zn0 {L:List Blk} {b sz bytes n k:Nat} {cs new:List AV} {cap:Option Nat} {src:AV} {Q:AV→Mem→Prop} (hb:L[b]?=some (.cells cs true)) (hs:YK false L src=some (k,new)) (hcs:cs.length=n*sz) (hnew:new.length=k*sz) (hm:(n+k)*bytes≤maxBytes) (hcap:cap=some 0→n=0)
  (hQ:∀ L':List Blk,L'.length=L.length+1→(∀ i,i≠b→i<L.length→L'[i]?=L[i]?)→L'[L.length]?=some (.cells (cs++new) true)→(∀ H0,YR H0 L→H0.length≤b→YR H0 L')→Q (.slice (some (L.length,0)) sz (n+k) none) ⟨L',e⟩) :
  Wc (XO L e false sz bytes (.slice (some (b,0)) sz n cap) src) Q:=by
 refine Wc.of_eq (apG hb hs hcs hnew hm hcap) (hQ _ ?_ ?_ ?_ ?_)
 ·rw [RL,Zen];rfl
 ·intro i h1 h2
  rw [Wd (by rw [Zen];exact h2),ZwY _ h1]
 ·have hl:=Zen L b (decide (cap=some 0∧0<k))
  rw [Rs (by omega),hl,Nat.sub_self]
  rfl
 ·exact fun H0 hg hb=>(hg.kill hb _).more _
theorem ZwZ {L:List Blk} {b sz n:Nat} {c:Option Nat} {cs:List AV} {w:Bool} (hL:YR H L) (e0 e1:Option Nat) (hc:clean H.length e1=true) (hb:H.length≤b) (hG:L[b]?=some (.cells cs w)) (hu:(cs.all fun c=>c.under H.length)=true) :
  finish 2 H.length e0 (.slice (some (b,0)) sz n c) ⟨L,e1⟩=some (.slice (some (H.length,0)) sz n c,⟨H++[.cells cs w],e0⟩):=by
 obtain ⟨G,rfl⟩:=hL
 obtain ⟨j,rfl⟩:∃ j,b=H.length+j:=⟨b - H.length,by omega⟩
 have hlt:¬ H.length+j<H.length:=by omega
 have hr:X6 (AV.roots H.length (.slice (some (H.length+j,0)) sz n c))=[H.length+j]:=by simp [AV.roots,X6,hlt]
 unfold finish
 simp only [hr]
 have h2:([H.length+j].all fun b=>XG H.length (H++G)[b]?)=true:=by
  simp only [Rn,List.all_nil,Bool.and_true,hG,XG,hu]
 simp only [hc,h2,and_self,if_true]
 simp [AV.rename,ZaT,hlt,hG]
variable {pr : Zq} {H : List Blk} {e : Option Nat}
def ZrN:Nat→By→Option Nat
 | acc,[]=>some acc
 | acc,c::r=>if 48≤c.toNat∧c.toNat≤57 then ZrN (acc*10+(c.toNat - 48)) r else none
theorem ZsA:∀ (a b:By) (acc:Nat),ZrN acc (a++b)=(ZrN acc a).bind fun x=>ZrN x b
 | [],b,acc=>rfl
 | c::a,b,acc=>by
  simp only [List.cons_append,ZrN]
  split
  ·exact ZsA a b _
  ·rfl
theorem Zn1 (u:Nat):ZrN 0 (Lib.decDigits u)=some u:=by
 induction u using Nat.strongRecOn with
 | _ u ih=>
  rw [Lib.decDigits]
  split
  ·rename_i h
   have h1:(UInt8.ofNat (48+u)).toNat=48+u:=by simp;omega
   simp only [ZrN,h1]
   rw [if_pos (by omega)]
   simp
  ·rename_i h
   have h1:(UInt8.ofNat (48+u % 10)).toNat=48+u % 10:=by simp;omega
   rw [ZsA,ih (u / 10) (by omega)]
   simp only [Option.bind_some,ZrN,h1]
   rw [if_pos (by omega)]
   congr 1
   omega
theorem Zw0:∀ (l:By) (acc x:Nat),ZrN acc l=some x→acc≤x
 | [],acc,x,h=>by simp only [ZrN,RH] at h;omega
 | c::r,acc,x,h=>by
  simp only [ZrN] at h
  split at h
  ·have:=Zw0 r _ x h;omega
  ·cases h
theorem Zk4:∀ (l:By) (acc x:Nat),ZrN acc l=some x→x≤999999→Lib.parseUint10 acc l=.ok x
 | [],acc,x,h,_=>by simp only [ZrN,RH] at h;subst h;rfl
 | c::r,acc,x,h,hx=>by
  have h0:=h
  simp only [ZrN] at h
  split at h
  ·rename_i hc
   have h1:=Zw0 r _ x h
   simp only [Lib.parseUint10]
   rw [if_pos hc,if_neg (by omega),if_neg (by omega)]
   exact Zk4 r _ x h hx
  ·cases h
theorem ZsB (u:Nat):∃ c r,Lib.decDigits u=c::r∧48≤c.toNat∧c.toNat≤57:=by
 have h:=Zn1 u
 cases hd:Lib.decDigits u with
 | nil=>
  rw [Lib.decDigits] at hd
  split at hd <;> simp at hd
 | cons c r=>
  rw [hd] at h
  simp only [ZrN] at h
  split at h
  ·rename_i hc;exact ⟨c,r,rfl,hc⟩
  ·cases h
theorem Zw1 (u:Nat):∀ k,u<10 ^ (k+1)→(Lib.decDigits u).length≤k+1:=by
 induction u using Nat.strongRecOn with
 | _ u ih=>
  intro k hk
  rw [Lib.decDigits]
  split
  ·simp
  ·rename_i h
   cases k with
   | zero=>simp at hk;omega
   | succ k=>
    have:=ih (u / 10) (by omega) k (by rw [WD] at hk;omega)
    simp only [RL,List.length_singleton]
    omega
def ZlY (l:By):Option Int:=match Lib.atoiAll l with
 | .ok v=>if Lib.itoa v=l ∧ -999999≤v∧v≤999999 then some v else none
 | _=>none
theorem Zw2 (v:Int) (h1 : -999999≤v) (h2:v≤999999):Lib.atoiAll (Lib.itoa v)=.ok v:=by
 by_cases hv:v<0
 ·obtain ⟨u,hu⟩:∃ u:Nat,v = -(u:Int):=⟨v.natAbs,by omega⟩
  subst hu
  rw [Lib.itoa_neg u (by omega)]
  obtain ⟨c,r,hd,_⟩:=ZsB u
  have hp:Lib.parseMag (Lib.decDigits u)=.ok u:=by
   unfold Lib.parseMag
   rw [if_neg (by rw [hd];simp)]
   exact Zk4 _ 0 u (Zn1 u) (by omega)
  have e1:(45:UInt8).toNat=45:=rfl
  simp only [Lib.atoiAll,e1,or_true,if_true,hp]
  rw [if_neg (by simp),if_neg (by simp;omega)]
 ·obtain ⟨u,hu⟩:∃ u:Nat,v=(u:Int):=⟨v.toNat,by omega⟩
  subst hu
  rw [Lib.itoa_nonneg]
  obtain ⟨c,r,hd,hc⟩:=ZsB u
  have hp:Lib.parseMag (Lib.decDigits u)=.ok u:=by
   unfold Lib.parseMag
   rw [if_neg (by rw [hd];simp)]
   exact Zk4 _ 0 u (Zn1 u) (by omega)
  rw [hd] at hp ⊢
  have n1:¬ (c.toNat=43∨c.toNat=45):=by omega
  have n2:¬ c.toNat=45:=by omega
  simp only [Lib.atoiAll,if_neg n1,hp]
  rw [if_neg (by omega),if_neg (by rintro ⟨h,_⟩;exact n2 h),if_neg n2]
theorem Zeo (l:By) (v:Int):ZlY l=some v↔Lib.itoa v=l ∧ -999999≤v∧v≤999999:=by
 constructor
 ·intro h
  unfold ZlY at h
  split at h
  ·split at h
   ·rename_i hh;cases h;exact hh
   ·cases h
  ·cases h
 ·rintro ⟨rfl,h1,h2⟩
  unfold ZlY
  rw [Zw2 v h1 h2]
  simp [h1,h2]
theorem ZxM {L:List Blk} (hL:YR H L) (e0 e1:Option Nat) (v:AV) (hv:v.under H.length=true) (hc:clean H.length e1=true):finish 1 H.length e0 v ⟨L,e1⟩=some (v,⟨H,e0⟩):=by
 obtain ⟨G,rfl⟩:=hL
 rw [Zdz,if_pos ⟨hv,hc⟩]
def ZdT (z:Int):Prop := -9223372036854775807≤z∧z≤9223372036854775807
def KK (c:UInt8) (zs:List Int):By:=Lib.join (zs.map Lib.itoa) [c]
theorem JS (z:Int) (h:ZdT z):(Lib.itoa z).length≤21:=by
 unfold Lib.itoa
 split
 ·have:=ZbT z.natAbs (by have:=h.1;omega)
  simp only [RB]
  omega
 ·have:=ZbT z.toNat (by have:=h.2;omega)
  omega
theorem ZgX (sep:By) (k:Nat):∀ (xs:List By),(∀ x∈xs,x.length≤k)→(Lib.join xs sep).length≤xs.length*(k+sep.length)
 | [],_=>by simp [Lib.join_nil]
 | [x],h=>by
  rw [Lib.join_one]
  have:=h x (by simp)
  simp only [List.length_singleton,Wv]
  omega
 | x::y::xs,h=>by
  have ih:=ZgX sep k (y::xs) fun z hz=>h z (We _ hz)
  have h1:=h x RR
  have e:Lib.join (x::y::xs) sep=x++sep++Lib.join (y::xs) sep:=by
   rw [Lib.join_cons,Lib.join_cons]
   simp [Lib.joinTail]
  rw [e]
  simp only [RL,RB] at ih ⊢
  rw [Nat.add_mul (xs.length+1) 1,Wv]
  omega
theorem Zep (c:UInt8) (zs:List Int) (hz:∀ z∈zs,ZdT z):(KK c zs).length≤zs.length*22:=by
 have:=ZgX [c] 21 (zs.map Lib.itoa) fun x hx=>by
  obtain ⟨z,h1,rfl⟩:=RS.mp hx
  exact JS z (hz z h1)
 simpa [KK] using this
theorem QD (hi:Jg pr) (hj:ZfU pr) {q:Nat} {cap:Option Nat} {zs:List Int} (h:Za H q=some (Y5 zs)) (hn:zs.length≤1000000) (hz:∀ z∈zs,ZdT z) (c:UInt8):call T pr Ye [slI q zs.length cap,sV [c]] ⟨H,e⟩=some (sV (KK c zs),⟨H,e⟩):=by
 apply Wc.eq
 rw [ZK Zj5]
 simp +contextual only [JJ,Zd5,Zb,pp,go_sem,reduceIte,Ra,Rb,Rc,Rd]
 refine XQ (fun k st=>∃ (i b:Nat) (cc:Option Nat) (L:List Blk) (w4 w8:AV),i+k=zs.length∧(cc=some 0→i=0)∧YR H L∧H.length≤b∧L[b]?=some (.cells (Zfo ((zs.take i).map Lib.itoa)) true) ∧
  st=⟨[slI q zs.length cap,sV [c],.str ⟨#[]⟩,slX b i cc,w4,slI q zs.length cap,.int .i64 zs.length,.int .i64 i,w8],⟨L,none⟩⟩) ?_ zs.length _ ?_
 ·rintro k _ ⟨i,b,cc,L,w4,w8,hik,hcc,hL,hb,hLb,rfl⟩
  have hq:Za L q=some (Y5 zs):=by
   obtain ⟨G,rfl⟩:=hL
   exact Zc h G
  by_cases hk:k=0
  ·have he:i=zs.length:=by omega
   subst he
   rw [WK] at hLb
   have hjn:=hj (zs.map Lib.itoa) c b cc L none (Ze hLb) (by simp;omega) (by have:=Zep c zs hz;unfold KK at this;omega)
   rw [Wn] at hjn
   unfold KK
   simp (maxSteps:=2000000) +contextual only [QU,JJ,Ri,decide_false,hjn,ZxM hL,Zgz,Zp,pp,go_sem,reduceIte,Ra,Rb,Rc,Rd]
  ·have hi':i<zs.length:=by omega
   have hl:zs[i]?=some zs[i]:=Rl hi'
   have hf:=hz zs[i] (Wx hi')
   have hit:=fun m=>hi zs[i] m (by have:=hf.1;omega) hf.2
   have htk:(zs.take i).map Lib.itoa++[Lib.itoa zs[i]]=(zs.take (i+1)).map Lib.itoa:=by
    rw [WL hi',WE]
    rfl
   simp (maxSteps:=2000000) +contextual only [QU,Zb,hi',hq,Z2 _ hl,hit,Nat.mul_one,Zw (show i<9223372036854775807 by omega),decide_true,pp,go_sem,reduceIte,Ra,Rb,Rc,Rd]
   refine Zn0 (k:=1) (new:=[sV (Lib.itoa zs[i])]) (ZY hLb _) (Zbh _ 1 1 _ _ L.length (by simp +contextual only [go_sem,reduceIte,Ra,Rb,Rc,Rd]) rfl) (by rw [ZfS];simp;omega) rfl (by unfold maxBytes;omega) hcc ?_
   intro L2 e1 e2 e3 e4
   have e3':Zfo ((zs.take i).map Lib.itoa)++[sV (Lib.itoa zs[i])]=Zfo ((zs.take (i+1)).map Lib.itoa):=by rw [←htk,ZfT];rfl
   rw [e3'] at e3
   simp (maxSteps:=2000000) +contextual only [Zw (show i<9223372036854775807 by omega),pp,go_sem,reduceIte,Ra,Rb,Rc,Rd]
   exact ⟨k - 1,by omega,i+1,_,none,L2,_,_,by omega,by simp,e4 _ (hL.more _) hb,by have:=hL.le;simp;omega,by simpa using e3,rfl⟩
 ·exact ⟨0,H.length,some 0,_,_,_,by omega,fun _=>rfl,⟨_,rfl⟩,Rt _,by rw [Xe];rfl,rfl⟩
theorem ZN (hi:Jg pr) (n:Int) (hn:ZdT n) (ok:Bool):call T pr ZT [.int .i64 n,.bool ok] ⟨H,e⟩=some (.tup [sV (Lib.itoa n),.bool ok],⟨H,e⟩):=by
 have hit:=fun m=>hi n m (by have:=hn.1;omega) hn.2
 rw [Zl Zlq]
 simp +contextual only [Zab,Zfb,hit,go_sem,reduceIte,Ra,Rb,Rc,Rd]
def saV (L:List Blk) (n sz:Nat) (v:AV):Option AV:=match v with
 | .ptr (some (b,o))=>(match L[b]? with
  | some (.cells cs true)=>if 0<cs.length∧o+n*sz≤cs.length then KV sz (some (b,o)) sz n (some n) 0 n none else none
  | _=>none)
 | _=>none
theorem ZpX {C:FuncId→List AV→Mem→Option (AV×Mem)} {g:X→AV} (L:List Blk) (e:Option Nat) (n sz:Nat) (x:X):aop C g ⟨L,e⟩ (.sliceArr n sz x none none none)=J8 ⟨L,e⟩ (saV L n sz (g x)):=by
 rw [ZbO rfl]
 simp only [Zao,saV,ZcN,Zjm]
 generalize g x=v
 congr 1
 cases v with
 | ptr p=>
  cases p with
  | none=>rfl
  | some p=>
   obtain ⟨b,o⟩:=p
   simp only
   generalize L[b]?=k
   match k with
   | none=>rfl
   | some .dead=>rfl
   | some (.mp _)=>rfl
   | some (.cells cs true)=>simp
   | some (.cells cs false)=>rfl
 | _=>rfl
theorem Zz5 (L:List Blk) (a b:Int):saV (L++[.cells [.int .i64 a,.int .i64 b] true]) 2 1 (.ptr (some (L.length,0)))=some (.slice (some (L.length,0)) 1 2 (some 2)):=by
 simp [saV,KV]
theorem Ky (hi:Jg pr) (hj:ZfU pr) (a b:Int) (ha:ZdT a) (hb:ZdT b) (ok:Bool):call T pr Xt [.agg [.int .i64 a,.int .i64 b],.bool ok] ⟨H,e⟩=some (.tup [sV (KK 47 [a,b]),.bool ok],⟨H,e⟩):=by
 have hnt:∀ (L:List Blk) (q:Nat) (cap:Option Nat),Za L q=some [.int .i64 a,.int .i64 b]→call T pr Ye [.slice (some (q,0)) 1 2 cap,.str ⟨#[47]⟩] ⟨L,none⟩=some (sV (KK 47 [a,b]),⟨L,none⟩) :=
  fun L q cap h=>QD (zs:=[a,b]) hi hj h (by simp) (by intro z hz;simp at hz;rcases hz with rfl | rfl <;> assumption) 47
 rw [Zl ZiI]
 simp +contextual only [Kx,ZdI,hnt,Zb,ZpX,Zz5,go_sem,reduceIte,Ra,Rb,Rc,Rd]
def Zbn (zs:List Int):By:=if zs.length=0 then [110,111,110,101] else KK 32 zs
theorem ZbW (hi:Jg pr) (hj:ZfU pr) {q:Nat} {cap:Option Nat} {zs:List Int} (h:Za H q=some (Y5 zs)) (hn:zs.length≤1000000) (hz:∀ z∈zs,ZdT z) (ok:Bool):call T pr Xx [slI q zs.length cap,.bool ok] ⟨H,e⟩=some (.tup [sV (Zbn zs),.bool ok],⟨H,e⟩):=by
 have hnt:∀ G,call T pr Ye [slI q zs.length cap,.str ⟨#[32]⟩] ⟨H++G,none⟩=some (sV (KK 32 zs),⟨H++G,none⟩):=fun G=>QD hi hj (Zc h G) hn hz 32
 have hnt0:call T pr Ye [slI q zs.length cap,.str ⟨#[32]⟩] ⟨H,none⟩=some (sV (KK 32 zs),⟨H,none⟩):=QD hi hj h hn hz 32
 rw [Zl Zij]
 unfold Zbn
 by_cases h0:zs.length=0
 ·have h0':((zs.length:Nat):Int)=0:=by omega
  simp +contextual only [KQ,ZbF,h0,h0',decide_true,hnt,hnt0,go_sem,reduceIte,Ra,Rb,Rc,Rd]
  rfl
 ·have h0':¬ ((zs.length:Nat):Int)=0:=by omega
  simp +contextual only [KQ,ZbF,h0,h0',decide_false,hnt,hnt0,go_sem,reduceIte,Ra,Rb,Rc,Rd]
theorem Zeq (ok:Bool) {p:Option (Nat×Nat)} {s:Nat} {cap:Option Nat}:call T pr Xx [.slice p s 0 cap,.bool ok] ⟨H,e⟩=some (.tup [sV (Zbn []),.bool ok],⟨H,e⟩):=by
 rw [Zl Zij]
 have h0':((0:Nat):Int)=0:=rfl
 simp +contextual only [KQ,ZbF,h0',decide_true,go_sem,reduceIte,Ra,Rb,Rc,Rd]
 rfl
theorem Zz6 {l:By} {v:Int} (h:Lib.atoiAll l=.ok v) : -9223372036854775808≤v∧v≤9223372036854775807:=by
 unfold Lib.atoiAll at h
 split at h
 ·cases h
 ·simp only at h
  split at h
  ·cases h
  ·cases h
  ·split at h
   ·cases h
   ·split at h
    ·cases h
    ·rename_i u _ n1 n2
     have:=Lib.NumEnd.ok.inj h
     split at this <;> omega
theorem Zer:Xg 4 .neq .nilif .nilif=some (.bool false):=rfl
theorem ZcK:Xg 4 .neq .someif .nilif=some (.bool true):=rfl
theorem ZpY (hi:Jg pr) (ha:ZrL pr) (l:By) (hl:l.length≤1000000):call T pr Zbt [sV l] ⟨H,e⟩=some (.tup [.int .i64 ((ZlY l).getD 0),.bool (ZlY l).isSome],⟨H,e⟩):=by
 have hat:=fun (L:List Blk)=>ha l ⟨L,none⟩ (by omega)
 have hw:=fun (L:List Blk) (x:Int)=>Z0 (pr:=pr) (H:=L) (e:=none) x (-999999) 999999
 rw [Zl ZoE]
 unfold ZlY
 cases hh:Lib.atoiAll l
 ·rename_i v
  rw [hh] at hat
  have hin : -9223372036854775808≤v∧v≤9223372036854775807:=Zz6 hh
  have hit:=fun m=>hi v m hin.1 hin.2
  have hd:decide (bs (Lib.itoa v)=bs l)=decide (Lib.itoa v=l):=ZkP _ _
  by_cases h1:Lib.itoa v=l
  ·have h1':bs (Lib.itoa v)=bs l:=by rw [h1]
   cases h2:(decide (-999999≤v)&&decide (v≤999999))
   ·have h3:¬ (Lib.itoa v=l ∧ -999999≤v∧v≤999999):=by
     rintro ⟨_,g1,g2⟩
     rw [decide_eq_true g1,decide_eq_true g2] at h2
     cases h2
    have hw':=fun (L:List Blk)=>hw L v
    rw [h2] at hw'
    simp +contextual only [X7,KP,hat,Zer,ZcK,hit,h1',hw',if_neg h3,decide_true,WM,WN,go_sem,reduceIte,Ra,Rb,Rc,Rd]
   ·have h3:Lib.itoa v=l ∧ -999999≤v∧v≤999999:=by
     simp only [Ru,decide_eq_true_eq] at h2
     exact ⟨h1,h2⟩
    have hw':=fun (L:List Blk)=>hw L v
    rw [h2] at hw'
    simp +contextual only [X7,KP,hat,Zer,ZcK,hit,h1',hw',if_pos h3,decide_true,Option.getD_some,Option.isSome_some,go_sem,reduceIte,Ra,Rb,Rc,Rd]
  ·have h1':¬ bs (Lib.itoa v)=bs l:=fun g=>h1 (Zzr.mp g)
   have h3:¬ (Lib.itoa v=l ∧ -999999≤v∧v≤999999):=fun g=>h1 g.1
   simp +contextual only [X7,KP,hat,Zer,ZcK,hit,h1',if_neg h3,decide_false,WM,WN,go_sem,reduceIte,Ra,Rb,Rc,Rd]
 ·rw [hh] at hat
  simp +contextual only [X7,KP,hat,Zer,ZcK,WM,WN,go_sem,reduceIte,Ra,Rb,Rc,Rd]
 ·rw [hh] at hat
  simp +contextual only [X7,KP,hat,Zer,ZcK,WM,WN,go_sem,reduceIte,Ra,Rb,Rc,Rd]
def Zhc (p:Int):Bool:=decide (0≤p)&&decide (p≤60)
def ZuR (p:Int):Bool:=decide (0≤p)&&decide (p≤1000000)
theorem Zbi {q:Nat} {cap:Option Nat} {ls:List Ld} (h:Za H q=some (Zu ls)) (hr:Y1 ls=true) (hn:ls.length≤1048576) (p:Int):call T pr Xh [slL q ls.length cap,.int .i64 p] ⟨H,e⟩=some (.tup [.int .i64 (if Zhc p=true then Zf2 ls p else 0),.bool (Zhc p)],⟨H,e⟩):=by
 have h1:=fun (L:List Blk) (hL:Za L q=some (Zu ls))=>Jo (pr:=pr) (H:=L) (e:=none) (c:=cap) hL
 have h2:=fun (L:List Blk) (hL:Za L q=some (Zu ls))=>QA (pr:=pr) (H:=L) (e:=none) (c:=cap) hL (by omega) p
 have h3:=fun G=>Za9 (pr:=pr) (H:=G) (e:=none) p
 rw [hr] at h1
 rw [Zl Zj2]
 unfold Zhc
 cases hp:(decide (0≤p)&&decide (p≤60)) <;> rw [hp] at h3 <;> simp +contextual only [K9,Zd2,h,Zc h,h1,h2,h3,RO,if_false,if_true,go_sem,reduceIte,Ra,Rb,Rc,Rd]
theorem ZpZ:∀ (ls:List Ld) (a:Nat),ls.all okL=true→a+ls.length*5940≤1000000→∃ n:Nat,ls.foldl (Qz 0) (a:Int)=(n:Int)∧n≤a+ls.length*5940
 | [],a,_,_=>⟨a,rfl,by simp⟩
 | l::ls,a,h,hb=>by
  rw [Rn,Ru] at h
  simp only [RB] at hb
  have h1:=h.1
  unfold okL at h1
  simp only [Ru,decide_eq_true_eq] at h1
  obtain ⟨x,hx⟩:∃ x:Nat,l.1=x:=⟨l.1.toNat,by omega⟩
  obtain ⟨y,hy⟩:∃ y:Nat,l.2=y:=⟨l.2.toNat,by omega⟩
  have hxy:y*x≤99*60:=WF (by omega) (by omega)
  have e1:Qz 0 (a:Int) l=((a+y*x:Nat):Int):=by
   unfold Qz
   rw [hx,hy,Int.sub_zero,Zca (by omega:x≤9223372036854775807),←Int.natCast_mul,Zca (by omega),←Int.natCast_add,Zca (by omega)]
  obtain ⟨n,n1,n2⟩:=ZpZ ls (a+y*x) h.2 (by omega)
  refine ⟨n,?_,by simp only [RB];omega⟩
  rw [List.foldl_cons,e1,n1]
theorem Zw3 {ls:List Ld} (h:Y1 ls=true):∃ n:Nat,Zf2 ls 0=n∧n≤1000000:=by
 unfold Y1 at h
 rw [Ru,decide_eq_true_eq] at h
 obtain ⟨n,n1,n2⟩:=ZpZ ls 0 h.2 (by omega)
 exact ⟨n,n1,by omega⟩
theorem ZmU {ls:List Ld} (h:Y1 ls=true) (h0:ls.length≠0):0<(Q2 ls).toNat:=by
 unfold Y1 at h
 rw [Ru,decide_eq_true_eq] at h
 have key:∀ (ls:List Ld) (a:Nat),ls.all okL=true→a+ls.length*99≤1000000→a+ls.length≤(ls.foldl (fun a l=>IntKind.i64.wrap (a+l.2)) (a:Int)).toNat:=by
  intro ls
  induction ls with
  | nil=>intro a _ _;simp
  | cons l ls ih=>
   intro a h hb
   rw [Rn,Ru] at h
   simp only [RB] at hb
   have h1:=h.1
   unfold okL at h1
   simp only [Ru,decide_eq_true_eq] at h1
   obtain ⟨y,hy⟩:∃ y:Nat,l.2=y:=⟨l.2.toNat,by omega⟩
   have e1:IntKind.i64.wrap ((a:Int)+l.2)=((a+y:Nat):Int):=by
    rw [hy,←Int.natCast_add,Zca (by omega)]
   have:=ih (a+y) h.2 (by omega)
   rw [List.foldl_cons,e1]
   simp only [RB]
   omega
 have:=key ls 0 h.2 (by omega)
 unfold Q2
 have e:((0:Nat):Int)=0:=rfl
 rw [e] at this
 omega
def cenA (ls:List Ld):Nat:=fracA (Zf2 ls 0).toNat (Q2 ls).toNat
def cenB (ls:List Ld):Nat:=fracB (Zf2 ls 0).toNat (Q2 ls).toNat
theorem Zp0 {q:Nat} {cap:Option Nat} {ls:List Ld} (h:Za H q=some (Zu ls)) (hr:Y1 ls=true) (hn:ls.length≤1048576):call T pr Zbx [slL q ls.length cap] ⟨H,e⟩=some (if ls.length=0 then .tup [.agg [.int .i64 0,.int .i64 0],.bool false] else .tup [fvV (cenA ls) (cenB ls),.bool true],⟨H,e⟩):=by
 have h1:=fun (L:List Blk) (hL:Za L q=some (Zu ls))=>Jo (pr:=pr) (H:=L) (e:=none) (c:=cap) hL
 have h2:=fun (L:List Blk) (hL:Za L q=some (Zu ls))=>QA (pr:=pr) (H:=L) (e:=none) (c:=cap) hL (by omega) 0
 have h3:=fun (L:List Blk) (hL:Za L q=some (Zu ls))=>ZbR (pr:=pr) (H:=L) (e:=none) (c:=cap) hL (by omega)
 rw [hr] at h1
 obtain ⟨m,hm,hm1⟩:=Zw3 hr
 obtain ⟨w,hw,hw1⟩:=ZcE hr
 rw [Zl ZoK]
 by_cases h0:ls.length=0
 ·have h0':((ls.length:Nat):Int)=0:=by omega
  rw [if_pos h0]
  simp +contextual only [Zah,Zea,Zb,h,Zc h,h1,h0',decide_true,go_sem,reduceIte,Ra,Rb,Rc,Rd]
 ·have h0':¬ ((ls.length:Nat):Int)=0:=by omega
  have hp:=ZmU hr h0
  rw [hw] at h3 hp
  rw [hm] at h2
  have h4:=fun (L:List Blk)=>JQ (pr:=pr) (H:=L) (e:=none) (x:=m) (y:=w) (by simpa using hp) (by omega) (by omega)
  rw [if_neg h0]
  unfold cenA cenB
  rw [hm,hw]
  simp +contextual only [Zah,Zea,Zb,h,Zc h,h1,h2,h3,h4,h0',decide_false,Wq,go_sem,reduceIte,Ra,Rb,Rc,Rd]
def mostW (ss:List Sg) (n:Nat):Nat:=n*ZS 1 1 ss / ZX 1 1 ss
theorem Zbj {ss:List Sg} (hc:ZU ss=true) (n:Nat) (hn:n≤1000000):0<ZS 1 1 ss∧ZS 1 1 ss≤254803968∧0<ZX 1 1 ss∧ZX 1 1 ss≤254803968∧n*ZS 1 1 ss≤254803968000000:=by
 have hc':=hc
 unfold ZU at hc'
 rw [Ru,decide_eq_true_eq] at hc'
 obtain ⟨a1,a2,b1,b2⟩:=Zeg ss 0 1 1 hc'.1 (by omega) (by decide) (by decide)
 exact ⟨a1,a2,b1,b2,Ww (WF hn a2) (by decide)⟩
theorem Zp1 {q:Nat} {c:Option Nat} {ss:List Sg} (h:Za H q=some (ZI ss)) (hc:ZU ss=true) (hm:ss.length≤1048576) (x:Int):call T pr Zby [slS q ss.length c,.int .i64 x] ⟨H,e⟩=some (.tup [.int .i64 (if ZuR x=true then (mostW ss x.toNat:Int) else 0),.bool (ZuR x)],⟨H,e⟩):=by
 have h1:∀ L,Za L q=some (ZI ss)→call T pr YE [slS q ss.length c] ⟨L,none⟩=some (.bool true,⟨L,none⟩):=fun L hL=>by have:=XP (pr:=pr) (e:=none) (c:=c) hL (by omega);rw [hc] at this;exact this
 have h2:∀ L,Za L q=some (ZI ss)→call T pr Xz [slS q ss.length c] ⟨L,none⟩=some (fvV (ZS 1 1 ss) (ZX 1 1 ss),⟨L,none⟩):=fun L hL=>Zdp hL hc
 have h3:=fun (L:List Blk)=>ZeT (pr:=pr) (H:=L) (e:=none) x
 unfold ZuR
 cases hx:(decide (0≤x)&&decide (x≤1000000)) with
 | false=>
  rw [hx] at h3
  have h4:∀ L e',Za L q=some (ZI ss)→call T pr Za0 [slS q ss.length c,.int .i64 x] ⟨L,e'⟩=some (.tup [.agg [.int .i64 0,.int .i64 0],.bool false],⟨L,e'⟩):=fun L e' hL=>by
   rw [Zl Zj9]
   simp +contextual only [Za6,ZfC,Zb,hL,Zc hL,h1,h3,go_sem,reduceIte,Ra,Rb,Rc,Rd]
  rw [Zl Zik]
  simp +contextual only [Zai,Zeb,Zb,h,Zc h,h4,RO,if_false,go_sem,reduceIte,Ra,Rb,Rc,Rd]
 | true=>
  rw [hx] at h3
  have hx':0≤x∧x≤1000000:=by simpa [Ru,decide_eq_true_eq] using hx
  obtain ⟨n,rfl⟩:∃ n:Nat,x=n:=⟨x.toNat,by omega⟩
  obtain ⟨a1,a2,b1,b2,ab⟩:=Zbj hc n (by omega)
  have w1:IntKind.i64.wrap ((n:Int)*(ZS 1 1 ss:Int))=((n*ZS 1 1 ss:Nat):Int):=by rw [←Int.natCast_mul];exact Zca (by omega)
  have h5:=fun (L:List Blk)=>JQ (pr:=pr) (H:=L) (e:=none) (x:=n*ZS 1 1 ss) (y:=ZX 1 1 ss) b1 (by omega) (by omega)
  have h4:∀ L e',Za L q=some (ZI ss)→call T pr Za0 [slS q ss.length c,.int .i64 n] ⟨L,e'⟩=some (.tup [fvV (fracA (n*ZS 1 1 ss) (ZX 1 1 ss)) (fracB (n*ZS 1 1 ss) (ZX 1 1 ss)),.bool true],⟨L,e'⟩):=fun L e' hL=>by
   rw [Zl Zj9]
   simp +contextual only [Za6,ZfC,Zb,hL,Zc hL,h1,h2,h3,w1,h5,ZgE,ZgF,ZfL,Wo,WC,Int.toNat_one,Nat.zero_mul,Wv,go_sem,reduceIte,Ra,Rb,Rc,Rd]
  have hfl:=Zuz (n*ZS 1 1 ss) (ZX 1 1 ss) b1
  have hbp:=Zem (n*ZS 1 1 ss) (ZX 1 1 ss) b1
  have hq0:¬ ((fracB (n*ZS 1 1 ss) (ZX 1 1 ss):Nat):Int)=0:=by omega
  have hml:n*ZS 1 1 ss / ZX 1 1 ss≤254803968000000:=Ww (Rr _ _) ab
  have w2:IntKind.i64.wrap (Int.tdiv (fracA (n*ZS 1 1 ss) (ZX 1 1 ss):Int) (fracB (n*ZS 1 1 ss) (ZX 1 1 ss):Int))=(mostW ss n:Int):=by
   rw [←Int.ofNat_tdiv,hfl]
   exact Zca (by omega)
  rw [Zl Zik]
  simp +contextual only [Zai,Zeb,Zb,h,Zc h,h4,hq0,w2,ZgE,ZgF,ZfL,Wo,WC,Int.toNat_one,Nat.zero_mul,Wv,if_true,Wq,go_sem,reduceIte,Ra,Rb,Rc,Rd]
def ZgY (n:Int):Int:=if n≤3 then 1 else if n≤9 then 2 else if n≤27 then 3 else 4
def ZyQ (n:Int):Bool:=decide (2≤n)&&decide (n≤40)
def ZsC (n k p:Int) (j:Nat):Prop:=(k=0∧p=1∧j=4)∨(k=1∧p=3∧j=3)∨(k=2∧p=9∧3<n∧j=2)∨(k=3∧p=27∧9<n∧j=1)∨(k=4∧p=81∧27<n∧j=0)
theorem Zw4 {n k p:Int} {j:Nat} (h:ZsC n k p j) (hn:n≤40) (hp:p<n):ZsC n (k+1) (p*3) (j - 1)∧0<j∧0≤k∧k≤3∧0<p∧p≤27:=by
 rcases h with ⟨rfl,rfl,rfl⟩|⟨rfl,rfl,rfl⟩|⟨rfl,rfl,h1,rfl⟩|⟨rfl,rfl,h1,rfl⟩|⟨rfl,rfl,h1,rfl⟩
 ·exact ⟨.inr (.inl ⟨rfl,rfl,rfl⟩),by omega,by omega,by omega,by omega,by omega⟩
 ·exact ⟨.inr (.inr (.inl ⟨rfl,rfl,hp,rfl⟩)),by omega,by omega,by omega,by omega,by omega⟩
 ·exact ⟨.inr (.inr (.inr (.inl ⟨rfl,rfl,hp,rfl⟩))),by omega,by omega,by omega,by omega,by omega⟩
 ·exact ⟨.inr (.inr (.inr (.inr ⟨rfl,rfl,hp,rfl⟩))),by omega,by omega,by omega,by omega,by omega⟩
 ·omega
theorem ZyR {n k p:Int} {j:Nat} (h:ZsC n k p j) (hn1:2≤n) (hn:n≤40) (hp:¬ p<n):k=ZgY n:=by
 unfold ZgY
 rcases h with ⟨rfl,rfl,rfl⟩|⟨rfl,rfl,rfl⟩|⟨rfl,rfl,h1,rfl⟩|⟨rfl,rfl,h1,rfl⟩|⟨rfl,rfl,h1,rfl⟩
 ·omega
 ·rw [if_pos (by omega)]
 ·rw [if_neg (by omega),if_pos (by omega)]
 ·rw [if_neg (by omega),if_neg (by omega),if_pos (by omega)]
 ·rw [if_neg (by omega),if_neg (by omega),if_neg (by omega)]
theorem ZfW (n:Int):call T pr Ja [.int .i64 n] ⟨H,e⟩=some (.tup [.int .i64 (if ZyQ n=true then ZgY n else 0),.bool (ZyQ n)],⟨H,e⟩):=by
 have h1:∀ L,call T pr Zbz [.int .i64 n] ⟨L,none⟩=some (.bool (ZyQ n),⟨L,none⟩):=fun L=>by
  have h2:=fun (L:List Blk)=>Z0 (pr:=pr) (H:=L) (e:=none) n 2 40
  rw [Zl ZoM]
  unfold ZyQ
  simp +contextual only [ZbM,Zih,h2,go_sem,reduceIte,Ra,Rb,Rc,Rd]
 apply Wc.eq
 rw [ZK ZfD]
 cases hn:ZyQ n with
 | false=>
  rw [hn] at h1
  simp +contextual only [YG,KG,h1,RO,if_false,pp,go_sem,reduceIte,Ra,Rb,Rc,Rd]
 | true=>
  rw [hn] at h1
  have hn':2≤n∧n≤40:=by unfold ZyQ at hn;simpa [Ru,decide_eq_true_eq] using hn
  simp +contextual only [YG,KG,h1,if_true,pp,go_sem,reduceIte,Ra,Rb,Rc,Rd]
  refine XQ (fun j st=>∃ (k p:Int) (w6:AV),ZsC n k p j∧st=⟨[.int .i64 n,.int .i64 0,.bool false,.int .i64 k,.int .i64 p,.bool false,w6],⟨H,none⟩⟩) ?_ 4 _ ⟨0,1,_,.inl ⟨rfl,rfl,rfl⟩,rfl⟩
  rintro j _ ⟨k,p,w6,hj,rfl⟩
  by_cases hp:p<n
  ·have hj':=Zw4 hj hn'.2 hp
   obtain ⟨g1,g2,g3,g4,g5,g6⟩:=hj'
   have e1:IntKind.i64.wrap (k+1)=k+1:=Yc (by omega) (by omega)
   have e2:IntKind.i64.wrap (p*3)=p*3:=Yc (by omega) (by omega)
   simp +contextual only [JM,hp,e1,e2,decide_true,pp,go_sem,reduceIte,Ra,Rb,Rc,Rd]
   exact ⟨j - 1,by omega,_,_,_,g1,rfl⟩
  ·have hk:k=ZgY n:=ZyR hj hn'.1 hn'.2 hp
   subst hk
   simp +contextual only [JM,YG,hp,decide_false,pp,go_sem,reduceIte,Ra,Rb,Rc,Rd]
def mvF (m:Int):Nat→List Ld→Option (Nat×Int)
 | _,[]=>none
 | i,l::ls=>if Int.tmod m l.2=0∧Zhc (IntKind.i64.wrap (l.1 - IntKind.i64.wrap (Int.tdiv m l.2)))=true then some (i,IntKind.i64.wrap (l.1 - IntKind.i64.wrap (Int.tdiv m l.2))) else mvF m (i+1) ls
def ZrO (ls:List Ld) (p:Int):Option (Nat×Int):=if Zhc p=true∧¬ Zf2 ls p=0 then mvF (Zf2 ls p) 0 ls else none
def mvV:Option (Nat×Int)→AV
 | some (i,p)=>.tup [.int .i64 i,.int .i64 p,.bool true]
 | none=>.tup [.int .i64 0,.int .i64 0,.bool false]
theorem Zzy {m:Int}:∀ {ls:List Ld} {i j:Nat} {p:Int},mvF m i ls=some (j,p)→j<i+ls.length∧0≤p∧p≤60
 | [],_,_,_,h=>by cases h
 | l::ls,i,j,p,h=>by
  unfold mvF at h
  split at h
  ·rename_i hc
   cases h
   have:=hc.2
   unfold Zhc at this
   simp only [Ru,decide_eq_true_eq] at this
   exact ⟨by simp,this⟩
  ·have:=Zzy h
   simp only [RB]
   omega
theorem ZrP {q:Nat} {cap:Option Nat} {ls:List Ld} (h:Za H q=some (Zu ls)) (hr:Y1 ls=true) (hn:ls.length≤1048576) (p:Int):call T pr Zc1 [slL q ls.length cap,.int .i64 p] ⟨H,e⟩=some (mvV (ZrO ls p),⟨H,e⟩):=by
 have h1:∀ L,Za L q=some (Zu ls)→call T pr Xh [slL q ls.length cap,.int .i64 p] ⟨L,none⟩=some (.tup [.int .i64 (if Zhc p=true then Zf2 ls p else 0),.bool (Zhc p)],⟨L,none⟩):=fun L hL=>Zbi hL hr hn p
 have h3:∀ L x,call T pr XI [.int .i64 x] ⟨L,none⟩=some (.bool (Zhc x),⟨L,none⟩):=fun L x=>Za9 x
 have h2:∀ L,Za L q=some (Zu ls)→call T pr K8 [slL q ls.length cap,.int .i64 p] ⟨L,none⟩=some (.tup [.int .i64 (if Zhc p=true then Zf2 ls p else 0),.bool (Zhc p&&decide (¬ Zf2 ls p=0))],⟨L,none⟩):=fun L hL=>by
  rw [Zl Znj]
  cases hp:Zhc p <;> rw [hp] at h1 <;> simp +contextual only [ZaH,Zgl,hL,h1,RO,if_true,if_false,Bool.false_and,RI,go_sem,reduceIte,Ra,Rb,Rc,Rd]
  by_cases hm:Zf2 ls p=0 <;> simp [hm]
 unfold ZrO
 by_cases hp:Zhc p=true∧¬ Zf2 ls p=0
 ·rw [if_pos hp]
  rw [hp.1,decide_eq_true hp.2] at h2
  simp only [if_true,Bool.and_self] at h2
  generalize Zf2 ls p=m at *
  apply Wc.eq
  rw [ZK Zj8]
  simp +contextual only [KF,ZfB,h,h2,pp,go_sem,reduceIte,Ra,Rb,Rc,Rd]
  refine XQ (fun k st=>∃ (i:Nat) (L:List Blk) (w7 w8 w9 w14 w15:AV),i+k=ls.length∧YR H L∧mvF m i (ls.drop i)=mvF m 0 ls ∧
   st=⟨[slL q ls.length cap,.int .i64 p,.int .i64 0,.int .i64 0,.bool false,.int .i64 m,.bool true,w7,w8,w9,.bool false,slL q ls.length cap,.int .i64 ls.length,.int .i64 i,w14,w15],⟨L,none⟩⟩) ?_ ls.length _ ⟨0,H,_,_,_,_,_,by omega,YR.refl H,by rw [Rk],rfl⟩
  rintro k _ ⟨i,L,w7,w8,w9,w14,w15,hik,hL,hmv,rfl⟩
  by_cases hk:k=0
  ·have he:i=ls.length:=by omega
   subst he
   rw [Rp] at hmv
   rw [←hmv]
   simp +contextual only [Qv,KF,Ri,decide_false,mvF,mvV,ZxM hL,Zp,pp,go_sem,reduceIte,Ra,Rb,Rc,Rd]
  ·have hi':i<ls.length:=by omega
   have hl:ls[i]?=some ls[i]:=Rl hi'
   have hq:Za L q=some (Zu ls):=by
    obtain ⟨G,rfl⟩:=hL
    exact Zc h G
   have hok:okL ls[i]=true:=by
    unfold Y1 at hr
    rw [Ru] at hr
    exact (List.all_eq_true.mp hr.2) _ (Wx hi')
   have hw0:¬ ls[i].2=0:=by
    unfold okL at hok
    simp only [Ru,decide_eq_true_eq] at hok
    omega
   rw [Rm hi',mvF] at hmv
   generalize ls[i]=l at *
   have hsw:=Zw (show i<9223372036854775807 by omega)
   generalize hat:IntKind.i64.wrap (l.1 - IntKind.i64.wrap (Int.tdiv m l.2))=at' at *
   by_cases hm:Int.tmod m l.2=0
   ·cases hpl:Zhc at' with
    | true=>
     rw [if_pos ⟨hm,hpl⟩] at hmv
     rw [←hmv]
     simp (maxSteps:=2000000) +contextual only [Qv,KF,Zb,hi',hq,JP hl,hw0,hat,hm,h3,hpl,mvV,(hL.more _).more,ZxM ((hL.more _)),Zp,decide_true,pp,go_sem,reduceIte,Ra,Rb,Rc,Rd]
    | false=>
     rw [if_neg (by rintro ⟨_,g⟩;rw [hpl] at g;cases g)] at hmv
     simp (maxSteps:=2000000) +contextual only [Qv,Zb,hi',hq,JP hl,hw0,hat,hm,h3,hpl,hsw,decide_true,decide_false,pp,go_sem,reduceIte,Ra,Rb,Rc,Rd]
     exact ⟨k - 1,by omega,i+1,_,_,_,_,_,_,by omega,hL.more _,hmv,rfl⟩
   ·rw [if_neg (by rintro ⟨g,_⟩;exact hm g)] at hmv
    simp (maxSteps:=2000000) +contextual only [Qv,Zb,hi',hq,JP hl,hw0,hat,hm,h3,hsw,decide_true,decide_false,pp,go_sem,reduceIte,Ra,Rb,Rc,Rd]
    exact ⟨k - 1,by omega,i+1,_,_,_,_,_,_,by omega,hL.more _,hmv,rfl⟩
 ·rw [if_neg hp]
  have h2':∃ x,call T pr K8 [slL q ls.length cap,.int .i64 p] ⟨H,none⟩=some (.tup [.int .i64 x,.bool false],⟨H,none⟩):=by
   refine ⟨if Zhc p=true then Zf2 ls p else 0,?_⟩
   rw [h2 H h]
   have:(Zhc p&&decide (¬ Zf2 ls p=0))=false:=by
    rw [Bool.eq_false_iff]
    intro g
    simp only [Ru,decide_eq_true_eq] at g
    exact hp g
   rw [this]
  obtain ⟨x,hx⟩:=h2'
  rw [Zl Zj8]
  simp +contextual only [KF,ZfB,hx,mvV,go_sem,reduceIte,Ra,Rb,Rc,Rd]
def ZuA (ls:List Ld):By:=Lib.join (ls.map fun l=>KK 58 [l.1,l.2]) [32]
def ZdB (ls:List Ld):By:=if ls.length=0 then [110,111,110,101] else ZuA ls
theorem Zw5 {ls:List Ld} (hr:Y1 ls=true):ls.length≤12∧∀ l∈ls,ZdT l.1∧ZdT l.2:=by
 unfold Y1 at hr
 rw [Ru,decide_eq_true_eq] at hr
 refine ⟨by omega,fun l hl => ?_⟩
 have:=(List.all_eq_true.mp hr.2) l hl
 unfold okL at this
 simp only [Ru,decide_eq_true_eq] at this
 unfold ZdT
 omega
theorem ZyS (l:Ld) (h:ZdT l.1∧ZdT l.2):(KK 58 [l.1,l.2]).length≤44:=by
 have:=Zep 58 [l.1,l.2] (by intro z hz;simp at hz;rcases hz with rfl | rfl;exact h.1;exact h.2)
 simpa using this
theorem Zw6 (ls:List Ld) (h:∀ l∈ls,ZdT l.1∧ZdT l.2):(ZuA ls).length≤ls.length*45:=by
 have:=ZgX [32] 44 (ls.map fun l=>KK 58 [l.1,l.2]) fun x hx=>by
  obtain ⟨l,h1,rfl⟩:=RS.mp hx
  exact ZyS l (h l h1)
 simpa [ZuA] using this
theorem Zk5 (hi:Jg pr) (hj:ZfU pr) {q:Nat} {cap:Option Nat} {ls:List Ld} (h:Za H q=some (Zu ls)) (hr:Y1 ls=true):call T pr ZaW [slL q ls.length cap] ⟨H,e⟩=some (.tup [sV (ZdB ls),.bool true],⟨H,e⟩):=by
 obtain ⟨hn,hf⟩:=Zw5 hr
 have h1:∀ L,Za L q=some (Zu ls)→call T pr XT [slL q ls.length cap] ⟨L,none⟩=some (.bool true,⟨L,none⟩):=fun L hL=>by rw [←hr];exact Jo hL
 have hnt:∀ (L:List Blk) (q:Nat) (cap:Option Nat) (a b:Int),ZdT a→ZdT b→Za L q=some [.int .i64 a,.int .i64 b]→call T pr Ye [.slice (some (q,0)) 1 2 cap,.str ⟨#[58]⟩] ⟨L,none⟩=some (sV (KK 58 [a,b]),⟨L,none⟩) :=
  fun L q cap a b ha hb h=>QD (zs:=[a,b]) hi hj h (by simp) (by intro z hz;simp at hz;rcases hz with rfl | rfl <;> assumption) 58
 unfold ZdB
 apply Wc.eq
 rw [ZK ZqF]
 by_cases h0:ls.length=0
 ·have h0':((ls.length:Nat):Int)=0:=by omega
  rw [if_pos h0]
  simp (maxSteps:=2000000) +contextual only [QQ,Zfz,h,h1,h0',decide_true,pp,go_sem,reduceIte,Ra,Rb,Rc,Rd]
 ·have h0':¬ ((ls.length:Nat):Int)=0:=by omega
  rw [if_neg h0]
  simp (maxSteps:=2000000) +contextual only [QQ,Zfz,Zb,h,h1,h0',decide_false,pp,go_sem,reduceIte,Ra,Rb,Rc,Rd]
  refine XQ (fun k st=>∃ (i b:Nat) (cc:Option Nat) (L:List Blk) (w4 w10:AV),i+k=ls.length∧(cc=some 0→i=0)∧YR H L∧H.length≤b∧L[b]?=some (.cells (Zfo ((ls.take i).map fun l=>KK 58 [l.1,l.2])) true) ∧
   st=⟨[slL q ls.length cap,.str ⟨#[]⟩,.bool false,slX b i cc,w4,.bool false,.bool false,slL q ls.length cap,.int .i64 ls.length,.int .i64 i,w10],⟨L,none⟩⟩) ?_ ls.length _ ⟨0,H.length,some 0,_,_,_,by omega,fun _=>rfl,⟨_,rfl⟩,Rt _,by rw [Xe];rfl,rfl⟩
  rintro k _ ⟨i,b,cc,L,w4,w10,hik,hcc,hL,hb,hLb,rfl⟩
  have hq:Za L q=some (Zu ls):=by
   obtain ⟨G,rfl⟩:=hL
   exact Zc h G
  by_cases hk:k=0
  ·have he:i=ls.length:=by omega
   subst he
   rw [WK] at hLb
   have hrl:=Zw6 ls hf
   have hjn:=hj (ls.map fun l=>KK 58 [l.1,l.2]) 32 b cc L none (Ze hLb) (by simp;omega) (by unfold ZuA at hrl;omega)
   rw [Wn] at hjn
   unfold ZuA
   simp (maxSteps:=2000000) +contextual only [Zc6,QQ,Ri,decide_false,hjn,ZxM hL,Zp,pp,go_sem,reduceIte,Ra,Rb,Rc,Rd]
  ·have hi':i<ls.length:=by omega
   have hl:ls[i]?=some ls[i]:=Rl hi'
   obtain ⟨f1,f2⟩:=hf ls[i] (Wx hi')
   have htk:(ls.take i).map (fun l=>KK 58 [l.1,l.2])++[KK 58 [ls[i].1,ls[i].2]]=(ls.take (i+1)).map fun l=>KK 58 [l.1,l.2]:=by
    rw [WL hi',WE]
    rfl
   generalize ls[i]=l at *
   have hnt':=fun L q cap hc=>hnt L q cap l.1 l.2 f1 f2 hc
   simp (maxSteps:=2000000) +contextual only [Zc6,Zb,hi',hq,JP hl,hnt',Zw (show i<9223372036854775807 by omega),decide_true,pp,go_sem,reduceIte,Ra,Rb,Rc,Rd]
   refine Zn0 (k:=1) (new:=[sV (KK 58 [l.1,l.2])]) (ZY hLb _) (Zbh _ 1 1 _ _ (L.length+2) (by simp +contextual only [go_sem,reduceIte,Ra,Rb,Rc,Rd]) rfl) (by rw [ZfS];simp;omega) rfl (by unfold maxBytes;omega) hcc ?_
   intro L2 e1 e2 e3 e4
   have e3':Zfo ((ls.take i).map fun l=>KK 58 [l.1,l.2])++[sV (KK 58 [l.1,l.2])]=Zfo ((ls.take (i+1)).map fun l=>KK 58 [l.1,l.2]):=by rw [←htk,ZfT];rfl
   rw [e3'] at e3
   simp (maxSteps:=2000000) +contextual only [Zw (show i<9223372036854775807 by omega),pp,go_sem,reduceIte,Ra,Rb,Rc,Rd]
   exact ⟨k - 1,by omega,i+1,_,none,L2,_,_,by omega,by simp,e4 _ (hL.more _) hb,by have:=hL.le;simp;omega,by simpa using e3,rfl⟩
def stepA (ss:List Sg) (n:Nat):Nat:=fracA (n*ZX 1 1 ss) (ZS 1 1 ss)
def stepBW (ss:List Sg) (n:Nat):Nat:=fracB (n*ZX 1 1 ss) (ZS 1 1 ss)
def ZyT (ss:List Sg) (n:Nat) (ps:List Ld):Prop:=ps.length=ss.length+1∧ps[ss.length]?=some ((stepA ss n:Int),(stepBW ss n:Int))
theorem Zw7 {s:Sg} {a b i:Nat} (h:Xj s=true) (ha:a≤1000000*24 ^ i) (hb:0<b∧b≤48 ^ i) (hi:i<5) :
  a*gainB s≤1000000*24 ^ (i+1)∧0<b*gainA s∧b*gainA s≤48 ^ (i+1)∧1000000*24 ^ (i+1)≤7962624000000∧48 ^ (i+1)≤254803968:=by
 obtain ⟨g1,g2,g3,g4⟩:=ZfK h
 refine ⟨?_,WB hb.1 g1,?_,?_,?_⟩
 ·rw [WD,←Nat.mul_assoc]
  exact WF ha g4
 ·rw [WD]
  exact WF hb.2 g2
 ·have:(24:Nat) ^ (i+1)≤24 ^ 5:=RD (by omega) (by omega)
  have e:(24:Nat) ^ 5=7962624:=by decide
  omega
 ·have:(48:Nat) ^ (i+1)≤48 ^ 5:=RD (by omega) (by omega)
  have e:(48:Nat) ^ 5=254803968:=by decide
  omega
theorem Zw8 (ps:List Ld) (a b:Int):Zu ps++[.int .i64 a,.int .i64 b]=Zu (ps++[(a,b)]):=by
 rw [Q0];rfl
theorem ZuB {L:List Blk} {b sz n:Nat} {c:Option Nat} {cs:List AV} {w:Bool} (v0:AV) (h0:AV.roots H.length v0=[]) (h0':∀ f,AV.rename f v0=v0) (hL:YR H L) (e0 e1:Option Nat) (hc:clean H.length e1=true) (hb:H.length≤b) (hG:L[b]?=some (.cells cs w)) (hu:(cs.all fun c=>c.under H.length)=true) :
  finish 2 H.length e0 (.tup [.slice (some (b,0)) sz n c,v0]) ⟨L,e1⟩=some (.tup [.slice (some (H.length,0)) sz n c,v0],⟨H++[.cells cs w],e0⟩):=by
 obtain ⟨G,rfl⟩:=hL
 obtain ⟨j,rfl⟩:∃ j,b=H.length+j:=⟨b - H.length,by omega⟩
 have hlt:¬ H.length+j<H.length:=by omega
 have hr:X6 (AV.roots H.length (.tup [.slice (some (H.length+j,0)) sz n c,v0]))=[H.length+j]:=by
  simp only [AV.roots,AV.roots.go,h0,if_neg hlt,Rq]
  simp [X6]
 unfold finish
 simp only [hr]
 have h2:([H.length+j].all fun b=>XG H.length (H++G)[b]?)=true:=by
  simp only [Rn,List.all_nil,Bool.and_true,hG,XG,hu]
 simp only [hc,h2,and_self,if_true]
 simp [AV.rename,AV.rename.go,ZaT,hlt,hG,h0']
theorem ZdC {L:List Blk} {b sz n:Nat} {c:Option Nat} {cs:List AV} {w:Bool} (x:Bool) (hL:YR H L) (e0 e1:Option Nat) (hc:clean H.length e1=true) (hb:H.length≤b) (hG:L[b]?=some (.cells cs w)) (hu:(cs.all fun c=>c.under H.length)=true) :
  finish 2 H.length e0 (.tup [.slice (some (b,0)) sz n c,.bool x]) ⟨L,e1⟩=some (.tup [.slice (some (H.length,0)) sz n c,.bool x],⟨H++[.cells cs w],e0⟩) :=
 ZuB (.bool x) (by simp [AV.roots]) (fun f=>by simp [AV.rename]) hL e0 e1 hc hb hG hu
theorem Zi1 {q:Nat} {c:Option Nat} {ss:List Sg} (h:Za H q=some (ZI ss)) (hc:ZU ss=true) (hm:ss.length≤1048576) (x:Int) (hx:ZuR x=false):call T pr K5 [slS q ss.length c,.int .i64 x] ⟨H,e⟩=some (.tup [Kp,.bool false],⟨H,e⟩):=by
 have h1:∀ L,Za L q=some (ZI ss)→call T pr YE [slS q ss.length c] ⟨L,none⟩=some (.bool true,⟨L,none⟩):=fun L hL=>by have:=XP (pr:=pr) (e:=none) (c:=c) hL (by omega);rw [hc] at this;exact this
 have h3:∀ L,call T pr KO [.int .i64 x] ⟨L,none⟩=some (.bool false,⟨L,none⟩):=fun L=>by have:=ZeT (pr:=pr) (H:=L) (e:=none) x;unfold ZuR at hx;rw [hx] at this;exact this
 apply Wc.eq
 rw [ZK Zgr]
 simp (maxSteps:=2000000) +contextual only [JZ,Zdd,Zb,h,h1,h3,pp,go_sem,reduceIte,Ra,Rb,Rc,Rd,ff]
theorem Zn2 {q:Nat} {c:Option Nat} {ss:List Sg} (h:Za H q=some (ZI ss)) (hc:ZU ss=true) (n:Nat) (hn:n≤1000000):Wc (call T pr K5 [slS q ss.length c,.int .i64 n] ⟨H,e⟩) (fun v m=>∃ (cap:Option Nat) (ps:List Ld),v=.tup [slL H.length (ss.length+1) cap,.bool true]∧m=⟨H++[.cells (Zu ps) true],e⟩∧ZyT ss n ps):=by
 have hc':=hc
 unfold ZU at hc'
 rw [Ru,decide_eq_true_eq] at hc'
 have hlen:=hc'.2
 have h1:∀ L,Za L q=some (ZI ss)→call T pr YE [slS q ss.length c] ⟨L,none⟩=some (.bool true,⟨L,none⟩):=fun L hL=>by have:=XP (pr:=pr) (e:=none) (c:=c) hL (by omega);rw [hc] at this;exact this
 have h3:∀ L,call T pr KO [.int .i64 n] ⟨L,none⟩=some (.bool true,⟨L,none⟩):=fun L=>by
  have:=ZeT (pr:=pr) (H:=L) (e:=none) (n:Int)
  rw [decide_eq_true (by omega),decide_eq_true (by omega)] at this
  exact this
 obtain ⟨pa,pb⟩:=ZwX n ss hc'.1
 rw [ZK Zgr]
 simp (maxSteps:=2000000) +contextual only [JZ,Zdd,Zb,h,h1,h3,pp,go_sem,reduceIte,Ra,Rb,Rc,Rd]
 refine XQ (fun k st=>∃ (i a b j:Nat) (cc:Option Nat) (ps:List Ld) (G:List Blk) (w6 w7 w12:AV),i+k=ss.length∧a≤1000000*24 ^ i∧(0<b∧b≤48 ^ i)∧ZiA a b (ss.drop i)=ZiA n 1 ss∧ZiB a b (ss.drop i)=ZiB n 1 ss ∧
   (cc=some 0→ps.length=0)∧G[j]?=some (.cells (Zu ps) true)∧ps.length=i+1∧ps[i]?=some ((a:Int),(b:Int)) ∧
   st=⟨[slS q ss.length c,.int .i64 n,.slice none 0 0 none,.bool false,.ptr (some (H.length,0)),slL (H.length+(j+1)) (i+1) cc,w6,w7,.bool false,slS q ss.length c,.int .i64 ss.length,.int .i64 i,w12],⟨H++(.cells [.int .i64 a,.int .i64 b] true::G),none⟩⟩) ?_ ss.length _
  ⟨0,n,1,0,some 1,[((n:Int),1)],_,_,_,_,by omega,by simpa using hn,by decide,by rw [Rk],by rw [Rk],by simp,rfl,rfl,rfl,rfl⟩
 rintro k _ ⟨i,a,b,j,cc,ps,G,w6,w7,w12,hik,ha,hb,hpa,hpb,hcc,hG,hps,hlast,rfl⟩
 by_cases hk:k=0
 ·have he:i=ss.length:=by omega
  subst he
  rw [Rp] at hpa hpb
  simp only [ZiA,ZiB] at hpa hpb
  have hf:∀ (e0 e1:Option Nat),clean H.length e1=true→finish 2 H.length e0 (.tup [slL (H.length+(j+1)) (ss.length+1) cc,.bool true]) ⟨H++(.cells [.int .i64 a,.int .i64 b] true::G),e1⟩=some (.tup [slL H.length (ss.length+1) cc,.bool true],⟨H++[.cells (Zu ps) true],e0⟩):=fun e0 e1 hc=>
   ZdC true ⟨_,rfl⟩ e0 e1 hc (by omega) (by rw [Rs (by omega)];simpa using hG) (Yk _ _)
  simp (maxSteps:=2000000) +contextual only [Za5,JZ,Ri,decide_false,hf,Zp,pp,go_sem,reduceIte,Ra,Rb,Rc,Rd]
  exact ⟨cc,ps,rfl,rfl,hps,by rw [hlast,hpa,hpb,pa,pb];rfl⟩
 ·have hi':i<ss.length:=by omega
  have hl:ss[i]?=some ss[i]:=Rl hi'
  have hs:Xj ss[i]=true:=(List.all_eq_true.mp hc'.1) _ (Wx hi')
  rw [Rm hi'] at hpa hpb
  simp only [ZiA,ZiB] at hpa hpb
  generalize ss[i]=s at *
  obtain ⟨g1,g2,g3,g4,g5⟩:=Zw7 hs ha hb (by omega)
  have w1:IntKind.i64.wrap ((a:Int)*(gainB s:Int))=((a*gainB s:Nat):Int):=by rw [←Int.natCast_mul];exact Zca (by omega)
  have w2:IntKind.i64.wrap ((b:Int)*(gainA s:Int))=((b*gainA s:Nat):Int):=by rw [←Int.natCast_mul];exact Zca (by omega)
  have hf:=fun L=>JQ (pr:=pr) (H:=L) (e:=none) (x:=a*gainB s) (y:=b*gainA s) g2 (by omega) (by omega)
  simp (maxSteps:=2000000) +contextual only [Za5,Zb,Zc h,hi',ZcD hl,ZgD s hs,ZgE,ZgF,ZfL,Wo,WC,Int.toNat_one,Nat.zero_mul,Wv,w1,w2,hf,Zw (show i<9223372036854775807 by omega),decide_true,pp,go_sem,reduceIte,Ra,Rb,Rc,Rd]
  have f1:fracA (a*gainB s) (b*gainA s)≤a*gainB s:=Rr _ _
  have f2:=Zem (a*gainB s) (b*gainA s) g2
  have f3:fracB (a*gainB s) (b*gainA s)≤b*gainA s:=Rr _ _
  generalize fracA (a*gainB s) (b*gainA s)=a' at *
  generalize fracB (a*gainB s) (b*gainA s)=b' at *
  refine Zn0 (k:=1) (new:=[.int .i64 a',.int .i64 b']) (cs:=Zu ps) (by rw [Rs (by omega)];simpa using ZY hG _) (Zbh _ 1 2 _ _ (H.length+(G.length+2+1)) (by simp +contextual only [go_sem,reduceIte,Ra,Rb,Rc,Rd]) rfl) (by rw [Yv];omega) rfl (by unfold maxBytes;omega) (fun g=>by have:=hcc g;omega) ?_
  intro L2 e1 e2 e3 e4
  obtain ⟨G2,rfl⟩:=e4 (H++[.cells [.int .i64 a',.int .i64 b'] true]) ⟨_,List.append_cons _ _ _⟩ (by simp)
  rw [Zw8] at e3
  simp (maxSteps:=2000000) +contextual only [Zw (show i<9223372036854775807 by omega),pp,go_sem,reduceIte,Ra,Rb,Rc,Rd]
  have e3':G2[G.length+3]?=some (.cells (Zu (ps++[((a':Int),(b':Int))])) true):=by
   rw [Rs (by simp)] at e3
   simp only [RL,RB,List.length_nil] at e3
   rw [show H.length+(G.length+(0+1+1+1)+1) - (H.length+(0+1))=G.length+3 by omega] at e3
   exact e3
  have hla:(ps++[((a':Int),(b':Int))])[i+1]?=some ((a':Int),(b':Int)):=by
   rw [Rs (by omega),hps]
   simp
  exact ⟨k - 1,by omega,i+1,a',b',G.length+3,none,ps++[((a':Int),(b':Int))],G2,_,_,_,by omega,Ww f1 g1,⟨f2,Ww f3 g3⟩,hpa,hpb,by simp,e3',by simp [hps],hla,rfl⟩
def KT:Nat→List (List Int)
 | 0=>[[]]
 | n+1=>[-1,0,1].flatMap fun s=>(KT n).map (s :: ·)
theorem Zn3:∀ n,∀ l∈KT n,l.length=n∧∀ x∈l,x = -1∨x=0∨x=1
 | 0,l,h=>by
  simp only [KT,List.mem_singleton] at h
  subst h
  simp
 | n+1,l,h=>by
  simp only [KT,WG,RS] at h
  obtain ⟨s,hs,t,ht,rfl⟩:=h
  obtain ⟨h1,h2⟩:=Zn3 n t ht
  refine ⟨by simp [h1],fun x hx => ?_⟩
  rcases RQ.mp hx with rfl | hx
  ·simpa using hs
  ·exact h2 x hx
def dotZ:List Int→List Int→Int
 | w::k,s::l=>w*s+dotZ k l
 | _,_=>0
def Ze2 (l:List Int):Int:=((l.filter fun s=>decide (s≠0)).length:Nat)
theorem ZyU (l:List Int):0≤Ze2 l∧Ze2 l≤l.length:=by
 have:=Ws (fun s:Int=>decide (s≠0)) l
 unfold Ze2
 omega
def Zi2 (kit:List Int) (n:Int) (best l:List Int):List Int:=if dotZ kit l=n∧(best.length=0∨Ze2 l<Ze2 best) then l else best
def ZuC:Int→List Int→Int
 | r,[]=>r
 | r,n::l=>if n=r+1 then ZuC n l else r
theorem Zp2:∀ (L:List Int) (r:Int),L.Pairwise (· < ·)→(∀ x∈L,r<x)→r≤ZuC r L∧(∀ i,r<i→i≤ZuC r L→i∈L)∧ZuC r L+1 ∉ L
 | [],r,_,_=>⟨Wo _,fun i h1 h2=>by simp only [ZuC] at h2;omega,by simp⟩
 | n::L,r,hp,hr=>by
  obtain ⟨hp1,hp2⟩:=List.pairwise_cons.mp hp
  have hn:=hr n RR
  unfold ZuC
  split
  ·rename_i e
   obtain ⟨g1,g2,g3⟩:=Zp2 L n hp2 hp1
   refine ⟨by omega,fun i h1 h2 => ?_,?_⟩
   ·by_cases hi:i=n
    ·subst hi;exact RR
    ·exact We _ (g2 i (by omega) h2)
   ·intro h
    rcases RQ.mp h with h | h
    ·omega
    ·exact g3 h
  ·rename_i e
   refine ⟨Wo _,fun i h1 h2=>by omega,fun h => ?_⟩
   rcases RQ.mp h with h | h
   ·omega
   ·have:=hp1 _ h;omega
theorem Zk6 (zs:List Int) (x:Int):x∈Lib.compact zs↔x∈zs:=by
 have key:∀ m,m≤zs.length→(x∈Lib.compactUpTo zs.toArray m↔∃ j,j<m∧zs.toArray[j]! = x):=by
  intro m
  induction m with
  | zero=>intro _;simp [Lib.compactUpTo]
  | succ m ih=>
   intro hm
   rw [Lib.compactUpTo_succ,List.mem_append,ih (by omega)]
   constructor
   ·rintro (⟨j,h1,h2⟩ | h)
    ·exact ⟨j,by omega,h2⟩
    ·split at h
     ·simp only [List.mem_singleton] at h
      exact ⟨m,by omega,h.symm⟩
     ·simp at h
   ·rintro ⟨j,h1,h2⟩
    by_cases hj:j=m
    ·subst hj
     by_cases hk:Lib.keeps zs.toArray j=true
     ·right;rw [if_pos hk];simp [h2]
     ·left
      have:¬ (j=0∨zs.toArray[j]! ≠ zs.toArray[j - 1]!):=by
       intro h;apply hk;simp only [Lib.keeps,decide_eq_true_eq];exact h
      have h0:j≠0:=fun h=>this (.inl h)
      have h3:zs.toArray[j]! = zs.toArray[j - 1]! := by
       by_cases h:zs.toArray[j]! = zs.toArray[j - 1]!
       ·exact h
       ·exact absurd (.inr h) this
      exact ⟨j - 1,by omega,by rw [←h3,h2]⟩
    ·left;exact ⟨j,by omega,h2⟩
 unfold Lib.compact
 rw [key _ (Rt _),List.mem_iff_getElem]
 constructor
 ·rintro ⟨j,h1,h2⟩
  exact ⟨j,h1,by simpa [h1] using h2⟩
 ·rintro ⟨j,h1,h2⟩
  exact ⟨j,h1,by simpa [h1] using h2⟩
theorem ZlZ (zs:List Int) (h:zs.Pairwise (· ≤ ·)):(Lib.compact zs).Pairwise (· < ·):=by
 have mono:∀ i j,i≤j→j<zs.length→zs.toArray[i]! ≤ zs.toArray[j]! := by
  intro i j hij hj
  by_cases e:i=j
  ·subst e;exact Wo _
  ·have:=List.pairwise_iff_getElem.mp h i j (by omega) hj (by omega)
   simpa [show i<zs.length by omega,hj] using this
 unfold Lib.compact Lib.compactUpTo
 rw [List.pairwise_map,List.pairwise_filter]
 refine List.Pairwise.imp_of_mem ?_ (List.pairwise_lt_range (n:=zs.length))
 intro a b ha hb hab hka hkb
 have hb':=List.mem_range.mp hb
 simp only [Lib.keeps,decide_eq_true_eq] at hkb
 have h1:=mono a (b - 1) (by omega) (by omega)
 have h2:=mono (b - 1) b (by omega) hb'
 rcases hkb with h3 | h3
 ·omega
 ·omega
def ZsD (x:Int):Bool:=decide (1≤x)&&decide (x≤99)
def Zp3:Int→List Int→Bool
 | _,[]=>true
 | p,w::k=>ZsD w&&(decide (p≤w)&&Zp3 w k)
def ZfX (k:List Int):Bool:=Zp3 0 k&&(decide ((1:Int)≤(k.length:Nat))&&decide (((k.length:Nat):Int)≤6))
def Zl0 (k:List Int) (i:Nat):Int:=if i=0 then 0 else k.getD (i - 1) 0
theorem ZmV (k:List Int) (i:Nat) (x:Int) (h:k[i]?=some x):Zl0 k (i+1)=x:=by
 unfold Zl0
 simp [WH,h]
theorem ZhU {w p:Int} {k:List Int} (h:(ZsD w&&decide (p≤w))=false):Zp3 p (w::k)=false:=by
 unfold Zp3
 rw [←Bool.and_assoc,h];rfl
theorem Zjk {w p:Int} {k:List Int} (h:(ZsD w&&decide (p≤w))=true):Zp3 p (w::k)=Zp3 w k:=by
 conv=>lhs;unfold Zp3
 rw [←Bool.and_assoc,h];rfl
theorem Zw9 {q:Nat} {cap:Option Nat} {k:List Int} (h:Za H q=some (Y5 k)) (hn:k.length≤1000000):call T pr K4 [slI q k.length cap] ⟨H,e⟩=some (.bool (ZfX k),⟨H,e⟩):=by
 have hw:∀ L x,call T pr JF [.int .i64 x] ⟨L,none⟩=some (.bool (ZsD x),⟨L,none⟩):=fun L x=>Zed x
 have h16:=fun L=>Z0 (pr:=pr) (H:=L) (e:=none) ((k.length:Nat):Int) 1 6
 apply Wc.eq
 rw [ZK ZoI]
 simp (maxSteps:=2000000) +contextual only [XW,ZjU,pp,go_sem,reduceIte,Ra,Rb,Rc,Rd]
 refine XQ (fun j st=>∃ (i:Nat) (w2 w3 w7 w8:AV),i+j=k.length∧Zp3 (Zl0 k i) (k.drop i)=Zp3 0 k ∧
  st=⟨[slI q k.length cap,.bool false,w2,w3,slI q k.length cap,.int .i64 k.length,.int .i64 i,w7,w8],⟨H,none⟩⟩) ?_ k.length _ ⟨0,_,_,_,_,by omega,rfl,rfl⟩
 rintro j _ ⟨i,w2,w3,w7,w8,hij,hk,rfl⟩
 by_cases hj:j=0
 ·have he:i=k.length:=by omega
  subst he
  rw [Rp] at hk
  unfold ZfX
  rw [←hk]
  simp (maxSteps:=2000000) +contextual only [YF,XW,Ri,decide_false,h16,Zp3,RI,pp,go_sem,reduceIte,Ra,Rb,Rc,Rd]
 ·have hi:i<k.length:=by omega
  have hl:k[i]?=some k[i]:=Rl hi
  rw [Rm hi] at hk
  have hps:=ZmV k i k[i] hl
  generalize k[i]=x at *
  have hsw:=Zw (show i<9223372036854775807 by omega)
  by_cases h0:i=0
  ·have hp:Zl0 k i=0:=by rw [h0];rfl
   have hi0:¬ (0:Int)<(i:Int):=by omega
   rw [hp] at hk
   cases hx:ZsD x with
   | false=>
    rw [ZhU (by rw [hx];rfl)] at hk
    unfold ZfX
    rw [←hk]
    simp (maxSteps:=2000000) +contextual only [YF,XW,hi,h,Z2 _ hl,hw,hx,hi0,gt_iff_lt,decide_true,decide_false,Bool.false_and,pp,go_sem,reduceIte,Ra,Rb,Rc,Rd]
   | true=>
    have hx':(ZsD x&&decide (0≤x))=true:=by
     rw [hx]
     unfold ZsD at hx
     simp only [Ru,decide_eq_true_eq] at hx
     simp;omega
    rw [Zjk hx',←hps] at hk
    simp (maxSteps:=2000000) +contextual only [YF,hi,h,Z2 _ hl,hw,hx,hi0,gt_iff_lt,hsw,decide_true,decide_false,pp,go_sem,reduceIte,Ra,Rb,Rc,Rd]
    exact ⟨j - 1,by omega,i+1,_,_,_,_,by omega,hk,rfl⟩
  ·have hip:(0:Int)<(i:Int):=by omega
   have hl1:k[i - 1]?=some k[i - 1]:=Rl (by omega)
   have hp:Zl0 k i=k[i - 1]:=by
    unfold Zl0
    rw [if_neg h0,WH,hl1];rfl
   have hwi:IntKind.i64.wrap ((i:Int) - 1)=((i - 1:Nat):Int):=by rw [Yc (by omega) (by omega)];omega
   have hi1:i - 1<k.length:=by omega
   rw [hp] at hk
   generalize k[i - 1]=p at *
   cases hx:ZsD x with
   | false=>
    rw [ZhU (by rw [hx];rfl)] at hk
    unfold ZfX
    rw [←hk]
    simp (maxSteps:=2000000) +contextual only [YF,XW,hi,h,Z2 _ hl,hw,hx,hip,gt_iff_lt,decide_true,decide_false,Bool.false_and,pp,go_sem,reduceIte,Ra,Rb,Rc,Rd]
   | true=>
    by_cases hxp:x<p
    ·rw [ZhU (by rw [hx,decide_eq_false (by omega)];rfl)] at hk
     unfold ZfX
     rw [←hk]
     simp (maxSteps:=2000000) +contextual only [YF,XW,hi,hi1,h,Z2 _ hl,Z2 _ hl1,hw,hx,hip,hwi,hxp,gt_iff_lt,decide_true,decide_false,Bool.false_and,pp,go_sem,reduceIte,Ra,Rb,Rc,Rd]
    ·rw [Zjk (by rw [hx,decide_eq_true (by omega)];rfl),←hps] at hk
     simp (maxSteps:=2000000) +contextual only [YF,hi,hi1,h,Z2 _ hl,Z2 _ hl1,hw,hx,hip,hwi,hxp,gt_iff_lt,hsw,decide_true,decide_false,pp,go_sem,reduceIte,Ra,Rb,Rc,Rd]
     exact ⟨j - 1,by omega,i+1,_,_,_,_,by omega,hk,rfl⟩
structure ZuS (b0 q n:Nat) (cap:Option Nat) (kit:List Int) (g:FuncId) (caps:List AV) (sg:List Int) (L:List Blk):Prop where
 kc:Za L q=some (Y5 kit)
 k0:L[b0]?=some (.cells [slI q n cap] true)
 k1:L[b0+1]?=some (.cells [.int .i64 (-1)] true)
 k2:L[b0+2]?=some (.cells [.fn g [] caps] true)
 k3:L[b0+3]?=some (.cells (Y5 sg) true)
 k4:L[b0+4]?=some (.cells [slI (b0+3) n (some n)] true)
 k5:L[b0+5]?=some (.cells [.fn Yr [] [.ptr (some (b0,0)),.ptr (some (b0+2,0)),.ptr (some (b0+4,0)),.ptr (some (b0+1,0)),.ptr (some (b0+5,0))]] true)
 len:sg.length=n
 kl:kit.length=n
 ql:q<b0
theorem ZuS.put {b0 q n:Nat} {cap:Option Nat} {kit:List Int} {g:FuncId} {caps:List AV} {sg:List Int} {L:List Blk} (h:ZuS b0 q n cap kit g caps sg L) (sg':List Int) (hl:sg'.length=n):ZuS b0 q n cap kit g caps sg' (L.set (b0+3) (.cells (Y5 sg') true)):=by
 have hlt:b0+3<L.length:=(Wb.mp h.k3).1
 have hq:=h.ql
 refine ⟨?_,?_,?_,?_,?_,?_,?_,hl,h.kl,hq⟩
 ·have:=h.kc
  unfold Za at this ⊢
  rw [Wm (by omega)]
  exact this
 ·rw [Wm (by omega)];exact h.k0
 ·rw [Wm (by omega)];exact h.k1
 ·rw [Wm (by omega)];exact h.k2
 ·rw [Wu hlt]
 ·rw [Wm (by omega)];exact h.k4
 ·rw [Wm (by omega)];exact h.k5
def Zz7 (pr:Zq) (b0 q n B:Nat) (cap:Option Nat) (kit:List Int) (g:FuncId) (caps:List AV) (Inv:List (List Int)→List Blk→Prop):Prop :=
 ∀ (L:List Blk) (sg:List Int) (e:Option Nat) (done:List (List Int)),ZuS b0 q n cap kit g caps sg L→Inv done L→done.length<3 ^ n→Wc (call T pr g ([slI (b0+3) n (some n),.int .i64 (dotZ kit sg)]++caps) ⟨L,e⟩)
  (fun v m=>v=.tup []∧∃ L' e',m=⟨L',e'⟩∧ZuS b0 q n cap kit g caps sg L'∧Inv (done++[sg]) L'∧(clean B e=true→clean B e'=true))
theorem Zk7:∀ (kit sg:List Int) (i:Nat) (w s:Int),kit[i]?=some w→sg.length=i→dotZ kit (sg++[s])=dotZ kit sg+w*s
 | [],_,_,_,_,h,_=>by simp at h
 | w0::kit,[],i,w,s,h,hl=>by
  simp only [List.length_nil] at hl
  subst hl
  simp only [List.getElem?_cons_zero,RH] at h
  subst h
  have:dotZ kit []=0:=by cases kit <;> rfl
  simp [dotZ,this]
 | w0::kit,s0::sg,i,w,s,h,hl=>by
  cases i with
  | zero=>simp at hl
  | succ i=>
   have ih:=Zk7 kit sg i w s (by simpa using h) (by simpa using hl)
   simp only [List.cons_append,dotZ,ih]
   omega
theorem ZgZ (sg:List Int) (i:Nat) (s:Int) (h:i<sg.length):(sg.set i s).take (i+1)=sg.take i++[s]:=by
 rw [WL (by simpa using h),List.take_set_of_le (Rt _)]
 simp
theorem YI {B:Nat}:∀ {a b:Option Nat},clean B a=true→clean B b=true→clean B (joinEsc a b)=true
 | none,none,_,_=>rfl
 | none,some b,_,h=>h
 | some a,none,h,_=>h
 | some a,some b,h1,h2=>by
  rw [Q4,decide_eq_true_eq] at h1 h2
  show clean B (some (min a b))=true
  rw [Q4,decide_eq_true_eq]
  omega
theorem Zg0:∀ (kit sg:List Int),(∀ w∈kit,0≤w∧w≤99)→(∀ x∈sg,x = -1∨x=0∨x=1) → -(99*(kit.length:Int))≤dotZ kit sg∧dotZ kit sg≤99*(kit.length:Int)
 | [],sg,_,_=>by simp [dotZ]
 | w::k,[],hk,_=>by
  simp only [dotZ,RB];omega
 | w::k,s::sg,hk,hs=>by
  have ih:=Zg0 k sg (fun x hx=>hk x (We _ hx)) (fun x hx=>hs x (We _ hx))
  have h1:=hk w RR
  rcases hs s RR with rfl | rfl | rfl <;> simp only [dotZ,RB] <;> omega
theorem ZcL:∀ d,(KT d).length=3 ^ d
 | 0=>rfl
 | d+1=>by
  have ih:=ZcL d
  simp only [KT,List.flatMap_cons,List.flatMap_nil,RL,Wn,ih,List.length_nil,WD]
  omega
set_option maxHeartbeats 1000000 in
theorem Zxa {b0 q n B:Nat} {cap:Option Nat} {kit:List Int} {g:FuncId} {caps:List AV} {Inv:List (List Int)→List Blk→Prop} (hT:Zz7 pr b0 q n B cap kit g caps Inv)
  (hS:∀ L x done,Inv done L→Inv done (L.set (b0+3) x)) (hn:n≤1000000) (hk:∀ w∈kit,0≤w∧w≤99) :
  ∀ (d at':Nat) (sg:List Int) (L:List Blk) (e:Option Nat) (done:List (List Int)),at'+d=n→ZuS b0 q n cap kit g caps sg L→(∀ x∈sg.take at',x = -1∨x=0∨x=1)→Inv done L→done.length+3 ^ d≤3 ^ n →
  Wc (call T pr Yr [.int .i64 at',.int .i64 (dotZ kit (sg.take at')),.ptr (some (b0,0)),.ptr (some (b0+2,0)),.ptr (some (b0+4,0)),.ptr (some (b0+1,0)),.ptr (some (b0+5,0))] ⟨L,e⟩)
   (fun v m=>v=.tup []∧∃ L' e' sg',m=⟨L',e'⟩∧ZuS b0 q n cap kit g caps sg' L'∧sg'.take at'=sg.take at'∧Inv (done++(KT d).map (sg.take at' ++ ·)) L'∧(clean B e=true→clean B e'=true))
 | 0,at',sg,L,e,done,hat,hE,hsg,hI,hdl=>by
  have hat':at'=n:=by omega
  subst hat'
  have htk:sg.take at'=sg:=by rw [←hE.len,WK]
  rw [htk]
  rw [ZK Qy]
  simp (maxSteps:=2000000) +contextual only [Z1,JN,Ze hE.k0,Ze hE.k2,Ze hE.k4,decide_true,pp,go_sem,reduceIte,Ra,Rb,Rc,Rd]
  refine (hT L sg none done hE hI (by have:3 ^ 0=1:=rfl;omega)).mono ?_
  rintro v m ⟨rfl,L',e',rfl,hE',hI',hcl⟩
  simp (maxSteps:=2000000) +contextual only [Z1,finish,pp,go_sem,reduceIte,Ra,Rb,Rc,Rd]
  have hm:(KT 0).map (sg ++ ·)=[sg]:=by simp [KT]
  rw [hm]
  have hl':sg.take at'=sg:=htk
  exact ⟨L',joinEsc e e',sg,rfl,hE',hl',hI',fun h=>YI h (hcl rfl)⟩
 | d+1,at',sg,L,e,done,hat,hE,hsg,hI,hdl=>by
  rw [ZK Qy]
  have hne:¬ ((at':Nat):Int)=((n:Nat):Int):=by omega
  simp (maxSteps:=2000000) +contextual only [Z1,JN,Ze hE.k0,Ze hE.k1,hne,decide_false,pp,go_sem,reduceIte,Ra,Rb,Rc,Rd]
  refine XQ (fun k st=>∃ (L':List Blk) (e1:Option Nat) (sg':List Int) (w9:AV),k≤3∧ZuS b0 q n cap kit g caps sg' L'∧sg'.take at'=sg.take at'∧Inv (done++(([-1,0,1]:List Int).take (3 - k)).flatMap fun s=>(KT d).map fun x=>sg.take at'++s::x) L'∧clean B e1=true ∧
   st=⟨[.int .i64 at',.int .i64 (dotZ kit (sg.take at')),.ptr (some (b0,0)),.ptr (some (b0+2,0)),.ptr (some (b0+4,0)),.ptr (some (b0+1,0)),.ptr (some (b0+5,0)),.int .i64 (2 - (k:Int)),.bool false,w9],⟨L',e1⟩⟩) ?_ 3 _ ⟨L,none,sg,_,Rt _,hE,rfl,by simpa using hI,rfl,rfl⟩
  rintro k _ ⟨L',e1,sg',w9,hk3,hE',htk,hI',hcl,rfl⟩
  by_cases hk0:k=0
  ·subst hk0
   have hc:¬ (2 - ((0:Nat):Int)≤1):=by omega
   simp (maxSteps:=2000000) +contextual only [XY,Z1,finish,hc,decide_false,pp,go_sem,reduceIte,Ra,Rb,Rc,Rd]
   have hall:(([-1,0,1]:List Int).take (3 - 0)).flatMap (fun s=>(KT d).map fun x=>sg.take at'++s::x)=(KT (d+1)).map (sg.take at' ++ ·):=by
    simp [KT]
    rfl
   rw [hall] at hI'
   exact ⟨L',joinEsc e e1,sg',rfl,hE',htk,hI',fun h=>YI h hcl⟩
  ·have hc:2 - (k:Int)≤1:=by omega
   have hi:at'<n:=by omega
   obtain ⟨w,hw⟩:∃ w,kit[at']?=some w:=⟨kit[at']'(by rw [hE.kl];exact hi),Rl _⟩
   have hwk:=hk w (List.mem_of_getElem? hw)
   have hsl:sg'.length=n:=hE'.len
   have hsv:2 - (k:Int) = -1∨2 - (k:Int)=0∨2 - (k:Int)=1:=by omega
   have hF:(([-1,0,1]:List Int).take (3 - (k - 1))).flatMap (fun s=>(KT d).map fun x=>sg.take at'++s::x)=(([-1,0,1]:List Int).take (3 - k)).flatMap (fun s=>(KT d).map fun x=>sg.take at'++s::x)++(KT d).map fun x=>sg.take at'++(2 - (k:Int))::x:=by
    have:k=1∨k=2∨k=3:=by omega
    rcases this with rfl | rfl | rfl <;> simp
   have hnx:2 - (k:Int)+1=2 - ((k - 1:Nat):Int):=by omega
   generalize hs:2 - (k:Int)=s at *
   have hls:=ZgZ sg' at' s (by omega)
   rw [htk] at hls
   have hd:=Zk7 kit (sg.take at') at' w s hw (by rw [List.length_take,hE.len];omega)
   rw [←hls] at hd
   have hb:=Zg0 kit (sg.take at') hk hsg
   rw [hE.kl] at hb
   have hws : -99≤w*s∧w*s≤99:=by rcases hsv with h | h | h <;> rw [h] <;> omega
   have w1:IntKind.i64.wrap (s*w)=w*s:=by rw [Int.mul_comm];exact Yc (by omega) (by omega)
   have w2:IntKind.i64.wrap (dotZ kit (sg.take at')+w*s)=dotZ kit ((sg'.set at' s).take (at'+1)):=by rw [hd];exact Yc (by omega) (by omega)
   have w3:=Zw (show at'<9223372036854775807 by omega)
   have w4:IntKind.i64.wrap (s+1)=2 - ((k - 1:Nat):Int):=by rw [←hnx];exact Yc (by omega) (by omega)
   have hse:=ZgA (X:=sg') (i:=at') (a:=s) (by omega)
   have hle:at'+1≤(Y5 sg').length:=by rw [Y5,Wn];omega
   have E2:=hE'.put (sg'.set at' s) (by rw [Wl];exact hsl)
   simp (maxSteps:=2000000) +contextual only [XY,Ze hE'.k0,Ze hE'.k1,Ze hE'.k4,Ze hE'.k5,Ze hE'.k3,hE'.kc,hE'.k3,hc,hi,hse,hle,Ze E2.k0,Ze E2.k5,E2.kc,Z2 _ hw,w1,w2,w3,decide_true,pp,go_sem,reduceIte,Ra,Rb,Rc,Rd]
   refine (Zxa hT hS hn hk d (at'+1) (sg'.set at' s) _ e1 _ (by omega) E2 ?_ (hS _ _ _ hI') ?_).mono ?_
   ·rw [hls]
    intro x hx
    rcases List.mem_append.mp hx with h | h
    ·exact hsg x h
    ·simp only [List.mem_singleton] at h
     rw [h]
     exact hsv
   ·have hfl:∀ l:List Int,(l.flatMap fun s=>(KT d).map fun x=>sg.take at'++s::x).length=l.length*3 ^ d:=by
     intro l
     induction l with
     | nil=>simp
     | cons a l ih=>
      simp only [List.flatMap_cons,RL,Wn,ZcL,ih,RB,Nat.add_mul,Wv]
      omega
    rw [RL,hfl,List.length_take]
    have:min (3 - k) ([-1,0,1]:List Int).length≤2:=by simp;omega
    have h2:=Nat.mul_le_mul_right (3 ^ d) this
    rw [WD] at hdl
    omega
   ·rintro v m ⟨rfl,L3,e3,sg3,rfl,E3,htk3,hI3,hcl3⟩
    simp (maxSteps:=2000000) +contextual only [w4,pp,go_sem,reduceIte,Ra,Rb,Rc,Rd]
    have htk3':sg3.take at'=sg.take at':=by
     have:=congrArg (List.take at') htk3
     rw [List.take_take,List.take_take,Nat.min_eq_left (by omega)] at this
     rw [this,List.take_set_of_le (Rt _)]
     exact htk
    rw [hls] at hI3
    have hI4:Inv (done++(([-1,0,1]:List Int).take (3 - (k - 1))).flatMap fun s=>(KT d).map fun x=>sg.take at'++s::x) L3:=by
     rw [hF]
     rw [Rj] at hI3
     have e5:(KT d).map (fun x=>sg.take at'++[s]++x)=(KT d).map fun x=>sg.take at'++s::x:=by
      congr 1
      funext x
      simp
     rw [←e5]
     exact hI3
    exact ⟨k - 1,by omega,L3,e3,sg3,_,by omega,E3,htk3',hI4,hcl3 hcl,rfl⟩
theorem ZuS.of {b0 q n:Nat} {cap:Option Nat} {kit:List Int} {g:FuncId} {caps:List AV} {sg:List Int} {L L':List Blk} (h:ZuS b0 q n cap kit g caps sg L) (hL:∀ i,i=q∨(b0≤i∧i≤b0+5)→L'[i]?=L[i]?):ZuS b0 q n cap kit g caps sg L':=by
 refine ⟨?_,?_,?_,?_,?_,?_,?_,h.len,h.kl,h.ql⟩
 ·have:=h.kc
  unfold Za at this ⊢
  rw [hL q (.inl rfl)]
  exact this
 ·rw [hL _ (.inr ⟨by omega,by omega⟩)];exact h.k0
 ·rw [hL _ (.inr ⟨by omega,by omega⟩)];exact h.k1
 ·rw [hL _ (.inr ⟨by omega,by omega⟩)];exact h.k2
 ·rw [hL _ (.inr ⟨by omega,by omega⟩)];exact h.k3
 ·rw [hL _ (.inr ⟨by omega,by omega⟩)];exact h.k4
 ·rw [hL _ (.inr ⟨by omega,by omega⟩)];exact h.k5
theorem Zt {B k:Nat}:∀ {a:Option Nat},clean B a=true→B≤k→clean B (Z6 a k)=true
 | none,_,h=>by rw [ZfP,Q4];exact decide_eq_true h
 | some a,h1,h=>by
  rw [Q4,decide_eq_true_eq] at h1
  rw [ZfQ,Q4]
  exact decide_eq_true (by omega)
theorem ZC {B:Nat} {a b:Option Nat} (c:Prop) [Decidable c] (h1:clean B a=true) (h2:clean B b=true):clean B (if c then a else b)=true:=by
 split
 ·exact h1
 ·exact h2
theorem Zp4 {L:List Blk} {q B:Nat} {cap:Option Nat} {kit:List Int} {g:FuncId} {caps:List AV} {Inv:List (List Int)→List Blk→Prop} (hq:Za L q=some (Y5 kit)) (hB:B≤L.length) (hn:kit.length≤1000000) (hk:∀ w∈kit,0≤w∧w≤99) (hT:Zz7 pr L.length q kit.length B cap kit g caps Inv)
  (hS:∀ L' x done,Inv done L'→Inv done (L'.set (L.length+3) x)) (hI:∀ G,Inv [] (L++G)) (e:Option Nat) :
  Wc (call T pr JX [slI q kit.length cap,.int .i64 (-1),.fn g [] caps] ⟨L,e⟩) (fun v m=>v=.tup []∧∃ L' e',m=⟨L',e'⟩∧Inv (KT kit.length) L'∧(clean B e=true→clean B e'=true)):=by
 have hql:q<L.length:=Xf hq
 rw [ZK Zgq]
 simp (maxSteps:=2000000) +contextual only [Je,Zdc,Zb,ZhG,pp,go_sem,reduceIte,Ra,Rb,Rc,Rd]
 refine ⟨fun _ => ?_,fun h=>absurd (show ((kit.length:Nat):Int)*((8:Nat):Int)≤((maxBytes:Nat):Int) by unfold maxBytes;omega) h⟩
 have hE:ZuS L.length q kit.length cap kit g caps (Wr kit.length 0) (L++[.cells [.slice (some (q,0)) 1 kit.length cap] true,.cells [.int .i64 (-1)] true,.cells [.fn g [] caps] true,.cells (Y5 (Wr kit.length 0)) true,.cells [.slice (some (L.length+3,0)) 1 kit.length (some kit.length)] true,
   .cells [.fn Yr [] [.ptr (some (L.length,0)),.ptr (some (L.length+2,0)),.ptr (some (L.length+4,0)),.ptr (some (L.length+1,0)),.ptr (some (L.length+5,0))]] true]):=by
  refine ⟨Zc hq _,?_,?_,?_,?_,?_,?_,List.length_replicate,rfl,hql⟩
  ·rw [Rs (by omega)];simp
  all_goals (rw [Rs (by omega)];simp)
 have hz:dotZ kit ((Wr kit.length (0:Int)).take 0)=0:=by cases kit <;> rfl
 have hw:=fun e1=>Zxa (B:=B) hT hS hn hk kit.length 0 (Wr kit.length 0) _ e1 [] (by omega) hE (by simp) (hI _) (by simp)
 have h0:((0:Nat):Int)=0:=rfl
 rw [hz,h0] at hw
 refine (hw _).mono ?_
 rintro v m ⟨rfl,L',e',sg',rfl,hE',_,hI',hcl⟩
 simp (maxSteps:=2000000) +contextual only [Je,finish,pp,go_sem,reduceIte,Ra,Rb,Rc,Rd]
 have hm:(KT kit.length).map ((Wr kit.length (0:Int)).take 0 ++ ·)=KT kit.length:=by simp
 rw [hm] at hI'
 refine ⟨L',joinEsc e e',rfl,hI',fun h=>YI h (hcl ?_)⟩
 have c4:∀ (c:Prop) [Decidable c],clean B (if c then none else Z6 none (L.length+4))=true:=fun c _=>ZC c rfl (Zt rfl (by omega))
 exact ZC _ (c4 _) (Zt (c4 _) (by omega))
def QE (kit:List Int) (done:List (List Int)):List Int:=(done.map (dotZ kit)).filter fun x=>decide (0<x)
def ZBW (q b0 o:Nat) (kit:List Int) (H:List Blk) (done:List (List Int)) (L:List Blk):Prop :=
 YR H L∧b0+6≤L.length+6∧∃ b cc,L[o]?=some (.cells [slI b (QE kit done).length cc] true)∧L[b]?=some (.cells (Y5 (QE kit done)) true)∧(cc=some 0→(QE kit done).length=0)∧H.length≤b∧b≠q∧b≠o∧(b<b0∨b0+6≤b)
theorem ZBe (zs:List Int) (z:Int):Y5 zs++[.int .i64 z]=Y5 (zs++[z]):=by simp [Y5]
theorem Zn4 {q o b0 n:Nat} {cap:Option Nat} {kit:List Int} (ho:H.length≤o) (ho0:o<b0) (hqH:q<H.length) (hn:n≤6) (hk:∀ w∈kit,0≤w∧w≤99):Zz7 pr b0 q n H.length cap kit K6 [.ptr (some (o,0))] (ZBW q b0 o kit H):=by
 intro L sg e done hE hI hdn
 obtain ⟨hL,hb6,b,cc,h1,h2,h3,h4,h5,h6,h7⟩:=hI
 show Wc (call T pr K6 [slI (b0+3) n (some n),.int .i64 (dotZ kit sg),.ptr (some (o,0))] ⟨L,e⟩) _
 have hm:(done++[sg]).map (dotZ kit)=done.map (dotZ kit)++[dotZ kit sg]:=by simp
 rw [ZK Zng]
 by_cases hs:0<dotZ kit sg
 ·have hout:QE kit (done++[sg])=QE kit done++[dotZ kit sg]:=by
   unfold QE
   rw [hm,WI]
   simp [hs]
  simp (maxSteps:=2000000) +contextual only [J1,Zdh,Zb,gt_iff_lt,hs,Ze h1,decide_true,pp,go_sem,reduceIte,Ra,Rb,Rc,Rd]
  have hp3:3 ^ n≤3 ^ 6:=RD (by omega) hn
  have h36:(3:Nat) ^ 6=729:=by decide
  have holen:(QE kit done).length≤done.length:=by
   unfold QE
   have:=Ws (fun x:Int=>decide (0<x)) (done.map (dotZ kit))
   simpa using this
  refine Zn0 (k:=1) (new:=[.int .i64 (dotZ kit sg)]) (ZY h2 _) (Zbh _ 1 1 _ _ L.length (by simp +contextual only [go_sem,reduceIte,Ra,Rb,Rc,Rd]) rfl) (by simp) rfl (by unfold maxBytes;omega) h3 ?_
  intro L2 e1 e2 e3 e4
  rw [ZBe,←hout] at e3
  have hol:o<L.length:=(Wb.mp h1).1
  have ho2:L2[o]?=some (.cells [slI b (QE kit done).length cc] true):=by
   rw [e2 o (by omega) (by simp;omega),Wd hol]
   exact h1
  simp (maxSteps:=2000000) +contextual only [J1,finish,Ze ho2,ho2,pp,go_sem,reduceIte,Ra,Rb,Rc,Rd]
  have hl2:L2.length=L.length+2:=by rw [e1];simp
  have e3':L2[L.length+1]?=some (.cells (Y5 (QE kit (done++[sg]))) true):=by simpa using e3
  have hb5:b0+5<L.length:=(Wb.mp hE.k5).1
  have hlen:(QE kit (done++[sg])).length=(QE kit done).length+1:=by rw [hout];simp
  refine ⟨_,joinEsc e (if AV.under (o+1) (AV.slice (some (L.length+1,0)) 1 ((QE kit done).length+1) none)=true then none else Z6 none o),rfl,hE.of ?_,?_,fun h=>YI h (ZC _ rfl (Zt rfl ho))⟩
  ·intro i hi
   have hiq:i<L.length:=by
    rcases hi with rfl | ⟨_,h⟩
    ·exact Xf hE.kc
    ·omega
   have hio:o≠i:=by
    rcases hi with rfl | ⟨h,_⟩ <;> omega
   have hib:i≠b:=by
    rcases hi with rfl | ⟨h8,h9⟩
    ·exact fun h=>h5 h.symm
    ·rcases h7 with h | h <;> omega
   rw [Wm hio,e2 i hib (by simp;omega),Wd hiq]
  ·unfold ZBW
   rw [hlen]
   refine ⟨(e4 _ (hL.more _) h4).put ho _,by rw [Wl];omega,L.length+1,none,by rw [Wu (by omega)],by rw [Wm (by omega)];exact e3',by simp,by have:=hL.le;omega,by have:=Xf hE.kc;omega,by omega,.inr (by omega)⟩
 ·have hout:QE kit (done++[sg])=QE kit done:=by
   unfold QE
   rw [hm,WI]
   simp [hs]
  simp (maxSteps:=2000000) +contextual only [J1,Zdh,finish,gt_iff_lt,hs,decide_false,pp,go_sem,reduceIte,Ra,Rb,Rc,Rd]
  refine ⟨L,_,rfl,hE,?_,fun h=>h⟩
  unfold ZBW
  rw [hout]
  exact ⟨hL,hb6,b,cc,h1,h2,h3,h4,h5,h6,h7⟩
def Zat (kit:List Int):List Int:=Lib.compact ((QE kit (KT kit.length)).mergeSort fun x y=>decide (x≤y))
theorem ZyV {kit:List Int} (h1:kit≠[]) (hk:∀ w∈kit,1≤w∧w≤99):0<(QE kit (KT kit.length)).length:=by
 have hall:∀ (k:List Int),(∀ w∈k,1≤w∧w≤99)→k≠[]→0<dotZ k (Wr k.length 1):=by
  intro k
  induction k with
  | nil=>intro _ h;exact absurd rfl h
  | cons w k ih=>
   intro hk _
   have hw:=hk w RR
   simp only [RB,List.replicate_succ,dotZ,Int.mul_one]
   cases k with
   | nil=>simp [dotZ];omega
   | cons w' k'=>
    have:=ih (fun x hx=>hk x (We _ hx)) (by simp)
    omega
 have hmem:∀ n,Wr n (1:Int)∈KT n:=by
  intro n
  induction n with
  | zero=>simp [KT]
  | succ n ih=>
   simp only [KT,WG,RS]
   exact ⟨1,by simp,_,ih,rfl⟩
 have:dotZ kit (Wr kit.length 1)∈QE kit (KT kit.length):=by
  unfold QE
  rw [RZ]
  exact ⟨RS.mpr ⟨_,hmem _,rfl⟩,decide_eq_true (hall kit hk h1)⟩
 exact List.length_pos_of_mem this
theorem ZuD (hl:ZlW pr) {q:Nat} {cap:Option Nat} {kit:List Int} (h:Za H q=some (Y5 kit)) (h0:kit≠[]) (hn:kit.length≤6) (hk:∀ w∈kit,1≤w∧w≤99):Wc (call T pr ZcZ [slI q kit.length cap,.int .i64 (-1)] ⟨H,e⟩)
  (fun v m=>∃ X,v=slI H.length (Zat kit).length none∧m=⟨H++[.cells (Y5 (Zat kit++X)) true],e⟩):=by
 have hql:q<H.length:=Xf h
 have hk0:∀ w∈kit,0≤w∧w≤99:=fun w hw=>by have:=hk w hw;omega
 have hpos:=ZyV h0 hk
 have hle:(QE kit (KT kit.length)).length≤729:=by
  unfold QE
  have:=Ws (fun x:Int=>decide (0<x)) ((KT kit.length).map (dotZ kit))
  rw [Wn,ZcL] at this
  have hp3:3 ^ kit.length≤3 ^ 6:=RD (by omega) hn
  have h36:(3:Nat) ^ 6=729:=by decide
  omega
 rw [ZK ZqO]
 simp (maxSteps:=2000000) +contextual only [Za3,ZjV,Zb,pp,go_sem,reduceIte,Ra,Rb,Rc,Rd]
 have hb0:(H++[Blk.cells [] true,.cells [AV.slice (some (H.length,0)) 1 0 (some 0)] true]).length=H.length+2:=by simp
 refine (Zp4 (B:=H.length) (Inv:=ZBW q (H++[Blk.cells [] true,.cells [AV.slice (some (H.length,0)) 1 0 (some 0)] true]).length (H.length+1) kit H) (Zc h _) (by rw [hb0];omega) (by omega) hk0 (Zn4 (by omega) (by rw [hb0];omega) hql hn hk0) ?_ ?_ _).mono ?_
 ·rintro L' x done ⟨hL,g0,b,cc,g1,g2,g3,g4,g5,g6,g7⟩
  rw [hb0] at g7 ⊢
  exact ⟨hL.put (by omega) _,by rw [Wl];rw [hb0] at g0;omega,b,cc,by rw [Wm (by omega)];exact g1,by rw [Wm (by omega)];exact g2,g3,g4,g5,g6,g7⟩
 ·intro G
  rw [hb0]
  refine ⟨⟨_,Rj _ _ _⟩,by simp,H.length,some 0,?_,?_,fun _=>rfl,Rt _,by omega,by omega,.inl (by omega)⟩
  ·rw [Rj,Rs (by omega)];simp [QE]
  ·rw [Rj,Rs (by omega)];simp [QE]
 ·rintro v m ⟨rfl,L',e',rfl,⟨hL,_,b,cc,g1,g2,g3,g4,g5,g6,g7⟩,hcl⟩
  have hcl':clean H.length e'=true:=hcl (ZC _ rfl (Zt rfl (by omega)))
  generalize hzs:QE kit (KT kit.length)=zs at *
  have hsort:=hl.sor zs b cc L' e' g2 hpos (by omega)
  have hlm:(zs.mergeSort fun x y=>decide (x≤y)).length=zs.length:=List.length_mergeSort _
  have hbl:b<L'.length:=(Wb.mp g2).1
  have hcomp:=hl.com (zs.mergeSort fun x y=>decide (x≤y)) b cc (L'.set b (.cells ((zs.mergeSort fun x y=>decide (x≤y)).map (.int .i64)) true)) e' (by rw [Wu hbl]) (by omega) (by omega)
  rw [hlm,Wk] at hcomp
  have ho:(L'.set b (.cells ((zs.mergeSort fun x y=>decide (x≤y)).map (.int .i64)) true))[H.length+1]?=some (.cells [slI b zs.length cc] true):=by
   rw [Wm (by omega)];exact g1
  have hf:∀ e0,finish 2 H.length e0 (slX b (Lib.compact (zs.mergeSort fun x y=>decide (x≤y))).length none) ⟨L'.set b (.cells ((Lib.compact (zs.mergeSort fun x y=>decide (x≤y))++Wr (zs.length - (Lib.compact (zs.mergeSort fun x y=>decide (x≤y))).length) 0).map (.int .i64)) true),e'⟩=_:=fun e0=>
   ZwZ (hL.put g4 _) e0 e' hcl' g4 (by rw [Wu hbl]) (ZeS _ _)
  simp (maxSteps:=2000000) +contextual only [Za3,Ze g1,hsort,Ze ho,hcomp,hf,pp,go_sem,reduceIte,Ra,Rb,Rc,Rd]
  refine ⟨Wr (zs.length - (Lib.compact (zs.mergeSort fun x y=>decide (x≤y))).length) 0,?_,?_⟩
  ·unfold Zat
   rw [hzs]
  ·unfold Zat
   rw [hzs]
theorem ZsE:∀ (p:Int) (k:List Int),Zp3 p k=true→∀ w∈k,1≤w∧w≤99
 | _,[],_,w,h=>by simp at h
 | p,x::k,hk,w,h=>by
  unfold Zp3 at hk
  simp only [Ru] at hk
  rcases RQ.mp h with rfl | h
  ·have:=hk.1
   unfold ZsD at this
   simpa [Ru,decide_eq_true_eq] using this
  ·exact ZsE x k hk.2.2 w h
theorem Zg1 {k:List Int} (h:ZfX k=true):k≠[]∧k.length≤6∧∀ w∈k,1≤w∧w≤99:=by
 unfold ZfX at h
 simp only [Ru,decide_eq_true_eq] at h
 refine ⟨fun e => ?_,by omega,ZsE 0 k h.1⟩
 subst e
 simp at h
def Zg2 (k:List Int):Int:=ZuC 0 (Zat k)
theorem Zk8 {kit:List Int} (hn:kit.length≤6) (hk:∀ w∈kit,0≤w∧w≤99):∀ x∈Zat kit,0<x∧x≤594:=by
 intro x hx
 unfold Zat at hx
 rw [Zk6,List.mem_mergeSort] at hx
 unfold QE at hx
 rw [RZ,decide_eq_true_eq] at hx
 obtain ⟨h1,h2⟩:=hx
 obtain ⟨l,hl,rfl⟩:=RS.mp h1
 have:=Zg0 kit l hk (Zn3 _ l hl).2
 omega
theorem Zp5 (zs:List Int):(Lib.compact zs).length≤zs.length:=by
 unfold Lib.compact Lib.compactUpTo
 rw [Wn]
 have:=Ws (Lib.keeps zs.toArray) (Wt zs.length)
 simpa using this
theorem ZuE {kit:List Int} (hn:kit.length≤6):(Zat kit).length≤729:=by
 unfold Zat
 refine Ww (Zp5 _) ?_
 rw [List.length_mergeSort]
 unfold QE
 have:=Ws (fun x:Int=>decide (0<x)) ((KT kit.length).map (dotZ kit))
 rw [Wn,ZcL] at this
 have hp3:3 ^ kit.length≤3 ^ 6:=RD (by omega) hn
 have h36:(3:Nat) ^ 6=729:=by decide
 omega
theorem Zp6 (hl:ZlW pr) {q:Nat} {cap:Option Nat} {k:List Int} (h:Za H q=some (Y5 k)) (hn:k.length≤1000000):call T pr Zbu [slI q k.length cap,.bool true] ⟨H,e⟩=some (.tup [.int .i64 (if ZfX k=true then Zg2 k else 0),.bool (ZfX k)],⟨H,e⟩):=by
 have h1:∀ L,Za L q=some (Y5 k)→call T pr K4 [slI q k.length cap] ⟨L,none⟩=some (.bool (ZfX k),⟨L,none⟩):=fun L hL=>Zw9 hL hn
 apply Wc.eq
 rw [ZK ZoF]
 cases hk:ZfX k with
 | false=>
  rw [hk] at h1
  simp (maxSteps:=2000000) +contextual only [JL,Zd8,h,h1,RO,if_false,pp,go_sem,reduceIte,Ra,Rb,Rc,Rd]
 | true=>
  rw [hk] at h1
  obtain ⟨k0,k6,kw⟩:=Zg1 hk
  simp (maxSteps:=2000000) +contextual only [JL,Zd8,h,h1,if_true,pp,go_sem,reduceIte,Ra,Rb,Rc,Rd]
  refine (ZuD hl h k0 k6 kw).mono ?_
  rintro v m ⟨X,rfl,rfl⟩
  have hwl:=ZuE k6
  have hws:=Zk8 k6 fun w hw=>by have:=kw w hw;omega
  unfold Zg2
  generalize Zat k=W at *
  simp (maxSteps:=2000000) +contextual only [pp,go_sem,reduceIte,Ra,Rb,Rc,Rd]
  refine XQ (fun j st=>∃ (i:Nat) (r:Int) (w6 w12 w13:AV),i+j=W.length∧0≤r∧r≤594∧ZuC r (W.drop i)=ZuC 0 W ∧
   st=⟨[slI q k.length cap,.bool true,.int .i64 0,.bool false,.int .i64 (-1),.int .i64 r,w6,.bool false,.bool true,slI H.length W.length none,.int .i64 W.length,.int .i64 i,w12,w13],⟨H++[.cells (Y5 (W++X)) true],none⟩⟩) ?_ W.length _
   ⟨0,0,_,_,_,by omega,by omega,by omega,by rw [Rk],rfl⟩
  rintro j _ ⟨i,r,w6,w12,w13,hij,hr0,hr1,hrun,rfl⟩
  by_cases hj:j=0
  ·have he:i=W.length:=by omega
   subst he
   rw [Rp] at hrun
   simp only [ZuC] at hrun
   rw [←hrun]
   simp (maxSteps:=2000000) +contextual only [Zac,JL,Ri,decide_false,pp,go_sem,reduceIte,Ra,Rb,Rc,Rd]
  ·have hi:i<W.length:=by omega
   have hl:(W++X)[i]?=some W[i]:=by rw [Wd hi,Rl hi]
   have hwi:=hws W[i] (Wx hi)
   rw [Rm hi] at hrun
   generalize W[i]=x at *
   have w1:IntKind.i64.wrap (r+1)=r+1:=Yc (by omega) (by omega)
   have hsw:=Zw (show i<9223372036854775807 by omega)
   by_cases hx:x=r+1
   ·simp only [ZuC,if_pos hx] at hrun
    simp (maxSteps:=2000000) +contextual only [Zac,hi,Z2 _ hl,w1,hx,hsw,decide_true,pp,go_sem,reduceIte,Ra,Rb,Rc,Rd]
    exact ⟨j - 1,by omega,i+1,_,_,_,_,by omega,by omega,by omega,by rw [←hx];exact hrun,rfl⟩
   ·simp only [ZuC,if_neg hx] at hrun
    rw [←hrun]
    simp (maxSteps:=2000000) +contextual only [Zac,JL,hi,Z2 _ hl,w1,hx,decide_true,decide_false,pp,go_sem,reduceIte,Ra,Rb,Rc,Rd]
theorem ZuF (l:List Int) (x:Int):Ze2 (l++[x])=Ze2 l+if x=0 then 0 else 1:=by
 unfold Ze2
 rw [WI,RL]
 by_cases h:x=0 <;> simp [h]
theorem ZmW {q:Nat} {cap:Option Nat} {k:List Int} (h:Za H q=some (Y5 k)) (hn:k.length≤1000000):call T pr QO [slI q k.length cap] ⟨H,e⟩=some (.int .i64 (Ze2 k),⟨H,e⟩):=by
 apply Wc.eq
 rw [ZK Ztk]
 simp (maxSteps:=2000000) +contextual only [Zct,Zmh,pp,go_sem,reduceIte,Ra,Rb,Rc,Rd]
 refine XQ (fun j st=>∃ (i:Nat) (w3 w7 w8:AV),i+j=k.length∧st=⟨[slI q k.length cap,.int .i64 0,.int .i64 (Ze2 (k.take i)),w3,slI q k.length cap,.int .i64 k.length,.int .i64 i,w7,w8],⟨H,none⟩⟩) ?_ k.length _ ⟨0,_,_,_,by omega,rfl⟩
 rintro j _ ⟨i,w3,w7,w8,hij,rfl⟩
 by_cases hj:j=0
 ·have he:i=k.length:=by omega
  subst he
  rw [WK]
  simp (maxSteps:=2000000) +contextual only [ZbJ,Zct,Ri,decide_false,pp,go_sem,reduceIte,Ra,Rb,Rc,Rd]
 ·have hi:i<k.length:=by omega
  have hl:k[i]?=some k[i]:=Rl hi
  have hs:=ZuF (k.take i) k[i]
  rw [←WL hi] at hs
  have hb:=ZyU (k.take i)
  rw [List.length_take] at hb
  generalize k[i]=x at *
  have hsw:=Zw (show i<9223372036854775807 by omega)
  by_cases hx:x=0
  ·rw [if_pos hx,Int.add_zero] at hs
   simp (maxSteps:=2000000) +contextual only [ZbJ,hi,h,Z2 _ hl,hx,hsw,decide_true,decide_false,pp,go_sem,reduceIte,Ra,Rb,Rc,Rd]
   exact ⟨j - 1,by omega,i+1,_,_,_,by omega,by rw [hs]⟩
  ·rw [if_neg hx] at hs
   have w1:IntKind.i64.wrap (Ze2 (k.take i)+1)=Ze2 (k.take (i+1)):=by rw [hs];exact Yc (by omega) (by omega)
   simp (maxSteps:=2000000) +contextual only [ZbJ,hi,h,Z2 _ hl,hx,w1,hsw,decide_true,decide_false,pp,go_sem,reduceIte,Ra,Rb,Rc,Rd]
   exact ⟨j - 1,by omega,i+1,_,_,_,by omega,rfl⟩
def X2 (kit:List Int) (n:Int) (done:List (List Int)):List Int:=done.foldl (Zi2 kit n) []
theorem ZuG (kit:List Int) (n:Int) (done:List (List Int)) (sg:List Int):X2 kit n (done++[sg])=Zi2 kit n (X2 kit n done) sg:=by
 unfold X2
 rw [List.foldl_append];rfl
theorem Zxb (kit:List Int) (n:Int) (m:Nat):∀ (done:List (List Int)),(∀ l∈done,l.length=m)→(X2 kit n done).length=0∨(X2 kit n done).length=m:=by
 have key:∀ (done:List (List Int)) (b:List Int),(∀ l∈done,l.length=m)→(b.length=0∨b.length=m)→(done.foldl (Zi2 kit n) b).length=0∨(done.foldl (Zi2 kit n) b).length=m:=by
  intro done
  induction done with
  | nil=>intro b _ hb;exact hb
  | cons l done ih=>
   intro b hl hb
   refine ih _ (fun x hx=>hl x (We _ hx)) ?_
   unfold Zi2
   split
   ·exact .inr (hl l RR)
   ·exact hb
 exact fun done hl=>key done [] hl (.inl rfl)
def ZAL (q b0 on o m:Nat) (kit:List Int) (n:Int) (H:List Blk) (done:List (List Int)) (L:List Blk):Prop :=
 YR H L∧(∀ l∈done,l.length=m)∧∃ b cc,L[o]?=some (.cells [slI b (X2 kit n done).length cc] true)∧Za L b=some (Y5 (X2 kit n done))∧L[on]?=some (.cells [.int .i64 n] true)∧H.length≤b∧b≠o∧(b<b0∨b0+6≤b)
theorem Zz8 {q:Nat} {cap:Option Nat} {k:List Int} (h:Za H q=some (Y5 k)) (hn:k.length≤1000000):call T pr Yq [slI q k.length cap] ⟨H,e⟩=some (slI H.length k.length none,⟨H++[.cells (Y5 k) true],e⟩):=by
 have ha:=fun L b e' (hb:L[b]?=some (.cells [] true)) hq=>ZcF (e:=e') (L:=L) (b:=b) (q:=q) (n:=k.length) (sz:=1) (bytes:=8) (c:=cap) (cs:=Y5 k) hb hq (by simp [Y5]) (by unfold maxBytes;omega)
 have hf:∀ (B:Blk) (e0:Option Nat),finish 2 H.length e0 (slI (H.length+1) k.length none) ⟨H++[B,.cells (Y5 k) true],none⟩=some (slI H.length k.length none,⟨H++[.cells (Y5 k) true],e0⟩) :=
  fun B e0=>Zdn e0 rfl (ZeS _ _)
 rw [Zl Zdk]
 simp +contextual only [Y3,Qu,Zkz,Zb,ha,Zc h,ZhH,ZnN,hf,go_sem,reduceIte,Ra,Rb,Rc,Rd]
def Zn5 (kit:List Int) (n:Int):List Int:=X2 kit n (KT kit.length)
theorem ZuH (k:List Int) (x:Int):x∈Zat k↔0<x∧∃ l,l∈KT k.length∧dotZ k l=x:=by
 unfold Zat
 rw [Zk6,List.mem_mergeSort]
 unfold QE
 rw [RZ,decide_eq_true_eq,RS]
 constructor
 ·rintro ⟨⟨l,h1,h2⟩,h3⟩;exact ⟨h3,l,h1,h2⟩
 ·rintro ⟨h3,l,h1,h2⟩;exact ⟨⟨l,h1,h2⟩,h3⟩
theorem Zn6 (k:List Int):(Zat k).Pairwise (· < ·):=by
 unfold Zat
 apply ZlZ
 have:=List.pairwise_mergeSort (le:=fun x y:Int=>decide (x≤y)) (fun a b c h1 h2=>by simp only [decide_eq_true_eq] at *;omega) (fun a b=>by simp;omega) (QE k (KT k.length))
 exact this.imp fun h=>by simpa using h
def Jh (L:List Blk) (lo hi:Nat) (es:List AV) (ls:List (List Int)):Prop :=
 es.length=ls.length∧∀ (i:Nat) (l:List Int),ls[i]?=some l→∃ (q:Nat) (c:Option Nat),es[i]?=some (slI q l.length c)∧lo≤q∧q<hi∧L[q]?=some (.cells (Y5 l) true)
theorem Jh.of {L L':List Blk} {lo hi hi':Nat} {es:List AV} {ls:List (List Int)} (h:Jh L lo hi es ls) (hL:∀ i,i<hi→L'[i]?=L[i]?) (hh:hi≤hi'):Jh L' lo hi' es ls:=by
 refine ⟨h.1,fun i l hl => ?_⟩
 obtain ⟨q,c,h1,h2,h3,h4⟩:=h.2 i l hl
 exact ⟨q,c,h1,h2,by omega,by rw [hL q h3];exact h4⟩
theorem Jh.snoc {L:List Blk} {lo hi:Nat} {es:List AV} {ls:List (List Int)} (h:Jh L lo hi es ls) {q:Nat} {c:Option Nat} {l:List Int} (h1:lo≤q) (h2:q<hi) (h3:L[q]?=some (.cells (Y5 l) true)):Jh L lo hi (es++[slI q l.length c]) (ls++[l]):=by
 refine ⟨by simp [h.1],fun i m hm => ?_⟩
 by_cases hi:i<ls.length
 ·rw [Wd hi] at hm
  obtain ⟨q',c',g1,g2⟩:=h.2 i m hm
  exact ⟨q',c',by rw [Wd (by rw [h.1];exact hi)];exact g1,g2⟩
 ·have hi':=(Wb.mp hm).1
  rw [RL,List.length_singleton] at hi'
  have he:i=ls.length:=by omega
  subst he
  rw [Rs (Rt _),Nat.sub_self,List.getElem?_cons_zero,RH] at hm
  subst hm
  exact ⟨q,c,by rw [Rs (by rw [h.1];exact Rt _),h.1,Nat.sub_self];rfl,h1,h2,h3⟩
theorem ZdD {es:List AV} {i:Nat} {v:AV} (sz:Nat) (h:es[i]?=some v):ZdV false es i sz=some v:=by
 rw [ZaQ];exact h
variable {pr : Zq} {H : List Blk} {e : Option Nat}
theorem ZCa (c:Nat) (hc:c<4096) (i:Nat) (hi:i<12):decide (Zyr .i64 (ZAJ .i64 c (i:Int)) 1=1)=c.testBit i:=by
 have h1:ZAJ .i64 (c:Int) (i:Int)=((c / 2 ^ i:Nat):Int):=by
  unfold ZAJ
  have:min (i:Int).toNat IntKind.i64.bits=i:=by show min (i:Int).toNat 64=i;omega
  rw [this,Int.fdiv_eq_ediv_of_nonneg _ (Int.pow_nonneg (by omega))]
  simp
 have h2:∀ n:Nat,n<4096→Zyr .i64 (n:Int) 1=((n % 2:Nat):Int):=by
  intro n hn
  have e1:(BitVec.ofInt 64 (n:Int) &&& BitVec.ofInt 64 1).toNat=n % 2:=by
   rw [BitVec.toNat_and,BitVec.ofInt_natCast,BitVec.toNat_ofNat,Nat.mod_eq_of_lt (by omega)]
   exact Nat.and_one_is_mod n
  show IntKind.i64.wrap ((BitVec.ofInt 64 (n:Int) &&& BitVec.ofInt 64 1).toNat:Int)=_
  rw [e1]
  exact Zca (by omega)
 have h3:c / 2 ^ i<4096:=Nat.lt_of_le_of_lt (Rr _ _) hc
 rw [h1,h2 _ h3,Nat.testBit_eq_decide_div_mod_eq]
 congr 1
 exact propext ⟨fun h=>by omega,fun h=>by omega⟩
theorem ZCb:∀ n:Nat,n<13→ZBK .i64 1 (n:Int)=((2 ^ n:Nat):Int):=by decide +kernel
theorem ZyW (x:Int) (i:Nat):Xg 0 .shl (.int .i64 x) (.int .i64 (i:Int))=some (.int .i64 (ZBK .i64 x i)):=by
 rw [Zpd,if_neg (by omega)]
theorem ZsF (x:Int) (i:Nat):Xg 0 .shr (.int .i64 x) (.int .i64 (i:Int))=some (.int .i64 (ZAJ .i64 x i)):=by
 rw [Zpe,if_neg (by omega)]
theorem Zxc (c i:Nat):ZdS (i+1) c=ZdS i c++if c.testBit i then [i] else []:=by
 unfold ZdS
 rw [List.range_succ,WI]
 cases h:c.testBit i <;> simp [h]
theorem ZsG (n c:Nat):(ZdS n c).length≤n:=by
 have:=Ws (fun i=>c.testBit i) (Wt n)
 simpa [ZdS] using this
def Zzz (ls:List Ld) (p:Int) (l:List Nat):Int:=(l.map fun i=>ls.getD i (0,0)).foldl (Qz p) 0
theorem Zxd (ls:List Ld) (p:Int) (l:List Nat) (i:Nat) (x:Ld) (h:ls[i]?=some x):Zzz ls p (l++[i])=Qz p (Zzz ls p l) x:=by
 unfold Zzz
 rw [WE,List.foldl_append]
 simp [WH,h]
def ZhV (ls:List Ld) (p:Int) (l:List Nat):Bool:=decide (Zzz ls p l=0)
def Zp7 (ls:List Ld) (p:Int) (c:Nat):List (List Nat):=((Wt c).map (ZdS ls.length)).filter (ZhV ls p)
theorem Zxe (ls:List Ld) (p:Int) (c:Nat):Zp7 ls p (c+1)=Zp7 ls p c++if ZhV ls p (ZdS ls.length c) then [ZdS ls.length c] else []:=by
 unfold Zp7
 rw [List.range_succ,WE,WI]
 cases h:ZhV ls p (ZdS ls.length c) <;> simp [h]
theorem Zn7 (ls:List Ld) (p:Int) (c:Nat):(Zp7 ls p c).length≤c:=by
 unfold Zp7
 have:=Ws (ZhV ls p) ((Wt c).map (ZdS ls.length))
 simpa using this
theorem ZyX (l:List Nat) (i:Nat):Y5 (asZ l)++[.int .i64 i]=Y5 (asZ (l++[i])):=by
 unfold asZ Y5
 simp
theorem ZrQ (l:List Nat):(asZ l).length=l.length:=by simp [asZ]
theorem Jh.grown {L L':List Blk} {lo hi hi':Nat} {es:List AV} {ls:List (List Int)} (h:Jh L lo hi es ls) (hg:YR L L') (h1:hi≤L.length) (hh:hi≤hi'):Jh L' lo hi' es ls:=by
 obtain ⟨G,rfl⟩:=hg
 exact h.of (fun i hi=>Wd (by omega)) hh
theorem ZfY {A B C:List Blk} (h1:YR A B) (h2:YR B C):YR A C:=by
 obtain ⟨G1,rfl⟩:=h1
 obtain ⟨G2,rfl⟩:=h2
 exact ⟨G1++G2,by rw [Rj]⟩
theorem Q6 {A B:List Blk} {q:Nat} {cs:List AV} (h1:YR A B) (h:Za A q=some cs):Za B q=some cs:=by
 obtain ⟨G1,rfl⟩:=h1
 exact Zc h G1
theorem Zk9 {A B:List Blk} {q:Nat} {b:Blk} (h1:YR A B) (h:A[q]?=some b):B[q]?=some b:=by
 obtain ⟨G1,rfl⟩:=h1
 exact ZY h G1
theorem Jh.sorted {L:List Blk} {lo hi:Nat} {es:List AV} {ks:List (List Int)} (h:Jh L lo hi es ks):Jh L lo hi ((ZrK ks).map fun i=>(es[i]?).getD .undef) ((ZrK ks).map fun i=>ks.getD i []):=by
 refine ⟨by simp,fun i l hl => ?_⟩
 rw [List.getElem?_map] at hl ⊢
 cases hx:(ZrK ks)[i]? with
 | none=>rw [hx] at hl;exact absurd hl (by simp)
 | some x=>
  rw [hx] at hl
  simp only [Option.map_some,RH] at hl ⊢
  have hlt:x<ks.length:=List.mem_range.mp ((Zel ks).1.mem_iff.mp (List.mem_of_getElem? hx))
  have hkx:ks[x]?=some l:=by
   rw [WH,Rl hlt] at hl
   rw [Rl hlt,←hl];rfl
  obtain ⟨q,c,g1,g2⟩:=h.2 x l hkx
  exact ⟨q,c,by rw [g1];rfl,g2⟩
theorem Jh.keys {L:List Blk} {lo hi:Nat} {es:List AV} {ks:List (List Int)} (h:Jh L lo hi es ks) (hs:∀ l∈ks,l.length≤1073741824):Zek L es=some ks:=by
 refine ZpV h.1 fun i c zs h1 h2 => ?_
 obtain ⟨q,cc,g1,_,_,g4⟩:=h.2 i zs h2
 rw [g1,RH] at h1
 exact ⟨q,cc,h1.symm,Ze g4,hs zs (List.mem_of_getElem? h2)⟩
theorem ZdE (ks:List (List Int)):((ZrK ks).map fun i=>ks.getD i []).Perm ks:=by
 have h:=((Zel ks).1).map fun i=>ks.getD i []
 have e:(Wt ks.length).map (fun i=>ks.getD i [])=ks:=by
  apply List.ext_getElem
  ·simp
  ·intro i h1 h2
   simp [WH,h2]
 rw [e] at h
 exact h
def YY (ls:List Ld) (p:Int):List (List Int):=(ZxL ls.length (ZhV ls p)).map asZ
set_option maxHeartbeats 1000000 in
theorem Zes (hl:ZlW pr) {q:Nat} {cap:Option Nat} {ls:List Ld} {p:Int} (h:Za H q=some (Zu ls)) (hn:ls.length≤12):Wc (call T pr Kf [slL q ls.length cap,.int .i64 p] ⟨H,e⟩)
  (fun v m=>∃ (L':List Blk) (e':Option Nat) (b:Nat) (c:Option Nat) (es:List AV),v=slX b (YY ls p).length c∧m=⟨L',e'⟩∧YR H L'∧H.length≤b∧L'[b]?=some (.cells es true)∧Jh L' H.length b es (YY ls p)∧(clean H.length e=true→clean H.length e'=true)):=by
 have hp2:2 ^ ls.length≤2 ^ 12:=RD (by omega) hn
 have h4096:(2:Nat) ^ 12=4096:=by decide
 have hsh:=ZCb ls.length (by omega)
 rw [ZK Zlp]
 simp (maxSteps:=2000000) +contextual only [Jr,Zfa,Zb,ZyW,hsh,pp,go_sem,reduceIte,Ra,Rb,Rc,Rd]
 refine XQ (fun j st=>∃ (c b3:Nat) (c3:Option Nat) (es:List AV) (L:List Blk) (e1:Option Nat) (w4 w5 w6 w7 w8 w11 w12 w13 w14 w15 w16 w17:AV),c+j=2 ^ ls.length∧YR H L∧H.length≤b3∧(c3=some 0→(Zp7 ls p c).length=0)∧L[b3]?=some (.cells es true)∧Jh L H.length b3 es ((Zp7 ls p c).map asZ)∧clean H.length e1=true ∧
  st=⟨[slL q ls.length cap,.int .i64 p,Kp,slX b3 (Zp7 ls p c).length c3,w4,w5,w6,w7,w8,.int .i64 ((2 ^ ls.length:Nat):Int),.int .i64 c,w11,w12,w13,w14,w15,w16,w17],⟨L,e1⟩⟩) ?_ (2 ^ ls.length) _
  ⟨0,H.length,some 0,[],H++[.cells [] true],none,_,_,_,_,_,_,_,_,_,_,_,_,by omega,⟨_,rfl⟩,Rt _,fun _=>rfl,by rw [Xe];rfl,⟨rfl,fun i l hl=>absurd hl (by simp [Zp7])⟩,rfl,rfl⟩
 rintro j _ ⟨c,b3,c3,es,L,e1,w4,w5,w6,w7,w8,w11,w12,w13,w14,w15,w16,w17,hcj,hL,hb3,hc3,hLb,hR,he1,rfl⟩
 by_cases hj:j=0
 ·have he:c=2 ^ ls.length:=by omega
  subst he
  simp (maxSteps:=2000000) +contextual only [Zap,Jr,Ri,decide_false,pp,go_sem,reduceIte,Ra,Rb,Rc,Rd]
  have hU:(Zp7 ls p (2 ^ ls.length)).map asZ=(ZpQ ls.length (ZhV ls p)).map asZ:=rfl
  generalize hks:(Zp7 ls p (2 ^ ls.length)).map asZ=ks at *
  have hkl:(Zp7 ls p (2 ^ ls.length)).length=ks.length:=by rw [←hks,Wn]
  have hS:((ZrK ks).map fun i=>ks.getD i [])=YY ls p:=by
   refine ZgT ls.length (ZhV ls p) _ (by rw [←hU];exact ZdE ks) ?_
   rw [List.pairwise_map]
   exact (Zel ks).2
  have hmem:[]∈ks:=by
   rw [←hks,RS]
   refine ⟨[],?_,rfl⟩
   unfold Zp7
   rw [RZ,RS]
   exact ⟨⟨0,List.mem_range.mpr (Nat.pow_pos (by omega)),by unfold ZdS;simp⟩,rfl⟩
  have hpos:0<ks.length:=List.length_pos_of_mem hmem
  have hsm:∀ l∈ks,l.length≤1073741824:=by
   intro l hl
   rw [hU,RS] at hl
   obtain ⟨g,hg,rfl⟩:=hl
   unfold ZpQ at hg
   obtain ⟨c,_,rfl⟩:=RS.mp (RZ.mp hg).1
   rw [ZrQ]
   have:=ZsG ls.length c
   omega
  have hul:=Zn7 ls p (2 ^ ls.length)
  have hsort:=hl.srt es ks b3 c3 L e1 hLb (hR.keys hsm) hpos (by omega)
  have hRS:=hR.sorted
  rw [hS] at hRS
  have hgl:ks.length=(YY ls p).length:=by rw [←hS];exact (ZdE ks).length_eq.symm
  rw [hkl]
  simp (maxSteps:=2000000) +contextual only [Jr,hsort,finish,pp,go_sem,reduceIte,Ra,Rb,Rc,Rd]
  exact ⟨_,_,b3,c3,(ZrK ks).map fun i=>(es[i]?).getD .undef,by rw [hgl],rfl,hL.put hb3 _,hb3,by rw [Wu (Wb.mp hLb).1],hRS.of (fun i hi=>by rw [Wm (by omega)]) (Rt _),fun h=>YI h he1⟩
 ·have hc:c<2 ^ ls.length:=by omega
  have hbl:b3<L.length:=(Wb.mp hLb).1
  have hcw:=Zw (show c<9223372036854775807 by omega)
  simp (maxSteps:=2000000) +contextual only [Zap,hc,Zb,decide_true,pp,go_sem,reduceIte,Ra,Rb,Rc,Rd]
  refine XQ (fun j2 st=>∃ (i b5:Nat) (c5:Option Nat) (L5:List Blk) (e5:Option Nat) (w7 w8 w15 w16:AV),i+j2=ls.length∧YR L L5∧L.length≤b5∧(c5=some 0→(ZdS i c).length=0)∧L5[b5]?=some (.cells (Y5 (asZ (ZdS i c))) true)∧clean H.length e5=true ∧
   st=⟨[slL q ls.length cap,.int .i64 p,Kp,slX b3 (Zp7 ls p c).length c3,.int .i64 c,slI b5 (ZdS i c).length c5,.int .i64 (Zzz ls p (ZdS i c)),w7,w8,.int .i64 ((2 ^ ls.length:Nat):Int),.int .i64 c,.bool true,slL q ls.length cap,.int .i64 ls.length,.int .i64 i,w15,w16,w17],⟨L5,e5⟩⟩) ?_ ls.length _
   ⟨0,L.length,some 0,L++[.cells [] true],_,_,_,_,_,by omega,⟨_,rfl⟩,Rt _,fun _=>rfl,by rw [Xe];rfl,he1,rfl⟩
  clear w4 w5 w6 w7 w8 w11 w12 w13 w14 w15 w16
  rintro j2 _ ⟨i,b5,c5,L5,e5,w7,w8,w15,w16,hij,hL5,hb5,hc5,hLb5,he5,rfl⟩
  have hq5:Za L5 q=some (Zu ls):=Q6 hL5 (Q6 hL h)
  have hb5l:b5<L5.length:=(Wb.mp hLb5).1
  have hgl:=ZsG i c
  by_cases hj2:j2=0
  ·have he:i=ls.length:=by omega
   subst he
   have hup:=Zxe ls p c
   have hul:=Zn7 ls p c
   by_cases hz:Zzz ls p (ZdS ls.length c)=0
   ·have hzb:ZhV ls p (ZdS ls.length c)=true:=decide_eq_true hz
    rw [hzb,if_pos rfl] at hup
    simp (maxSteps:=2000000) +contextual only [Jl,Ri,Zb,hz,decide_true,decide_false,pp,go_sem,reduceIte,Ra,Rb,Rc,Rd]
    have hLb5':L5[b3]?=some (.cells es true):=Zk9 hL5 hLb
    have hLe:=hL5.le
    have hles:es.length=(Zp7 ls p c).length:=by rw [hR.1,Wn]
    refine Zn0 (k:=1) (new:=[slI b5 (ZdS ls.length c).length c5]) (cs:=es) (by rw [Wd (by omega)];exact hLb5') (Zbh _ 1 1 _ _ L5.length (by simp +contextual only [go_sem,reduceIte,Ra,Rb,Rc,Rd]) rfl) (by omega) rfl (by unfold maxBytes;omega) hc3 ?_
    intro L6 g1 g2 g3 g4
    have hl6:L6.length=L5.length+2:=by rw [g1];simp
    simp (maxSteps:=2000000) +contextual only [hcw,pp,go_sem,reduceIte,Ra,Rb,Rc,Rd]
    have g3':L6[L5.length+1]?=some (.cells (es++[slI b5 (asZ (ZdS ls.length c)).length c5]) true):=by
     rw [ZrQ]
     simpa using g3
    have keep:∀ x,x≠b3→x<L5.length→L6[x]?=L5[x]?:=fun x h1 h2=>by
     rw [g2 x h1 (by simp;omega),Wd h2]
    have hR5:=hR.grown hL5 (by omega) (Rt _)
    have hR6:=(hR5.of (L':=L6) (hi':=L5.length+1) (fun x hx=>keep x (by omega) (by omega)) (by omega)).snoc (q:=b5) (c:=c5) (l:=asZ (ZdS ls.length c)) (by have:=hL.le;omega) (by omega) (by rw [keep b5 (by omega) hb5l];exact hLb5)
    exact ⟨j - 1,by omega,c+1,L5.length+1,none,_,L6,e5,_,_,_,_,_,_,_,_,_,_,_,_,by omega,g4 _ ((ZfY hL hL5).more _) hb3,by have:=hL.le;omega,by simp,g3',by rw [hup,WE];exact hR6,he5,by rw [hup,RL];rfl⟩
   ·have hzb:ZhV ls p (ZdS ls.length c)=false:=decide_eq_false hz
    rw [hzb] at hup
    simp only [RO,if_false,Rq] at hup
    simp (maxSteps:=2000000) +contextual only [Jl,Ri,hz,hcw,decide_false,pp,go_sem,reduceIte,Ra,Rb,Rc,Rd]
    exact ⟨j - 1,by omega,c+1,b3,c3,es,L5,e5,_,_,_,_,_,_,_,_,_,_,_,_,by omega,ZfY hL hL5,hb3,by rw [hup];exact hc3,Zk9 hL5 hLb,by rw [hup];exact hR.grown hL5 (by omega) (Rt _),he5,by rw [hup]⟩
  ·have hi:i<ls.length:=by omega
   have hl':ls[i]?=some ls[i]:=Rl hi
   have hiw:=Zw (show i<9223372036854775807 by omega)
   have hb:=ZCa c (by omega) i (by omega)
   have hms:=Zxd ls p (ZdS i c) i ls[i] hl'
   have hgs:=Zxc c i
   generalize ls[i]=x at *
   cases hbt:c.testBit i with
   | false=>
    rw [hbt] at hb hgs
    simp only [RO,if_false,Rq] at hgs
    simp (maxSteps:=2000000) +contextual only [Jl,hi,hq5,JP hl',ZsF,hb,hiw,decide_true,pp,go_sem,reduceIte,Ra,Rb,Rc,Rd]
    exact ⟨j2 - 1,by omega,i+1,b5,c5,L5++[.cells [.int .i64 x.1,.int .i64 x.2] true],_,_,_,_,_,by omega,hL5.more _,hb5,by rw [hgs];exact hc5,by rw [hgs];exact ZY hLb5 _,he5,by rw [hgs]⟩
   | true=>
    rw [hbt] at hb hgs
    simp only [if_true] at hgs
    simp (maxSteps:=2000000) +contextual only [Jl,hi,hq5,JP hl',ZsF,hb,Zb,decide_true,pp,go_sem,reduceIte,Ra,Rb,Rc,Rd]
    have hLe:=hL5.le
    refine Zn0 (k:=1) (new:=[.int .i64 i]) (cs:=Y5 (asZ (ZdS i c))) (ZY hLb5 _) (Zbh _ 1 1 _ _ (L5.length+1) (by simp +contextual only [go_sem,reduceIte,Ra,Rb,Rc,Rd]) rfl) (by simp [Y5,asZ]) rfl (by unfold maxBytes;omega) hc5 ?_
    intro L6 g1 g2 g3 g4
    have hl6:L6.length=L5.length+3:=by rw [g1];simp
    rw [ZyX,←hgs] at g3
    have g3':L6[L5.length+2]?=some (.cells (Y5 (asZ (ZdS (i+1) c))) true):=by simpa using g3
    have hld:Za L6 L5.length=some [.int .i64 x.1,.int .i64 x.2]:=by
     refine Ze (w:=true) ?_
     rw [g2 L5.length (by omega) (by simp),Rs (Rt _),Nat.sub_self];rfl
    have hmst:IntKind.i64.wrap (Zzz ls p (ZdS i c)+IntKind.i64.wrap (x.2*IntKind.i64.wrap (x.1 - p)))=Zzz ls p (ZdS (i+1) c):=by rw [hgs,hms];rfl
    simp (maxSteps:=2000000) +contextual only [hld,ZgE,ZgF,ZfL,Wo,WC,Int.toNat_one,Nat.zero_mul,Wv,hmst,hiw,pp,go_sem,reduceIte,Ra,Rb,Rc,Rd]
    have hgl':(ZdS (i+1) c).length=(ZdS i c).length+1:=by rw [hgs];simp
    exact ⟨j2 - 1,by omega,i+1,L5.length+2,none,L6,e5,_,_,_,_,by omega,g4 _ (hL5.more _) hb5,by omega,by simp,g3',he5,by rw [hgl']⟩
theorem Jh.low {L:List Blk} {lo lo' hi:Nat} {es:List AV} {ls:List (List Int)} (h:Jh L lo hi es ls) (hh:lo'≤lo):Jh L lo' hi es ls:=by
 refine ⟨h.1,fun i l hl => ?_⟩
 obtain ⟨q,c,h1,h2,h3,h4⟩:=h.2 i l hl
 exact ⟨q,c,h1,by omega,h3,h4⟩
def ZyY (n:Nat) (l:List Nat):List (List Nat):=(List.range' (Zbf l) (n - Zbf l)).map fun x=>l++[x]
theorem Zxf (n:Nat) (l:List Nat):(ZyY n l).length=n - Zbf l:=by simp [ZyY]
theorem Zg3 (n m:Nat):∀ (ll:List (List Nat)),(∀ l∈ll,n - Zbf l≤m)→(ll.flatMap (ZyY n)).length≤ll.length*m
 | [],_=>by simp
 | l::ll,h=>by
  have ih:=Zg3 n m ll fun x hx=>h x (We _ hx)
  have h1:=h l RR
  simp only [List.flatMap_cons,RL,Zxf,RB,Nat.add_mul,Wv]
  omega
theorem Zp8 (n:Nat):∀ (d:Nat) (l:List Nat),l∈ZaL n d→d≤Zbf l
 | 0,_,_=>Nat.zero_le _
 | d+1,l,h=>by
  simp only [ZaL,WG,RS,List.mem_range'_1] at h
  obtain ⟨l0,h0,x,⟨h1,_⟩,rfl⟩:=h
  have:=Zp8 n d l0 h0
  simp only [Zbf,List.getLast?_append,List.getLast?_singleton,Option.some_or]
  omega
def Zxg (n:Nat):Nat→Nat
 | 0=>1
 | d+1=>Zxg n d*(n - d)
theorem ZzA:∀ n:Nat,n<13→∀ d:Nat,d<14→Zxg n d≤479001600:=by decide +kernel
theorem Zla (n:Nat):∀ k,(ZaL n k).length≤Zxg n k
 | 0=>by simp [ZaL,Zxg]
 | k+1=>by
  have ih:=Zla n k
  have h:=Zg3 n (n - k) (ZaL n k) fun l hl=>by have:=Zp8 n k l hl;omega
  have e:ZaL n (k+1)=(ZaL n k).flatMap (ZyY n):=rfl
  rw [e,Zxg]
  exact Ww h (Nat.mul_le_mul_right _ ih)
def ZBX (n:Nat) (Z:List Nat→Bool) (k i:Nat):List (List Nat):=((Wt k).flatMap (ZaL n)).filter Z++((ZaL n k).take i).filter Z
theorem Zp9 (n:Nat) (Z:List Nat→Bool) (k:Nat):ZBX n Z k 0=((Wt k).flatMap (ZaL n)).filter Z:=by
 unfold ZBX;simp
theorem ZsH (n:Nat) (hn:n≤12) (Z:List Nat→Bool) (k i:Nat) (hk:k≤13):(ZBX n Z k i).length≤(k+1)*479001600:=by
 have h1:∀ k,k≤13→((Wt k).flatMap (ZaL n)).length≤k*479001600:=by
  intro k
  induction k with
  | zero=>intro _;simp
  | succ k ih=>
   intro hk
   have:=ih (by omega)
   have h2:=Zla n k
   have h3:=ZzA n (by omega) k (by omega)
   rw [List.range_succ,List.flatMap_append,RL]
   simp only [List.flatMap_cons,List.flatMap_nil,Rq]
   omega
 have h2:=h1 k hk
 have h3:=Zla n k
 have h4:=ZzA n (by omega) k (by omega)
 have h5:=Ws Z ((Wt k).flatMap (ZaL n))
 have h6:=Ws Z ((ZaL n k).take i)
 have h7:=List.length_take_le i (ZaL n k)
 have h8:=List.length_take_le' i (ZaL n k)
 unfold ZBX
 rw [RL]
 omega
theorem ZrR {L:List Blk} {v:AV} (h0:AV.roots H.length v=[]) (h0':∀ f,AV.rename f v=v) (hL:YR H L) (e0 e1:Option Nat) (hc:clean H.length e1=true):finish 2 H.length e0 v ⟨L,e1⟩=some (v,⟨H,e0⟩):=by
 obtain ⟨G,rfl⟩:=hL
 unfold finish
 simp only [h0,h0',hc]
 simp [X6]
theorem Zet {ls:List Ld} (h:Y1 ls=true):ls.length≤12:=by
 unfold Y1 at h
 rw [Ru,decide_eq_true_eq] at h
 exact h.1
theorem Zg4 (hl:ZlW pr) {q:Nat} {cap:Option Nat} {ls:List Ld} (h:Za H q=some (Zu ls)) (hr:Y1 ls=true) (p:Int):call T pr K0 [slL q ls.length cap,.int .i64 p] ⟨H,e⟩=some (.tup [.int .i64 (if Zhc p=true then ((YY ls p).length:Int) else 0),.bool (Zhc p)],⟨H,e⟩):=by
 have hn:=Zet hr
 have h1:=fun (L:List Blk) (hL:Za L q=some (Zu ls))=>Jo (pr:=pr) (H:=L) (e:=none) (c:=cap) hL
 have h3:=fun G=>Za9 (pr:=pr) (H:=G) (e:=none) p
 rw [hr] at h1
 apply Wc.eq
 rw [ZK Zm9]
 unfold Zhc
 cases hp:(decide (0≤p)&&decide (p≤60)) with
 | false=>
  rw [hp] at h3
  simp (maxSteps:=2000000) +contextual only [JY,Zc7,h,h1,h3,RO,if_false,if_true,pp,go_sem,reduceIte,Ra,Rb,Rc,Rd]
 | true=>
  rw [hp] at h3
  simp (maxSteps:=2000000) +contextual only [JY,Zc7,h,h1,h3,RO,if_false,if_true,pp,go_sem,reduceIte,Ra,Rb,Rc,Rd]
  refine (Zes hl h hn).mono ?_
  rintro v m ⟨L',e',b,c,es,rfl,rfl,hL,hb,hLb,hR,hcl⟩
  have hf:=fun e0=>ZxM hL e0 e' (.tup [.int .i64 ((YY ls p).length:Nat),.bool true]) rfl (hcl rfl)
  simp (maxSteps:=2000000) +contextual only [JY,hf,pp,go_sem,reduceIte,Ra,Rb,Rc,Rd]
def Zlb (n:Nat) (g:List Int):Bool:=decide ((0:Int)∈g)&&decide (g.length<n)
def ZiC (ls:List Ld):Int:=((Zf2 ls 0).toNat / (Q2 ls).toNat:Nat)
def ZsI (ls:List Ld):Bool:=decide (2≤ls.length)&&decide ((Zf2 ls 0).toNat % (Q2 ls).toNat=0)
def Ko (ls:List Ld):Option (List Int):=if ZsI ls=true then (YY ls (ZiC ls)).find? (Zlb ls.length) else none
theorem ZbX {ls:List Ld} {p:Int} {g:List Int} (h:g∈YY ls p):((0:Int)∈g↔g[0]?=some 0)∧g.length≤ls.length:=by
 unfold YY ZxL at h
 obtain ⟨l,hl,rfl⟩:=RS.mp h
 obtain ⟨k,hk,hm⟩:=WG.mp (RZ.mp hl).1
 obtain ⟨h1,h2,h3⟩:=(X1 ls.length k l).mp hm
 have hk':=List.mem_range.mp hk
 refine ⟨?_,by rw [ZrQ];omega⟩
 cases l with
 | nil=>simp [asZ]
 | cons a l=>
  obtain ⟨h4,h5⟩:=List.pairwise_cons.mp h2
  simp only [asZ,List.map_cons,RQ,RS,List.getElem?_cons_zero,RH]
  constructor
  ·rintro (h | ⟨x,hx,h6⟩)
   ·exact h.symm
   ·have:=h4 x hx;omega
  ·intro h;exact .inl h.symm
theorem Zeu (hl:ZlW pr) {q:Nat} {cap:Option Nat} {ls:List Ld} (h:Za H q=some (Zu ls)) (hr:Y1 ls=true):Wc (call T pr Kd [slL q ls.length cap] ⟨H,e⟩)
  (fun v m=>match Ko ls with
   | some g=>∃ (c:Option Nat),v=.tup [slI H.length g.length c,.bool true]∧m=⟨H++[.cells (Y5 g) true],e⟩
   | none=>v=.tup [Kp,.bool false]∧m=⟨H,e⟩):=by
 have hn:=Zet hr
 have h1:=fun (L:List Blk) (hL:Za L q=some (Zu ls))=>Jo (pr:=pr) (H:=L) (e:=none) (c:=cap) hL
 have h2:=fun (L:List Blk) (hL:Za L q=some (Zu ls))=>QA (pr:=pr) (H:=L) (e:=none) (c:=cap) hL (by omega) 0
 have h3:=fun (L:List Blk) (hL:Za L q=some (Zu ls))=>ZbR (pr:=pr) (H:=L) (e:=none) (c:=cap) hL (by omega)
 rw [hr] at h1
 obtain ⟨m,hm,hm1⟩:=Zw3 hr
 obtain ⟨w,hw,hw1⟩:=ZcE hr
 rw [hm] at h2
 rw [hw] at h3
 rw [ZK Zlm]
 by_cases h20:ls.length<2
 ·have h20':((ls.length:Nat):Int)<2:=by omega
  have ha:Ko ls=none:=by unfold Ko ZsI;rw [decide_eq_false (by omega:¬ 2≤ls.length)];rfl
  rw [ha]
  simp (maxSteps:=2000000) +contextual only [Y7,Zaa,h,h1,h20,h20',decide_true,pp,go_sem,reduceIte,Ra,Rb,Rc,Rd,ff]
 ·have h20':¬ ((ls.length:Nat):Int)<2:=by omega
  have hwp:=ZmU hr (by omega)
  rw [hw,Wq] at hwp
  have hw0:¬ ((w:Nat):Int)=0:=by omega
  have hq1:Int.tmod (m:Int) (w:Int)=((m % w:Nat):Int):=rfl
  by_cases hmw:m % w=0
  ·have hmz:((m % w:Nat):Int)=0:=by omega
   have hq2:IntKind.i64.wrap (Int.tdiv (m:Int) (w:Int))=ZiC ls:=by
    unfold ZiC
    rw [hm,hw,Wq,Wq,←Int.ofNat_tdiv]
    exact Zca (by have:=Rr m w;omega)
   have ha:Ko ls=(YY ls (ZiC ls)).find? (Zlb ls.length):=by
    unfold Ko ZsI
    rw [hm,hw,Wq,Wq,decide_eq_true (by omega:2≤ls.length),decide_eq_true hmw];rfl
   rw [ha]
   simp (maxSteps:=2000000) +contextual only [Y7,Zaa,h,h1,h2,h3,h20,h20',hw0,hq1,hmz,hq2,decide_true,decide_false,pp,go_sem,reduceIte,Ra,Rb,Rc,Rd]
   refine (Zes hl h hn).mono ?_
   rintro v mm ⟨L',e',b,c,es,rfl,rfl,hL,hb,hLb,hR,hcl⟩
   have he':=hcl rfl
   simp (maxSteps:=2000000) +contextual only [pp,go_sem,reduceIte,Ra,Rb,Rc,Rd]
   have hgb:=ZsH ls.length hn (ZhV ls (ZiC ls)) (ls.length+1) 0 (by omega)
   rw [Zp9] at hgb
   have hgb2:(YY ls (ZiC ls)).length≤(ls.length+1+1)*479001600:=by unfold YY ZxL;rw [Wn];exact hgb
   clear hgb
   have hgf:=fun g=>ZbX (ls:=ls) (p:=ZiC ls) (g:=g)
   generalize YY ls (ZiC ls)=gs at *
   have hes:es.length=gs.length:=hR.1
   have hbc:=Ze hLb
   refine XQ (fun j st=>∃ (i:Nat) (w5 w11 w12:AV),i+j=gs.length∧(gs.drop i).find? (Zlb ls.length)=gs.find? (Zlb ls.length) ∧
    st=⟨[slL q ls.length cap,Kp,.bool false,.int .i64 m,.int .i64 w,w5,.bool false,.bool false,slX b gs.length c,.int .i64 gs.length,.int .i64 i,w11,w12],⟨L',e'⟩⟩) ?_ gs.length _ ⟨0,_,_,_,by omega,rfl,rfl⟩
   rintro j _ ⟨i,w5,w11,w12,hij,hfd,rfl⟩
   by_cases hj:j=0
   ·have he:i=gs.length:=by omega
    subst he
    rw [Rp] at hfd
    rw [←hfd]
    have hf:=fun e0=>ZrR (v:=.tup [.slice none 0 0 none,.bool false]) (by simp [AV.roots,AV.roots.go]) (by simp [AV.rename,AV.rename.go]) hL e0 e' he'
    simp (maxSteps:=2000000) +contextual only [Xv,Y7,List.find?_nil,Ri,decide_false,hf,pp,go_sem,reduceIte,Ra,Rb,Rc,Rd]
   ·have hi:i<gs.length:=by omega
    obtain ⟨g,hg⟩:∃ g,gs[i]?=some g:=⟨_,Rl hi⟩
    obtain ⟨q2,cq,hq1,hq2,hq3,hq4⟩:=hR.2 i g hg
    have hiw:IntKind.i64.wrap ((i:Int)+1)=((i+1:Nat):Int):=Zw (by omega)
    obtain ⟨hz,hgl⟩:=hgf g (List.mem_of_getElem? hg)
    have hdr:gs.drop i=g::gs.drop (i+1):=by
     rw [Rm hi]
     rw [Rl hi,RH] at hg
     rw [hg]
    rw [hdr,List.find?_cons] at hfd
    have hqc:=Ze hq4
    by_cases h0:g.length=0
    ·have hpg:Zlb ls.length g=false:=by
      have:g=[]:=List.length_eq_zero_iff.mp h0
      subst this;rfl
     rw [hpg] at hfd
     have h0':¬ (0:Int)<((g.length:Nat):Int):=by omega
     simp (maxSteps:=2000000) +contextual only [Xv,hi,hbc,ZdD _ hq1,gt_iff_lt,h0',hiw,decide_true,decide_false,pp,go_sem,reduceIte,Ra,Rb,Rc,Rd]
     exact ⟨j - 1,by omega,i+1,_,_,_,by omega,hfd,rfl⟩
    ·have h0':(0:Int)<((g.length:Nat):Int):=by omega
     have hg0:0<g.length:=by omega
     obtain ⟨x,hx⟩:∃ x,g[0]?=some x:=⟨_,Rl hg0⟩
     by_cases hlt:g.length<ls.length
     ·by_cases hx0:x=0
      ·subst hx0
       have hpg:Zlb ls.length g=true:=by unfold Zlb;rw [decide_eq_true (hz.mpr hx),decide_eq_true hlt];rfl
       rw [hpg] at hfd
       have hf:=fun e0=>ZdC true hL e0 e' he' hq2 hq4 (n:=g.length) (sz:=1) (c:=cq) (ZeS _ _)
       rw [←hfd]
       simp (maxSteps:=2000000) +contextual only [Xv,Y7,hi,hbc,ZdD _ hq1,gt_iff_lt,h0',hg0,hlt,hqc,ZfL,Wo,WC,Z2 _ hx,hf,decide_true,decide_false,pp,go_sem,reduceIte,Ra,Rb,Rc,Rd]
       exact ⟨cq,rfl⟩
      ·have hpg:Zlb ls.length g=false:=by
        unfold Zlb
        rw [decide_eq_false (p:=(0:Int)∈g)];rfl
        intro h;have:=hz.mp h;rw [hx,RH] at this;exact hx0 this
       rw [hpg] at hfd
       simp (maxSteps:=2000000) +contextual only [Xv,hi,hbc,ZdD _ hq1,gt_iff_lt,h0',hg0,hlt,hqc,ZfL,Wo,WC,Z2 _ hx,hx0,hiw,decide_true,decide_false,pp,go_sem,reduceIte,Ra,Rb,Rc,Rd]
       exact ⟨j - 1,by omega,i+1,_,_,_,by omega,hfd,rfl⟩
     ·have hpg:Zlb ls.length g=false:=by unfold Zlb;rw [decide_eq_false hlt,Bool.and_false]
      rw [hpg] at hfd
      simp (maxSteps:=2000000) +contextual only [Xv,hi,hbc,ZdD _ hq1,gt_iff_lt,h0',hlt,hiw,decide_true,decide_false,pp,go_sem,reduceIte,Ra,Rb,Rc,Rd]
      exact ⟨j - 1,by omega,i+1,_,_,_,by omega,hfd,rfl⟩
  ·have hmz:¬ ((m % w:Nat):Int)=0:=by omega
   have ha:Ko ls=none:=by unfold Ko ZsI;rw [hm,hw,Wq,Wq,decide_eq_false hmw,Bool.and_false];rfl
   rw [ha]
   simp (maxSteps:=2000000) +contextual only [Y7,Zaa,h,h1,h2,h3,h20,h20',hw0,hq1,hmz,decide_true,decide_false,pp,go_sem,reduceIte,Ra,Rb,Rc,Rd,ff]
abbrev cnV (row:AV) (a b:Int) (chain:AV) (t k:Int) (d p:By) (c:Int):AV:=.agg [row,.int .i64 a,.int .i64 b,chain,.int .i64 t,.int .i64 k,sV d,sV p,.int .i64 c]
def Zg5 (ls:List Ld) (ss:List Sg) (a b t k:Int):Bool:=Y1 ls&&(ZU ss&&J5 a b t k)
theorem Zg6 (hi:Jg pr) (hp:YH pr) (hx:QC pr) {q q':Nat} {c1 c2:Option Nat} {ls:List Ld} {ss:List Sg} (h1:Za H q=some (Zu ls)) (h2:Za H q'=some (ZI ss)) (hm:ss.length≤1048576) (a b t k c:Int) {d p:By} (hd:d.length≤1048576) (hpp:p.length≤1048576):call T pr Jw [cnV (slL q ls.length c1) a b (slS q' ss.length c2) t k d p c] ⟨H,e⟩=some (.bool (Zg5 ls ss a b t k&&Ze1 d p c),⟨H,e⟩):=by
 have hst:∀ G,call T pr YD [stV (slL q ls.length c1) a b (slS q' ss.length c2) t k] ⟨H++G,none⟩=some (.bool (Zg5 ls ss a b t k),⟨H++G,none⟩) :=
  fun G=>Zbb (fun G2=>Jo (Zc (Zc h1 G) G2)) (fun G2=>XP (Zc (Zc h2 G) G2) (by omega)) a b t k
 have hlg:=fun L=>Zfp (pr:=pr) (H:=L) (e:=none) hi hp hx d p c hd hpp
 rw [Zl Zgo]
 cases hA:Zg5 ls ss a b t k <;> rw [hA] at hst <;> cases hB:Ze1 d p c <;> rw [hB] at hlg <;> simp +contextual only [Jz,ZbB,hst,hlg,go_sem,reduceIte,Ra,Rb,Rc,Rd]
structure Zlc (pr:Zq):Prop where
 all:ZlW pr
 del:Zbc pr
abbrev sdL (row:AV) (a b:Int) (chain:AV) (t k:Int) (rest:List AV):List AV:=row::.int .i64 a::.int .i64 b::chain::.int .i64 t::.int .i64 k::rest
def askW (ls:List Ld) (a b:Int) (ss:List Sg) (t:Int) (w:By):Option By :=
 if w=[114,111,119] then some (ZdB ls)
 else if w=[119,101,105,103,104,116] then some (Lib.itoa (Q2 ls))
 else if w=[99,101,110,116,114,101] then (if ls.length=0 then none else some (KK 47 [(cenA ls:Int),(cenB ls:Int)]))
 else if w=[115,105,100,101] then some (Lib.itoa (ZcA ls a b))
 else if w=[116,105,112,115] then some (Lib.itoa t)
 else if w=[112,117,108,108] then some (Lib.itoa (rowPullW ls ss true))
 else if w=[115,112,108,105,116] then (Ko ls).map Zbn
 else none
def ZyZ (r:Option By) (v:AV):Prop:=∃ x:By,v=.tup [sV x,.bool r.isSome]∧∀ y,r=some y→x=y
theorem fit_small {z:Int} (h1 : -1000000000000000000≤z) (h2:z≤1000000000000000000):ZdT z:=⟨by omega,by omega⟩
theorem KL {ls:List Ld} {ss:List Sg} {a b t k:Int} (h:Zg5 ls ss a b t k=true):Y1 ls=true∧ZU ss=true∧Zba a b=true∧ss.length≤5∧ls.length≤12∧0≤t∧t≤1000∧0≤k∧k≤1000∧J5 a b t k=true:=by
 unfold Zg5 at h
 rw [Ru,Ru] at h
 have h3:=h.2.2
 unfold J5 at h3
 simp only [Ru,decide_eq_true_eq] at h3
 have hc:=h.2.1
 unfold ZU at hc
 rw [Ru,decide_eq_true_eq] at hc
 have hr:=Zet h.1
 exact ⟨h.1,h.2.1,h3.1,by omega,hr,by omega,by omega,by omega,by omega,h.2.2⟩
theorem Zg7 (ls:List Ld) (a b:Int):ZdT (ZcA ls a b):=by
 unfold ZcA
 split
 ·exact fit_small (by omega) (by omega)
 ·split
  ·exact fit_small (by omega) (by omega)
  ·exact fit_small (by omega) (by omega)
theorem ZmX {ls:List Ld} (h:Y1 ls=true):ZdT (Q2 ls):=by
 obtain ⟨w,hw,hw1⟩:=ZcE h
 rw [hw]
 exact fit_small (by omega) (by omega)
theorem Zn8 {ls:List Ld} (h:Y1 ls=true):ZdT (cenA ls:Int)∧ZdT (cenB ls:Int):=by
 obtain ⟨m,hm,hm1⟩:=Zw3 h
 obtain ⟨w,hw,hw1⟩:=ZcE h
 have h1:cenA ls≤m:=by unfold cenA fracA;rw [hm];exact Rr _ _
 have h2:cenB ls≤w:=by unfold cenB fracB;rw [hw];exact Rr _ _
 exact ⟨fit_small (by omega) (by omega),fit_small (by omega) (by omega)⟩
theorem ZsJ {ls:List Ld} {ss:List Sg} (h:Y1 ls=true) (hc:ZU ss=true):ZdT (rowPullW ls ss true:Int):=by
 obtain ⟨w,hw,hw1⟩:=ZcE h
 obtain ⟨a1,a2,b1,b2,_⟩:=Zbj hc w hw1
 unfold rowPullW
 rw [if_pos rfl,hw,Wq]
 unfold pullW
 have h1:w*ZX 1 1 ss≤1000000*254803968:=WF hw1 b2
 have h2:=Rr (w*ZX 1 1 ss+ZS 1 1 ss - 1) (ZS 1 1 ss)
 generalize (w*ZX 1 1 ss+ZS 1 1 ss - 1) / ZS 1 1 ss=z at *
 generalize w*ZX 1 1 ss=y at *
 exact fit_small (by omega) (by omega)
theorem Zqa {ls:List Ld} {g:List Int} (h:Ko ls=some g) (hn:ls.length≤12):g.length≤1000000∧∀ z∈g,ZdT z:=by
 unfold Ko at h
 split at h
 ·have hm:=List.mem_of_find?_eq_some h
  refine ⟨by have:=(ZbX hm).2;omega,?_⟩
  unfold YY ZxL at hm
  obtain ⟨l,hl,rfl⟩:=RS.mp hm
  obtain ⟨k,hk,hm⟩:=WG.mp (RZ.mp hl).1
  obtain ⟨h1,h2,h3⟩:=(X1 ls.length k l).mp hm
  intro z hz
  unfold asZ at hz
  obtain ⟨x,hx,rfl⟩:=RS.mp hz
  have:=h3 x hx
  exact fit_small (by omega) (by omega)
 ·exact absurd h (by simp)
theorem Zcd (w a:By):decide (bs w=⟨a.toArray⟩)=decide (w=a):=by
 congr 1
 exact propext ⟨fun h=>by
  have:=congrArg (fun b:ByteArray=>b.data.toList) h
  simpa using this,fun h=>by rw [h]⟩
set_option maxHeartbeats 2000000 in
theorem ZsK (hl:ZlW pr) {u q1 q2:Nat} {c1 c2:Option Nat} {ls:List Ld} {ss:List Sg} {a b t k:Int} {rest:List AV} (hu:Za H u=some (sdL (slL q1 ls.length c1) a b (slS q2 ss.length c2) t k rest)) (h1:Za H q1=some (Zu ls)) (h2:Za H q2=some (ZI ss)) (hs:Zg5 ls ss a b t k=true) (w:By) :
  Wc (call T pr Zaw [.ptr (some (u,0)),sV w] ⟨H,e⟩) (fun v m=>ZyZ (askW ls a b ss t w) v∧m=⟨H,e⟩):=by
 obtain ⟨hr,hc,hb,hss,hls,ht1,ht2,hk1,hk2,hre⟩:=KL hs
 have weq:=fun a=>Zcd w a
 have e1:decide (bs w=⟨#[114,111,119]⟩)=decide (w=[114,111,119]):=weq _
 have e2:decide (bs w=⟨#[119,101,105,103,104,116]⟩)=decide (w=[119,101,105,103,104,116]):=weq _
 have e3:decide (bs w=⟨#[99,101,110,116,114,101]⟩)=decide (w=[99,101,110,116,114,101]):=weq _
 have e4:decide (bs w=⟨#[115,105,100,101]⟩)=decide (w=[115,105,100,101]):=weq _
 have e5:decide (bs w=⟨#[116,105,112,115]⟩)=decide (w=[116,105,112,115]):=weq _
 have e6:decide (bs w=⟨#[112,117,108,108]⟩)=decide (w=[112,117,108,108]):=weq _
 have e7:decide (bs w=⟨#[115,112,108,105,116]⟩)=decide (w=[115,112,108,105,116]):=weq _
 rw [ZK Znc]
 unfold ZaB Zge askW
 generalize (⟨#[114,111,119]⟩:ByteArray)=k1 at *
 generalize (⟨#[119,101,105,103,104,116]⟩:ByteArray)=k2 at *
 generalize (⟨#[99,101,110,116,114,101]⟩:ByteArray)=k3 at *
 generalize (⟨#[115,105,100,101]⟩:ByteArray)=k4 at *
 generalize (⟨#[116,105,112,115]⟩:ByteArray)=k5 at *
 generalize (⟨#[112,117,108,108]⟩:ByteArray)=k6 at *
 generalize (⟨#[115,112,108,105,116]⟩:ByteArray)=k7 at *
 clear weq
 by_cases w1:w=[114,111,119]
 ·rw [decide_eq_true w1] at e1
  rw [if_pos w1]
  have hf:=fun L (hL:Za L q1=some (Zu ls))=>Zk5 (pr:=pr) (e:=none) (cap:=c1) hl.ito hl.joi hL hr
  simp (maxSteps:=2000000) +contextual only [hu,h1,h2,hf,e1,Zs,Zo,Zc h1,Zc h2,pp,go_sem,reduceIte,Ra,Rb,Rc,Rd]
  exact ⟨_,rfl,fun y h=>by rw [←WA h]⟩
 rw [decide_eq_false w1] at e1
 by_cases w2:w=[119,101,105,103,104,116]
 ·rw [decide_eq_true w2] at e2
  rw [if_neg w1,if_pos w2]
  have hf:=fun L (hL:Za L q1=some (Zu ls))=>Zk3 (pr:=pr) (e:=none) (c:=c1) hL (by omega) hr
  have hg:=fun L=>ZN (pr:=pr) (H:=L) (e:=none) hl.ito (Q2 ls) (ZmX hr) true
  simp (maxSteps:=2000000) +contextual only [hu,h1,h2,hf,hg,e1,e2,Zs,Zo,Zc h1,Zc h2,pp,go_sem,reduceIte,Ra,Rb,Rc,Rd]
  exact ⟨_,rfl,fun y h=>by rw [←WA h]⟩
 rw [decide_eq_false w2] at e2
 by_cases w3:w=[99,101,110,116,114,101]
 ·rw [decide_eq_true w3] at e3
  rw [if_neg w1,if_neg w2,if_pos w3]
  have hf:=fun L (hL:Za L q1=some (Zu ls))=>Zp0 (pr:=pr) (e:=none) (cap:=c1) hL hr (by omega)
  by_cases h0:ls.length=0
  ·simp only [if_pos h0] at hf
   have hg:=fun L=>Ky (pr:=pr) (H:=L) (e:=none) hl.ito hl.joi 0 0 (fit_small (by omega) (by omega)) (fit_small (by omega) (by omega)) false
   rw [if_pos h0]
   simp (maxSteps:=2000000) +contextual only [hu,h1,h2,hf,hg,e1,e2,e3,Zs,Zo,Zc h1,Zc h2,pp,go_sem,reduceIte,Ra,Rb,Rc,Rd]
   exact ⟨_,rfl,fun y h=>absurd h (by simp)⟩
  ·simp only [if_neg h0] at hf
   have hg:=fun L=>Ky (pr:=pr) (H:=L) (e:=none) hl.ito hl.joi (cenA ls) (cenB ls) (Zn8 hr).1 (Zn8 hr).2 true
   rw [if_neg h0]
   simp (maxSteps:=2000000) +contextual only [hu,h1,h2,hf,hg,e1,e2,e3,Zs,Zo,Zc h1,Zc h2,pp,go_sem,reduceIte,Ra,Rb,Rc,Rd]
   exact ⟨_,rfl,fun y h=>by rw [←WA h]⟩
 rw [decide_eq_false w3] at e3
 by_cases w4:w=[115,105,100,101]
 ·rw [decide_eq_true w4] at e4
  rw [if_neg w1,if_neg w2,if_neg w3,if_pos w4]
  have hf:=fun L (hL:Za L q1=some (Zu ls))=>Zfq (pr:=pr) (e:=none) (c:=c1) hL (by omega) a b hr hb
  have hg:=fun L=>ZN (pr:=pr) (H:=L) (e:=none) hl.ito (ZcA ls a b) (Zg7 ls a b) true
  simp (maxSteps:=2000000) +contextual only [hu,h1,h2,hf,hg,e1,e2,e3,e4,Zs,Zo,Zc h1,Zc h2,pp,go_sem,reduceIte,Ra,Rb,Rc,Rd]
  exact ⟨_,rfl,fun y h=>by rw [←WA h]⟩
 rw [decide_eq_false w4] at e4
 by_cases w5:w=[116,105,112,115]
 ·rw [decide_eq_true w5] at e5
  rw [if_neg w1,if_neg w2,if_neg w3,if_neg w4,if_pos w5]
  have hg:=fun L=>ZN (pr:=pr) (H:=L) (e:=none) hl.ito t (fit_small (by omega) (by omega)) true
  simp (maxSteps:=2000000) +contextual only [hu,h1,h2,hg,e1,e2,e3,e4,e5,Zs,Zo,Zc h1,Zc h2,pp,go_sem,reduceIte,Ra,Rb,Rc,Rd]
  exact ⟨_,rfl,fun y h=>by rw [←WA h]⟩
 rw [decide_eq_false w5] at e5
 by_cases w6:w=[112,117,108,108]
 ·rw [decide_eq_true w6] at e6
  rw [if_neg w1,if_neg w2,if_neg w3,if_neg w4,if_neg w5,if_pos w6]
  have hf:=fun L (g1:Za L q1=some (Zu ls)) (g2:Za L q2=some (ZI ss))=>ZrB (pr:=pr) (e:=none) (c:=c1) (c':=c2) g1 g2 (by omega) (by omega) a b t k
  simp only [hr,hc,hre,Bool.and_self] at hf
  have hg:=fun L=>ZN (pr:=pr) (H:=L) (e:=none) hl.ito (rowPullW ls ss true) (ZsJ hr hc) true
  simp (maxSteps:=2000000) +contextual only [hu,h1,h2,hf,hg,e1,e2,e3,e4,e5,e6,Zs,Zo,Zc h1,Zc h2,pp,go_sem,reduceIte,Ra,Rb,Rc,Rd]
  exact ⟨_,rfl,fun y h=>by rw [←WA h]⟩
 rw [decide_eq_false w6] at e6
 by_cases w7:w=[115,112,108,105,116]
 ·rw [decide_eq_true w7] at e7
  rw [if_neg w1,if_neg w2,if_neg w3,if_neg w4,if_neg w5,if_neg w6,if_pos w7]
  simp (maxSteps:=2000000) +contextual only [hu,h1,h2,e1,e2,e3,e4,e5,e6,e7,Zs,Zo,Zc h1,Zc h2,pp,go_sem,reduceIte,Ra,Rb,Rc,Rd]
  refine (Zeu hl h1 hr).mono ?_
  have hfit:=fun g=>Zqa (ls:=ls) (g:=g)
  generalize Ko ls=o at *
  rintro v m hv
  cases o with
  | some g=>
   obtain ⟨c,rfl,rfl⟩:=hv
   obtain ⟨f1,f2⟩:=hfit g rfl hls
   have hg:=fun L e0 (hL:Za L H.length=some (Y5 g))=>ZbW (pr:=pr) (e:=e0) (cap:=c) hl.ito hl.joi hL f1 f2 true
   have hnew:Za (H++[.cells (Y5 g) true]) H.length=some (Y5 g):=Ze (w:=true) (by rw [Xe];rfl)
   simp (maxSteps:=2000000) +contextual only [hg,hnew,Option.map_some,pp,go_sem,reduceIte,Ra,Rb,Rc,Rd]
   exact ⟨_,rfl,fun y h=>by rw [←WA h]⟩
  | none=>
   obtain ⟨rfl,rfl⟩:=hv
   have hg:=fun L e0=>Zeq (pr:=pr) (H:=L) (e:=e0) false (p:=none) (s:=0) (cap:=none)
   simp (maxSteps:=2000000) +contextual only [hg,Option.map_none,pp,go_sem,reduceIte,Ra,Rb,Rc,Rd]
   exact ⟨_,rfl,fun y h=>absurd h (by simp)⟩
 rw [decide_eq_false w7] at e7
 rw [if_neg w1,if_neg w2,if_neg w3,if_neg w4,if_neg w5,if_neg w6,if_neg w7]
 simp (maxSteps:=2000000) +contextual only [hu,h1,h2,e1,e2,e3,e4,e5,e6,e7,Zs,Zo,Zc h1,Zc h2,pp,go_sem,reduceIte,Ra,Rb,Rc,Rd]
 exact ⟨_,rfl,fun y h=>absurd h (by simp)⟩
end Go.Proofs.YtemcdiajejekoaaGreatDoor.Slim
namespace Go.Proofs.YtemcdiajejekoaaGreatDoor.Slim
open Go Go.Sort Go.Lib Go.RowKit
theorem QF {f : FuncId} (h : ((Tryz.prog.funcs[f]?).map fun fn => fn.body.isSome && decide (fn.name ≠ "runtime.NumGoroutine")) = some true) : ∃ fn, Tryz.prog.funcs[f]? = some fn ∧ fn.body.isSome = true ∧ fn.name ≠ "runtime.NumGoroutine" := by
 obtain ⟨fn,h1,h2⟩:=Option.map_eq_some_iff.mp h
 simp only [Bool.and_eq_true,decide_eq_true_eq] at h2
 exact ⟨fn,h1,h2.1,h2.2⟩
def Zxh (args:List AV) (m:Mem):Option (AV×Mem):=match args with
 | [.str s,.str t]=>(match t.data.toList with
  | [c]=>some (.bool (decide (0≤Lib.indexByte s.data.toList c)),m)
  | _=>none)
 | _=>none
theorem Zxi {args:List AV} {m m':Mem} {v:AV} (h:Zxh args m=some (v,m')):m'=m∧∃ (s:ByteArray) (c:UInt8),args=[.str s,.str ⟨#[c]⟩]∧v=.bool (decide (0≤Lib.indexByte s.data.toList c)):=by
 unfold Zxh at h
 split at h
 ·rename_i s t
  split at h
  ·rename_i c hc
   cases h
   refine ⟨rfl,s,c,?_,rfl⟩
   cases t with
   | mk d=>
    cases d
    simp at hc
    subst hc
    rfl
  ·cases h
 ·cases h
theorem ZCc {ι:Emb} {m m':Mem} {w:World} {args:List AV} {vs:List Value} {v:AV} (h:Zxh args m=some (v,m')) (R:Rel ι m w) (hv:VL ι w args vs):Calls Tryz.prog Yb vs.toArray w fun e w'=>∃ (ι':Emb) (v':Value),e=.returned v'∧V ι' w' v v'∧Rel ι' m' w'∧Ext ι m w ι' m' w':=by
 obtain ⟨rfl,s,c,rfl,rfl⟩:=Zxi h
 obtain ⟨v1,vs1,rfl,rfl,v2,vs2,rfl,rfl,rfl⟩:=hv
 refine (Tryz.strings_Contains_one s c w).mono ?_
 rintro e w' ⟨rfl,rfl⟩
 exact ⟨ι,_,rfl,rfl,R,Ext.refl _ _ _⟩
theorem Zz9 {args:List AV} {m m':Mem} {v:AV} (h:Zxh args m=some (v,m')):Grow m m':=by
 obtain ⟨rfl,_⟩:=Zxi h
 exact Grow.refl _
def Zxj (args:List AV) (m:Mem):Option (AV×Mem):=match args with
 | [.str s,.str t]=>(match t.data.toList with
  | [c]=>some (.int .i64 (Lib.indexByte s.data.toList c),m)
  | _=>none)
 | _=>none
theorem Zxk {args:List AV} {m m':Mem} {v:AV} (h:Zxj args m=some (v,m')):m'=m∧∃ (s:ByteArray) (c:UInt8),args=[.str s,.str ⟨#[c]⟩]∧v=.int .i64 (Lib.indexByte s.data.toList c):=by
 unfold Zxj at h
 split at h
 ·rename_i s t
  split at h
  ·rename_i c hc
   cases h
   refine ⟨rfl,s,c,?_,rfl⟩
   cases t with
   | mk d=>
    cases d
    simp at hc
    subst hc
    rfl
  ·cases h
 ·cases h
theorem ZCd {ι:Emb} {m m':Mem} {w:World} {args:List AV} {vs:List Value} {v:AV} (h:Zxj args m=some (v,m')) (R:Rel ι m w) (hv:VL ι w args vs):Calls Tryz.prog Yo vs.toArray w fun e w'=>∃ (ι':Emb) (v':Value),e=.returned v'∧V ι' w' v v'∧Rel ι' m' w'∧Ext ι m w ι' m' w':=by
 obtain ⟨rfl,s,c,rfl,rfl⟩:=Zxk h
 obtain ⟨v1,vs1,rfl,rfl,v2,vs2,rfl,rfl,rfl⟩:=hv
 refine (Tryz.stringslite_Index_one s c w).mono ?_
 rintro e w' ⟨rfl,rfl⟩
 exact ⟨ι,_,rfl,rfl,R,Ext.refl _ _ _⟩
theorem ZAa {args:List AV} {m m':Mem} {v:AV} (h:Zxj args m=some (v,m')):Grow m m':=by
 obtain ⟨rfl,_⟩:=Zxk h
 exact Grow.refl _
def Zxl (args:List AV) (m:Mem):Option (AV×Mem):=match args with
 | [.int .i64 n]=>if -9223372036854775808≤n∧n≤9223372036854775807 then some (.str ⟨(Lib.itoa n).toArray⟩,m) else none
 | _=>none
theorem Zxm {args:List AV} {m m':Mem} {v:AV} (h:Zxl args m=some (v,m')):m'=m∧∃ n:Int,args=[.int .i64 n]∧(-9223372036854775808≤n∧n≤9223372036854775807)∧v=.str ⟨(Lib.itoa n).toArray⟩:=by
 unfold Zxl at h
 split at h
 ·rename_i n
  split at h
  ·rename_i hn
   cases h
   exact ⟨rfl,n,rfl,hn,rfl⟩
  ·cases h
 ·cases h
theorem ZCe {ι:Emb} {m m':Mem} {w:World} {args:List AV} {vs:List Value} {v:AV} (h:Zxl args m=some (v,m')) (R:Rel ι m w) (hv:VL ι w args vs):Calls Tryz.prog YL vs.toArray w fun e w'=>∃ (ι':Emb) (v':Value),e=.returned v'∧V ι' w' v v'∧Rel ι' m' w'∧Ext ι m w ι' m' w':=by
 obtain ⟨rfl,n,rfl,hn,rfl⟩:=Zxm h
 obtain ⟨v1,vs1,rfl,rfl,rfl⟩:=hv
 refine (Tryz.strconv_Itoa n hn.1 hn.2 w (R.glob.tab (g:=5) (by kernel_rfl) (List.mem_cons_self) (fun cs h=>by rw [h];rfl))).mono ?_
 rintro e w' ⟨rfl,k,os,rfl⟩
 obtain ⟨R',E'⟩:=R.grown k os
 exact ⟨ι,_,rfl,rfl,R',E'⟩
theorem ZAb {args:List AV} {m m':Mem} {v:AV} (h:Zxl args m=some (v,m')):Grow m m':=by
 obtain ⟨rfl,_⟩:=Zxm h
 exact Grow.refl _
set_option maxHeartbeats 4000000 in
set_option maxRecDepth 1000000 in
theorem Zqb (blk off n k i j:Nat) (w:World) (hij:i<j) (hjn:j≤n) (hj1:n - (i+(n - j))=1) (hnk:n≤k) (news:List Value) (hlen:news.length=(n - j)*2)
  (hsrc:∀ t u,news[t]?=some u→w.drew.cell? ⟨blk,off+j*2+t,none⟩=some u) (hone:∀ u∈news,u.oneCell'=true)
  (hsp:∀ t,t<(n - j)*2→(w.drew.cell? ⟨blk,off+i*2+t,none⟩).isSome=true∧w.drew.frozen? ⟨blk,off+i*2+t,none⟩=false)
  (hsp2:∀ t,t<2→((w.drew.setCells blk (off+i*2) news).cell? ⟨blk,off+(i+(n - j))*2+t,none⟩).isSome=true∧(w.drew.setCells blk (off+i*2) news).frozen? ⟨blk,off+(i+(n - j))*2+t,none⟩=false) :
  Calls Tryz.prog 221 #[.slice (some ⟨blk,off,none⟩) n k,.int .i64 i,.int .i64 j] w fun e w'=>
   e=.returned (.slice (some ⟨blk,off,none⟩) (i+(n - j)) k)∧w'=(w.drew.setCells blk (off+i*2) news).setCells blk (off+(i+(n - j))*2) [.int .i64 0,.int .i64 0]:=by
 have mixed:Tryz.prog.follows .mixedOrders=true:=by kernel_rfl
 have ts:Tryz.prog.underlying 34=some (.slice 114):=by kernel_rfl
 obtain ⟨i0,hi0,hz0,hz1,hz2⟩:=info_parts (show (Tryz.prog.info? 114).map (fun i=>(i.zero,i.size,i.bytes))=some (some (.agg #[.int .i64 0,.int .i64 0]),2,16) by kernel_rfl)
 obtain ⟨A,hA,hsrc'⟩:∃ A:Addr,(if k=j then some (⟨blk,off,none⟩:Addr) else some ⟨blk,off+j*2,none⟩)=some A∧Hid (∀ t u,news[t]?=some u→w.drew.cell? (A.add t)=some u):=by
  by_cases h:k=j
  ·refine ⟨⟨blk,off,none⟩,by simp [h],fun t u hu => ?_⟩
   have h0:news.length=0:=by rw [hlen];omega
   rw [List.length_eq_zero_iff.1 h0] at hu
   simp at hu
  ·refine ⟨⟨blk,off+j*2,none⟩,by simp [h],fun t u hu => ?_⟩
   rw [Addr.add_lit]
   exact hsrc t u hu
 have s1:Hid (news.length=(n - j)*2):=hlen
 have s2:Hid (∀ u∈news,u.oneCell'=true):=hone
 have s3:Hid (∀ t,t<news.length→(w.drew.cell? ⟨blk,off+i*2+t,none⟩).isSome=true∧w.drew.frozen? ⟨blk,off+i*2+t,none⟩=false):=fun t ht=>hsp t (by omega)
 obtain ⟨W1,hW1⟩:∃ W1,W1=w.drew.setCells blk (off+i*2) news:=⟨_,rfl⟩
 have hW:Hid (W1=w.drew.setCells blk (off+i*2) news):=hW1
 rw [←hW1] at hsp2 ⊢
 have hcl:∀ ty,(Builtin.clear_ #[34] ty #[.slice (some ⟨blk,off+(i+(n - j))*2,none⟩) (n - (i+(n - j))) (k - (i+(n - j)))]).run Tryz.prog W1=.ok (.tuple #[]) (W1.setCells blk (off+(i+(n - j))*2) [.int .i64 0,.int .i64 0]):=by
  intro ty
  rw [hj1]
  exact Zpq W1 34 114 ty (.agg #[.int .i64 0,.int .i64 0]) (by kernel_rfl) (fun w=>by kernel_rfl) (by intro v hv;simp [Value.cells] at hv;subst hv;rfl) blk _ _ (fun t ht=>(hsp2 t ht).1) (fun t ht=>(hsp2 t ht).2)
 have hic:i≤k:=by omega
 have hjc:j≤k:=by omega
 have hne:¬ i=j:=by omega
 clear hW1 hsp2 hsp hlen hsrc hone hj1
 go_enter Tryz.func221,Tryz.ntmps221
 go_wp2_with fail
 go_region_law_o (refine step_append_room rfl (.tmp 22) (.tmp 25) 34 rfl 114 i0 2 ts hi0 hz1 blk off i k (by simp [Act.eval,Act.put]) A (n - j) (k - j) news (by simp [Act.eval,Act.put]) s1.out hsrc'.out s2.out (by omega) s3.out ?_;rw [←hW.out])
 go_wp2
 go_ret
 exact ⟨rfl,rfl⟩
theorem Zy0 {ι:Emb} {m m':Mem} {w:World} {args:List AV} {vs:List Value} {v:AV} (h:ZnQ 2 args m=some (v,m')) (R:Rel ι m w) (hv:VL ι w args vs) :
  Calls Tryz.prog ZJ vs.toArray w fun e w'=>∃ (ι':Emb) (v':Value),e=.returned v'∧V ι' w' v v'∧Rel ι' m' w'∧Ext ι m w ι' m' w':=by
 obtain ⟨b,n,i,cap,cs,rfl,hb,hcs,hi,rfl,rfl⟩:=ZhJ h
 obtain ⟨v1,vs1,rfl,h1,v2,vs2,rfl,rfl,v3,vs3,rfl,rfl,rfl⟩:=hv
 obtain ⟨c,x,k,news,rfl,h2,h3,h4,h5,h6,h7,ι',h8,h9,h10⟩:=Zv6 (P:=Tryz.prog) R hb hcs hi h1
 refine (Zqb c x n k i (i+1) w (by omega) (by omega) (by omega) h2 news h3 h4 h5 h6 h7).mono ?_
 rintro e w' ⟨rfl,rfl⟩
 exact ⟨ι',_,rfl,h8,h9,h10⟩
set_option maxHeartbeats 4000000 in
set_option maxRecDepth 1000000 in
theorem Zn9 (blk off n k i j:Nat) (w:World) (hij:i<j) (hjn:j≤n) (hj1:n - (i+(n - j))=1) (hnk:n≤k) (news:List Value) (hlen:news.length=(n - j)*3)
  (hsrc:∀ t u,news[t]?=some u→w.drew.cell? ⟨blk,off+j*3+t,none⟩=some u) (hone:∀ u∈news,u.oneCell'=true)
  (hsp:∀ t,t<(n - j)*3→(w.drew.cell? ⟨blk,off+i*3+t,none⟩).isSome=true∧w.drew.frozen? ⟨blk,off+i*3+t,none⟩=false)
  (hsp2:∀ t,t<3→((w.drew.setCells blk (off+i*3) news).cell? ⟨blk,off+(i+(n - j))*3+t,none⟩).isSome=true∧(w.drew.setCells blk (off+i*3) news).frozen? ⟨blk,off+(i+(n - j))*3+t,none⟩=false) :
  Calls Tryz.prog 222 #[.slice (some ⟨blk,off,none⟩) n k,.int .i64 i,.int .i64 j] w fun e w'=>
   e=.returned (.slice (some ⟨blk,off,none⟩) (i+(n - j)) k)∧w'=(w.drew.setCells blk (off+i*3) news).setCells blk (off+(i+(n - j))*3) [.int .i64 0,.int .i64 0,.int .i64 0]:=by
 have mixed:Tryz.prog.follows .mixedOrders=true:=by kernel_rfl
 have ts:Tryz.prog.underlying 35=some (.slice 135):=by kernel_rfl
 obtain ⟨i0,hi0,hz0,hz1,hz2⟩:=info_parts (show (Tryz.prog.info? 135).map (fun i=>(i.zero,i.size,i.bytes))=some (some (.agg #[.int .i64 0,.int .i64 0,.int .i64 0]),3,24) by kernel_rfl)
 obtain ⟨A,hA,hsrc'⟩:∃ A:Addr,(if k=j then some (⟨blk,off,none⟩:Addr) else some ⟨blk,off+j*3,none⟩)=some A∧Hid (∀ t u,news[t]?=some u→w.drew.cell? (A.add t)=some u):=by
  by_cases h:k=j
  ·refine ⟨⟨blk,off,none⟩,by simp [h],fun t u hu => ?_⟩
   have h0:news.length=0:=by rw [hlen];omega
   rw [List.length_eq_zero_iff.1 h0] at hu
   simp at hu
  ·refine ⟨⟨blk,off+j*3,none⟩,by simp [h],fun t u hu => ?_⟩
   rw [Addr.add_lit]
   exact hsrc t u hu
 have s1:Hid (news.length=(n - j)*3):=hlen
 have s2:Hid (∀ u∈news,u.oneCell'=true):=hone
 have s3:Hid (∀ t,t<news.length→(w.drew.cell? ⟨blk,off+i*3+t,none⟩).isSome=true∧w.drew.frozen? ⟨blk,off+i*3+t,none⟩=false):=fun t ht=>hsp t (by omega)
 obtain ⟨W1,hW1⟩:∃ W1,W1=w.drew.setCells blk (off+i*3) news:=⟨_,rfl⟩
 have hW:Hid (W1=w.drew.setCells blk (off+i*3) news):=hW1
 rw [←hW1] at hsp2 ⊢
 have hcl:∀ ty,(Builtin.clear_ #[35] ty #[.slice (some ⟨blk,off+(i+(n - j))*3,none⟩) (n - (i+(n - j))) (k - (i+(n - j)))]).run Tryz.prog W1=.ok (.tuple #[]) (W1.setCells blk (off+(i+(n - j))*3) [.int .i64 0,.int .i64 0,.int .i64 0]):=by
  intro ty
  rw [hj1]
  exact Zpq W1 35 135 ty (.agg #[.int .i64 0,.int .i64 0,.int .i64 0]) (by kernel_rfl) (fun w=>by kernel_rfl) (by intro v hv;simp [Value.cells] at hv;subst hv;rfl) blk _ _ (fun t ht=>(hsp2 t ht).1) (fun t ht=>(hsp2 t ht).2)
 have hic:i≤k:=by omega
 have hjc:j≤k:=by omega
 have hne:¬ i=j:=by omega
 clear hW1 hsp2 hsp hlen hsrc hone hj1
 go_enter Tryz.func222,Tryz.ntmps222
 go_wp2_with fail
 go_region_law_o (refine step_append_room rfl (.tmp 22) (.tmp 25) 35 rfl 135 i0 3 ts hi0 hz1 blk off i k (by simp [Act.eval,Act.put]) A (n - j) (k - j) news (by simp [Act.eval,Act.put]) s1.out hsrc'.out s2.out (by omega) s3.out ?_;rw [←hW.out])
 go_wp2
 go_ret
 exact ⟨rfl,rfl⟩
theorem Zxn {ι:Emb} {m m':Mem} {w:World} {args:List AV} {vs:List Value} {v:AV} (h:ZnQ 3 args m=some (v,m')) (R:Rel ι m w) (hv:VL ι w args vs) :
  Calls Tryz.prog ZH vs.toArray w fun e w'=>∃ (ι':Emb) (v':Value),e=.returned v'∧V ι' w' v v'∧Rel ι' m' w'∧Ext ι m w ι' m' w':=by
 obtain ⟨b,n,i,cap,cs,rfl,hb,hcs,hi,rfl,rfl⟩:=ZhJ h
 obtain ⟨v1,vs1,rfl,h1,v2,vs2,rfl,rfl,v3,vs3,rfl,rfl,rfl⟩:=hv
 obtain ⟨c,x,k,news,rfl,h2,h3,h4,h5,h6,h7,ι',h8,h9,h10⟩:=Zv6 (P:=Tryz.prog) R hb hcs hi h1
 refine (Zn9 c x n k i (i+1) w (by omega) (by omega) (by omega) h2 news h3 h4 h5 h6 h7).mono ?_
 rintro e w' ⟨rfl,rfl⟩
 exact ⟨ι',_,rfl,h8,h9,h10⟩
def ZAc (args:List AV) (m:Mem):Option (AV×Mem):=ZnQ 2 args m
theorem ZAd {args:List AV} {m m':Mem} {v:AV} (h:ZAc args m=some (v,m')):Grow m m':=Zmr h
theorem ZCf {ι:Emb} {m m':Mem} {w:World} {args:List AV} {vs:List Value} {v:AV} (h:ZAc args m=some (v,m')) (R:Rel ι m w) (hv:VL ι w args vs):Calls Tryz.prog ZJ vs.toArray w fun e w'=>∃ (ι':Emb) (v':Value),e=.returned v'∧V ι' w' v v'∧Rel ι' m' w'∧Ext ι m w ι' m' w':=Zy0 h R hv
def ZAe (args:List AV) (m:Mem):Option (AV×Mem):=ZnQ 3 args m
theorem ZAf {args:List AV} {m m':Mem} {v:AV} (h:ZAe args m=some (v,m')):Grow m m':=Zmr h
theorem ZCg {ι:Emb} {m m':Mem} {w:World} {args:List AV} {vs:List Value} {v:AV} (h:ZAe args m=some (v,m')) (R:Rel ι m w) (hv:VL ι w args vs):Calls Tryz.prog ZH vs.toArray w fun e w'=>∃ (ι':Emb) (v':Value),e=.returned v'∧V ι' w' v v'∧Rel ι' m' w'∧Ext ι m w ι' m' w':=Zxn h R hv
theorem ZAg {args:List AV} {m m':Mem} {v:AV} (h:Zut args m=some (v,m')):Grow m m':=ZwJ h
theorem ZAh {args:List AV} {m m':Mem} {v:AV} (h:ZpR args m=some (v,m')):Grow m m':=ZwK h
theorem ZAi {args:List AV} {m m':Mem} {v:AV} (h:Zuu args m=some (v,m')):Grow m m':=ZwL h
theorem ZAj {args:List AV} {m m':Mem} {v:AV} (h:ZpS args m=some (v,m')):Grow m m':=ZwM h
theorem ZAk {args:List AV} {m m':Mem} {v:AV} (h:ZpT args m=some (v,m')):Grow m m':=ZwN h
theorem ZAl {args:List AV} {m m':Mem} {v:AV} (h:ZpU args m=some (v,m')):Grow m m':=ZwO h
def prC:Zq:=fun f args m=>if f=Yb then Zxh args m else if f=Yo then Zxj args m else if f=YL then Zxl args m else if f=K1 then Zut args m else if f=Jq then ZpR args m else if f=Q9 then Zuu args m else if f=Xn then ZpS args m else if f=YM then ZpT args m else if f=Yn then ZpU args m else if f=ZJ then ZAc args m else if f=ZH then ZAe args m else none
set_option maxHeartbeats 4000000 in
theorem ZBf:Zm6 Tryz.prog prC:=by
 refine ⟨fun f args m v m' ι w vs h R hv => ?_,fun f args m v m' h => ?_⟩
 ·unfold prC at h
  split at h
  ·rename_i hf
   subst hf
   exact ⟨QF (by kernel_rfl),ZCc h R hv⟩
  split at h
  ·rename_i hf
   subst hf
   exact ⟨QF (by kernel_rfl),ZCd h R hv⟩
  split at h
  ·rename_i hf
   subst hf
   exact ⟨QF (by kernel_rfl),ZCe h R hv⟩
  split at h
  ·rename_i hf
   subst hf
   exact ⟨QF (by kernel_rfl),ZB4 h R hv⟩
  split at h
  ·rename_i hf
   subst hf
   exact ⟨QF (by kernel_rfl),ZB5 h R hv⟩
  split at h
  ·rename_i hf
   subst hf
   exact ⟨QF (by kernel_rfl),ZB6 h R hv⟩
  split at h
  ·rename_i hf
   subst hf
   exact ⟨QF (by kernel_rfl),ZB7 h R hv⟩
  split at h
  ·rename_i hf
   subst hf
   exact ⟨QF (by kernel_rfl),ZB8 h R hv⟩
  split at h
  ·rename_i hf
   subst hf
   exact ⟨QF (by kernel_rfl),ZB9 ZyN h R hv⟩
  split at h
  ·rename_i hf
   subst hf
   exact ⟨QF (by kernel_rfl),ZCf h R hv⟩
  split at h
  ·rename_i hf
   subst hf
   exact ⟨QF (by kernel_rfl),ZCg h R hv⟩
  cases h
 ·unfold prC at h
  split at h
  ·exact Zz9 h
  split at h
  ·exact ZAa h
  split at h
  ·exact ZAb h
  split at h
  ·exact ZAg h
  split at h
  ·exact ZAh h
  split at h
  ·exact ZAi h
  split at h
  ·exact ZAj h
  split at h
  ·exact ZAk h
  split at h
  ·exact ZAl h
  split at h
  ·exact ZAd h
  split at h
  ·exact ZAf h
  cases h
theorem ZAm:YH prC:=fun s c m=>by
 rw [JD rfl]
 rfl
theorem ZAn:QC prC:=fun s c m=>by
 rw [JD rfl]
 rfl
theorem ZAo:Jg prC:=fun n m h1 h2=>by
 rw [JD rfl]
 unfold prC
 rw [if_neg (by decide),if_neg (by decide),if_pos rfl]
 exact if_pos ⟨h1,h2⟩
theorem ZAp:Zsq prC:=fun l c L e h=>by
 rw [JD rfl]
 unfold prC
 rw [if_neg (by decide),if_neg (by decide),if_neg (by decide),if_pos rfl]
 show (if l.length≤1073741824 then _ else none)=_
 rw [if_pos h]
theorem ZAq:ZfU prC:=fun xs c b cap L e h1 h2 h3=>by
 rw [JD rfl]
 unfold prC
 rw [if_neg (by decide),if_neg (by decide),if_neg (by decide),if_neg (by decide),if_pos rfl]
 exact ZyI h1 h2 h3
theorem ZAr:ZrL prC:=fun l m h=>by
 rw [JD rfl]
 unfold prC
 rw [if_neg (by decide),if_neg (by decide),if_neg (by decide),if_neg (by decide),if_neg (by decide),if_pos rfl]
 exact if_pos h
theorem ZAs:ZwH prC:=fun zs b cap L e h1 h2 h3=>by
 rw [JD rfl]
 unfold prC
 rw [if_neg (by decide),if_neg (by decide),if_neg (by decide),if_neg (by decide),if_neg (by decide),if_neg (by decide),if_pos rfl]
 exact ZyJ h1 h2 h3
theorem ZAt:ZmQ prC:=fun zs b cap L e h1 h2 h3=>by
 rw [JD rfl]
 unfold prC
 rw [if_neg (by decide),if_neg (by decide),if_neg (by decide),if_neg (by decide),if_neg (by decide),if_neg (by decide),if_neg (by decide),if_pos rfl]
 exact ZyK h1 h2 h3
theorem ZAu:Zsr prC:=fun cs ks b cap L e h1 h2 h3 h4=>by
 rw [JD rfl]
 unfold prC
 rw [if_neg (by decide),if_neg (by decide),if_neg (by decide),if_neg (by decide),if_neg (by decide),if_neg (by decide),if_neg (by decide),if_neg (by decide),if_pos rfl]
 exact ZyL h1 h2 h3 h4
theorem ZAv:Zbc prC:=by
 refine ⟨fun L e b n i cap cs h1 h2 h3 => ?_,fun L e b n i cap cs h1 h2 h3 => ?_⟩
 ·rw [JD rfl]
  unfold prC
  rw [if_neg (by decide),if_neg (by decide),if_neg (by decide),if_neg (by decide),if_neg (by decide),if_neg (by decide),if_neg (by decide),if_neg (by decide),if_neg (by decide),if_pos rfl]
  exact Zsd (cap:=cap) h1 h2 h3
 ·rw [JD rfl]
  unfold prC
  rw [if_neg (by decide),if_neg (by decide),if_neg (by decide),if_neg (by decide),if_neg (by decide),if_neg (by decide),if_neg (by decide),if_neg (by decide),if_neg (by decide),if_neg (by decide),if_pos rfl]
  exact Zsd (cap:=cap) h1 h2 h3
theorem ZAw:ZlW prC:=⟨ZAo,ZAm,ZAn,ZAp,ZAq,ZAr,ZAs,ZAt,ZAu⟩
theorem Zy1:Zlc prC:=⟨ZAw,ZAv⟩
end Go.Proofs.YtemcdiajejekoaaGreatDoor.Slim
namespace Go.Proofs.YtemcdiajejekoaaGreatDoor.Slim
open Go
open Nat renaming reduceAdd → Ra, reduceLeDiff → Rb, reduceLT → Rc, reduceEqDiff → Rd
open Int renaming le_refl → Wo, toNat_zero → WC, toNat_one → WP
open List renaming getElem?_set_ne → Wm, getElem?_append_right → Rs, length_append → RL, getElem?_append_left → Wd, length_cons → RB, getElem?_eq_some_iff → Wb, getElem?_set_self → Wu, append_assoc → Rj, length_nil → WQ, mem_cons → RQ, getElem?_eq_getElem → Rl, replicate → Wr, length_map → Wn, length_set → Wl, mem_singleton → RP, mem_cons_of_mem → We, length_singleton → RN
open Nat renaming zero_mul → WO, one_mul → Wv, lt_irrefl → Ri, le_refl → Rt
open Option renaming some.inj → WA
open Bool renaming and_eq_true → Ru, false_eq_true → RO
variable {pr : Zq} {H : List Blk} {e : Option Nat}
variable {pr : Zq} {H : List Blk} {e : Option Nat}
def askOneW (ls:List Ld) (ss:List Sg) (w:By) (n:Int):Option By :=
 if w=[109,111,109,101,110,116] then (if Zhc n=true then some (Lib.itoa (Zf2 ls n)) else none)
 else if w=[109,111,115,116] then (if ZuR n=true then some (Lib.itoa (mostW ss n.toNat)) else none)
 else if w=[115,116,101,112,115] then (if ZuR n=true then some (KK 47 [(stepA ss n.toNat:Int),(stepBW ss n.toNat:Int)]) else none)
 else if w=[122,101,114,111] then (if Zhc n=true then some (Lib.itoa ((YY ls n).length:Int)) else none)
 else if w=[109,101,110,100] then (ZrO ls n).map fun p=>Zbn [(p.1:Int),p.2]
 else if w=[99,111,105,110,115] then (if ZyQ n=true then some (Lib.itoa (ZgY n)) else none)
 else none
theorem Zxo (p:Int) (hp:0≤p∧p≤60):∀ (ls:List Ld) (a:Int),ls.all okL=true→∀ B:Int,-B≤a→a≤B→B+(ls.length:Int)*5940≤1000000 → -(B+(ls.length:Int)*5940)≤ls.foldl (Qz p) a∧ls.foldl (Qz p) a≤B+(ls.length:Int)*5940
 | [],a,_,B,h1,h2,_=>by simp only [List.foldl_nil,WQ];omega
 | l::ls,a,h,B,h1,h2,hB=>by
  rw [List.all_cons,Ru] at h
  simp only [RB] at hB ⊢
  have h3:=h.1
  unfold okL at h3
  simp only [Ru,decide_eq_true_eq] at h3
  obtain ⟨x,hx⟩:∃ x:Nat,l.1=x:=⟨l.1.toNat,by omega⟩
  obtain ⟨y,hy⟩:∃ y:Nat,l.2=y:=⟨l.2.toNat,by omega⟩
  obtain ⟨z,rfl⟩:∃ z:Nat,p=z:=⟨p.toNat,by omega⟩
  have hxy:y*x≤99*60:=Nat.mul_le_mul (by omega) (by omega)
  have hxz:y*z≤99*60:=Nat.mul_le_mul (by omega) (by omega)
  have e0:(y:Int)*((x:Int) - (z:Int))=((y*x:Nat):Int) - ((y*z:Nat):Int):=by rw [Int.mul_sub,Int.natCast_mul,Int.natCast_mul]
  have e1:Qz z a l=a+(((y*x:Nat):Int) - ((y*z:Nat):Int)):=by
   unfold Qz
   rw [hx,hy,Yc (x:=(x:Int) - (z:Int)) (by omega) (by omega),e0,Yc (x:=((y*x:Nat):Int) - ((y*z:Nat):Int)) (by omega) (by omega),Yc (by omega) (by omega)]
  rw [List.foldl_cons,e1]
  have:=Zxo z hp ls (a+(((y*x:Nat):Int) - ((y*z:Nat):Int))) h.2 (B+5940) (by omega) (by omega) (by omega)
  omega
theorem Zxp {ls:List Ld} (h:Y1 ls=true) {n:Int} (hn:Zhc n=true):ZdT (Zf2 ls n):=by
 unfold Zhc at hn
 simp only [Ru,decide_eq_true_eq] at hn
 unfold Y1 at h
 rw [Ru,decide_eq_true_eq] at h
 have h3:=Zxo n hn ls 0 h.2 0 (by omega) (by omega) (by omega)
 unfold Zf2
 exact fit_small (by omega) (by omega)
theorem ZrS {n:Int} (hn:ZuR n=true):∃ x:Nat,n=x∧x≤1000000:=by
 unfold ZuR at hn
 simp only [Ru,decide_eq_true_eq] at hn
 exact ⟨n.toNat,by omega,by omega⟩
theorem ZsL {ss:List Sg} (hc:ZU ss=true) {n:Int} (hn:ZuR n=true):ZdT (mostW ss n.toNat:Int):=by
 obtain ⟨x,rfl,hx⟩:=ZrS hn
 obtain ⟨a1,a2,b1,b2,h3⟩:=Zbj hc x hx
 rw [Int.toNat_natCast]
 unfold mostW
 have:=Nat.div_le_self (x*ZS 1 1 ss) (ZX 1 1 ss)
 generalize x*ZS 1 1 ss / ZX 1 1 ss=z at *
 exact fit_small (by omega) (by omega)
theorem Zqc {ss:List Sg} (hc:ZU ss=true) (x:Nat) (hx:x≤1000000):ZdT (stepA ss x:Int)∧ZdT (stepBW ss x:Int):=by
 obtain ⟨a1,a2,b1,b2,h3⟩:=Zbj hc x hx
 have h1:x*ZX 1 1 ss≤1000000*254803968:=Nat.mul_le_mul hx b2
 have e1:stepA ss x≤x*ZX 1 1 ss:=Nat.div_le_self _ _
 have e2:stepBW ss x≤ZS 1 1 ss:=Nat.div_le_self _ _
 generalize stepA ss x=u at *
 generalize stepBW ss x=v at *
 generalize x*ZX 1 1 ss=y at *
 exact ⟨fit_small (by omega) (by omega),fit_small (by omega) (by omega)⟩
theorem ZmY {ls:List Ld} (hn:ls.length≤12) (p:Int):ZdT ((YY ls p).length:Int):=by
 have hgb:=ZsH ls.length hn (ZhV ls p) (ls.length+1) 0 (by omega)
 rw [Zp9] at hgb
 have hgb2:(YY ls p).length≤(ls.length+1+1)*479001600:=by unfold YY ZxL;rw [Wn];exact hgb
 exact fit_small (by omega) (by omega)
theorem Zqd (n:Int):ZdT (ZgY n):=by
 unfold ZgY
 split
 ·exact fit_small (by omega) (by omega)
 ·split
  ·exact fit_small (by omega) (by omega)
  ·split <;> exact fit_small (by omega) (by omega)
def ZBg:Option (Nat×Int)→Prop
 | some (i,p)=>i≤12∧0≤p∧p≤60
 | none=>True
theorem ZsM (ls:List Ld) (n:Int) (hn:ls.length≤12):ZBg (ZrO ls n):=by
 cases h:ZrO ls n with
 | none=>trivial
 | some x=>
  obtain ⟨i,p⟩:=x
  unfold ZrO at h
  split at h
  ·obtain ⟨h1,h2,h3⟩:=Zzy h
   exact ⟨by omega,h2,h3⟩
  ·cases h
theorem Zxq {i:Nat} {p:Int} (h:ZBg (some (i,p))):∀ z∈[(i:Int),p],ZdT z:=by
 obtain ⟨h1,h2,h3⟩:i≤12∧0≤p∧p≤60:=h
 intro z hz
 simp only [RQ,List.not_mem_nil,or_false] at hz
 rcases hz with rfl | rfl
 ·exact fit_small (by omega) (by omega)
 ·exact fit_small (by omega) (by omega)
set_option maxHeartbeats 2000000 in
theorem Zld (hl:ZlW pr) {u q1 q2:Nat} {c1 c2:Option Nat} {ls:List Ld} {ss:List Sg} {a b t k:Int} {rest:List AV} (hu:Za H u=some (sdL (slL q1 ls.length c1) a b (slS q2 ss.length c2) t k rest)) (h1:Za H q1=some (Zu ls)) (h2:Za H q2=some (ZI ss)) (hs:Zg5 ls ss a b t k=true) (w:By) (n:Int) :
  Wc (call T pr Ks [.ptr (some (u,0)),sV w,.int .i64 n] ⟨H,e⟩) (fun v m=>ZyZ (askOneW ls ss w n) v∧m=⟨H,e⟩):=by
 obtain ⟨hr,hc,hb,hss,hls,ht1,ht2,hk1,hk2,hre⟩:=KL hs
 have weq:=fun a=>Zcd w a
 have e1:decide (bs w=⟨#[109,111,109,101,110,116]⟩)=decide (w=[109,111,109,101,110,116]):=weq _
 have e2:decide (bs w=⟨#[109,111,115,116]⟩)=decide (w=[109,111,115,116]):=weq _
 have e3:decide (bs w=⟨#[115,116,101,112,115]⟩)=decide (w=[115,116,101,112,115]):=weq _
 have e4:decide (bs w=⟨#[122,101,114,111]⟩)=decide (w=[122,101,114,111]):=weq _
 have e5:decide (bs w=⟨#[109,101,110,100]⟩)=decide (w=[109,101,110,100]):=weq _
 have e6:decide (bs w=⟨#[99,111,105,110,115]⟩)=decide (w=[99,111,105,110,115]):=weq _
 rw [ZK ZiF]
 unfold Kv ZdH askOneW
 generalize (⟨#[109,111,109,101,110,116]⟩:ByteArray)=k1 at *
 generalize (⟨#[109,111,115,116]⟩:ByteArray)=k2 at *
 generalize (⟨#[115,116,101,112,115]⟩:ByteArray)=k3 at *
 generalize (⟨#[122,101,114,111]⟩:ByteArray)=k4 at *
 generalize (⟨#[109,101,110,100]⟩:ByteArray)=k5 at *
 generalize (⟨#[99,111,105,110,115]⟩:ByteArray)=k6 at *
 clear weq
 by_cases w1:w=[109,111,109,101,110,116]
 ·rw [decide_eq_true w1] at e1
  rw [if_pos w1]
  have hf:=fun L (hL:Za L q1=some (Zu ls))=>Zbi (pr:=pr) (e:=none) (cap:=c1) hL hr (by omega) n
  cases hB:Zhc n with
  | false=>
   simp only [hB,RO,if_false] at hf ⊢
   have hg:=fun L=>ZN (pr:=pr) (H:=L) (e:=none) hl.ito 0 (fit_small (by omega) (by omega)) false
   simp (maxSteps:=2000000) +contextual only [hu,h1,h2,hf,hg,e1,Zs,Zo,Zc h1,Zc h2,ZgE,ZgF,ZfL,Wo,WC,WP,WO,Wv,Zb,pp,go_sem,reduceIte,Ra,Rb,Rc,Rd]
   exact ⟨_,rfl,fun y h=>absurd h (by simp)⟩
  | true=>
   simp only [hB,if_true] at hf ⊢
   have hg:=fun L=>ZN (pr:=pr) (H:=L) (e:=none) hl.ito (Zf2 ls n) (Zxp hr hB) true
   simp (maxSteps:=2000000) +contextual only [hu,h1,h2,hf,hg,e1,Zs,Zo,Zc h1,Zc h2,ZgE,ZgF,ZfL,Wo,WC,WP,WO,Wv,Zb,pp,go_sem,reduceIte,Ra,Rb,Rc,Rd]
   exact ⟨_,rfl,fun y h=>by rw [←WA h]⟩
 rw [decide_eq_false w1] at e1
 by_cases w2:w=[109,111,115,116]
 ·rw [decide_eq_true w2] at e2
  rw [if_neg w1,if_pos w2]
  have hf:=fun L (hL:Za L q2=some (ZI ss))=>Zp1 (pr:=pr) (e:=none) (c:=c2) hL hc (by omega) n
  cases hB:ZuR n with
  | false=>
   simp only [hB,RO,if_false] at hf ⊢
   have hg:=fun L=>ZN (pr:=pr) (H:=L) (e:=none) hl.ito 0 (fit_small (by omega) (by omega)) false
   simp (maxSteps:=2000000) +contextual only [hu,h1,h2,hf,hg,e1,e2,Zs,Zo,Zc h1,Zc h2,ZgE,ZgF,ZfL,Wo,WC,WP,WO,Wv,Zb,pp,go_sem,reduceIte,Ra,Rb,Rc,Rd]
   exact ⟨_,rfl,fun y h=>absurd h (by simp)⟩
  | true=>
   simp only [hB,if_true] at hf ⊢
   have hg:=fun L=>ZN (pr:=pr) (H:=L) (e:=none) hl.ito (mostW ss n.toNat) (ZsL hc hB) true
   simp (maxSteps:=2000000) +contextual only [hu,h1,h2,hf,hg,e1,e2,Zs,Zo,Zc h1,Zc h2,ZgE,ZgF,ZfL,Wo,WC,WP,WO,Wv,Zb,pp,go_sem,reduceIte,Ra,Rb,Rc,Rd]
   exact ⟨_,rfl,fun y h=>by rw [←WA h]⟩
 rw [decide_eq_false w2] at e2
 by_cases w3:w=[115,116,101,112,115]
 ·rw [decide_eq_true w3] at e3
  rw [if_neg w1,if_neg w2,if_pos w3]
  cases hB:ZuR n with
  | false=>
   simp only [RO,if_false]
   have hf:=fun L (hL:Za L q2=some (ZI ss))=>Zi1 (pr:=pr) (e:=none) (c:=c2) hL hc (by omega) n hB
   simp (maxSteps:=2000000) +contextual only [hu,h1,h2,hf,e1,e2,e3,Zs,Zo,Zc h1,Zc h2,ZgE,ZgF,ZfL,Wo,WC,WP,WO,Wv,Zb,pp,go_sem,reduceIte,Ra,Rb,Rc,Rd]
   exact ⟨_,rfl,fun y h=>absurd h (by simp)⟩
  | true=>
   obtain ⟨x,rfl,hx⟩:=ZrS hB
   simp only [if_true,Int.toNat_natCast]
   simp (maxSteps:=2000000) +contextual only [hu,h1,h2,e1,e2,e3,Zs,Zo,Zc h1,Zc h2,ZgE,ZgF,ZfL,Wo,WC,WP,WO,Wv,Zb,pp,go_sem,reduceIte,Ra,Rb,Rc,Rd]
   refine (Zn2 h2 hc x hx).mono ?_
   rintro v m ⟨cap,ps,rfl,rfl,hp1,hp2⟩
   have hnew:Za (H++[.cells (Zu ps) true]) H.length=some (Zu ps):=Ze (w:=true) (by rw [Xe];rfl)
   obtain ⟨f1,f2⟩:=Zqc (ss:=ss) hc x hx
   have hg:=fun L=>Ky (pr:=pr) (H:=L) (e:=none) hl.ito hl.joi (stepA ss x) (stepBW ss x) f1 f2 true
   have hw:IntKind.i64.wrap (((ss.length+1:Nat):Int) - 1)=(ss.length:Int):=by rw [Yc (by omega) (by omega)];omega
   have hlt:ss.length<ss.length+1:=by omega
   simp (maxSteps:=2000000) +contextual only [hu,h1,h2,hnew,hg,hw,hlt,JP hp2,e1,e2,e3,Zs,Zo,Zc h1,Zc h2,ZgE,ZgF,ZfL,Wo,WC,WP,WO,Wv,Zb,pp,go_sem,reduceIte,Ra,Rb,Rc,Rd]
   exact ⟨_,rfl,fun y h=>by rw [←WA h]⟩
 rw [decide_eq_false w3] at e3
 by_cases w4:w=[122,101,114,111]
 ·rw [decide_eq_true w4] at e4
  rw [if_neg w1,if_neg w2,if_neg w3,if_pos w4]
  have hf:=fun L (hL:Za L q1=some (Zu ls))=>Zg4 (pr:=pr) (e:=none) (cap:=c1) hl hL hr n
  cases hB:Zhc n with
  | false=>
   simp only [hB,RO,if_false] at hf ⊢
   have hg:=fun L=>ZN (pr:=pr) (H:=L) (e:=none) hl.ito 0 (fit_small (by omega) (by omega)) false
   simp (maxSteps:=2000000) +contextual only [hu,h1,h2,hf,hg,e1,e2,e3,e4,Zs,Zo,Zc h1,Zc h2,ZgE,ZgF,ZfL,Wo,WC,WP,WO,Wv,Zb,pp,go_sem,reduceIte,Ra,Rb,Rc,Rd]
   exact ⟨_,rfl,fun y h=>absurd h (by simp)⟩
  | true=>
   simp only [hB,if_true] at hf ⊢
   have hg:=fun L=>ZN (pr:=pr) (H:=L) (e:=none) hl.ito ((YY ls n).length) (ZmY hls n) true
   simp (maxSteps:=2000000) +contextual only [hu,h1,h2,hf,hg,e1,e2,e3,e4,Zs,Zo,Zc h1,Zc h2,ZgE,ZgF,ZfL,Wo,WC,WP,WO,Wv,Zb,pp,go_sem,reduceIte,Ra,Rb,Rc,Rd]
   exact ⟨_,rfl,fun y h=>by rw [←WA h]⟩
 rw [decide_eq_false w4] at e4
 by_cases w5:w=[109,101,110,100]
 ·rw [decide_eq_true w5] at e5
  rw [if_neg w1,if_neg w2,if_neg w3,if_neg w4,if_pos w5]
  have hf:=fun L (hL:Za L q1=some (Zu ls))=>ZrP (pr:=pr) (e:=none) (cap:=c1) hL hr (by omega) n
  have hfit:=ZsM ls n hls
  generalize ZrO ls n=o at *
  cases o with
  | some x=>
   obtain ⟨i,p⟩:=x
   have hg:call T pr Xx [.slice (some (H.length,0)) 1 2 (some 2),.bool true] ⟨H++[.cells [.int .i64 i,.int .i64 p] true],none⟩=some (.tup [sV (Zbn [(i:Int),p]),.bool true],⟨H++[.cells [.int .i64 i,.int .i64 p] true],none⟩) :=
    ZbW (zs:=[(i:Int),p]) hl.ito hl.joi (Ze (w:=true) (by rw [Xe];rfl)) (by simp) (Zxq hfit) true
   simp only [mvV] at hf
   simp (maxSteps:=2000000) +contextual only [hu,h1,h2,hf,hg,Option.map_some,e1,e2,e3,e4,e5,Zs,Zo,Zc h1,Zc h2,ZgE,ZgF,ZfL,Wo,WC,WP,WO,Wv,Zb,pp,go_sem,reduceIte,Ra,Rb,Rc,Rd]
   exact ⟨_,rfl,fun y h=>by rw [←WA h]⟩
  | none=>
   have hg:call T pr Xx [.slice (some (H.length,0)) 1 2 (some 2),.bool false] ⟨H++[.cells [.int .i64 0,.int .i64 0] true],none⟩=some (.tup [sV (Zbn [0,0]),.bool false],⟨H++[.cells [.int .i64 0,.int .i64 0] true],none⟩) :=
    ZbW (zs:=[0,0]) hl.ito hl.joi (Ze (w:=true) (by rw [Xe];rfl)) (by simp) (fun z hz=>by simp at hz;subst hz;exact fit_small (by omega) (by omega)) false
   simp only [mvV] at hf
   simp (maxSteps:=2000000) +contextual only [hu,h1,h2,hf,hg,Option.map_none,e1,e2,e3,e4,e5,Zs,Zo,Zc h1,Zc h2,ZgE,ZgF,ZfL,Wo,WC,WP,WO,Wv,Zb,pp,go_sem,reduceIte,Ra,Rb,Rc,Rd]
   exact ⟨_,rfl,fun y h=>absurd h (by simp)⟩
 rw [decide_eq_false w5] at e5
 by_cases w6:w=[99,111,105,110,115]
 ·rw [decide_eq_true w6] at e6
  rw [if_neg w1,if_neg w2,if_neg w3,if_neg w4,if_neg w5,if_pos w6]
  have hf:=fun L=>ZfW (pr:=pr) (H:=L) (e:=none) n
  cases hB:ZyQ n with
  | false=>
   simp only [hB,RO,if_false] at hf ⊢
   have hg:=fun L=>ZN (pr:=pr) (H:=L) (e:=none) hl.ito 0 (fit_small (by omega) (by omega)) false
   simp (maxSteps:=2000000) +contextual only [hu,h1,h2,hf,hg,e1,e2,e3,e4,e5,e6,Zs,Zo,Zc h1,Zc h2,ZgE,ZgF,ZfL,Wo,WC,WP,WO,Wv,Zb,pp,go_sem,reduceIte,Ra,Rb,Rc,Rd]
   exact ⟨_,rfl,fun y h=>absurd h (by simp)⟩
  | true=>
   simp only [hB,if_true] at hf ⊢
   have hg:=fun L=>ZN (pr:=pr) (H:=L) (e:=none) hl.ito (ZgY n) (Zqd n) true
   simp (maxSteps:=2000000) +contextual only [hu,h1,h2,hf,hg,e1,e2,e3,e4,e5,e6,Zs,Zo,Zc h1,Zc h2,ZgE,ZgF,ZfL,Wo,WC,WP,WO,Wv,Zb,pp,go_sem,reduceIte,Ra,Rb,Rc,Rd]
   exact ⟨_,rfl,fun y h=>by rw [←WA h]⟩
 rw [decide_eq_false w6] at e6
 rw [if_neg w1,if_neg w2,if_neg w3,if_neg w4,if_neg w5,if_neg w6]
 simp (maxSteps:=2000000) +contextual only [hu,h1,h2,e1,e2,e3,e4,e5,e6,Zs,Zo,Zc h1,Zc h2,ZgE,ZgF,ZfL,Wo,WC,WP,WO,Wv,Zb,pp,go_sem,reduceIte,Ra,Rb,Rc,Rd]
 exact ⟨_,rfl,fun y h=>absurd h (by simp)⟩
variable {pr : Zq} {H : List Blk} {e : Option Nat}
abbrev slO (q:Nat) (P:List Int) (n:Nat) (cap:Option Nat):AV:=.slice (some (q,P.length)) 1 n cap
theorem Zan {P k:List Int} {i:Nat} {x:Int} (sz:Nat) (h:k[i]?=some x):ZdV false (Y5 (P++k)) (P.length+i) sz=some (.int .i64 x):=by
 rw [Z2 (x:=x)]
 rw [Rs (by omega),show P.length+i - P.length=i by omega]
 exact h
theorem ZmZ {P:List Int} {q:Nat} {cap:Option Nat} {k:List Int} (h:Za H q=some (Y5 (P++k))) (hn:k.length≤1000000):call T pr K4 [slO q P k.length cap] ⟨H,e⟩=some (.bool (ZfX k),⟨H,e⟩):=by
 have hw:∀ L x,call T pr JF [.int .i64 x] ⟨L,none⟩=some (.bool (ZsD x),⟨L,none⟩):=fun L x=>Zed x
 have h16:=fun L=>Z0 (pr:=pr) (H:=L) (e:=none) ((k.length:Nat):Int) 1 6
 apply Wc.eq
 rw [ZK ZoI]
 simp (maxSteps:=2000000) +contextual only [XW,ZjU,pp,go_sem,reduceIte,Ra,Rb,Rc,Rd]
 refine XQ (fun j st=>∃ (i:Nat) (w2 w3 w7 w8:AV),i+j=k.length∧Zp3 (Zl0 k i) (k.drop i)=Zp3 0 k ∧
  st=⟨[slO q P k.length cap,.bool false,w2,w3,slO q P k.length cap,.int .i64 k.length,.int .i64 i,w7,w8],⟨H,none⟩⟩) ?_ k.length _ ⟨0,_,_,_,_,by omega,rfl,rfl⟩
 rintro j _ ⟨i,w2,w3,w7,w8,hij,hk,rfl⟩
 by_cases hj:j=0
 ·have he:i=k.length:=by omega
  subst he
  rw [List.drop_length] at hk
  unfold ZfX
  rw [←hk]
  simp (maxSteps:=2000000) +contextual only [YF,XW,Ri,decide_false,h16,Zp3,Bool.true_and,pp,go_sem,reduceIte,Ra,Rb,Rc,Rd]
 ·have hi:i<k.length:=by omega
  have hl:k[i]?=some k[i]:=Rl hi
  rw [List.drop_eq_getElem_cons hi] at hk
  have hps:=ZmV k i k[i] hl
  generalize k[i]=x at *
  have hsw:=Zw (show i<9223372036854775807 by omega)
  by_cases h0:i=0
  ·have hp:Zl0 k i=0:=by rw [h0];rfl
   have hi0:¬ (0:Int)<(i:Int):=by omega
   rw [hp] at hk
   cases hx:ZsD x with
   | false=>
    rw [ZhU (by rw [hx];rfl)] at hk
    unfold ZfX
    rw [←hk]
    simp (maxSteps:=2000000) +contextual only [YF,XW,hi,h,Zan _ hl,hw,hx,hi0,gt_iff_lt,decide_true,decide_false,Bool.false_and,pp,go_sem,reduceIte,Ra,Rb,Rc,Rd]
   | true=>
    have hx':(ZsD x&&decide (0≤x))=true:=by
     rw [hx]
     unfold ZsD at hx
     simp only [Ru,decide_eq_true_eq] at hx
     simp;omega
    rw [Zjk hx',←hps] at hk
    simp (maxSteps:=2000000) +contextual only [YF,hi,h,Zan _ hl,hw,hx,hi0,gt_iff_lt,hsw,decide_true,decide_false,pp,go_sem,reduceIte,Ra,Rb,Rc,Rd]
    exact ⟨j - 1,by omega,i+1,_,_,_,_,by omega,hk,rfl⟩
  ·have hip:(0:Int)<(i:Int):=by omega
   have hl1:k[i - 1]?=some k[i - 1]:=Rl (by omega)
   have hp:Zl0 k i=k[i - 1]:=by
    unfold Zl0
    rw [if_neg h0,List.getD_eq_getElem?_getD,hl1];rfl
   have hwi:IntKind.i64.wrap ((i:Int) - 1)=((i - 1:Nat):Int):=by rw [Yc (by omega) (by omega)];omega
   have hi1:i - 1<k.length:=by omega
   rw [hp] at hk
   generalize k[i - 1]=p at *
   cases hx:ZsD x with
   | false=>
    rw [ZhU (by rw [hx];rfl)] at hk
    unfold ZfX
    rw [←hk]
    simp (maxSteps:=2000000) +contextual only [YF,XW,hi,h,Zan _ hl,hw,hx,hip,gt_iff_lt,decide_true,decide_false,Bool.false_and,pp,go_sem,reduceIte,Ra,Rb,Rc,Rd]
   | true=>
    by_cases hxp:x<p
    ·rw [ZhU (by rw [hx,decide_eq_false (by omega)];rfl)] at hk
     unfold ZfX
     rw [←hk]
     simp (maxSteps:=2000000) +contextual only [YF,XW,hi,hi1,h,Zan _ hl,Zan _ hl1,hw,hx,hip,hwi,hxp,gt_iff_lt,decide_true,decide_false,Bool.false_and,pp,go_sem,reduceIte,Ra,Rb,Rc,Rd]
    ·rw [Zjk (by rw [hx,decide_eq_true (by omega)];rfl),←hps] at hk
     simp (maxSteps:=2000000) +contextual only [YF,hi,hi1,h,Zan _ hl,Zan _ hl1,hw,hx,hip,hwi,hxp,gt_iff_lt,hsw,decide_true,decide_false,pp,go_sem,reduceIte,Ra,Rb,Rc,Rd]
     exact ⟨j - 1,by omega,i+1,_,_,_,_,by omega,hk,rfl⟩
structure ZuI (P:List Int) (b0 q n:Nat) (cap:Option Nat) (kit:List Int) (g:FuncId) (caps:List AV) (sg:List Int) (L:List Blk):Prop where
 kc:Za L q=some (Y5 (P++kit))
 k0:L[b0]?=some (.cells [slO q P n cap] true)
 k1:L[b0+1]?=some (.cells [.int .i64 (-1)] true)
 k2:L[b0+2]?=some (.cells [.fn g [] caps] true)
 k3:L[b0+3]?=some (.cells (Y5 sg) true)
 k4:L[b0+4]?=some (.cells [slI (b0+3) n (some n)] true)
 k5:L[b0+5]?=some (.cells [.fn Yr [] [.ptr (some (b0,0)),.ptr (some (b0+2,0)),.ptr (some (b0+4,0)),.ptr (some (b0+1,0)),.ptr (some (b0+5,0))]] true)
 len:sg.length=n
 kl:kit.length=n
 ql:q<b0
theorem ZuI.put {P:List Int} {b0 q n:Nat} {cap:Option Nat} {kit:List Int} {g:FuncId} {caps:List AV} {sg:List Int} {L:List Blk} (h:ZuI P b0 q n cap kit g caps sg L) (sg':List Int) (hl:sg'.length=n):ZuI P b0 q n cap kit g caps sg' (L.set (b0+3) (.cells (Y5 sg') true)):=by
 have hlt:b0+3<L.length:=(Wb.mp h.k3).1
 have hq:=h.ql
 refine ⟨?_,?_,?_,?_,?_,?_,?_,hl,h.kl,hq⟩
 ·have:=h.kc
  unfold Za at this ⊢
  rw [Wm (by omega)]
  exact this
 ·rw [Wm (by omega)];exact h.k0
 ·rw [Wm (by omega)];exact h.k1
 ·rw [Wm (by omega)];exact h.k2
 ·rw [Wu hlt]
 ·rw [Wm (by omega)];exact h.k4
 ·rw [Wm (by omega)];exact h.k5
def Zxr (P:List Int) (pr:Zq) (b0 q n B:Nat) (cap:Option Nat) (kit:List Int) (g:FuncId) (caps:List AV) (Inv:List (List Int)→List Blk→Prop):Prop :=
 ∀ (L:List Blk) (sg:List Int) (e:Option Nat) (done:List (List Int)),ZuI P b0 q n cap kit g caps sg L→Inv done L→done.length<3 ^ n→Wc (call T pr g ([slI (b0+3) n (some n),.int .i64 (dotZ kit sg)]++caps) ⟨L,e⟩)
  (fun v m=>v=.tup []∧∃ L' e',m=⟨L',e'⟩∧ZuI P b0 q n cap kit g caps sg L'∧Inv (done++[sg]) L'∧(clean B e=true→clean B e'=true))
set_option maxHeartbeats 1000000 in
theorem ZsN {P:List Int} {b0 q n B:Nat} {cap:Option Nat} {kit:List Int} {g:FuncId} {caps:List AV} {Inv:List (List Int)→List Blk→Prop} (hT:Zxr P pr b0 q n B cap kit g caps Inv)
  (hS:∀ L x done,Inv done L→Inv done (L.set (b0+3) x)) (hn:n≤1000000) (hk:∀ w∈kit,0≤w∧w≤99) :
  ∀ (d at':Nat) (sg:List Int) (L:List Blk) (e:Option Nat) (done:List (List Int)),at'+d=n→ZuI P b0 q n cap kit g caps sg L→(∀ x∈sg.take at',x = -1∨x=0∨x=1)→Inv done L→done.length+3 ^ d≤3 ^ n →
  Wc (call T pr Yr [.int .i64 at',.int .i64 (dotZ kit (sg.take at')),.ptr (some (b0,0)),.ptr (some (b0+2,0)),.ptr (some (b0+4,0)),.ptr (some (b0+1,0)),.ptr (some (b0+5,0))] ⟨L,e⟩)
   (fun v m=>v=.tup []∧∃ L' e' sg',m=⟨L',e'⟩∧ZuI P b0 q n cap kit g caps sg' L'∧sg'.take at'=sg.take at'∧Inv (done++(KT d).map (sg.take at' ++ ·)) L'∧(clean B e=true→clean B e'=true))
 | 0,at',sg,L,e,done,hat,hE,hsg,hI,hdl=>by
  have hat':at'=n:=by omega
  subst hat'
  have htk:sg.take at'=sg:=by rw [←hE.len,List.take_length]
  rw [htk]
  rw [ZK Qy]
  simp (maxSteps:=2000000) +contextual only [Z1,JN,Ze hE.k0,Ze hE.k2,Ze hE.k4,decide_true,pp,go_sem,reduceIte,Ra,Rb,Rc,Rd]
  refine (hT L sg none done hE hI (by have:3 ^ 0=1:=rfl;omega)).mono ?_
  rintro v m ⟨rfl,L',e',rfl,hE',hI',hcl⟩
  simp (maxSteps:=2000000) +contextual only [Z1,finish,pp,go_sem,reduceIte,Ra,Rb,Rc,Rd]
  have hm:(KT 0).map (sg ++ ·)=[sg]:=by simp [KT]
  rw [hm]
  have hl':sg.take at'=sg:=htk
  exact ⟨L',joinEsc e e',sg,rfl,hE',hl',hI',fun h=>YI h (hcl rfl)⟩
 | d+1,at',sg,L,e,done,hat,hE,hsg,hI,hdl=>by
  rw [ZK Qy]
  have hne:¬ ((at':Nat):Int)=((n:Nat):Int):=by omega
  simp (maxSteps:=2000000) +contextual only [Z1,JN,Ze hE.k0,Ze hE.k1,hne,decide_false,pp,go_sem,reduceIte,Ra,Rb,Rc,Rd]
  refine XQ (fun k st=>∃ (L':List Blk) (e1:Option Nat) (sg':List Int) (w9:AV),k≤3∧ZuI P b0 q n cap kit g caps sg' L'∧sg'.take at'=sg.take at'∧Inv (done++(([-1,0,1]:List Int).take (3 - k)).flatMap fun s=>(KT d).map fun x=>sg.take at'++s::x) L'∧clean B e1=true ∧
   st=⟨[.int .i64 at',.int .i64 (dotZ kit (sg.take at')),.ptr (some (b0,0)),.ptr (some (b0+2,0)),.ptr (some (b0+4,0)),.ptr (some (b0+1,0)),.ptr (some (b0+5,0)),.int .i64 (2 - (k:Int)),.bool false,w9],⟨L',e1⟩⟩) ?_ 3 _ ⟨L,none,sg,_,Rt _,hE,rfl,by simpa using hI,rfl,rfl⟩
  rintro k _ ⟨L',e1,sg',w9,hk3,hE',htk,hI',hcl,rfl⟩
  by_cases hk0:k=0
  ·subst hk0
   have hc:¬ (2 - ((0:Nat):Int)≤1):=by omega
   simp (maxSteps:=2000000) +contextual only [XY,Z1,finish,hc,decide_false,pp,go_sem,reduceIte,Ra,Rb,Rc,Rd]
   have hall:(([-1,0,1]:List Int).take (3 - 0)).flatMap (fun s=>(KT d).map fun x=>sg.take at'++s::x)=(KT (d+1)).map (sg.take at' ++ ·):=by
    simp [KT]
    rfl
   rw [hall] at hI'
   exact ⟨L',joinEsc e e1,sg',rfl,hE',htk,hI',fun h=>YI h hcl⟩
  ·have hc:2 - (k:Int)≤1:=by omega
   have hi:at'<n:=by omega
   obtain ⟨w,hw⟩:∃ w,kit[at']?=some w:=⟨kit[at']'(by rw [hE.kl];exact hi),Rl _⟩
   have hwk:=hk w (List.mem_of_getElem? hw)
   have hsl:sg'.length=n:=hE'.len
   have hsv:2 - (k:Int) = -1∨2 - (k:Int)=0∨2 - (k:Int)=1:=by omega
   have hF:(([-1,0,1]:List Int).take (3 - (k - 1))).flatMap (fun s=>(KT d).map fun x=>sg.take at'++s::x)=(([-1,0,1]:List Int).take (3 - k)).flatMap (fun s=>(KT d).map fun x=>sg.take at'++s::x)++(KT d).map fun x=>sg.take at'++(2 - (k:Int))::x:=by
    have:k=1∨k=2∨k=3:=by omega
    rcases this with rfl | rfl | rfl <;> simp
   have hnx:2 - (k:Int)+1=2 - ((k - 1:Nat):Int):=by omega
   generalize hs:2 - (k:Int)=s at *
   have hls:=ZgZ sg' at' s (by omega)
   rw [htk] at hls
   have hd:=Zk7 kit (sg.take at') at' w s hw (by rw [List.length_take,hE.len];omega)
   rw [←hls] at hd
   have hb:=Zg0 kit (sg.take at') hk hsg
   rw [hE.kl] at hb
   have hws : -99≤w*s∧w*s≤99:=by rcases hsv with h | h | h <;> rw [h] <;> omega
   have w1:IntKind.i64.wrap (s*w)=w*s:=by rw [Int.mul_comm];exact Yc (by omega) (by omega)
   have w2:IntKind.i64.wrap (dotZ kit (sg.take at')+w*s)=dotZ kit ((sg'.set at' s).take (at'+1)):=by rw [hd];exact Yc (by omega) (by omega)
   have w3:=Zw (show at'<9223372036854775807 by omega)
   have w4:IntKind.i64.wrap (s+1)=2 - ((k - 1:Nat):Int):=by rw [←hnx];exact Yc (by omega) (by omega)
   have hse:=ZgA (X:=sg') (i:=at') (a:=s) (by omega)
   have hle:at'+1≤(Y5 sg').length:=by rw [Y5,Wn];omega
   have E2:=hE'.put (sg'.set at' s) (by rw [Wl];exact hsl)
   simp (maxSteps:=2000000) +contextual only [XY,Ze hE'.k0,Ze hE'.k1,Ze hE'.k4,Ze hE'.k5,Ze hE'.k3,hE'.kc,hE'.k3,hc,hi,hse,hle,Ze E2.k0,Ze E2.k5,E2.kc,Zan _ hw,w1,w2,w3,decide_true,pp,go_sem,reduceIte,Ra,Rb,Rc,Rd]
   refine (ZsN hT hS hn hk d (at'+1) (sg'.set at' s) _ e1 _ (by omega) E2 ?_ (hS _ _ _ hI') ?_).mono ?_
   ·rw [hls]
    intro x hx
    rcases List.mem_append.mp hx with h | h
    ·exact hsg x h
    ·simp only [RP] at h
     rw [h]
     exact hsv
   ·have hfl:∀ l:List Int,(l.flatMap fun s=>(KT d).map fun x=>sg.take at'++s::x).length=l.length*3 ^ d:=by
     intro l
     induction l with
     | nil=>simp
     | cons a l ih=>
      simp only [List.flatMap_cons,RL,Wn,ZcL,ih,RB,Nat.add_mul,Wv]
      omega
    rw [RL,hfl,List.length_take]
    have:min (3 - k) ([-1,0,1]:List Int).length≤2:=by simp;omega
    have h2:=Nat.mul_le_mul_right (3 ^ d) this
    rw [Nat.pow_succ] at hdl
    omega
   ·rintro v m ⟨rfl,L3,e3,sg3,rfl,E3,htk3,hI3,hcl3⟩
    simp (maxSteps:=2000000) +contextual only [w4,pp,go_sem,reduceIte,Ra,Rb,Rc,Rd]
    have htk3':sg3.take at'=sg.take at':=by
     have:=congrArg (List.take at') htk3
     rw [List.take_take,List.take_take,Nat.min_eq_left (by omega)] at this
     rw [this,List.take_set_of_le (Rt _)]
     exact htk
    rw [hls] at hI3
    have hI4:Inv (done++(([-1,0,1]:List Int).take (3 - (k - 1))).flatMap fun s=>(KT d).map fun x=>sg.take at'++s::x) L3:=by
     rw [hF]
     rw [Rj] at hI3
     have e5:(KT d).map (fun x=>sg.take at'++[s]++x)=(KT d).map fun x=>sg.take at'++s::x:=by
      congr 1
      funext x
      simp
     rw [←e5]
     exact hI3
    exact ⟨k - 1,by omega,L3,e3,sg3,_,by omega,E3,htk3',hI4,hcl3 hcl,rfl⟩
theorem ZuI.of {P:List Int} {b0 q n:Nat} {cap:Option Nat} {kit:List Int} {g:FuncId} {caps:List AV} {sg:List Int} {L L':List Blk} (h:ZuI P b0 q n cap kit g caps sg L) (hL:∀ i,i=q∨(b0≤i∧i≤b0+5)→L'[i]?=L[i]?):ZuI P b0 q n cap kit g caps sg L':=by
 refine ⟨?_,?_,?_,?_,?_,?_,?_,h.len,h.kl,h.ql⟩
 ·have:=h.kc
  unfold Za at this ⊢
  rw [hL q (.inl rfl)]
  exact this
 ·rw [hL _ (.inr ⟨by omega,by omega⟩)];exact h.k0
 ·rw [hL _ (.inr ⟨by omega,by omega⟩)];exact h.k1
 ·rw [hL _ (.inr ⟨by omega,by omega⟩)];exact h.k2
 ·rw [hL _ (.inr ⟨by omega,by omega⟩)];exact h.k3
 ·rw [hL _ (.inr ⟨by omega,by omega⟩)];exact h.k4
 ·rw [hL _ (.inr ⟨by omega,by omega⟩)];exact h.k5
theorem Zoa {P:List Int} {L:List Blk} {q B:Nat} {cap:Option Nat} {kit:List Int} {g:FuncId} {caps:List AV} {Inv:List (List Int)→List Blk→Prop} (hq:Za L q=some (Y5 (P++kit))) (hB:B≤L.length) (hn:kit.length≤1000000) (hk:∀ w∈kit,0≤w∧w≤99) (hT:Zxr P pr L.length q kit.length B cap kit g caps Inv)
  (hS:∀ L' x done,Inv done L'→Inv done (L'.set (L.length+3) x)) (hI:∀ G,Inv [] (L++G)) (e:Option Nat) :
  Wc (call T pr JX [slO q P kit.length cap,.int .i64 (-1),.fn g [] caps] ⟨L,e⟩) (fun v m=>v=.tup []∧∃ L' e',m=⟨L',e'⟩∧Inv (KT kit.length) L'∧(clean B e=true→clean B e'=true)):=by
 have hql:q<L.length:=Xf hq
 rw [ZK Zgq]
 simp (maxSteps:=2000000) +contextual only [Je,Zdc,Zb,ZhG,pp,go_sem,reduceIte,Ra,Rb,Rc,Rd]
 refine ⟨fun _ => ?_,fun h=>absurd (show ((kit.length:Nat):Int)*((8:Nat):Int)≤((maxBytes:Nat):Int) by unfold maxBytes;omega) h⟩
 have hE:ZuI P L.length q kit.length cap kit g caps (Wr kit.length 0) (L++[.cells [.slice (some (q,P.length)) 1 kit.length cap] true,.cells [.int .i64 (-1)] true,.cells [.fn g [] caps] true,.cells (Y5 (Wr kit.length 0)) true,.cells [.slice (some (L.length+3,0)) 1 kit.length (some kit.length)] true,
   .cells [.fn Yr [] [.ptr (some (L.length,0)),.ptr (some (L.length+2,0)),.ptr (some (L.length+4,0)),.ptr (some (L.length+1,0)),.ptr (some (L.length+5,0))]] true]):=by
  refine ⟨Zc hq _,?_,?_,?_,?_,?_,?_,List.length_replicate,rfl,hql⟩
  ·rw [Rs (by omega)];simp
  all_goals (rw [Rs (by omega)];simp)
 have hz:dotZ kit ((Wr kit.length (0:Int)).take 0)=0:=by cases kit <;> rfl
 have hw:=fun e1=>ZsN (B:=B) hT hS hn hk kit.length 0 (Wr kit.length 0) _ e1 [] (by omega) hE (by simp) (hI _) (by simp)
 have h0:((0:Nat):Int)=0:=rfl
 rw [hz,h0] at hw
 refine (hw _).mono ?_
 rintro v m ⟨rfl,L',e',sg',rfl,hE',_,hI',hcl⟩
 simp (maxSteps:=2000000) +contextual only [Je,finish,pp,go_sem,reduceIte,Ra,Rb,Rc,Rd]
 have hm:(KT kit.length).map ((Wr kit.length (0:Int)).take 0 ++ ·)=KT kit.length:=by simp
 rw [hm] at hI'
 refine ⟨L',joinEsc e e',rfl,hI',fun h=>YI h (hcl ?_)⟩
 have c4:∀ (c:Prop) [Decidable c],clean B (if c then none else Z6 none (L.length+4))=true:=fun c _=>ZC c rfl (Zt rfl (by omega))
 exact ZC _ (c4 _) (Zt (c4 _) (by omega))
theorem ZuJ {P:List Int} {q on o b0 m:Nat} {cap:Option Nat} {kit:List Int} {n:Int} (ho:H.length≤o) (ho0:o<b0) (hon:H.length≤on) (hon0:on<b0) (hne:on≠o) (hqH:q<H.length) (hm:m≤6) (hm0:0<m):Zxr P pr b0 q m H.length cap kit Xu [.ptr (some (on,0)),.ptr (some (o,0))] (ZAL q b0 on o m kit n H):=by
 intro L sg e done hE hI hdn
 obtain ⟨hL,hdl,b,cc,h1,h2,h3,h4,h5,h6⟩:=hI
 have hbl:=Zxb kit n m done hdl
 have hs3:=Ze hE.k3
 have hsl:sg.length=m:=hE.len
 show Wc (call T pr Xu [slI (b0+3) m (some m),.int .i64 (dotZ kit sg),.ptr (some (on,0)),.ptr (some (o,0))] ⟨L,e⟩) _
 have hsn:=ZuG kit n done sg
 have hu1:call T pr QO [slI (b0+3) m (some m)] ⟨L,none⟩=some (.int .i64 (Ze2 sg),⟨L,none⟩):=by rw [←hsl];exact ZmW hs3 (by omega)
 have hu2:call T pr QO [slI b (X2 kit n done).length cc] ⟨L,none⟩=some (.int .i64 (Ze2 (X2 kit n done)),⟨L,none⟩):=ZmW h2 (by omega)
 have hcl:call T pr Yq [slI (b0+3) m (some m)] ⟨L,none⟩=some (slI L.length m none,⟨L++[.cells (Y5 sg) true],none⟩):=by rw [←hsl];exact Zz8 hs3 (by omega)
 have hkeep:X2 kit n (done++[sg])=X2 kit n done→ZAL q b0 on o m kit n H (done++[sg]) L:=fun hb=>by
  unfold ZAL
  rw [hb]
  refine ⟨hL,fun l hl => ?_,b,cc,h1,h2,h3,h4,h5,h6⟩
  rcases List.mem_append.mp hl with g | g
  ·exact hdl l g
  ·simp only [RP] at g
   rw [g];exact hsl
 have hol:o<L.length:=(Wb.mp h1).1
 have honl:on<L.length:=(Wb.mp h3).1
 have hb5:b0+5<L.length:=(Wb.mp hE.k5).1
 have hnew:X2 kit n (done++[sg])=sg→ZuI P b0 q m cap kit Xu [.ptr (some (on,0)),.ptr (some (o,0))] sg ((L++[Blk.cells (Y5 sg) true]).set o (Blk.cells [slI L.length m none] true))∧ZAL q b0 on o m kit n H (done++[sg]) ((L++[Blk.cells (Y5 sg) true]).set o (Blk.cells [slI L.length m none] true)):=fun hb=>by
  refine ⟨hE.of fun i hi => ?_,?_⟩
  ·have hiq:i<L.length:=by
    rcases hi with rfl | ⟨_,h⟩
    ·exact Xf hE.kc
    ·omega
   have hio:o≠i:=by
    rcases hi with rfl | ⟨h,_⟩ <;> omega
   rw [Wm hio,Wd hiq]
  ·unfold ZAL
   rw [hb,hsl]
   refine ⟨(hL.more _).put ho _,fun l hl => ?_,L.length,none,by rw [Wu (by simp;omega)],?_,by rw [Wm (by omega),Wd honl];exact h3,by have:=hL.le;omega,by omega,.inr (by omega)⟩
   ·rcases List.mem_append.mp hl with g | g
    ·exact hdl l g
    ·simp only [RP] at g
     rw [g];exact hsl
   ·unfold Za
    rw [Wm (by omega),Rs (by omega)]
    simp
 have ho2:(L++[Blk.cells (Y5 sg) true])[o]?=some (.cells [slI b (X2 kit n done).length cc] true):=by rw [Wd hol];exact h1
 rw [ZK ZiJ]
 by_cases hd:dotZ kit sg=n
 ·by_cases hb0:(X2 kit n done).length=0
  ·have hb0':(((X2 kit n done).length:Nat):Int)=0:=by omega
   have hbest:X2 kit n (done++[sg])=sg:=by rw [hsn];unfold Zi2;rw [if_pos ⟨hd,.inl hb0⟩]
   simp (maxSteps:=2000000) +contextual only [YW,Jn,finish,Ze h1,Ze h3,hd,hb0',hcl,ho2,decide_true,pp,go_sem,reduceIte,Ra,Rb,Rc,Rd]
   refine ⟨fun _ => ?_,fun h=>absurd (by simp) h⟩
   obtain ⟨E2,I2⟩:=hnew hbest
   exact ⟨_,joinEsc e (if AV.under (o+1) (AV.slice (some (L.length,0)) 1 m none)=true then none else Z6 none o),rfl,E2,I2,fun h=>YI h (ZC _ rfl (Zt rfl ho))⟩
  ·have hb0':¬ (((X2 kit n done).length:Nat):Int)=0:=by omega
   by_cases hu:Ze2 sg<Ze2 (X2 kit n done)
   ·have hbest:X2 kit n (done++[sg])=sg:=by rw [hsn];unfold Zi2;rw [if_pos ⟨hd,.inr hu⟩]
    simp (maxSteps:=2000000) +contextual only [YW,Jn,finish,Ze h1,Ze h3,hd,hb0',hu1,hu2,hu,hcl,ho2,decide_true,decide_false,pp,go_sem,reduceIte,Ra,Rb,Rc,Rd]
    refine ⟨fun _ => ?_,fun h=>absurd (by simp) h⟩
    obtain ⟨E2,I2⟩:=hnew hbest
    exact ⟨_,joinEsc e (if AV.under (o+1) (AV.slice (some (L.length,0)) 1 m none)=true then none else Z6 none o),rfl,E2,I2,fun h=>YI h (ZC _ rfl (Zt rfl ho))⟩
   ·have hbest:X2 kit n (done++[sg])=X2 kit n done:=by rw [hsn];unfold Zi2;rw [if_neg];rintro ⟨_,g | g⟩;exact hb0 g;exact hu g
    simp (maxSteps:=2000000) +contextual only [YW,Jn,finish,Ze h1,Ze h3,hd,hb0',hu1,hu2,hu,decide_true,decide_false,pp,go_sem,reduceIte,Ra,Rb,Rc,Rd]
    refine ⟨fun _ => ?_,fun h=>absurd (by simp) h⟩
    exact ⟨L,_,rfl,hE,hkeep hbest,fun h=>h⟩
 ·have hbest:X2 kit n (done++[sg])=X2 kit n done:=by rw [hsn];unfold Zi2;rw [if_neg];rintro ⟨g,_⟩;exact hd g
  simp (maxSteps:=2000000) +contextual only [YW,Jn,finish,Ze h1,Ze h3,hd,decide_true,decide_false,pp,go_sem,reduceIte,Ra,Rb,Rc,Rd]
  refine ⟨fun _ => ?_,fun h=>absurd (by simp) h⟩
  exact ⟨L,_,rfl,hE,hkeep hbest,fun h=>h⟩
theorem Zg8 {P:List Int} {q:Nat} {cap:Option Nat} {k:List Int} (h:Za H q=some (Y5 (P++k))) (hn:k.length≤1000000) (n:Int) (hno:¬ (ZfX k=true∧1≤n)):call T pr Kg [slO q P k.length cap,.int .i64 n] ⟨H,e⟩=some (.tup [Kp,.bool false],⟨H,e⟩):=by
 have h1:∀ L,Za L q=some (Y5 (P++k))→call T pr K4 [slO q P k.length cap] ⟨L,none⟩=some (.bool (ZfX k),⟨L,none⟩):=fun L hL=>ZmZ hL hn
 apply Wc.eq
 rw [ZK Zfe]
 cases hk:ZfX k with
 | false=>
  rw [hk] at h1
  simp (maxSteps:=2000000) +contextual only [XM,Zad,Zb,h,Zc h,h1,pp,go_sem,reduceIte,Ra,Rb,Rc,Rd,ff]
 | true=>
  rw [hk] at h1
  have hlt:n<1:=by
   have:¬ 1≤n:=fun g=>hno ⟨hk,g⟩
   omega
  simp (maxSteps:=2000000) +contextual only [XM,Zad,Zb,h,Zc h,h1,hlt,decide_true,pp,go_sem,reduceIte,Ra,Rb,Rc,Rd,ff]
theorem Zi3 {P:List Int} {q:Nat} {cap:Option Nat} {k:List Int} (h:Za H q=some (Y5 (P++k))) (hn:k.length≤1000000) (n:Int) (hk:ZfX k=true) (hn1:1≤n):Wc (call T pr Kg [slO q P k.length cap,.int .i64 n] ⟨H,e⟩)
  (fun v m=>∃ cc wr,v=.tup [slI H.length (Zn5 k n).length cc,.bool (decide (0<((Zn5 k n).length:Int)))]∧m=⟨H++[.cells (Y5 (Zn5 k n)) wr],e⟩):=by
 have h1:∀ L,Za L q=some (Y5 (P++k))→call T pr K4 [slO q P k.length cap] ⟨L,none⟩=some (.bool true,⟨L,none⟩):=fun L hL=>by rw [←hk];exact ZmZ hL hn
 obtain ⟨k0,k6,kw⟩:=Zg1 hk
 have hk0:∀ w∈k,0≤w∧w≤99:=fun w hw=>by have:=kw w hw;omega
 have hql:q<H.length:=Xf h
 have hlt:¬ n<1:=by omega
 rw [ZK Zfe]
 simp (maxSteps:=2000000) +contextual only [XM,Zad,Zb,h,Zc h,h1,hlt,decide_false,pp,go_sem,reduceIte,Ra,Rb,Rc,Rd]
 have hb0:∀ (c:AV),(H++[Blk.cells [.int .i64 n] true,.cells [] true,.cells [c] true]).length=H.length+3:=by intro c;simp
 refine (Zoa (B:=H.length) (Inv:=ZAL q (H.length+3) H.length (H.length+2) k.length k n H) (Zc h _) (by rw [hb0];omega) (by omega) hk0 (by rw [hb0];exact ZuJ (by omega) (by omega) (by omega) (by omega) (by omega) hql k6 (List.length_pos_iff.mpr k0)) ?_ ?_ _).mono ?_
 ·rintro L' x done ⟨hL,hdl,b,cc,g1,g2,g3,g4,g5,g6⟩
  rw [hb0]
  refine ⟨hL.put (by omega) _,hdl,b,cc,by rw [Wm (by omega)];exact g1,?_,by rw [Wm (by omega)];exact g3,g4,g5,g6⟩
  unfold Za at g2 ⊢
  rw [Wm (by omega)]
  exact g2
 ·intro G
  refine ⟨⟨_,Rj _ _ _⟩,by simp,H.length+1,some 0,?_,?_,?_,by omega,by omega,.inl (by omega)⟩
  ·rw [Rj,Rs (by omega)];simp [X2]
  ·unfold Za
   rw [Rj,Rs (by omega)];simp [X2]
  ·rw [Rj,Rs (by omega)];simp
 ·rintro v m ⟨rfl,L',e',rfl,⟨hL,hdl,b,cc,g1,g2,g3,g4,g5,g6⟩,hcl⟩
  have hcl':clean H.length e'=true:=by
   apply hcl
   exact ZC _ rfl (Zt rfl (by omega))
  simp (maxSteps:=2000000) +contextual only [XM,Ze g1,pp,go_sem,reduceIte,Ra,Rb,Rc,Rd]
  obtain ⟨wr,hG⟩:∃ wr,L'[b]?=some (.cells (Y5 (X2 k n (KT k.length))) wr):=by
   unfold Za at g2
   split at g2
   ·rename_i cs wr hh
    rw [Option.some.injEq] at g2
    exact ⟨wr,by rw [hh,g2]⟩
   ·exact absurd g2 (by simp)
  rw [ZdC _ hL e e' hcl' g4 hG (ZeS _ _)]
  simp only [pp]
  exact ⟨cc,wr,rfl,rfl⟩
variable {pr : Zq} {H : List Blk} {e : Option Nat}
def ZBh:List Int→Option By
 | []=>none
 | n::k=>if ZfX k=true∧1≤n∧0<(Zn5 k n).length then some (Zbn (Zn5 k n)) else none
theorem Zle (n:Int) (k:List Int):ZBh (n::k)=if ZfX k=true∧1≤n∧0<(Zn5 k n).length then some (Zbn (Zn5 k n)) else none:=rfl
def askAllW (ls:List Ld) (a b:Int) (ss:List Sg) (t:Int) (w:By) (zs:List Int):Option By :=
 if w=[119,101,105,103,104] then (if ZfX zs=true then some (Lib.itoa (Zg2 zs)) else none)
 else if w=[104,111,119] then ZBh zs
 else match zs with
  | []=>askW ls a b ss t w
  | [n]=>askOneW ls ss w n
  | _=>none
theorem Zqe {k:List Int} (h:ZfX k=true):ZdT (Zg2 k):=by
 obtain ⟨k0,k6,kw⟩:=Zg1 h
 obtain ⟨g1,g2,g3⟩:=Zp2 (Zat k) 0 (Zn6 k) fun x hx=>((ZuH k x).mp hx).1
 have hs:=Zk8 k6 fun w hw=>by have:=kw w hw;omega
 by_cases h0:0<ZuC 0 (Zat k)
 ·have:=hs _ (g2 _ h0 (Wo _))
  exact fit_small (by unfold Zg2;omega) (by unfold Zg2;omega)
 ·exact fit_small (by unfold Zg2;omega) (by unfold Zg2;omega)
theorem ZAx (k:List Int) (n:Int):Zn5 k n=[]∨Zn5 k n∈KT k.length:=by
 have key:∀ (L:List (List Int)) (b:List Int),(b=[]∨b∈KT k.length)→(∀ l∈L,l∈KT k.length)→L.foldl (Zi2 k n) b=[]∨L.foldl (Zi2 k n) b∈KT k.length:=by
  intro L
  induction L with
  | nil=>intro b hb _;exact hb
  | cons l L ih=>
   intro b hb hL
   refine ih _ ?_ (fun x hx=>hL x (We _ hx))
   unfold Zi2
   split
   ·exact .inr (hL l List.mem_cons_self)
   ·exact hb
 exact key (KT k.length) [] (.inl rfl) (fun l h=>h)
theorem Zxs {k:List Int} (h:ZfX k=true) (n:Int):(Zn5 k n).length≤6∧∀ z∈Zn5 k n,ZdT z:=by
 obtain ⟨k0,k6,kw⟩:=Zg1 h
 rcases ZAx k n with h | h
 ·rw [h];simp
 ·obtain ⟨h1,h2⟩:=Zn3 _ _ h
  refine ⟨by omega,fun z hz => ?_⟩
  rcases h2 z hz with rfl | rfl | rfl <;> exact fit_small (by omega) (by omega)
def ZdU:List By→Option (List Int)
 | []=>some []
 | w::r=>match ZlY w with
  | none=>none
  | some v=>(ZdU r).map (v :: ·)
theorem ZuK {w:By} {r:List By} (h:ZlY w=none):ZdU (w::r)=none:=by
 unfold ZdU;rw [h]
theorem ZaR {w:By} {r:List By} {v:Int} (h:ZlY w=some v):ZdU (w::r)=(ZdU r).map (v :: ·):=by
 conv=>lhs;unfold ZdU
 rw [h]
theorem Zy2 (zs:List Int) (v:Int) (o:Option (List Int)):(o.map (v :: ·)).map (zs ++ ·)=o.map ((zs++[v]) ++ ·):=by
 cases o <;> simp
theorem ZzB {ps:List By} {i:Nat} {w:By} (h:ps[i]?=some w):(Zfo ps)[i]?=some (sV w):=by
 unfold Zfo
 rw [List.getElem?_map,h];rfl
def TBk:List (By×Int×Int):=[([116,97,107,101],2,1),([100,114,111,112],6,1),([108,111,97,100],1,2),([109,111,118,101],3,2),([98,97,115,101],4,2),([115,116,97,103,101],5,3)]
def Zxt (w:By) (m:Nat):List (By×Int×Int)→Int
 | []=>0
 | x::r=>if w=x.1∧(m:Int)=x.2.2 then x.2.1 else Zxt w m r
def Zev (w:By) (m:Nat):Int:=Zxt w m TBk
def X5 (w:By):Int×Int :=
 if w=[108,111,97,100] then (1,2)
 else if w=[116,97,107,101] then (2,1)
 else if w=[109,111,118,101] then (3,2)
 else if w=[98,97,115,101] then (4,2)
 else if w=[115,116,97,103,101] then (5,3)
 else if w=[100,114,111,112] then (6,1)
 else (0,0)
theorem Ju (w:By):call T pr ZeD [sV w] ⟨H,e⟩=some (.tup [.int .i64 (X5 w).1,.int .i64 (X5 w).2],⟨H,e⟩):=by
 have e1:decide (bs w=⟨#[108,111,97,100]⟩)=decide (w=[108,111,97,100]):=Zcd _ _
 have e2:decide (bs w=⟨#[116,97,107,101]⟩)=decide (w=[116,97,107,101]):=Zcd _ _
 have e3:decide (bs w=⟨#[109,111,118,101]⟩)=decide (w=[109,111,118,101]):=Zcd _ _
 have e4:decide (bs w=⟨#[98,97,115,101]⟩)=decide (w=[98,97,115,101]):=Zcd _ _
 have e5:decide (bs w=⟨#[115,116,97,103,101]⟩)=decide (w=[115,116,97,103,101]):=Zcd _ _
 have e6:decide (bs w=⟨#[100,114,111,112]⟩)=decide (w=[100,114,111,112]):=Zcd _ _
 apply Wc.eq
 rw [ZK Ztg]
 unfold ZeK Zmf X5
 generalize (⟨#[108,111,97,100]⟩:ByteArray)=k1 at *
 generalize (⟨#[116,97,107,101]⟩:ByteArray)=k2 at *
 generalize (⟨#[109,111,118,101]⟩:ByteArray)=k3 at *
 generalize (⟨#[98,97,115,101]⟩:ByteArray)=k4 at *
 generalize (⟨#[115,116,97,103,101]⟩:ByteArray)=k5 at *
 generalize (⟨#[100,114,111,112]⟩:ByteArray)=k6 at *
 by_cases w1:w=[108,111,97,100]
 ·rw [decide_eq_true w1] at e1
  simp only [if_pos w1]
  simp (maxSteps:=2000000) +contextual only [e1,pp,go_sem,reduceIte,Ra,Rb,Rc,Rd]
 rw [decide_eq_false w1] at e1
 by_cases w2:w=[116,97,107,101]
 ·rw [decide_eq_true w2] at e2
  simp only [if_neg w1,if_pos w2]
  simp (maxSteps:=2000000) +contextual only [e1,e2,pp,go_sem,reduceIte,Ra,Rb,Rc,Rd]
 rw [decide_eq_false w2] at e2
 by_cases w3:w=[109,111,118,101]
 ·rw [decide_eq_true w3] at e3
  simp only [if_neg w1,if_neg w2,if_pos w3]
  simp (maxSteps:=2000000) +contextual only [e1,e2,e3,pp,go_sem,reduceIte,Ra,Rb,Rc,Rd]
 rw [decide_eq_false w3] at e3
 by_cases w4:w=[98,97,115,101]
 ·rw [decide_eq_true w4] at e4
  simp only [if_neg w1,if_neg w2,if_neg w3,if_pos w4]
  simp (maxSteps:=2000000) +contextual only [e1,e2,e3,e4,pp,go_sem,reduceIte,Ra,Rb,Rc,Rd]
 rw [decide_eq_false w4] at e4
 by_cases w5:w=[115,116,97,103,101]
 ·rw [decide_eq_true w5] at e5
  simp only [if_neg w1,if_neg w2,if_neg w3,if_neg w4,if_pos w5]
  simp (maxSteps:=2000000) +contextual only [e1,e2,e3,e4,e5,pp,go_sem,reduceIte,Ra,Rb,Rc,Rd]
 rw [decide_eq_false w5] at e5
 by_cases w6:w=[100,114,111,112]
 ·rw [decide_eq_true w6] at e6
  simp only [if_neg w1,if_neg w2,if_neg w3,if_neg w4,if_neg w5,if_pos w6]
  simp (maxSteps:=2000000) +contextual only [e1,e2,e3,e4,e5,e6,pp,go_sem,reduceIte,Ra,Rb,Rc,Rd]
 rw [decide_eq_false w6] at e6
 simp only [if_neg w1,if_neg w2,if_neg w3,if_neg w4,if_neg w5,if_neg w6]
 simp (maxSteps:=2000000) +contextual only [e1,e2,e3,e4,e5,e6,pp,go_sem,reduceIte,Ra,Rb,Rc,Rd]
theorem Zxu (w:By) (m:Nat):Zev w m=if (m:Int)=(X5 w).2 then (X5 w).1 else 0:=by
 unfold Zev Zxt X5 TBk
 simp only [Zxt]
 by_cases w1:w=[108,111,97,100]
 ·subst w1;simp
 by_cases w2:w=[116,97,107,101]
 ·subst w2;simp
 by_cases w3:w=[109,111,118,101]
 ·subst w3;simp
 by_cases w4:w=[98,97,115,101]
 ·subst w4;simp
 by_cases w5:w=[115,116,97,103,101]
 ·subst w5;simp
 by_cases w6:w=[100,114,111,112]
 ·subst w6;simp
 simp [w1,w2,w3,w4,w5,w6]
def doS (s:Sd) (k x y z:Int):Sd:=⟨Zfj s.ls k x y,Xk s.ss k x y z,Xq s.a k x,Xq s.b k y,Zcb s.ls s.a s.b s.t k x y,wr (s.c+1)⟩
def ZrT (s:Sd) (k:Int):By:=if k=5∨k=6 then KK 47 [(ZS 1 1 s.ss:Int),(ZX 1 1 s.ss:Int)] else Lib.itoa (ZcA s.ls s.a s.b)
theorem ZsO {s:Sd} {k x y z:Int} (h:ZhL s.ls s.ss s.a s.b s.t s.c k x y z=true):Y1 (doS s k x y z).ls=true∧ZU (doS s k x y z).ss=true∧Zba (doS s k x y z).a (doS s k x y z).b=true:=by
 unfold ZhL Zhb at h
 simp only [Ru] at h
 obtain ⟨_,h1,h2,h3⟩:=h
 unfold J5 at h3
 simp only [Ru] at h3
 refine ⟨h1,h2,?_⟩
 unfold doS Zba at *
 simp only [Ru] at *
 exact h3.1
theorem Zg9 {ss:List Sg} (hc:ZU ss=true):ZdT (ZS 1 1 ss:Int)∧ZdT (ZX 1 1 ss:Int):=by
 obtain ⟨a1,a2,b1,b2,_⟩:=Zbj hc 0 (by omega)
 exact ⟨fit_small (by omega) (by omega),fit_small (by omega) (by omega)⟩
def Sd.std (s:Sd):Bool:=Zg5 s.ls s.ss s.a s.b s.t s.c
def execP (s:Sd) (w:By) (zs:List Int):Option Sd×Option By :=
 if 0<Zev w zs.length then
  (if ZhL s.ls s.ss s.a s.b s.t s.c (Zev w zs.length) (zs.getD 0 0) (zs.getD 1 0) (zs.getD 2 0)=true then (some (doS s (Zev w zs.length) (zs.getD 0 0) (zs.getD 1 0) (zs.getD 2 0)),some (ZrT (doS s (Zev w zs.length) (zs.getD 0 0) (zs.getD 1 0) (zs.getD 2 0)) (Zev w zs.length))) else (none,none))
 else (none,askAllW s.ls s.a s.b s.ss s.t w zs)
def Zi4 (s:Sd):List By→Option Sd×Option By
 | []=>(none,none)
 | w::ws=>match ZdU ws with
  | none=>(none,none)
  | some zs=>execP s w zs
def KU (s:Sd) (cmd:By):Option Sd×Option By:=Zi4 s (Yy 32 cmd)
theorem ZsP (s:Sd) (w:By):execP s w []=(none,askW s.ls s.a s.b s.ss s.t w):=by
 have h0:Zev w ([]:List Int).length=0:=by
  unfold Zev TBk
  simp [Zxt]
 unfold execP
 rw [h0,if_neg (by omega)]
 unfold askAllW
 congr 1
 by_cases w1:w=[119,101,105,103,104]
 ·subst w1;simp [askW,ZfX,Zp3]
 ·by_cases w2:w=[104,111,119]
  ·subst w2;simp [askW,ZBh]
  ·rw [if_neg w1,if_neg w2]
theorem ZiD (c:UInt8):∀ (l:By),∀ x∈Yy c l,x.length≤l.length
 | [],x,h=>by simp [Yy] at h;subst h;simp
 | b::l,x,h=>by
  have ih:=ZiD c l
  rw [Yy] at h
  split at h
  ·rcases RQ.mp h with rfl | h
   ·simp
   ·have:=ih x h;simp only [RB];omega
  ·split at h
   ·simp only [RP] at h;subst h;simp
   ·rename_i y ys hs
    rw [hs] at ih
    rcases RQ.mp h with rfl | h
    ·have:=ih y List.mem_cons_self;simp only [RB];omega
    ·have:=ih x (We _ h);simp only [RB];omega
theorem ZAy {zs:List Int} (h:zs≠[]):(zs++[0,0,0])[0]?=some (zs.getD 0 0)∧(zs++[0,0,0])[1]?=some (zs.getD 1 0)∧(zs++[0,0,0])[2]?=some (zs.getD 2 0):=by
 match zs,h with
 | [a],_=>exact ⟨rfl,rfl,rfl⟩
 | [a,b],_=>exact ⟨rfl,rfl,rfl⟩
 | a::b::c::r,_=>exact ⟨rfl,rfl,rfl⟩
def Zbo (n:Nat) (L:List Blk) (e:Option Nat) (u:Nat) (rest:List AV) (r:Option Sd×Option By) (v:AV) (m:Mem):Prop :=
 ∃ (L':List Blk) (e':Option Nat),m=⟨L',e'⟩∧ZyZ r.2 v∧(∀ i,i<n→i≠u→L'[i]?=L[i]?)∧L.length≤L'.length∧(∀ B,B≤u→clean B e=true→clean B e'=true) ∧
  match r.1 with
  | some s'=>∃ p1 p2:Nat,n≤p1∧n≤p2∧p1≠p2∧L'[u]?=some (.cells (sdL (slL p1 s'.ls.length none) s'.a s'.b (slS p2 s'.ss.length none) s'.t s'.c rest) true)∧L'[p1]?=some (.cells (Zu s'.ls) true)∧L'[p2]?=some (.cells (ZI s'.ss) true)
  | none=>L'[u]?=L[u]?
set_option maxHeartbeats 2000000 in
theorem Zqf (hl:Zlc pr) {u q1 q2 qn:Nat} {c1 c2:Option Nat} {s:Sd} {rest:List AV} {zs:List Int} (hu:H[u]?=some (.cells (sdL (slL q1 s.ls.length c1) s.a s.b (slS q2 s.ss.length c2) s.t s.c rest) true)) (h1:Za H q1=some (Zu s.ls)) (h2:Za H q2=some (ZI s.ss)) (hn:H[qn]?=some (.cells (Y5 zs) true)) (hnu:qn≠u) (hq1:q1≠qn) (hq2:q2≠qn) (hz0:zs≠[]) (hz:zs.length≤1000000) (hs:s.std=true) (k:Int) {n:Nat} (hnq:n≤qn) (hun:u<n) :
  Wc (call T pr JW [.ptr (some (u,0)),.int .i64 k,slI qn zs.length none] ⟨H,e⟩) (Zbo n H e u rest (if ZhL s.ls s.ss s.a s.b s.t s.c k (zs.getD 0 0) (zs.getD 1 0) (zs.getD 2 0)=true then (some (doS s k (zs.getD 0 0) (zs.getD 1 0) (zs.getD 2 0)),some (ZrT (doS s k (zs.getD 0 0) (zs.getD 1 0) (zs.getD 2 0)) k)) else (none,none))):=by
 obtain ⟨hr,hc,hb,hss,hls,ht1,ht2,hk1,hk2,hre⟩:=KL hs
 have hul:u<H.length:=(Wb.mp hu).1
 have hst:Zhb s.ls s.ss s.a s.b s.t s.c=true:=hs
 obtain ⟨o1,o2,o3⟩:=ZAy hz0
 rw [ZK Zhw]
 simp (maxSteps:=2000000) +contextual only [Yj,Zcs,Zb,pp,go_sem,reduceIte,Ra,Rb,Rc,Rd]
 refine Zn0 (k:=3) (new:=[.int .i64 0,.int .i64 0,.int .i64 0]) (cs:=Y5 zs) (ZY hn _) (Zbh _ 3 1 _ _ H.length (by simp +contextual only [go_sem,reduceIte,Ra,Rb,Rc,Rd]) rfl) (by simp [Y5]) rfl (by unfold maxBytes;omega) (by simp) ?_
 intro L2 g1 g2 g3 g4
 have hqnl:qn<H.length:=(Wb.mp hn).1
 have hl2:L2.length=H.length+2:=by rw [g1];simp
 have hq1l:q1<H.length:=Xf h1
 have hq2l:q2<H.length:=Xf h2
 have keep:∀ i,i<H.length→i≠qn→L2[i]?=H[i]?:=fun i hi hq=>by
  rw [g2 i hq (by simp;omega),Wd hi]
 have hu2:L2[u]?=some (.cells (sdL (slL q1 s.ls.length c1) s.a s.b (slS q2 s.ss.length c2) s.t s.c rest) true):=by rw [keep u hul (Ne.symm hnu)];exact hu
 have hu2c:∀ G,Za (L2++G) u=some (sdL (slL q1 s.ls.length c1) s.a s.b (slS q2 s.ss.length c2) s.t s.c rest):=fun G=>Zc (Ze hu2) G
 have hu3:∀ G,(L2++G)[u]?=some (.cells (sdL (slL q1 s.ls.length c1) s.a s.b (slS q2 s.ss.length c2) s.t s.c rest) true):=fun G=>ZY hu2 G
 have h12:Za L2 q1=some (Zu s.ls):=by unfold Za at h1 ⊢;rw [keep q1 hq1l hq1];exact h1
 have h22:Za L2 q2=some (ZI s.ss):=by unfold Za at h2 ⊢;rw [keep q2 hq2l hq2];exact h2
 have g3':Za L2 (H.length+1)=some (Y5 (zs++[0,0,0])):=by
  refine Ze (w:=true) ?_
  have:Y5 zs++[.int .i64 0,.int .i64 0,.int .i64 0]=Y5 (zs++[0,0,0]):=by simp [Y5]
  rw [←this]
  simpa using g3
 have g3m:∀ G,Za (L2++G) (H.length+1)=some (Y5 (zs++[0,0,0])):=fun G=>Zc g3' G
 have hx0:(0:Int)<((zs.length+3:Nat):Int):=by omega
 have hx1:(1:Int)<((zs.length+3:Nat):Int):=by omega
 have hx2:(2:Int)<((zs.length+3:Nat):Int):=by omega
 have i02:(0:Int)≤2:=by decide
 have t2:Int.toNat 2=2:=rfl
 have p1:=fun sz=>Z2 sz o1
 have p2:=fun sz=>Z2 sz o2
 have p3:=fun sz=>Z2 sz o3
 generalize zs.getD 0 0=x at *
 generalize zs.getD 1 0=y at *
 generalize zs.getD 2 0=z at *
 have hdo:=fun L e' (f1:Za L q1=some (Zu s.ls)) (f2:Za L q2=some (ZI s.ss))=>Zuk (pr:=pr) (e:=e') (c1:=c1) (c2:=c2) hl.del f1 f2 (by omega) (by omega) k x y z hst
 cases hok:ZhL s.ls s.ss s.a s.b s.t s.c k x y z with
 | false=>
  rw [hok] at hdo
  simp only [ZcH,RO,if_false] at hdo ⊢
  simp (maxSteps:=2000000) +contextual only [Yj,Zs,Zo,hu2c,Ze hu2,h12,h22,g3',g3m,hx0,hx1,hx2,i02,t2,and_self,p1,p2,p3,hdo,Zb,ZfL,ZgE,ZgF,Wo,WC,WP,WO,Wv,finish,pp,go_sem,reduceIte,Ra,Rb,Rc,Rd]
  exact ⟨_,joinEsc e (if (AV.under (L2.length+1) (AV.slice none 0 0 none)&&AV.under (L2.length+1) (AV.slice none 0 0 none))=true then none else Z6 none L2.length),rfl,⟨[],rfl,fun y h=>absurd h (by simp)⟩,fun i hi hne=>by rw [Wd (by omega)];exact keep i (by omega) (by omega),by rw [RL];omega,fun B hB hc=>YI hc (ZC _ rfl (Zt rfl (by omega))),by rw [Wd (by omega),hu2,hu]⟩
 | true=>
  have hfa:=ZsO hok
  rw [hok] at hdo
  have hdo':∀ L e',Za L q1=some (Zu s.ls)→Za L q2=some (ZI s.ss)→call T pr Xb [stV (slL q1 s.ls.length c1) s.a s.b (slS q2 s.ss.length c2) s.t s.c,tkV k x y z] ⟨L,e'⟩ =
   some (.tup [stV (slL L.length (doS s k x y z).ls.length none) (doS s k x y z).a (doS s k x y z).b (slS (L.length+1) (doS s k x y z).ss.length none) (doS s k x y z).t (doS s k x y z).c,.bool true],⟨L++[.cells (Zu (doS s k x y z).ls) true,.cells (ZI (doS s k x y z).ss) true],e'⟩):=hdo
  clear hdo
  simp only [if_true]
  generalize doS s k x y z=s' at *
  obtain ⟨hr',hc',hb'⟩:=hfa
  have hset:∀ (X:List AV) (G:List Blk),Za ((L2++G).set u (.cells X true)) u=some X:=fun X G=>Ze (w:=true) (by rw [Wu (by rw [RL];omega)])
  have hcL:∀ (X:Blk) (G:List Blk),Za ((L2++Blk.cells (Zu s'.ls) true::G).set u X) L2.length=some (Zu s'.ls):=fun X G=>Ze (w:=true) (by rw [Wm (by omega),Rs (Rt _),Nat.sub_self];rfl)
  have hcS:∀ (X B:Blk) (G:List Blk),Za ((L2++B::Blk.cells (ZI s'.ss) true::G).set u X) (L2.length+1)=some (ZI s'.ss):=fun X B G=>Ze (w:=true) (by rw [Wm (by omega),Rs (by omega),show L2.length+1 - L2.length=1 by omega];rfl)
  have hrl:=Zet hr'
  have hss':s'.ss.length≤5:=by
   have:=hc'
   unfold ZU at this
   rw [Ru,decide_eq_true_eq] at this
   omega
  have hch:=fun L e' (g:Za L (L2.length+1)=some (ZI s'.ss))=>Zi0 (pr:=pr) (e:=e') (c:=none) g hc' (by omega)
  have hpa:=fun L e'=>Ky (pr:=pr) (H:=L) (e:=e') hl.all.ito hl.all.joi (ZS 1 1 s'.ss) (ZX 1 1 s'.ss) (Zg9 hc').1 (Zg9 hc').2 true
  have hsi:=fun L e' (g:Za L L2.length=some (Zu s'.ls))=>Zfq (pr:=pr) (e:=e') (c:=none) g (by omega) s'.a s'.b hr' hb'
  have hnu':=fun L e'=>ZN (pr:=pr) (H:=L) (e:=e') hl.all.ito (ZcA s'.ls s'.a s'.b) (Zg7 _ _ _) true
  by_cases hk5:k=5
  ·have hsay:ZrT s' k=KK 47 [(ZS 1 1 s'.ss:Int),(ZX 1 1 s'.ss:Int)]:=if_pos (.inl hk5)
   rw [hsay]
   subst hk5
   simp (maxSteps:=2000000) +contextual only [Yj,Zs,Zo,hu2c,Ze hu2,h12,h22,g3',g3m,hx0,hx1,hx2,i02,t2,and_self,p1,p2,p3,hdo',hu3,hset,hcL,hcS,Zb,ZfL,ZgE,ZgF,Wo,WC,WP,WO,Wv,finish,Nat.add_assoc,hch,hpa,decide_true,pp,go_sem,reduceIte,Ra,Rb,Rc,Rd]
   refine ⟨_,joinEsc e _,rfl,⟨_,rfl,fun y h=>by rw [←WA h]⟩,fun i hi hne => ?_,by rw [Wl,RL];omega,fun B hB hc=>YI hc (ZC _ (ZC _ rfl (Zt rfl (by omega))) (Zt (ZC _ rfl (Zt rfl (by omega))) hB)),L2.length,L2.length+1,by omega,by omega,by omega,?_,?_,?_⟩
   ·rw [Wm (by omega),Wd (by omega)];exact keep i (by omega) (by omega)
   ·rw [Wu (by rw [RL];omega)]
   ·rw [Wm (by omega),Rs (Rt _),Nat.sub_self];rfl
   ·rw [Wm (by omega),Rs (by omega),show L2.length+1 - L2.length=1 by omega];rfl
  ·by_cases hk6:k=6
   ·have hsay:ZrT s' k=KK 47 [(ZS 1 1 s'.ss:Int),(ZX 1 1 s'.ss:Int)]:=if_pos (.inr hk6)
    rw [hsay]
    subst hk6
    simp (maxSteps:=2000000) +contextual only [Yj,Zs,Zo,hu2c,Ze hu2,h12,h22,g3',g3m,hx0,hx1,hx2,i02,t2,and_self,p1,p2,p3,hdo',hu3,hset,hcL,hcS,Zb,ZfL,ZgE,ZgF,Wo,WC,WP,WO,Wv,finish,Nat.add_assoc,hch,hpa,decide_true,decide_false,show ¬ (6:Int)=5 by decide,pp,go_sem,reduceIte,Ra,Rb,Rc,Rd]
    refine ⟨_,joinEsc e _,rfl,⟨_,rfl,fun y h=>by rw [←WA h]⟩,fun i hi hne => ?_,by rw [Wl,RL];omega,fun B hB hc=>YI hc (ZC _ (ZC _ rfl (Zt rfl (by omega))) (Zt (ZC _ rfl (Zt rfl (by omega))) hB)),L2.length,L2.length+1,by omega,by omega,by omega,?_,?_,?_⟩
    ·rw [Wm (by omega),Wd (by omega)];exact keep i (by omega) (by omega)
    ·rw [Wu (by rw [RL];omega)]
    ·rw [Wm (by omega),Rs (Rt _),Nat.sub_self];rfl
    ·rw [Wm (by omega),Rs (by omega),show L2.length+1 - L2.length=1 by omega];rfl
   ·have hsay:ZrT s' k=Lib.itoa (ZcA s'.ls s'.a s'.b):=if_neg (fun h=>h.elim hk5 hk6)
    rw [hsay]
    simp (maxSteps:=2000000) +contextual only [Yj,Zs,Zo,hu2c,Ze hu2,h12,h22,g3',g3m,hx0,hx1,hx2,i02,t2,and_self,p1,p2,p3,hdo',hu3,hset,hcL,hcS,Zb,ZfL,ZgE,ZgF,Wo,WC,WP,WO,Wv,finish,Nat.add_assoc,hk5,hk6,hsi,hnu',decide_true,decide_false,pp,go_sem,reduceIte,Ra,Rb,Rc,Rd]
    refine ⟨_,joinEsc e _,rfl,⟨_,rfl,fun y h=>by rw [←WA h]⟩,fun i hi hne => ?_,by rw [Wl,RL];omega,fun B hB hc=>YI hc (ZC _ (ZC _ rfl (Zt rfl (by omega))) (Zt (ZC _ rfl (Zt rfl (by omega))) hB)),L2.length,L2.length+1,by omega,by omega,by omega,?_,?_,?_⟩
    ·rw [Wm (by omega),Wd (by omega)];exact keep i (by omega) (by omega)
    ·rw [Wu (by rw [RL];omega)]
    ·rw [Wm (by omega),Rs (Rt _),Nat.sub_self];rfl
    ·rw [Wm (by omega),Rs (by omega),show L2.length+1 - L2.length=1 by omega];rfl
theorem Zy3 {w:By} (h:0<(X5 w).1) (ls:List Ld) (a b:Int) (ss:List Sg) (t:Int) (zs:List Int):askAllW ls a b ss t w zs=none:=by
 have key:∀ w:By,w=[108,111,97,100]∨w=[116,97,107,101]∨w=[109,111,118,101]∨w=[98,97,115,101]∨w=[115,116,97,103,101]∨w=[100,114,111,112]→askAllW ls a b ss t w zs=none:=by
  intro w hw
  match zs with
  | []=>rcases hw with rfl | rfl | rfl | rfl | rfl | rfl <;> simp [askAllW,askW]
  | [n]=>rcases hw with rfl | rfl | rfl | rfl | rfl | rfl <;> simp [askAllW,askOneW]
  | n::m::r=>rcases hw with rfl | rfl | rfl | rfl | rfl | rfl <;> simp [askAllW]
 apply key
 unfold X5 at h
 by_cases w1:w=[108,111,97,100]
 ·exact .inl w1
 by_cases w2:w=[116,97,107,101]
 ·exact .inr (.inl w2)
 by_cases w3:w=[109,111,118,101]
 ·exact .inr (.inr (.inl w3))
 by_cases w4:w=[98,97,115,101]
 ·exact .inr (.inr (.inr (.inl w4)))
 by_cases w5:w=[115,116,97,103,101]
 ·exact .inr (.inr (.inr (.inr (.inl w5))))
 by_cases w6:w=[100,114,111,112]
 ·exact .inr (.inr (.inr (.inr (.inr w6))))
 rw [if_neg w1,if_neg w2,if_neg w3,if_neg w4,if_neg w5,if_neg w6] at h
 exact absurd h (by simp)
theorem Zxv {w:By} (h:0<(X5 w).1):1≤(X5 w).2:=by
 unfold X5 at h ⊢
 split
 ·simp
 ·split
  ·simp
  ·split
   ·simp
   ·split
    ·simp
    ·split
     ·simp
     ·split
      ·simp
      ·rename_i h1 h2 h3 h4 h5 h6
       rw [if_neg h1,if_neg h2,if_neg h3,if_neg h4,if_neg h5,if_neg h6] at h
       exact absurd h (by simp)
theorem Zbo.grown {H L:List Blk} {u:Nat} {rest:List AV} {r:Option Sd×Option By} {v:AV} {m:Mem} (hL:YR H L) (hu:u<H.length) (h:Zbo H.length L none u rest r v m):∃ L' e' x,v=.tup [sV x,.bool r.2.isSome]∧m=⟨L',e'⟩∧(∀ e,Zbo H.length H e u rest r v ⟨L',joinEsc e e'⟩):=by
 obtain ⟨L',e',rfl,⟨x,rfl,hx⟩,h1,h2,h3,h4⟩:=h
 refine ⟨L',e',x,rfl,rfl,fun e=>⟨L',joinEsc e e',rfl,⟨x,rfl,hx⟩,fun i hi hne => ?_,by have:=hL.le;omega,fun B hB hc=>YI hc (h3 B hB rfl),?_⟩⟩
 ·rw [h1 i hi hne]
  obtain ⟨G,rfl⟩:=hL
  exact Wd hi
 ·cases hr:r.1 with
  | some s'=>rw [hr] at h4;exact h4
  | none=>
   rw [hr] at h4
   show L'[u]?=H[u]?
   have h4':L'[u]?=L[u]?:=h4
   rw [h4']
   obtain ⟨G,rfl⟩:=hL
   exact Wd hu
theorem Zbo.keep {L L':List Blk} {e e':Option Nat} {u:Nat} {rest:List AV} {r:Option By} {v:AV} (hL:YR L L') (hu:u<L.length) (hc:∀ B,B≤u→clean B e=true→clean B e'=true) (hv:ZyZ r v):Zbo L.length L e u rest (none,r) v ⟨L',e'⟩:=by
 obtain ⟨G,rfl⟩:=hL
 exact ⟨_,e',rfl,hv,fun i hi _=>Wd hi,by simp,hc,Wd hu⟩
set_option maxHeartbeats 4000000 in
theorem Zqg (hl:Zlc pr) {u q1 q2:Nat} {c1 c2:Option Nat} {s:Sd} {rest:List AV} (hu:H[u]?=some (.cells (sdL (slL q1 s.ls.length c1) s.a s.b (slS q2 s.ss.length c2) s.t s.c rest) true)) (h1:Za H q1=some (Zu s.ls)) (h2:Za H q2=some (ZI s.ss)) (hs:s.std=true) (cmd:By) (hcm:cmd.length≤900000) :
  Wc (call T pr JU [.ptr (some (u,0)),sV cmd] ⟨H,e⟩) (Zbo H.length H e u rest (KU s cmd)):=by
 obtain ⟨hr,hc,hb,hss,hls,ht1,ht2,hk1,hk2,hre⟩:=KL hs
 have hul:u<H.length:=(Wb.mp hu).1
 have hq1l:q1<H.length:=Xf h1
 have hq2l:q2<H.length:=Xf h2
 have hsp:=fun L e'=>hl.all.spl cmd 32 L e' (by omega)
 have hlen:=ZmN 32 cmd
 have hpl:=ZiD 32 cmd
 have hne:=Zwu 32 cmd
 have hx:KU s cmd=Zi4 s (Yy 32 cmd):=rfl
 rw [hx,ZK Zhv]
 generalize Yy 32 cmd=ps at *
 obtain ⟨w,ws,rfl⟩:∃ w ws,ps=w::ws:=by
  cases ps with
  | nil=>exact absurd rfl hne
  | cons w ws=>exact ⟨w,ws,rfl⟩
 simp only [RB] at hlen hsp
 have d1:decide (bs w=⟨#[119,101,105,103,104]⟩)=decide (w=[119,101,105,103,104]):=Zcd _ _
 have d2:decide (bs w=⟨#[104,111,119]⟩)=decide (w=[104,111,119]):=Zcd _ _
 have hl0:(0:Int)<((ws.length+1:Nat):Int):=by omega
 have hp0:∀ sz,ZdV false (Zfo (w::ws)) 0 sz=some (sV w):=fun sz=>ZdD sz rfl
 have hsl:ZeU 1 (slX H.length (ws.length+1) none) (.int .i64 1)=some (.slice (some (H.length,1)) 1 ws.length none):=Zdu 1 H.length 0 (ws.length+1) 1 (by omega)
 simp (maxSteps:=2000000) +contextual only [Zm,Zcr,hsp,hl0,hp0,Zdt,hsl,Zb,ZfL,ZgE,ZgF,Wo,WC,WO,pp,go_sem,reduceIte,Ra,Rb,Rc,Rd]
 generalize (⟨#[119,101,105,103,104]⟩:ByteArray)=k1 at *
 generalize (⟨#[104,111,119]⟩:ByteArray)=k2 at *
 have hxl:Zi4 s (w::ws)=match ZdU ws with | none=>(none,none) | some zs=>execP s w zs:=rfl
 refine XQ (fun j st=>∃ (i b:Nat) (zs:List Int) (c:Option Nat) (L:List Blk) (w7 w8 w9 w15 w16:AV),i+j=ws.length∧YR (H++[.cells (Zfo (w::ws)) true]) L∧H.length+1≤b∧L[b]?=some (.cells (Y5 zs) true)∧zs.length=i∧(c=some 0→zs.length=0)∧(0<i→c=none)∧(ZdU (ws.drop i)).map (zs ++ ·)=ZdU ws ∧
  st=⟨[.ptr (some (u,0)),sV cmd,.str ⟨#[]⟩,.bool false,slX H.length (ws.length+1) none,sV w,slI b zs.length c,w7,w8,w9,.undef,.undef,.slice (some (H.length,1)) 1 ws.length none,.int .i64 ws.length,.int .i64 i,w15,w16,.undef,.undef,.undef,.undef,.undef,.undef],⟨L,none⟩⟩) ?_ ws.length _
  ⟨0,H.length+1,[],some 0,H++[.cells (Zfo (w::ws)) true,.cells [] true],_,_,_,_,_,by omega,⟨[.cells [] true],by rw [Rj];rfl⟩,Rt _,by rw [Rs (by omega),show H.length+1 - H.length=1 by omega];rfl,rfl,fun _=>rfl,fun h=>by omega,by simp,rfl⟩
 rintro j _ ⟨i,b,zs,c,L,w7,w8,w9,w15,w16,hij,hL,hb,hLb,hzl,hc0,hc1,hnum,rfl⟩
 have hLH:YR H L:=ZfY ⟨_,rfl⟩ hL
 have hLe:=hL.le
 rw [RL,RN] at hLe
 have hpc:Za L H.length=some (Zfo (w::ws)):=Q6 hL (Ze (w:=true) (by rw [Xe];rfl))
 by_cases hj:j=0
 ·have he:i=ws.length:=by omega
  subst he
  rw [List.drop_length] at hnum
  have hnum':ZdU ws=some zs:=by rw [←hnum];simp [ZdU]
  have hres:Zi4 s (w::ws)=execP s w zs:=by rw [hxl,hnum']
  rw [hres]
  clear hres hxl hnum hnum'
  have hts:=Zxu w zs.length
  have hu':L[u]?=some (.cells (sdL (slL q1 s.ls.length c1) s.a s.b (slS q2 s.ss.length c2) s.t s.c rest) true):=Zk9 hLH hu
  have h1':=Q6 hLH h1
  have h2':=Q6 hLH h2
  have hno:∀ e,Zbo H.length H e u rest (none,none) (AV.tup [AV.str ⟨#[]⟩,AV.bool false]) ⟨L,e⟩:=fun e=>Zbo.keep hLH hul (fun B _ h=>h) ⟨[],rfl,fun y h=>absurd h (by simp)⟩
  by_cases hk:0<(X5 w).1
  ·have hneed:=Zxv hk
   by_cases hm:((zs.length:Nat):Int)=(X5 w).2
   ·rw [if_pos hm] at hts
    have hz0:zs≠[]:=by intro h;subst h;simp at hm;omega
    have hxp:execP s w zs=(if ZhL s.ls s.ss s.a s.b s.t s.c (X5 w).1 (zs.getD 0 0) (zs.getD 1 0) (zs.getD 2 0)=true then (some (doS s (X5 w).1 (zs.getD 0 0) (zs.getD 1 0) (zs.getD 2 0)),some (ZrT (doS s (X5 w).1 (zs.getD 0 0) (zs.getD 1 0) (zs.getD 2 0)) (X5 w).1)) else (none,none)):=by
     unfold execP
     rw [hts,if_pos hk]
    rw [hxp]
    have hcn:c=none:=hc1 (by have:=List.length_pos_iff.mpr hz0;omega)
    subst hcn
    have hm':decide (((zs.length:Nat):Int)=(X5 w).2)=true:=decide_eq_true hm
    simp (maxSteps:=2000000) +contextual only [ZB,Ri,decide_false,Ju,gt_iff_lt,hk,hm',decide_true,pp,go_sem,reduceIte,Ra,Rb,Rc,Rd]
    refine (Zqf hl hu' h1' h2' hLb (by omega) (by omega) (by omega) hz0 (by omega) hs (X5 w).1 (n:=H.length) (by omega) hul).mono ?_
    intro v m hv
    obtain ⟨L',e',x,rfl,rfl,hfin⟩:=Zbo.grown hLH hul hv
    simp (maxSteps:=2000000) +contextual only [Zm,finish,pp,go_sem,reduceIte,Ra,Rb,Rc,Rd]
    exact hfin e
   ·rw [if_neg hm] at hts
    have hxp:execP s w zs=(none,none):=by
     unfold execP
     rw [hts,if_neg (by omega),Zy3 hk]
    rw [hxp]
    have hm':decide (((zs.length:Nat):Int)=(X5 w).2)=false:=decide_eq_false hm
    simp (maxSteps:=2000000) +contextual only [ZB,Zm,Ri,decide_false,Ju,gt_iff_lt,hk,hm',decide_true,finish,pp,go_sem,reduceIte,Ra,Rb,Rc,Rd]
    exact hno e
  ·have htn:¬ 0<Zev w zs.length:=by rw [hts];split <;> omega
   have hxp:execP s w zs=(none,askAllW s.ls s.a s.b s.ss s.t w zs):=if_neg htn
   rw [hxp]
   unfold askAllW
   have hbc:=Ze hLb
   have z00:((0:Nat):Int)=0:=rfl
   have z10:¬ ((1:Nat):Int)=0:=by omega
   have z11:((1:Nat):Int)=1:=rfl
   have z01:(0:Int)<((1:Nat):Int):=by omega
   have z20:¬ (2:Int)≤((0:Nat):Int):=by omega
   have z20':¬ (2:Int)≤0:=by omega
   have z21':¬ (2:Int)≤1:=by omega
   have z10':¬ (1:Int)=0:=by omega
   have z01':(0:Int)<1:=by omega
   have z21:¬ (2:Int)≤((1:Nat):Int):=by omega
   by_cases w1:w=[119,101,105,103,104]
   ·rw [decide_eq_true w1] at d1
    rw [if_pos w1]
    have hkr:=Zp6 (e:=none) hl.all hbc (by omega:zs.length≤1000000) (cap:=c)
    cases hB:ZfX zs with
    | false=>
     simp only [hB,RO,if_false] at hkr ⊢
     have hg:=fun L=>ZN (pr:=pr) (H:=L) (e:=none) hl.all.ito 0 (fit_small (by omega) (by omega)) false
     simp (maxSteps:=2000000) +contextual only [ZB,Zm,Ri,decide_false,Ju,gt_iff_lt,hk,decide_true,d1,hkr,hg,finish,pp,go_sem,reduceIte,Ra,Rb,Rc,Rd]
     exact Zbo.keep hLH hul (fun B _ h=>h) ⟨_,rfl,fun y h=>absurd h (by simp)⟩
    | true=>
     simp only [hB,if_true] at hkr ⊢
     have hg:=fun L=>ZN (pr:=pr) (H:=L) (e:=none) hl.all.ito (Zg2 zs) (Zqe hB) true
     simp (maxSteps:=2000000) +contextual only [ZB,Zm,Ri,decide_false,Ju,gt_iff_lt,hk,decide_true,d1,hkr,hg,finish,pp,go_sem,reduceIte,Ra,Rb,Rc,Rd]
     exact Zbo.keep hLH hul (fun B _ h=>h) ⟨_,rfl,fun y h=>by rw [←WA h]⟩
   rw [decide_eq_false w1] at d1
   rw [if_neg w1]
   by_cases w2:w=[104,111,119]
   ·rw [decide_eq_true w2] at d2
    rw [if_pos w2]
    match zs,hzl,hbc,hc1,hLb with
    | [],hzl,hbc,hc1,hLb=>
     have hask:askW s.ls s.a s.b s.ss s.t w=none:=by rw [w2];simp [askW]
     have hw:=ZsK (e:=none) hl.all (Ze hu') h1' h2' hs w
     rw [hask] at hw
     simp (maxSteps:=2000000) +contextual only [ZB,Zm,Ri,decide_false,Ju,gt_iff_lt,hk,decide_true,d1,d2,WQ,z00,z20,z20',ge_iff_le,finish,pp,go_sem,reduceIte,Ra,Rb,Rc,Rd]
     refine hw.mono ?_
     rintro v m ⟨⟨x,rfl,hx⟩,rfl⟩
     simp (maxSteps:=2000000) +contextual only [Zm,finish,pp,go_sem,reduceIte,Ra,Rb,Rc,Rd]
     exact Zbo.keep hLH hul (fun B _ h=>h) ⟨x,rfl,hx⟩
    | [n],hzl,hbc,hc1,hLb=>
     have hask:askOneW s.ls s.ss w n=none:=by rw [w2];simp [askOneW]
     have hw:=Zld (e:=none) hl.all (Ze hu') h1' h2' hs w n
     rw [hask] at hw
     have hht:ZBh [n]=none:=by
      rw [Zle,if_neg]
      rintro ⟨h,_⟩
      simp [ZfX,Zp3] at h
     rw [hht]
     have hp:∀ sz,ZdV false (Y5 [n]) 0 sz=some (.int .i64 n):=fun sz=>Z2 sz rfl
     simp (maxSteps:=2000000) +contextual only [ZB,Zm,Ri,decide_false,Ju,gt_iff_lt,hk,decide_true,d1,d2,WQ,RB,Nat.zero_add,z10,z11,z01,z21,z21',z10',z01',ge_iff_le,hbc,hp,ZfL,ZgE,ZgF,Wo,WC,WO,finish,pp,go_sem,reduceIte,Ra,Rb,Rc,Rd]
     refine hw.mono ?_
     rintro v m ⟨⟨x,rfl,hx⟩,rfl⟩
     simp (maxSteps:=2000000) +contextual only [Zm,finish,pp,go_sem,reduceIte,Ra,Rb,Rc,Rd]
     exact Zbo.keep hLH hul (fun B _ h=>h) ⟨x,rfl,hx⟩
    | n::m::k,hzl,hbc,hc1,hLb=>
     have hcn:c=none:=hc1 (by simp only [RB] at hzl;omega)
     subst hcn
     have hsl2:ZeU 1 (slI b (k.length+1+1) none) (.int .i64 1)=some (slO b [n] (m::k).length none):=Zdu 1 b 0 (k.length+1+1) 1 (by omega)
     have hge:(2:Int)≤((k.length+1+1:Nat):Int):=by omega
     have hp:∀ sz,ZdV false (Y5 (n::m::k)) 0 sz=some (.int .i64 n):=fun sz=>Z2 sz rfl
     have hlt:(0:Int)<((k.length+1+1:Nat):Int):=by omega
     have hkl:(m::k).length≤1000000:=by simp only [RB] at hzl ⊢;omega
     have hbP:Za L b=some (Y5 ([n]++(m::k))):=hbc
     rw [Zle]
     simp only [RB]
     generalize hcs:Y5 (n::m::k)=cs at *
     generalize (m::k)=kk at *
     simp (maxSteps:=2000000) +contextual only [ZB,Zm,Ri,decide_false,Ju,gt_iff_lt,hk,decide_true,d1,d2,hge,hlt,ge_iff_le,hbc,hp,Zdt,hsl2,ZfL,ZgE,ZgF,Wo,WC,WO,pp,go_sem,reduceIte,Ra,Rb,Rc,Rd]
     by_cases hkb:ZfX kk=true∧1≤n
     ·refine (Zi3 (P:=[n]) (cap:=none) hbP hkl n hkb.1 hkb.2).mono ?_
      rintro v mm ⟨cc,wr,rfl,rfl⟩
      obtain ⟨f1,f2⟩:=Zxs hkb.1 n
      have hT:(if ZfX kk=true∧1≤n∧0<(Zn5 kk n).length then some (Zbn (Zn5 kk n)) else none)=if 0<(Zn5 kk n).length then some (Zbn (Zn5 kk n)) else none:=by
       by_cases h0:0<(Zn5 kk n).length
       ·rw [if_pos ⟨hkb.1,hkb.2,h0⟩,if_pos h0]
       ·rw [if_neg (fun h=>h0 h.2.2),if_neg h0]
      rw [hT]
      generalize Zn5 kk n=g at *
      have hg:=fun x=>ZbW (pr:=pr) (H:=L++[.cells (Y5 g) wr]) (e:=none) (q:=L.length) (cap:=cc) hl.all.ito hl.all.joi (Ze (w:=wr) (by rw [Xe];rfl)) (by omega) f2 x
      simp (maxSteps:=2000000) +contextual only [Zm,hg,finish,pp,go_sem,reduceIte,Ra,Rb,Rc,Rd]
      refine Zbo.keep (hLH.more _) hul (fun B _ h=>h) ⟨Zbn g,?_,?_⟩
      ·by_cases h0:0<g.length
       ·rw [if_pos h0,decide_eq_true (by omega)];rfl
       ·rw [if_neg h0,decide_eq_false (by omega)];rfl
      ·intro y hy
       split at hy
       ·exact WA hy
       ·exact absurd hy (by simp)
     ·have hnn:=Zg8 (pr:=pr) (H:=L) (e:=none) (P:=[n]) (cap:=none) hbP hkl n hkb
      have hT:(if ZfX kk=true∧1≤n∧0<(Zn5 kk n).length then some (Zbn (Zn5 kk n)) else none)=none:=if_neg fun h=>hkb ⟨h.1,h.2.1⟩
      rw [hT]
      have hg:=fun L e0=>Zeq (pr:=pr) (H:=L) (e:=e0) false (p:=none) (s:=0) (cap:=none)
      simp (maxSteps:=2000000) +contextual only [Zm,hnn,hg,finish,pp,go_sem,reduceIte,Ra,Rb,Rc,Rd]
      exact Zbo.keep hLH hul (fun B _ h=>h) ⟨_,rfl,fun y h=>absurd h (by simp)⟩
   rw [decide_eq_false w2] at d2
   rw [if_neg w2]
   match zs,hzl,hbc with
   | [],hzl,hbc=>
    have hw:=ZsK (e:=none) hl.all (Ze hu') h1' h2' hs w
    simp (maxSteps:=2000000) +contextual only [ZB,Zm,Ri,decide_false,Ju,gt_iff_lt,hk,decide_true,d1,d2,WQ,z00,z20,z20',ge_iff_le,finish,pp,go_sem,reduceIte,Ra,Rb,Rc,Rd]
    refine hw.mono ?_
    rintro v m ⟨⟨x,rfl,hx⟩,rfl⟩
    simp (maxSteps:=2000000) +contextual only [Zm,finish,pp,go_sem,reduceIte,Ra,Rb,Rc,Rd]
    exact Zbo.keep hLH hul (fun B _ h=>h) ⟨x,rfl,hx⟩
   | [n],hzl,hbc=>
    have hw:=Zld (e:=none) hl.all (Ze hu') h1' h2' hs w n
    have hp:∀ sz,ZdV false (Y5 [n]) 0 sz=some (.int .i64 n):=fun sz=>Z2 sz rfl
    simp (maxSteps:=2000000) +contextual only [ZB,Zm,Ri,decide_false,Ju,gt_iff_lt,hk,decide_true,d1,d2,WQ,RB,Nat.zero_add,z10,z11,z01,z21,z21',z10',z01',ge_iff_le,hbc,hp,ZfL,ZgE,ZgF,Wo,WC,WO,finish,pp,go_sem,reduceIte,Ra,Rb,Rc,Rd]
    refine hw.mono ?_
    rintro v m ⟨⟨x,rfl,hx⟩,rfl⟩
    simp (maxSteps:=2000000) +contextual only [Zm,finish,pp,go_sem,reduceIte,Ra,Rb,Rc,Rd]
    exact Zbo.keep hLH hul (fun B _ h=>h) ⟨x,rfl,hx⟩
   | n::m::k,hzl,hbc=>
    have hz0:¬ ((k.length+1+1:Nat):Int)=0:=by omega
    have hz1:¬ ((k.length+1+1:Nat):Int)=1:=by omega
    simp (maxSteps:=2000000) +contextual only [ZB,Zm,Ri,decide_false,Ju,gt_iff_lt,hk,decide_true,d1,d2,RB,hz0,hz1,finish,pp,go_sem,reduceIte,Ra,Rb,Rc,Rd]
    exact hno e
 ·have hi:i<ws.length:=by omega
  obtain ⟨x,hxi⟩:∃ x,ws[i]?=some x:=⟨_,Rl hi⟩
  have hdr:ws.drop i=x::ws.drop (i+1):=by
   rw [List.drop_eq_getElem_cons hi]
   rw [Rl hi,Option.some.injEq] at hxi
   rw [hxi]
  rw [hdr] at hnum
  have hpx:∀ sz,ZdV false (Zfo (w::ws)) (1+i) sz=some (sV x):=fun sz=>ZdD sz (ZzB (by rw [Nat.add_comm];exact hxi))
  have hrd:=fun L=>ZpY (pr:=pr) (H:=L) (e:=none) hl.all.ito hl.all.ato x (by have:=hpl x (We _ (List.mem_of_getElem? hxi));omega)
  have hiw:=Zw (show i<9223372036854775807 by omega)
  cases hr':ZlY x with
  | none=>
   simp only [hr',Option.getD_none,Option.isSome_none] at hrd
   rw [ZuK hr'] at hnum
   have hres:Zi4 s (w::ws)=(none,none):=by rw [hxl,←hnum];rfl
   rw [hres]
   simp (maxSteps:=2000000) +contextual only [ZB,Zm,hi,hpc,hpx,hrd,Zb,finish,decide_true,pp,go_sem,reduceIte,Ra,Rb,Rc,Rd]
   exact Zbo.keep hLH hul (fun B _ h=>h) ⟨[],rfl,fun y h=>absurd h (by simp)⟩
  | some v=>
   simp only [hr',Option.getD_some,Option.isSome_some] at hrd
   rw [ZaR hr',Zy2] at hnum
   simp (maxSteps:=2000000) +contextual only [ZB,Zm,hi,hpc,hpx,hrd,Zb,decide_true,pp,go_sem,reduceIte,Ra,Rb,Rc,Rd]
   refine Zn0 (k:=1) (new:=[.int .i64 v]) (cs:=Y5 zs) (ZY hLb _) (Zbh _ 1 1 _ _ L.length (by simp +contextual only [go_sem,reduceIte,Ra,Rb,Rc,Rd]) rfl) (by simp [Y5]) rfl (by unfold maxBytes;omega) hc0 ?_
   intro L6 g1 g2 g3 g4
   rw [ZBe] at g3
   simp (maxSteps:=2000000) +contextual only [hiw,pp,go_sem,reduceIte,Ra,Rb,Rc,Rd]
   exact ⟨j - 1,by omega,i+1,L.length+1,zs++[v],none,L6,_,_,_,_,_,by omega,g4 _ (hL.more _) (by rw [RL,RN];omega),by omega,by simpa using g3,by simp;omega,by simp,fun _=>rfl,hnum,by rw [RL];rfl⟩
theorem Zlf {zs:List Int} (hz:∀ z∈zs,ZdT z) (hn:zs.length≤1000):(Zbn zs).length≤22004:=by
 unfold Zbn
 split
 ·simp
 ·have:=Zep 32 zs hz
  omega
theorem Zqh {ls:List Ld} (h:Y1 ls=true):(ZdB ls).length≤10000:=by
 obtain ⟨hn,hf⟩:=Zw5 h
 unfold ZdB ZuA
 split
 ·simp
 ·have:=ZgX [32] 44 (ls.map fun l=>KK 58 [l.1,l.2]) fun x hx=>by
   obtain ⟨l,h1,rfl⟩:=List.mem_map.mp hx
   have:=Zep 58 [l.1,l.2] (by
    intro z hz
    simp only [RQ,List.not_mem_nil,or_false] at hz
    rcases hz with rfl | rfl
    ·exact (hf l h1).1
    ·exact (hf l h1).2)
   simpa using this
  rw [Wn] at this
  simp only [RN] at this
  omega
theorem ZrU {c:UInt8} {a b:Int} (ha:ZdT a) (hb:ZdT b):(KK c [a,b]).length≤44:=by
 have:=Zep c [a,b] (by
  intro z hz
  simp only [RQ,List.not_mem_nil,or_false] at hz
  rcases hz with rfl | rfl
  ·exact ha
  ·exact hb)
 simpa using this
theorem Zy4 {s:Sd} (hs:s.std=true) {w r:By} (h:askW s.ls s.a s.b s.ss s.t w=some r):r.length≤22004:=by
 obtain ⟨hr,hc,hb,hss,hls,ht1,ht2,hk1,hk2,hre⟩:=KL hs
 unfold askW at h
 split at h
 ·cases h;have:=Zqh hr;omega
 split at h
 ·cases h;have:=JS _ (ZmX hr);omega
 split at h
 ·split at h
  ·cases h
  ·cases h;have:=ZrU (c:=47) (Zn8 hr).1 (Zn8 hr).2;omega
 split at h
 ·cases h;have:=JS _ (Zg7 s.ls s.a s.b);omega
 split at h
 ·cases h;have:=JS s.t (fit_small (by omega) (by omega));omega
 split at h
 ·cases h;have:=JS _ (ZsJ hr hc);omega
 split at h
 ·obtain ⟨g,hg,rfl⟩:=Option.map_eq_some_iff.mp h
  obtain ⟨f1,f2⟩:=Zqa hg hls
  refine Zlf f2 ?_
  unfold Ko at hg
  split at hg
  ·have:=(ZbX (List.mem_of_find?_eq_some hg)).2
   omega
  ·cases hg
 ·cases h
theorem ZrV {s:Sd} (hs:s.std=true) {w r:By} {n:Int} (h:askOneW s.ls s.ss w n=some r):r.length≤22004:=by
 obtain ⟨hr,hc,hb,hss,hls,ht1,ht2,hk1,hk2,hre⟩:=KL hs
 unfold askOneW at h
 split at h
 ·split at h
  ·rename_i hB;cases h;have:=JS _ (Zxp hr hB);omega
  ·cases h
 split at h
 ·split at h
  ·rename_i hB;cases h;have:=JS _ (ZsL hc hB);omega
  ·cases h
 split at h
 ·split at h
  ·rename_i hB
   cases h
   obtain ⟨x,rfl,hx⟩:=ZrS hB
   obtain ⟨f1,f2⟩:=Zqc (ss:=s.ss) hc x hx
   have:=ZrU (c:=47) f1 f2
   rw [Int.toNat_natCast]
   omega
  ·cases h
 split at h
 ·split at h
  ·cases h;have:=JS _ (ZmY hls n);omega
  ·cases h
 split at h
 ·obtain ⟨g,hg,rfl⟩:=Option.map_eq_some_iff.mp h
  have hf:=ZsM s.ls n hls
  rw [hg] at hf
  exact Zlf (Zxq hf) (by simp)
 split at h
 ·split at h
  ·cases h;have:=JS _ (Zqd n);omega
  ·cases h
 ·cases h
theorem ZrW {s:Sd} (hs:s.std=true) {w r:By} {zs:List Int} (h:askAllW s.ls s.a s.b s.ss s.t w zs=some r):r.length≤22004:=by
 unfold askAllW at h
 split at h
 ·split at h
  ·rename_i hB;cases h;have:=JS _ (Zqe hB);omega
  ·cases h
 split at h
 ·cases zs with
  | nil=>cases h
  | cons n k=>
   rw [Zle] at h
   split at h
   ·rename_i hB
    cases h
    obtain ⟨f1,f2⟩:=Zxs hB.1 n
    exact Zlf f2 (by omega)
   ·cases h
 split at h
 ·exact Zy4 hs h
 ·exact ZrV hs h
 ·cases h
theorem Zxw {s:Sd} (hs:s.std=true) (cmd:By):((KU s cmd).2.getD [63]).length≤22004:=by
 have key:∀ r,(KU s cmd).2=some r→r.length≤22004:=by
  intro r h
  unfold KU at h
  cases hps:Yy 32 cmd with
  | nil=>rw [hps] at h;cases h
  | cons w ws=>
   rw [hps] at h
   have hxl:Zi4 s (w::ws)=match ZdU ws with | none=>(none,none) | some zs=>execP s w zs:=rfl
   rw [hxl] at h
   split at h
   ·cases h
   ·rename_i zs hz
    unfold execP at h
    split at h
    ·split at h
     ·rename_i hok
      obtain ⟨hr,hc,hb⟩:=ZsO hok
      simp only [Option.some.injEq] at h
      rw [←h]
      unfold ZrT
      split
      ·have:=ZrU (c:=47) (Zg9 hc).1 (Zg9 hc).2;omega
      ·have:=JS _ (Zg7 (doS s (Zev w zs.length) (zs.getD 0 0) (zs.getD 1 0) (zs.getD 2 0)).ls (doS s (Zev w zs.length) (zs.getD 0 0) (zs.getD 1 0) (zs.getD 2 0)).a (doS s (Zev w zs.length) (zs.getD 0 0) (zs.getD 1 0) (zs.getD 2 0)).b);omega
     ·cases h
    ·exact ZrW hs h
 cases h:(KU s cmd).2 with
 | none=>simp
 | some r=>exact key r h
structure Cn where
 s:Sd
 d:By
 p:By
 n:Int
def Cn.ok (x:Cn):Bool:=x.s.std&&Ze1 x.d x.p x.n
def ZzC (d p:By) (c:Int) (a r:By):By×By×Int :=
 if (Ze1 d p c&&Zof a r)=true then (if c=60 then (d,p,c) else (d,p++ZgN c a r,c+1)) else (d,p,c)
theorem ZAz (d p:By) (c:Int) (a r:By):∃ k,ZBU d p c a r=.tup [lgV (ZzC d p c a r).1 (ZzC d p c a r).2.1 (ZzC d p c a r).2.2,.int .i64 k]:=by
 unfold ZBU ZzC
 split
 ·split
  ·exact ⟨2,rfl⟩
  ·exact ⟨0,rfl⟩
 ·exact ⟨1,rfl⟩
def Zy5 (x:Cn) (cmd:By):Cn×By :=
 if x.ok=true then
  (if Zof cmd []=true then
   (if x.n=60 then (x,[102,117,108,108])
   else (⟨(KU x.s cmd).1.getD x.s,(ZzC x.d x.p x.n cmd ((KU x.s cmd).2.getD [63])).1,(ZzC x.d x.p x.n cmd ((KU x.s cmd).2.getD [63])).2.1,(ZzC x.d x.p x.n cmd ((KU x.s cmd).2.getD [63])).2.2⟩,(KU x.s cmd).2.getD [63]))
  else (x,[98,97,100]))
 else (x,[110,111])
end Go.Proofs.YtemcdiajejekoaaGreatDoor.Slim
