/- Parts of the proof. -/
import Derived.Test.YtemcdiajejekoaaGreatDoorSlimZr14
import Derived.Sort.Grow
import Derived.Lib.LaidTab
import Derived.Lib.ItoaMem
import Derived.LaidSub
import Derived.MakeChecks
import Derived.Shelf.SlSortCmp.Whole1
set_option linter.unusedSimpArgs false
set_option linter.unusedVariables false
namespace Go.Proofs.YtemcdiajejekoaaGreatDoor.Slim
open Go Go.Sort
theorem Rel.later {ι:Emb} {m:Mem} {w w':World} (R:Rel ι m w) (hsz:w.heap.size≤w'.heap.size) (hold:∀ r,r<w.heap.size→w'.heap[r]?=w.heap[r]?) (h1:w'.os=w.os) (h2:w'.tape=w.tape) (h3:w'.output=w.output) :
  Rel ι m w'∧Ext ι m w ι m w':=by
 have hsh:YP w w':=by
  intro r s h
  have hr:r<w.heap.size:=by
   rcases Nat.lt_or_ge r w.heap.size with h' | h'
   ·exact h'
   ·unfold World.shape? at h
    simp [Array.getElem?_eq_none h'] at h
  unfold World.shape? at *
  rw [hold r hr]
  exact h
 refine R.of0 ⟨⟨R.len,fun b c d hb=>Nat.lt_of_lt_of_le (R.low b c d hb) hsz,fun b cs wr hb => ?_,fun b es hb => ?_,R.sep⟩,⟨Emb.le_refl _,Nat.le_refl _,hsz,hsh,fun r hr=>.inl hr,fun r hr _=>hold r hr,h1,h2,h3⟩⟩
 ·obtain ⟨c,d,g1,g2⟩:=R.at' b cs wr hb
  exact ⟨c,d,g1,g2.mono (Emb.le_refl _) hsh (hold c (R.low b c d g1))⟩
 ·obtain ⟨c,g1,g2⟩:=R.mp b es hb
  exact ⟨c,g1,g2.mono (hold c (R.low b c 0 g1))⟩
theorem Rel.grown {ι:Emb} {m:Mem} {w:World} (R:Rel ι m w) (k:Nat) (os:Array Obj):Rel ι m (grow (w.drewN k) os)∧Ext ι m w ι m (grow (w.drewN k) os):=by
 refine R.later ?_ (fun r hr => ?_) rfl rfl rfl
 ·show w.heap.size≤(w.heap++os).size
  simp
 ·show (w.heap++os)[r]?=w.heap[r]?
  rw [Array.getElem?_append_left hr]
theorem ZF0.tab {ι:Emb} {m:Mem} {w:World} {P:Program} {name:String} {k:IntKind} {zs:List Int} {g:Nat} {Q:Array Value→Prop} (h:ZF0 ι m w) (hg:P.globalNamed name=some g) (hm:(g,Q)∈Zfs) (hQ:∀ cs,Q cs→cs=(zs.map fun z=>Value.int k z).toArray) :
  Lib.TabIs P w name k zs:=by
 obtain ⟨_,_,cs,e,fz,h1,h2⟩:=h _ hm
 unfold Lib.TabIs World.var?
 rw [hg]
 simp only [Option.bind_some]
 simp only at h1
 rw [h1,←hQ cs h2]
end Go.Proofs.YtemcdiajejekoaaGreatDoor.Slim
namespace Go.Proofs.YtemcdiajejekoaaGreatDoor.Slim
open Go Go.Sort
theorem Zmu {α:Type} [Inhabited α] (enc:α→Value) (w:World) (blk off:Nat) (d:Array α):putRow enc w blk off d=putRow id w blk off (d.map enc):=by
 unfold putRow
 congr 1
 funext c
 unfold putCells
 apply Array.ext
 ·simp
 ·intro k h1 h2
  simp only [Array.getElem_mapIdx,Array.size_map,id_eq]
  split
  ·rename_i h
   have hk:k - off<d.size:=by omega
   rw [getElem!_pos d _ hk,getElem!_pos (d.map enc) _ (by simpa using hk),Array.getElem_map]
  ·rfl
theorem Zey.holds {ι:Emb} {w:World} {c d:Nat} {cs:List AV} (h:Zey ι w c d cs true):∃ us:List Value,VL ι w cs us∧us.length=cs.length∧Holds id w c d us.toArray:=by
 obtain ⟨e,M,hM,hfree⟩:=h.free rfl
 obtain ⟨us,h1,h2⟩:=h.vals
 refine ⟨us,h1,h1.length,fun j hj => ?_⟩
 have hj':j<us.length:=by simpa using hj
 have hc:=h2 j (us[j]'hj') (List.getElem?_eq_getElem hj')
 have e1:(us.toArray)[j]! = us[j]:=by rw [getElem!_pos us.toArray j hj];simp
 exact ⟨by rw [e1];exact hc,hfree _ (ZlS hM hc)⟩
theorem Rel.row {P:Program} {ι:Emb} {m:Mem} {w:World} (R:Rel ι m w) {b c d:Nat} {cs new:List AV} {vs:List Value} (hb:m.H[b]?=some (.cells cs true)) (hi:ι[b]?=some (some (c,d)))
  (hv:VL ι w new vs) (hc:new.all AV.isCell=true) (hlen:new.length=cs.length) (hpos:0<cs.length) (n:Nat) (os:Array Obj) :
  Rel ι ⟨m.H.set b (.cells new true),m.esc⟩ (grow (putRow id (Sort.ahead w n) c d vs.toArray) os)∧Ext ι m w ι ⟨m.H.set b (.cells new true),m.esc⟩ (grow (putRow id (Sort.ahead w n) c d vs.toArray) os):=by
 obtain ⟨c',d',hi',hC⟩:=R.at' b cs true hb
 rw [hi] at hi'
 cases hi'
 obtain ⟨us,_,h2,h3⟩:=hC.holds
 have hvl:=hv.length
 obtain ⟨_,r1,r2⟩:=R.store (P:=P) (o:=0) hb hi hv hc (by omega) (by omega) m.esc
 have e0:Z3 cs 0 new=new:=by
  unfold Z3
  rw [List.take_zero,List.nil_append,List.drop_eq_nil_of_le (by omega),List.append_nil]
 rw [e0] at r1 r2
 have e1:w.setCells c (d+0) vs=putRow id w c d vs.toArray:=by
  have h4:=setCells_putRow w c d vs 0 us.toArray (by simp;omega)
  rw [putRow_self id w c d _ h3] at h4
  rw [h4]
  congr 1
  apply Array.ext
  ·simp;omega
  ·intro k k1 k2
   have k2':k<vs.length:=by simpa using k2
   have k3:=get_setMany vs 0 us.toArray k (by simp;omega)
   rw [getElem!_pos _ k k1] at k3
   rw [k3,if_pos ⟨Nat.zero_le _,by omega⟩,Nat.sub_zero,getElem!_pos _ k k2']
   simp
 rw [e1] at r1 r2
 obtain ⟨r3,r4⟩:=r1.grown n os
 have e2:grow (putRow id (Sort.ahead w n) c d vs.toArray) os=grow ((putRow id w c d vs.toArray).drewN n) os:=rfl
 rw [e2]
 exact ⟨r3,r2.trans r4⟩
theorem VL.ints {ι:Emb} {w:World}:∀ {zs:List Int} {us:List Value},VL ι w (zs.map (.int .i64)) us→us=zs.map (.int .i64)
 | [],us,h=>h
 | z::zs,us,h=>by
  obtain ⟨y,ys,rfl,rfl,h'⟩:=h
  rw [VL.ints h'];rfl
theorem VL.of_ints (ι:Emb) (w:World):∀ (zs:List Int),VL ι w (zs.map (.int .i64)) (zs.map (.int .i64))
 | []=>rfl
 | z::zs=>⟨_,_,rfl,rfl,VL.of_ints ι w zs⟩
theorem Zsk (zs:List Int):(zs.map (AV.int .i64)).all AV.isCell=true:=by
 simp [AV.isCell]
theorem VL.strs {ι:Emb} {w:World}:∀ {xs:List ByteArray} {us:List Value},VL ι w (xs.map .str) us→us=xs.map .string
 | [],us,h=>h
 | z::zs,us,h=>by
  obtain ⟨y,ys,rfl,rfl,h'⟩:=h
  rw [VL.strs h'];rfl
theorem VL.of_strs (ι:Emb) (w:World):∀ (xs:List ByteArray),VL ι w (xs.map .str) (xs.map .string)
 | []=>rfl
 | z::zs=>⟨_,_,rfl,rfl,VL.of_strs ι w zs⟩
theorem Zsl {w:World} {c d:Nat} {zs:List Int} (h:Holds id w c d (zs.map (Value.int .i64)).toArray):Holds (Value.int .i64) w c d zs.toArray:=by
 intro j hj
 have hj':j<zs.length:=by simpa using hj
 have:=h j (by simpa using hj)
 rw [getElem!_pos _ j (by simpa using hj)] at this
 rw [getElem!_pos _ j hj]
 simpa using this
end Go.Proofs.YtemcdiajejekoaaGreatDoor.Slim
namespace Go.Proofs.YtemcdiajejekoaaGreatDoor.Slim
open Go
open Nat renaming reduceAdd → Ra, reduceLeDiff → Rb, reduceLT → Rc, reduceEqDiff → Rd
open List renaming size_toArray → RW, length_append → RX, length_singleton → RY, append_assoc → Rk, length_cons → RN, mem_singleton → R3, mem_cons → R6, length_drop → R7, cons_append → Rp, mem_append → Wa, mem_cons_self → Wb, mem_map → Wd, mem_range → We, drop_drop → Wf, cons_lt_cons_iff → Wh, getElem?_eq_getElem → Rj, take_length → Wi, contains_eq_mem → Wj, length_nil → Wk, getElem?_eq_some_iff → Wl, length_take → Wm, pairwise_map → Wo, pairwise_lt_range → Wq, mem_filter → Wr, getElem?_append_left → Ws, mem_cons_of_mem → Wt, eq_nil_or_concat → Wu, concat_eq_append → Wv, pairwise_append → Ww, Pairwise.imp_of_mem → Wx
open Nat renaming add_assoc → RD, mul_one → R8, zero_mul → RJ
open Bool renaming and_false → RU, false_eq_true → RZ, false_and → RR, and_eq_true → Rs
open Int renaming le_refl → R9, toNat_zero → RH
open Option renaming isSome_none → Wg, isSome_some → Wn
variable {pr : Zt} {H : List Blk} {e : Option Nat}
def sumStep (h:Nat) (b:UInt8):Nat:=(41*h+b.toNat+1) % 999979
def ZCz (l:By):Nat:=l.foldl sumStep 7
theorem ZiN:∀ (l:By) (h:Nat),h<999979→l.foldl sumStep h<999979
 | [],h,hh=>hh
 | b::l,h,hh=>ZiN l _ (Nat.mod_lt _ (by omega))
theorem Zzp (l:By):ZCz l<999979:=ZiN l 7 (by omega)
theorem ZAd {h:Nat} (b:UInt8) (hh:h<999979):(IntKind.i64.wrap (IntKind.i64.wrap (IntKind.i64.wrap (41*(h:Int))+IntKind.i64.wrap (b.toNat:Int))+1)).tmod 999979=((sumStep h b:Nat):Int):=by
 have hb:=b.toNat_lt
 have w1:IntKind.i64.wrap (41*(h:Int))=41*(h:Int):=ZN (by omega) (by omega)
 have w2:IntKind.i64.wrap (b.toNat:Int)=(b.toNat:Int):=ZN (by omega) (by omega)
 have w3:IntKind.i64.wrap (41*(h:Int)+(b.toNat:Int))=41*(h:Int)+(b.toNat:Int):=ZN (by omega) (by omega)
 have w4:IntKind.i64.wrap (41*(h:Int)+(b.toNat:Int)+1)=41*(h:Int)+(b.toNat:Int)+1:=ZN (by omega) (by omega)
 rw [w1,w2,w3,w4,Int.tmod_eq_emod_of_nonneg (by omega)]
 unfold sumStep
 omega
theorem Zsm {α β:Type} (f:β→α→β) (z:β) {l:List α} {i:Nat} {x:α} (h:l[i]?=some x):f ((l.take i).foldl f z) x=(l.take (i+1)).foldl f z:=by
 rw [List.take_add_one,h,List.foldl_append]
 rfl
theorem Zwt (l:By) (hn:l.length≤1073741824):call T pr ZdV [sV l] ⟨H,e⟩=some (if l.length≤4000 then .tup [.int .i64 (ZCz l),.bool true] else .tup [.int .i64 0,.bool false],⟨H,e⟩):=by
 by_cases h4:l.length≤4000
 ·have h4':¬ ((4000:Int)<(l.length:Int)):=by omega
  rw [if_pos h4]
  apply Wc.eq
  rw [Zr Zm8]
  simp +contextual only [Zb0,Zhu,Z1,RW,h4',gt_iff_lt,decide_false,pp,go_sem,reduceIte,Ra,Rb,Rc,Rd]
  refine ZL (fun k st=>∃ (i:Nat) (y1 y2 y4 y5 y8:AV),k+i=l.length∧st=⟨[sV l,y1,y2,.int .i64 ((l.take i).foldl sumStep 7:Nat),y4,y5,.int .i64 l.length,.int .i64 i,y8],⟨H,none⟩⟩) ?_ l.length _ ⟨0,_,_,_,_,_,rfl,rfl⟩
  rintro k _ ⟨i,y1,y2,y4,y5,y8,hk,rfl⟩
  by_cases hi:i<l.length
  ·have hl:l[i]?=some l[i]:=Rj hi
   have hst:=ZAd l[i] (ZiN (l.take i) 7 (by omega))
   rw [Zsm sumStep 7 hl] at hst
   simp +contextual only [ZeH,hi,Zsj hl,hst,show ¬ ((999979:Int)=0) by omega,Zi (show i<9223372036854775807 by omega),decide_true,pp,go_sem,reduceIte,Ra,Rb,Rc,Rd]
   exact ⟨k - 1,by omega,i+1,_,_,_,_,_,by omega,rfl⟩
  ·obtain rfl:i=l.length:=by omega
   simp +contextual only [ZeH,hi,Wi,decide_false,pp,go_sem,reduceIte,Ra,Rb,Rc,Rd]
   trivial
 ·have h4':(4000:Int)<(l.length:Int):=by omega
  rw [if_neg h4,Zh Zm8]
  simp +contextual only [Zb0,Zhu,Z1,RW,h4',gt_iff_lt,decide_true,go_sem,reduceIte,Ra,Rb,Rc,Rd]
theorem ZES (l:By) (hn:l.length≤1073741824):call T pr Zkv [sV l] ⟨H,e⟩=some (.int .i64 (ZCz l),⟨H,e⟩):=by
 apply Wc.eq
 rw [Zr ZDO]
 simp +contextual only [ZkQ,ZuF,pp,go_sem,reduceIte,Ra,Rb,Rc,Rd]
 refine ZL (fun k st=>∃ (i:Nat) (y1 y4:AV),k+i=l.length∧st=⟨[sV l,y1,.int .i64 ((l.take i).foldl sumStep 7:Nat),.int .i64 i,y4],⟨H,none⟩⟩) ?_ l.length _ ⟨0,_,_,rfl,rfl⟩
 rintro k _ ⟨i,y1,y4,hk,rfl⟩
 by_cases hi:i<l.length
 ·have hl:l[i]?=some l[i]:=Rj hi
  have hst:=ZAd l[i] (ZiN (l.take i) 7 (by omega))
  rw [Zsm sumStep 7 hl] at hst
  simp +contextual only [ZjS,hi,Z1,RW,Zsj hl,hst,show ¬ ((999979:Int)=0) by omega,Zi (show i<9223372036854775807 by omega),decide_true,pp,go_sem,reduceIte,Ra,Rb,Rc,Rd]
  exact ⟨k - 1,by omega,i+1,_,_,by omega,rfl⟩
 ·obtain rfl:i=l.length:=by omega
  simp +contextual only [ZjS,hi,Z1,RW,Wi,decide_false,pp,go_sem,reduceIte,Ra,Rb,Rc,Rd]
  trivial
def Zdw (l:By):By:=l++[35]++Lib.itoa (ZCz l)
theorem Zn2 {n:Int} (h1 : -9223372036854775807≤n) (h2:n≤9223372036854775807):(Lib.itoa n).length≤21:=by
 unfold Lib.itoa
 split
 ·have:=Zal n.natAbs (by omega)
  rw [RN];omega
 ·have:=Zal n.toNat (by omega)
  omega
theorem ZtK (u:Nat) (h:u<1000000):(Lib.decDigits u).length≤6:=by
 have:∀ (k u:Nat),u<10 ^ k→(Lib.decDigits u).length≤max k 1:=by
  intro k
  induction k with
  | zero=>
   intro u hu
   have:u=0:=by omega
   subst this;rw [Lib.decDigits];simp
  | succ k ih=>
   intro u hu
   rw [Lib.decDigits]
   split
   ·simp
   ·have:=ih (u / 10) (by rw [Nat.pow_succ] at hu;omega)
    rw [RX,RY]
    have h1:1≤k:=by
     rcases Nat.eq_zero_or_pos k with h0 | h0
     ·subst h0;omega
     ·exact h0
    omega
 have:=this 6 u (by omega)
 omega
theorem ZhR (l:By):(Lib.itoa (ZCz l)).length≤6:=by
 have:=Zzp l
 unfold Lib.itoa
 rw [if_neg (by omega),Int.toNat_natCast]
 exact ZtK _ (by omega)
theorem Zfg (l:By):(Zdw l).length≤l.length+7:=by
 have:=ZhR l
 unfold Zdw
 simp only [RX,RY]
 omega
theorem ZCA (l:By) (hn:l.length≤1073741824):call T pr Zim [sV l] ⟨H,e⟩=some (sV (Zdw l),⟨H,e⟩):=by
 have hs:=fun L=>ZES (pr:=pr) (H:=L) (e:=none) l hn
 have hlt:=Zzp l
 have hnum:=fun L=>XD (pr:=pr) (H:=L) (e:=none) (ZCz l) (by omega) (by omega)
 have hl:=ZhR l
 have h1:l.length+1≤140737488355328:=by omega
 have h2:l.length+1+(Lib.itoa (ZCz l)).length≤140737488355328:=by omega
 rw [Zh ZBg]
 unfold Zdw
 generalize ZCz l=S at hs hnum hl h2 ⊢
 simp +contextual only [ZiE,ZrJ,hs,hnum,ZD,h1,h2,RY,go_sem,reduceIte,Ra,Rb,Rc,Rd]
theorem ZET (l:By) (c:UInt8):ZHX (bs l) (c.toNat:Int)=l.contains c:=by
 unfold ZHX
 rw [Jc]
 induction l with
 | nil=>rfl
 | cons b l ih=>
  rw [List.any_cons,List.contains_cons,ih]
  congr 1
  rw [Bool.eq_iff_iff]
  simp only [decide_eq_true_eq,beq_iff_eq]
  constructor
  ·intro h;exact (UInt8.toNat_inj.mp (by omega)).symm
  ·rintro rfl;rfl
def ZCB (l:By):Bool:=decide (l.length≤4000)&&(!l.contains 35&&decide ((Zdw l).length≤4000))
theorem Zep (hi:Ko pr) (hc:YW pr) (l:By) (hn:l.length≤1073741824):call T pr XY [sV l] ⟨H,e⟩=some (if ZCB l=true then .tup [sV (Zdw l),.bool true] else .tup [sV [],.bool false],⟨H,e⟩):=by
 have hcs:=fun L=>Zwt (pr:=pr) (H:=L) (e:=none) l hn
 have hcon:∀ L,call T pr Yz [sV l,sV [35]] ⟨L,none⟩=some (.bool (l.contains 35),⟨L,none⟩):=fun L=>by
  rw [hc (bs l) 35 ⟨L,none⟩,Zv7,←ZET l 35];rfl
 have hlt:=Zzp l
 have h1:l.length+1≤140737488355328:=by omega
 rw [Zh ZkZ]
 unfold ZCB
 by_cases h4:l.length≤4000
 ·rw [if_pos h4] at hcs
  have hit:=fun L=>hi (ZCz l) ⟨L,none⟩ (by omega) (by omega)
  have hl:=ZhR l
  have h2:l.length+1+(Lib.itoa (ZCz l)).length≤140737488355328:=by omega
  have hsl:Zdw l=l++(35::Lib.itoa (ZCz l)):=by unfold Zdw;simp
  have hcmp:decide ((Zdw l).length≤4000) = !decide ((4000:Int)<((l++(35::Lib.itoa (ZCz l))).length:Int)):=by
   rw [hsl,←decide_not]
   exact decide_eq_decide.mpr (by omega)
  cases hB:l.contains 35 with
  | true=>
   rw [hB] at hcon
   simp +contextual only [YF,X7,hcs,hit,hcon,h4,ZD,h1,h2,RY,decide_true,Bool.not_true,RR,RU,go_sem,reduceIte,Ra,Rb,Rc,Rd]
  | false=>
   rw [hB] at hcon
   rw [hcmp,hsl]
   generalize Lib.itoa (ZCz l)=d at hit h2 ⊢
   simp only [RX,RN] at *
   cases hS:decide ((4000:Int)<((l.length+(d.length+1):Nat):Int)) with
   | true=>simp +contextual only [YF,X7,hcs,hit,hcon,h4,ZD,h1,h2,hS,gt_iff_lt,Z1,RW,RY,decide_true,Bool.not_true,Bool.not_false,Bool.true_and,RR,RU,go_sem,reduceIte,Ra,Rb,Rc,Rd]
   | false=>simp +contextual only [YF,X7,hcs,hit,hcon,h4,ZD,h1,h2,hS,gt_iff_lt,Z1,RW,RY,decide_true,Bool.not_true,Bool.not_false,Bool.true_and,RR,RU,go_sem,reduceIte,Ra,Rb,Rc,Rd]
 ·rw [if_neg h4] at hcs
  have hit:=fun L=>hi 0 ⟨L,none⟩ (by omega) (by omega)
  have hl:=Zn2 (n:=0) (by omega) (by omega)
  have h2:l.length+1+(Lib.itoa 0).length≤140737488355328:=by omega
  simp +contextual only [YF,X7,hcs,hit,h4,ZD,h1,h2,RY,decide_true,decide_false,RR,RZ,if_false,go_sem,reduceIte,Ra,Rb,Rc,Rd]
theorem ZEU:∀ (u:Nat) (b:UInt8),b∈Lib.decDigits u→48≤b.toNat∧b.toNat≤57:=by
 have one:∀ i:Nat,i<10→48≤(UInt8.ofNat (48+i)).toNat∧(UInt8.ofNat (48+i)).toNat≤57:=by decide +kernel
 intro u
 induction u using Nat.strongRecOn with
 | _ u ih=>
  intro b hb
  rw [Lib.decDigits] at hb
  split at hb
  ·rename_i h
   rw [R3] at hb
   subst hb
   exact one u h
  ·rename_i h
   rcases Wa.mp hb with hb | hb
   ·exact ih (u / 10) (by omega) b hb
   ·rw [R3] at hb
    subst hb
    exact one _ (Nat.mod_lt _ (by omega))
theorem Zfh {n:Int} (hn:0≤n) {b:UInt8} (hb:b∈Lib.itoa n):48≤b.toNat∧b.toNat≤57:=by
 unfold Lib.itoa at hb
 rw [if_neg (by omega)] at hb
 exact ZEU _ _ hb
theorem Zb8 {l:By} {c:UInt8} (h:∀ b∈l,b≠c):l.contains c=false:=by
 cases hc:l.contains c with
 | false=>rfl
 | true=>exact absurd rfl (h c (by simpa using hc))
theorem ZEV {n:Int} (hn:0≤n) {c:UInt8} (hc:c.toNat<48∨57<c.toNat):(Lib.itoa n).contains c=false :=
 Zb8 fun b hb h=>by
  have:=Zfh hn hb
  rw [h] at this
  omega
theorem Zwu {l:By} (h:Za5 (bs l)=true):l.contains 35=false :=
 Zb8 fun b hb h35=>by
  unfold Za5 at h
  rw [Jc,List.all_eq_true] at h
  have:=h b hb
  subst h35
  simp [okB] at this
def Zi2 (c r:By):Bool:=Zmk (bs c) (bs r)
theorem ZcL {c r:By} (h:Zi2 c r=true):1≤c.length∧c.length≤160∧r.length≤250∧Za5 (bs c)=true∧Za5 (bs r)=true∧c.contains 64=false:=by
 unfold Zi2 Zmk at h
 simp only [Rs,decide_eq_true_eq,Z1,RW,Bool.not_eq_true'] at h
 obtain ⟨⟨⟨h1,h2⟩,h3⟩,h4,h5,h6⟩:=h
 refine ⟨by omega,by omega,by omega,h4,h5,?_⟩
 have:=ZET c 64
 rw [←this]
 exact h6
def J0 (k:Int) (c r:By):By:=Lib.itoa k++[32]++c++[64]++r
def J1 (k:Int) (c r:By):By:=Zdw (J0 k c r)++[10]
theorem Zn3 {k:Int} {c r:By} (h0:0≤k) (h1:k≤59):(J0 k c r).length≤c.length+r.length+4:=by
 have:(Lib.itoa k).length≤2:=by
  unfold Lib.itoa
  rw [if_neg (by omega)]
  by_cases h:k.toNat<10
  ·rw [Lib.decDigits_one h];simp
  ·rw [Lib.decDigits_two h (by omega)];simp
 unfold J0
 simp only [RX,RY]
 omega
theorem Zwv {k:Int} {c r:By} (h0:0≤k) (h:Zi2 c r=true):(J0 k c r).contains 35=false:=by
 obtain ⟨_,_,_,h4,h5,_⟩:=ZcL h
 unfold J0
 simp only [Wj,Wa,R3] at *
 have a1:=ZEV (c:=35) h0 (by decide)
 have a2:=Zwu h4
 have a3:=Zwu h5
 simp only [Wj,decide_eq_false_iff_not] at a1 a2 a3 ⊢
 rintro ((((h | h) | h) | h) | h)
 ·exact a1 h
 ·cases h
 ·exact a2 h
 ·cases h
 ·exact a3 h
theorem ZAe {k:Int} {c r:By} (h0:0≤k) (h1:k≤59) (h:Zi2 c r=true):ZCB (J0 k c r)=true:=by
 obtain ⟨_,g2,g3,_,_,_⟩:=ZcL h
 have hb:=Zn3 (c:=c) (r:=r) h0 h1
 have hs:=Zfg (J0 k c r)
 unfold ZCB
 rw [Zwv h0 h,decide_eq_true (by omega),decide_eq_true (by omega)]
 rfl
theorem ZpP {k:Int} {c r:By} (h0:0≤k) (h1:k≤60) (hc:c.length≤1048576) (hr:r.length≤1048576):call T pr Zc0 [.int .i64 k,rcV (bs c) (bs r)] ⟨H,e⟩=some (sV (J1 k c r),⟨H,e⟩):=by
 have hnum:=fun L=>XD (pr:=pr) (H:=L) (e:=none) k (by omega) (by omega)
 have hil:=Zn2 (n:=k) (by omega) (by omega)
 have hbl:(J0 k c r).length=(Lib.itoa k).length+1+c.length+1+r.length:=by unfold J0;simp;omega
 have hseal:=fun L=>ZCA (pr:=pr) (H:=L) (e:=none) (J0 k c r) (by omega)
 have hsl:=Zfg (J0 k c r)
 have g1:(Lib.itoa k).length+1≤140737488355328:=by omega
 have g2:(Lib.itoa k).length+1+c.length≤140737488355328:=by omega
 have g3:(Lib.itoa k).length+1+c.length+1≤140737488355328:=by omega
 have g4:(Lib.itoa k).length+1+c.length+1+r.length≤140737488355328:=by omega
 have g5:(Zdw (J0 k c r)).length+1≤140737488355328:=by omega
 have hbd:J0 k c r=Lib.itoa k++(32::(c++(64::r))):=by unfold J0;simp
 rw [hbd] at hseal g5
 rw [Zh Zx0]
 unfold J1
 rw [hbd]
 generalize Lib.itoa k=d at *
 simp only [RD,Nat.reduceAdd] at g1 g2 g3 g4 g5
 simp +contextual only [Zf8,ZoR,hnum,hseal,ZD,g1,g2,g3,g4,g5,RX,RN,Wk,RD,Z1,RW,go_sem,reduceIte,Ra,Rb,Rc,Rd]
 rw [if_pos (by omega),if_pos (by omega)]
def Zrb (k:Int) (c r:By):Bool:=(decide (0≤k)&&decide (k≤59))&&Zi2 c r
theorem Zg2 (hi:Ko pr) (hp:YW pr) {c r:By} (hc:c.length≤1048576) (hr:r.length≤1048576) (k:Int):call T pr J2 [.int .i64 k,rcV (bs c) (bs r)] ⟨H,e⟩ =
  some (if Zrb k c r=true then .tup [sV (J1 k c r),.bool true] else .tup [sV [],.bool false],⟨H,e⟩):=by
 have hv:=fun L=>Zbv (pr:=pr) (H:=L) (e:=none) (s:=bs c) (t:=bs r) hp (by rw [Jc];omega) (by rw [Jc];omega)
 rw [Zh Znv]
 unfold Zrb Zi2
 cases hk:(decide (0≤k)&&decide (k≤59)) with
 | false=>simp +contextual only [XS,QU,Yd,hk,RR,RZ,if_false,go_sem,reduceIte,Ra,Rb,Rc,Rd]
 | true=>
  simp only [Rs,decide_eq_true_eq] at hk
  have hk':(decide (0≤k)&&decide (k≤59))=true:=by simp [hk]
  cases hr':Zmk (bs c) (bs r) with
  | false=>
   rw [hr'] at hv
   simp +contextual only [XS,QU,Yd,hk',hv,RU,RZ,if_false,go_sem,reduceIte,Ra,Rb,Rc,Rd]
  | true=>
   rw [hr'] at hv
   have hit:=fun L=>hi k ⟨L,none⟩ (by omega) (by omega)
   have hbl:(J0 k c r).length=(Lib.itoa k).length+1+c.length+1+r.length:=by unfold J0;simp;omega
   have hil:=Zn2 (n:=k) (by omega) (by omega)
   have hack:=fun L=>Zep (pr:=pr) (H:=L) (e:=none) hi hp (J0 k c r) (by omega)
   rw [if_pos (ZAe hk.1 hk.2 hr')] at hack
   have hsl:=Zfg (J0 k c r)
   have g1:(Lib.itoa k).length+1≤140737488355328:=by omega
   have g2:(Lib.itoa k).length+1+c.length≤140737488355328:=by omega
   have g3:(Lib.itoa k).length+1+c.length+1≤140737488355328:=by omega
   have g4:(Lib.itoa k).length+1+c.length+1+r.length≤140737488355328:=by omega
   have g5:(Zdw (J0 k c r)).length+1≤140737488355328:=by omega
   have hbd:J0 k c r=Lib.itoa k++(32::(c++(64::r))):=by unfold J0;simp
   rw [hbd] at hack g5
   unfold J1
   rw [hbd]
   generalize Lib.itoa k=d at *
   simp only [RD,Nat.reduceAdd] at g1 g2 g3 g4 g5
   simp +contextual only [XS,QU,Yd,hk',hv,hit,hack,ZD,g1,g2,g3,g4,g5,RX,RN,Wk,RD,Bool.true_and,Z1,RW,go_sem,reduceIte,Ra,Rb,Rc,Rd]
   rw [if_pos (by omega),if_pos (by omega)]
theorem ZgH {s t:ByteArray} (hs:s.data.toList.length≤9223372036854775806) (ht:t.data.toList.length≤9223372036854775806):call T pr KS [rcV s t] ⟨H,e⟩=some (.bool (Zmk s t),⟨H,e⟩):=by
 rw [Zh ZsM]
 unfold Zmk
 have hn:=ZGG s
 cases h1:decide ((1:Int)≤(s.size:Int)) with
 | false=>
  rw [h1] at hn
  have hn':decide (s=⟨#[]⟩)=true:=by simpa using hn
  simp +contextual only [X2,KX,hn',h1,go_sem,reduceIte,Ra,Rb,Rc,Rd]
 | true=>
  rw [h1] at hn
  have hn':decide (s=⟨#[]⟩)=false:=by simpa using hn
  cases h3:Za5 s with
  | false=>simp +contextual only [X2,KX,hn',h1,Zb7 hs,h3,RU,go_sem,reduceIte,Ra,Rb,Rc,Rd]
  | true=>
   cases h5:decide ((s.size:Int)≤160) with
   | false=>simp +contextual only [X2,KX,hn',h1,Zb7 hs,h3,h5,RU,go_sem,reduceIte,Ra,Rb,Rc,Rd]
   | true=>
    cases h6:ZHX s 64 with
    | true=>simp +contextual only [X2,KX,hn',h1,Zb7 hs,Zng hs,h3,h5,h6,RU,go_sem,reduceIte,Ra,Rb,Rc,Rd]
    | false=>
     cases h4:Za5 t <;> cases h2:decide ((t.size:Int)≤250) <;> simp +contextual only [X2,KX,hn',h1,Zb7 hs,Zb7 ht,Zng hs,h2,h3,h4,h5,h6,RU,go_sem,reduceIte,Ra,Rb,Rc,Rd]
theorem Zdx {G:List Blk} {j n sz bytes:Nat} {cs new:List AV} {cap c:Option Nat} {w:Bool} (hG:G[j]?=some (.cells cs true)) (hcap:cap=some 0→n=0) (hcs:cs.length=n*sz) (hnew:new.length=sz) (hmb:(n+1)*bytes≤maxBytes) :
  Zaa (H++(G++[.cells new w])) e false sz bytes (.slice (some (H.length+j,0)) sz n cap) (.slice (some (H.length+G.length,0)) sz 1 c) =
   some (.slice (some (H.length+(G.length+1),0)) sz (n+1) none,⟨H++(Zcl cap j (G++[.cells new w])++[.cells (cs++new) true]),e⟩):=by
 have hj:=(Wl.mp hG).1
 have hg:(G++[Blk.cells new w])[j]?=some (.cells cs true):=by rw [Ws hj];exact hG
 have hs:Y7 false (H++(G++[.cells new w])) (.slice (some (H.length+G.length,0)) sz 1 c)=some (1,new):=by
  have:Zb (H++(G++[Blk.cells new w])) (H.length+G.length)=some new:=by
   rw [KL,Zna];rfl
  exact Zek _ 1 sz c new _ this (by rw [hnew,Nat.one_mul])
 have:=Zv0 (e:=e) (str:=false) (bytes:=bytes) hg hs (by omega) hcs (by rw [hnew,Nat.one_mul]) hmb hcap
 rw [RX,RY] at this
 exact this
theorem Zmv {cap:Option Nat} {j k:Nat} {G:List Blk} (h:k≠j):(Zcl cap j G)[k]?=G[k]?:=by
 unfold Zcl
 split
 ·rfl
 ·rw [List.getElem?_set_ne (fun e=>h e.symm)]
theorem ZgI {cap:Option Nat} {j:Nat} {G:List Blk} {b:Blk} {n:Nat} (hn:n=G.length):(Zcl cap j G++[b])[n]?=some b:=by
 rw [List.getElem?_append_right (by rw [YH];omega),YH]
 simp [hn]
def ZX (c:UInt8):By→List By
 | []=>[[]]
 | b::l=>if b=c then []::ZX c l else match ZX c l with
  | []=>[[b]]
  | x::xs=>(b::x)::xs
theorem ZhS (c:UInt8):∀ l:By,ZX c l≠[]
 | []=>by simp [ZX]
 | b::l=>by
  rw [ZX]
  split
  ·simp
  ·split <;> simp
theorem ZhT {c:UInt8}:∀ {l:By},(∀ b∈l,b≠c)→ZX c l=[l]
 | [],_=>rfl
 | b::l,h=>by
  rw [ZX,if_neg (h b (by simp)),ZhT (fun x hx=>h x (by simp [hx]))]
theorem Zlp {c:UInt8} (q:By):∀ {p:By},(∀ b∈p,b≠c)→ZX c (p++c::q)=p::ZX c q
 | [],_=>by rw [List.nil_append,ZX,if_pos rfl]
 | b::p,h=>by
  rw [Rp,ZX,if_neg (h b (by simp)),Zlp q (fun x hx=>h x (by simp [hx]))]
theorem ZpQ (c:UInt8):∀ (l:By) (b:UInt8),b∈Y4 l c→b≠c
 | [],b,h=>by simp [Y4] at h
 | x::l,b,h=>by
  unfold Y4 at h
  rw [List.takeWhile_cons] at h
  split at h
  ·rename_i hx
   rcases R6.mp h with rfl | h
   ·simpa using hx
   ·exact ZpQ c l b h
  ·cases h
theorem Zfi (c:UInt8):∀ (l:By),l.contains c=true→l=Y4 l c++c::Zg1 l c
 | [],h=>by simp at h
 | x::l,h=>by
  unfold Y4 Zg1
  rw [List.takeWhile_cons,List.dropWhile_cons]
  by_cases hx:x=c
  ·subst hx
   simp
  ·have h2:(x != c)=true:=by simpa using hx
   have h3:l.contains c=true:=by
    rw [List.contains_cons] at h
    have:(c==x)=false:=by simpa using fun e=>hx e.symm
    rw [this,Bool.false_or] at h
    exact h
   have ih:=Zfi c l h3
   unfold Y4 Zg1 at ih
   rw [h2]
   simp only [if_true,Rp]
   rw [←ih]
theorem ZCC (c:UInt8) (l:By):∃ xs,ZX c l=Y4 l c::xs∧(xs=[]↔l.contains c=false):=by
 cases hc:l.contains c with
 | false=>
  have hno:∀ b∈l,b≠c:=by
   rintro b hb rfl
   rw [Wj,decide_eq_false_iff_not] at hc
   exact hc hb
  have hA:Y4 l c=l:=by
   rcases Zdv l c with ⟨_,_,e,_⟩|⟨i,_,_,e,_,_⟩
   ·exact e
   ·rw [hc] at e;cases e
  exact ⟨[],by rw [ZhT hno,hA],by simp⟩
 | true=>
  refine ⟨ZX c (Zg1 l c),?_,?_⟩
  ·have:=Zlp (Zg1 l c) (ZpQ c l)
   rw [←Zfi c l hc] at this
   exact this
  ·constructor
   ·intro h;exact absurd h (ZhS c _)
   ·intro h;cases h
theorem ZiO (c:UInt8):∀ l:By,(ZX c l).length≤l.length+1
 | []=>by simp [ZX]
 | b::l=>by
  have ih:=ZiO c l
  rw [ZX]
  split
  ·simp;omega
  ·split
   ·simp
   ·rename_i h
    rw [h] at ih
    simp at ih ⊢
    omega
def Zcd (xs:List By):List AV:=xs.map sV
theorem ZgJ (xs:List By):(Zcd xs).length=xs.length:=List.length_map _
theorem ZgK (a b:List By):Zcd (a++b)=Zcd a++Zcd b:=List.map_append
theorem ZCD (n:Nat) (xs:List By):((Zcd xs).all fun c=>c.under n)=true:=by
 unfold Zcd
 simp [AV.under]
abbrev slX (b n:Nat) (c:Option Nat):AV:=.slice (some (b,0)) 1 n c
theorem ZJe (a b:UInt8):decide ((a.toNat:Int)=(b.toNat:Int))=decide (a=b):=decide_eq_decide.mpr ⟨fun h=>UInt8.toNat_inj.mp (by omega),fun h=>by rw [h]⟩
theorem ZpR (l:By) (c:UInt8) (hn:l.length≤1073741824):call T pr XA [sV l,.int .u8 c.toNat] ⟨H,e⟩=some (slX H.length (ZX c l).length none,⟨H++[.cells (Zcd (ZX c l)) true],e⟩):=by
 apply Wc.eq
 rw [Zr ZxM]
 simp +contextual only [Zf1,ZoG,Zc,pp,go_sem,reduceIte,Ra,Rb,Rc,Rd]
 refine ZL (fun k st=>∃ (i f j:Nat) (xs:List By) (cap:Option Nat) (G:List Blk) (y2 y6 y7:AV),k+i=l.length∧f≤i∧xs.length≤i∧xs++ZX c (l.drop f)=ZX c l∧(∀ b∈(l.take i).drop f,b≠c)∧G[j]?=some (.cells (Zcd xs) true)∧(cap=some 0→xs.length=0) ∧
  st=⟨[sV l,.int .u8 c.toNat,y2,slX (H.length+j) xs.length cap,.int .i64 f,.int .i64 i,y6,y7],⟨H++G,none⟩⟩) ?_ l.length _
  ⟨0,0,0,[],some 0,[.cells [] true],_,_,_,by omega,by omega,by simp,rfl,by simp,rfl,fun _=>rfl,rfl⟩
 rintro k _ ⟨i,f,j,xs,cap,G,y2,y6,y7,hk,hf,hxl,hs,hno,hG,hcap,rfl⟩
 have hmb:∀ n,n≤1073741824→(n+1)*16≤maxBytes:=by intro n hn;unfold maxBytes;omega
 by_cases hi:i<l.length
 ·have hl:l[i]?=some l[i]:=Rj hi
  have hile:i≤l.length:=by omega
  have happ:=fun e'=>Zdx (H:=H) (e:=e') (G:=G) (j:=j) (n:=xs.length) (sz:=1) (bytes:=16) (cs:=Zcd xs) (new:=[sV ((l.take i).drop f)]) (cap:=cap) (c:=some 1) (w:=true) hG hcap (by rw [ZgJ,R8]) rfl (hmb _ (by omega))
  have hb8:=ZJe l[i] c
  cases hc:decide (l[i]=c) with
  | true=>
   rw [hc] at hb8
   have hc':l[i]=c:=of_decide_eq_true hc
   simp +contextual only [Zcw,Zc,hi,Z1,RW,Zsj hl,hb8,ZpO,Zzo,hf,hile,happ,Zi (show i<9223372036854775807 by omega),decide_true,pp,go_sem,reduceIte,Ra,Rb,Rc,Rd]
   have hsc:Zcd xs++[sV ((l.take i).drop f)]=Zcd (xs++[(l.take i).drop f]):=by rw [ZgK];rfl
   have hlen:xs.length+1=(xs++[(l.take i).drop f]).length:=by simp
   rw [hsc,hlen]
   refine ⟨k - 1,by omega,i+1,i+1,G.length+1,xs++[(l.take i).drop f],none,Zcl cap j (G++[.cells [sV ((l.take i).drop f)] true])++[.cells (Zcd (xs++[(l.take i).drop f])) true],_,_,_,by omega,by omega,by simp;omega,?_,?_,ZgI (by rw [RX];rfl),(fun h=>by cases h),rfl⟩
   ·rw [←hs,Rk]
    congr 1
    have hd:l.drop f=(l.take i).drop f++c::l.drop (i+1):=by
     rw [←hc',←List.drop_eq_getElem_cons hi]
     rw [show l.drop i=(l.drop f).drop (i - f) by rw [Wf];congr 1;omega]
     rw [List.drop_take,List.take_append_drop]
    rw [hd,Zlp _ hno]
    rfl
   ·intro b hb
    rw [List.drop_eq_nil_of_le (by rw [Wm];omega)] at hb
    cases hb
  | false=>
   rw [hc] at hb8
   have hc':l[i]≠c:=of_decide_eq_false hc
   simp +contextual only [Zcw,Zc,hi,Z1,RW,Zsj hl,hb8,Zi (show i<9223372036854775807 by omega),decide_true,pp,go_sem,reduceIte,Ra,Rb,Rc,Rd]
   refine ⟨k - 1,by omega,i+1,f,j,xs,cap,G,_,_,_,by omega,by omega,by omega,hs,?_,hG,hcap,rfl⟩
   intro b hb
   rw [List.take_add_one,hl,List.drop_append_of_le_length (by simp;omega)] at hb
   rcases Wa.mp hb with hb | hb
   ·exact hno b hb
   ·simp at hb
    rw [hb];exact hc'
 ·obtain rfl:i=l.length:=by omega
  rw [Wi] at hno
  have hfin:ZX c l=xs++[l.drop f]:=by rw [←hs,ZhT hno]
  have happ:=fun e'=>Zdx (H:=H) (e:=e') (G:=G) (j:=j) (n:=xs.length) (sz:=1) (bytes:=16) (cs:=Zcd xs) (new:=[sV (l.drop f)]) (cap:=cap) (c:=some 1) (w:=true) hG hcap (by rw [ZgJ,R8]) rfl (hmb _ (by omega))
  have hlast:∀ b,(Zcl cap j (G++[.cells [sV (l.drop f)] true])++[b])[G.length+1]?=some b:=fun b=>ZgI (by rw [RX];rfl)
  rw [hfin]
  have hsc:Zcd xs++[sV (l.drop f)]=Zcd (xs++[l.drop f]):=by rw [ZgK];rfl
  simp +contextual only [Zcw,Zc,hi,Z1,RW,ZaT,ZhQ,hf,happ,hlast,hsc,ZCD,decide_false,pp,ff,go_sem,reduceIte,Ra,Rb,Rc,Rd]
theorem ZpS {p q:By} {c:UInt8} (h:p.contains c=false):Y4 (p++c::q) c=p∧Zg1 (p++c::q) c=q:=by
 have hno:∀ b∈p,(b != c)=true:=by
  intro b hb
  rw [Wj,decide_eq_false_iff_not] at h
  have:b≠c:=fun e=>h (e ▸ hb)
  simpa using this
 unfold Y4 Zg1
 constructor
 ·rw [List.takeWhile_append_of_pos hno]
  simp
 ·rw [List.dropWhile_append_of_pos hno]
  simp
theorem Zeq (l:By) (c:UInt8):(Y4 l c).length≤l.length:=by
 rcases Zdv l c with ⟨_,_,e,_⟩|⟨i,_,h,_,e,_⟩ <;> rw [e]
 ·exact Nat.le_refl _
 ·rw [Wm];omega
theorem ZtL (l:By) (c:UInt8):(Zg1 l c).length≤l.length:=by
 rcases Zdv l c with ⟨_,_,_,e⟩|⟨i,_,h,_,_,e⟩ <;> rw [e]
 ·simp
 ·rw [R7];omega
theorem Zww {l:By} {c:UInt8} (h:l.contains c=true):Zg1 l c=l.drop ((Y4 l c).length+1)∧(Y4 l c).length+1≤l.length:=by
 rcases Zdv l c with ⟨_,e,_,_⟩|⟨i,_,hi,_,ea,eb⟩
 ·rw [e] at h;cases h
 ·rw [eb,ea,Wm,Nat.min_eq_left (by omega)]
  exact ⟨rfl,by omega⟩
def Yi (k:Int) (l:By):By:=(Y4 l 35).drop ((Lib.itoa k).length+1)
def Zwx (k:Int) (l:By):Option (By×By) :=
 if Zi2 (Y4 (Yi k l) 64) (Zg1 (Yi k l) 64)=true∧J1 k (Y4 (Yi k l) 64) (Zg1 (Yi k l) 64)=l++[10] then some (Y4 (Yi k l) 64,Zg1 (Yi k l) 64) else none
theorem ZEW {k:Int} (h0:0≤k):(Lib.itoa k).contains 32=false:=ZEV h0 (by decide)
theorem Zmw {k:Int} {c r l:By} (h0:0≤k) (h1:k≤59) (hv:Zi2 c r=true) (hl:J1 k c r=l++[10]) :
  l=Zdw (J0 k c r)∧Y4 l 35=J0 k c r∧Yi k l=c++64::r∧Zg1 (J0 k c r) 32=c++64::r∧Y4 (c++64::r) 64=c∧Zg1 (c++64::r) 64=r:=by
 have e1:l=Zdw (J0 k c r):=by
  unfold J1 at hl
  exact (List.append_inj' hl rfl).1.symm
 have e2:Y4 l 35=J0 k c r:=by
  rw [e1]
  unfold Zdw
  rw [Rk]
  exact (ZpS (Zwv h0 hv)).1
 have hb:J0 k c r=Lib.itoa k++32::(c++64::r):=by unfold J0;simp
 have e3:Yi k l=c++64::r:=by
  unfold Yi
  rw [e2,hb]
  have:Lib.itoa k++32::(c++64::r)=(Lib.itoa k++[32])++(c++64::r):=by simp
  rw [this,List.drop_left' (by simp)]
 have h64:=(ZcL hv).2.2.2.2.2
 refine ⟨e1,e2,e3,?_,(ZpS h64).1,(ZpS h64).2⟩
 rw [hb]
 exact (ZpS (ZEW h0)).2
theorem ZgL {k:Int} {l:By} (h0:0≤k) (h1:k≤59) {c r:By}:Zwx k l=some (c,r)↔Zi2 c r=true∧J1 k c r=l++[10]:=by
 unfold Zwx
 constructor
 ·intro h
  split at h
  ·rename_i hc
   cases h
   exact hc
  ·cases h
 ·rintro ⟨hv,hl⟩
  obtain ⟨_,_,e3,_,e5,e6⟩:=Zmw h0 h1 hv hl
  rw [e3,e5,e6,if_pos ⟨hv,hl⟩]
def ZpT (l:By):Option By:=if ZCB (Y4 l 35)=true∧Zdw (Y4 l 35)=l then some (Y4 l 35) else none
def iC (l:By):By:=Y4 (Zg1 ((ZpT l).getD []) 32) 64
def iR (l:By):By:=Zg1 (Zg1 ((ZpT l).getD []) 32) 64
theorem ZJf (l:By):(iC l).length≤l.length∧(iR l).length≤l.length:=by
 have h:((ZpT l).getD []).length≤l.length:=by
  unfold ZpT
  split
  ·exact Zeq l 35
  ·simp
 have h2:=ZtL ((ZpT l).getD []) 32
 have h3:=Zeq (Zg1 ((ZpT l).getD []) 32) 64
 have h4:=ZtL (Zg1 ((ZpT l).getD []) 32) 64
 unfold iC iR
 omega
theorem ZJg {k:Int} {l c r:By} (h0:0≤k) (h1:k≤59) (h:Zwx k l=some (c,r)):(ZpT l).isSome=true∧iC l=c∧iR l=r:=by
 obtain ⟨hv,hl⟩:=(ZgL h0 h1).mp h
 obtain ⟨e1,e2,e3,e4,e5,e6⟩:=Zmw h0 h1 hv hl
 have hver:ZpT l=some (J0 k c r):=by
  unfold ZpT
  rw [e2,if_pos ⟨ZAe h0 h1 hv,e1.symm⟩]
 unfold iC iR
 rw [hver]
 simp only [Option.getD_some,e4,e5,e6,Wn,and_self]
theorem ZGK {k:Int} {l:By} (h0:0≤k) (h1:k≤59):((ZpT l).isSome&&(Zrb k (iC l) (iR l)&&decide (J1 k (iC l) (iR l)=l++[10])))=(Zwx k l).isSome:=by
 cases hd:Zwx k l with
 | some p=>
  obtain ⟨c,r⟩:=p
  obtain ⟨g1,g2,g3⟩:=ZJg h0 h1 hd
  obtain ⟨hv,hl⟩:=(ZgL h0 h1).mp hd
  rw [g1,g2,g3]
  simp [Zrb,h0,h1,hv,hl]
 | none=>
  cases hx:((ZpT l).isSome&&(Zrb k (iC l) (iR l)&&decide (J1 k (iC l) (iR l)=l++[10]))) with
  | false=>rfl
  | true=>
   simp only [Rs,decide_eq_true_eq,Zrb] at hx
   have:=(ZgL h0 h1).mpr ⟨hx.2.1.2,hx.2.2⟩
   rw [hd] at this
   cases this
theorem Zlq (hi:Ko pr) (hc:YW pr) (hx:QW pr) (l:By) (hn:l.length≤1048576):call T pr Kq [sV l] ⟨H,e⟩=some (.tup [sV ((ZpT l).getD []),.bool (ZpT l).isSome],⟨H,e⟩):=by
 have hcut:=fun L=>ZcK (pr:=pr) (H:=L) (e:=none) hx l 35 (by omega)
 have hA:=Zeq l 35
 have hack:=fun L=>Zep (pr:=pr) (H:=L) (e:=none) hi hc (Y4 l 35) (by omega)
 rw [Zh Zk1]
 unfold ZpT
 cases ha:ZCB (Y4 l 35) with
 | false=>
  simp only [ha,RZ,if_false] at hack
  simp +contextual only [Y8,Kt,hcut,hack,false_and,if_false,Option.getD_none,Wg,go_sem,reduceIte,Ra,Rb,Rc,Rd]
 | true=>
  simp only [ha,if_true] at hack
  have hbd:=Zff (Zdw (Y4 l 35)) l
  cases hd:decide (Zdw (Y4 l 35)=l) with
  | false=>
   rw [hd] at hbd
   have hd':=of_decide_eq_false hd
   simp +contextual only [Y8,Kt,hcut,hack,hbd,hd',and_false,if_false,Option.getD_none,Wg,go_sem,reduceIte,Ra,Rb,Rc,Rd]
  | true=>
   rw [hd] at hbd
   rw [if_pos ⟨rfl,of_decide_eq_true hd⟩]
   simp +contextual only [Y8,Kt,hcut,hack,hbd,Option.getD_some,Wn,go_sem,reduceIte,Ra,Rb,Rc,Rd]
theorem ZCE (hi:Ko pr) (hc:YW pr) (hx:QW pr) {k:Int} (h0:0≤k) (h1:k≤59) (l:By) (hn:l.length≤1048576):call T pr Zin [.int .i64 k,sV l] ⟨H,e⟩=some (.tup [rcV (bs (iC l)) (bs (iR l)),.bool (Zwx k l).isSome],⟨H,e⟩):=by
 have hver:=fun L=>Zlq (pr:=pr) (H:=L) (e:=none) hi hc hx l hn
 have hvl:((ZpT l).getD []).length≤l.length:=by
  unfold ZpT
  split
  ·exact Zeq l 35
  ·simp
 have hcut1:=fun L=>ZcK (pr:=pr) (H:=L) (e:=none) hx ((ZpT l).getD []) 32 (by omega)
 have hB:=ZtL ((ZpT l).getD []) 32
 have hcut2:=fun L=>ZcK (pr:=pr) (H:=L) (e:=none) hx (Zg1 ((ZpT l).getD []) 32) 64 (by omega)
 have hcr:=ZJf l
 have henc:=fun L=>Zg2 (pr:=pr) (H:=L) (e:=none) hi hc (c:=iC l) (r:=iR l) (by omega) (by omega) k
 have hok:=ZGK (l:=l) h0 h1
 have hll:l.length+1≤140737488355328:=by omega
 have hbd:=Zff (J1 k (iC l) (iR l)) (l++[10])
 rw [Zh ZBh,←hok]
 have eC:Y4 (Zg1 ((ZpT l).getD []) 32) 64=iC l:=rfl
 have eR:Zg1 (Zg1 ((ZpT l).getD []) 32) 64=iR l:=rfl
 rw [eC,eR] at hcut2
 generalize iC l=c at *
 generalize iR l=r at *
 cases hv:(ZpT l).isSome with
 | false=>
  rw [hv] at hver
  cases ho:Zrb k c r with
  | false=>
   simp only [ho,RZ,if_false] at henc
   simp +contextual only [Zbo,Ze3,Zc,hver,hcut1,hcut2,henc,go_sem,reduceIte,Ra,Rb,Rc,Rd]
  | true=>
   simp only [ho,if_true] at henc
   simp +contextual only [Zbo,Ze3,Zc,hver,hcut1,hcut2,henc,go_sem,reduceIte,Ra,Rb,Rc,Rd]
 | true=>
  rw [hv] at hver
  cases ho:Zrb k c r with
  | false=>
   simp only [ho,RZ,if_false] at henc
   simp +contextual only [Zbo,Ze3,Zc,hver,hcut1,hcut2,henc,go_sem,reduceIte,Ra,Rb,Rc,Rd]
  | true=>
   simp only [ho,if_true] at henc
   simp +contextual only [Zbo,Ze3,Zc,hver,hcut1,hcut2,henc,ZD,hll,RY,hbd,go_sem,reduceIte,Ra,Rb,Rc,Rd]
def ZhU (k:Int) (l:By):Prop:=¬ (Y4 l 35).length<(Lib.itoa k++[32]).length∧(Y4 l 35).take (Lib.itoa k++[32]).length=Lib.itoa k++[32]
instance (k:Int) (l:By):Decidable (ZhU k l):=by unfold ZhU;infer_instance
def ZnI (k:Int) (l:By):By×By :=
 if ZhU k l∧(Y4 (Yi k l) 64).length≠(Yi k l).length then (Y4 (Yi k l) 64,(Yi k l).drop ((Y4 (Yi k l) 64).length+1)) else ([],[])
theorem Znl (l:By) (c:UInt8):(Y4 l c).length=l.length↔l.contains c=false:=by
 rcases Zdv l c with ⟨_,e2,e3,_⟩|⟨i,_,hi,e2,e3,_⟩
 ·rw [e2,e3];simp
 ·rw [e2,e3,Wm]
  simp
  omega
theorem ZJh {k:Int} {l c r:By} (h0:0≤k) (h1:k≤59) (h:Zwx k l=some (c,r)):ZhU k l∧(Y4 (Yi k l) 64).length≠(Yi k l).length∧ZnI k l=(c,r):=by
 obtain ⟨hv,hl⟩:=(ZgL h0 h1).mp h
 obtain ⟨e1,e2,e3,e4,e5,e6⟩:=Zmw h0 h1 hv hl
 have hb:J0 k c r=(Lib.itoa k++[32])++(c++64::r):=by unfold J0;simp
 have ha:ZhU k l:=by
  unfold ZhU
  rw [e2,hb]
  refine ⟨by rw [RX];omega,?_⟩
  rw [List.take_left']
  rfl
 have hc:(Y4 (Yi k l) 64).length≠(Yi k l).length:=by
  rw [e3]
  intro hh
  have:=(Znl _ _).mp hh
  simp at this
 refine ⟨ha,hc,?_⟩
 unfold ZnI
 rw [if_pos ⟨ha,hc⟩,e3,e5]
 have:(c++64::r).drop (c.length+1)=r:=by
  rw [show c++64::r=(c++[64])++r by simp,List.drop_left' (by simp)]
 rw [this]
theorem ZGL {k:Int} {l:By} (h0:0≤k) (h1:k≤59) (ha:ZhU k l) (hne:(Y4 (Yi k l) 64).length≠(Yi k l).length) :
  (Zi2 (Y4 (Yi k l) 64) ((Yi k l).drop ((Y4 (Yi k l) 64).length+1))&&decide (J1 k (Y4 (Yi k l) 64) ((Yi k l).drop ((Y4 (Yi k l) 64).length+1))=l++[10]))=(Zwx k l).isSome:=by
 have h64:(Yi k l).contains 64=true:=by
  cases h:(Yi k l).contains 64 with
  | true=>rfl
  | false=>exact absurd ((Znl _ _).mpr h) hne
 rw [←(Zww h64).1]
 unfold Zwx
 by_cases hc:Zi2 (Y4 (Yi k l) 64) (Zg1 (Yi k l) 64)=true∧J1 k (Y4 (Yi k l) 64) (Zg1 (Yi k l) 64)=l++[10]
 ·rw [if_pos hc,hc.1,decide_eq_true hc.2];rfl
 ·rw [if_neg hc]
  cases hx:(Zi2 (Y4 (Yi k l) 64) (Zg1 (Yi k l) 64)&&decide (J1 k (Y4 (Yi k l) 64) (Zg1 (Yi k l) 64)=l++[10])) with
  | false=>rfl
  | true=>exact absurd (by simpa using hx) hc
theorem ZtM {k:Int} {l:By} (h0:0≤k) (h1:k≤59) (h:¬ (ZhU k l∧(Y4 (Yi k l) 64).length≠(Yi k l).length)):Zwx k l=none:=by
 cases hd:Zwx k l with
 | none=>rfl
 | some p=>
  obtain ⟨c,r⟩:=p
  obtain ⟨g1,g2,_⟩:=ZJh h0 h1 hd
  exact absurd ⟨g1,g2⟩ h
theorem Zmx (l:By) (c:UInt8) (hn:l.length≤1073741824):∃ xs:List By,(xs=[]↔l.contains c=false)∧xs.length≤l.length∧∀ (L:List Blk) (e':Option Nat),call T pr XA [sV l,.int .u8 c.toNat] ⟨L,e'⟩=some (slX L.length (xs.length+1) none,⟨L++[.cells (sV (Y4 l c)::Zcd xs) true],e'⟩):=by
 obtain ⟨xs,h1,h2⟩:=ZCC c l
 have h3:=ZiO c l
 rw [h1,RN] at h3
 refine ⟨xs,h2,by omega,fun L e' => ?_⟩
 rw [ZpR l c hn,h1]
 rfl
theorem ZtN {k:Int} (h0:0≤k) (h1:k≤59) (l:By) (hn:l.length≤1048576):call T pr Zcr [sV l,.int .i64 k] ⟨H,e⟩=some (.tup [rcV (bs (ZnI k l).1) (bs (ZnI k l).2),.bool (Zwx k l).isSome],⟨H,e⟩):=by
 have hnum:=fun L=>XD (pr:=pr) (H:=L) (e:=none) k (by omega) (by omega)
 have hil:=Zn2 (n:=k) (by omega) (by omega)
 have g1:(Lib.itoa k).length+1≤140737488355328:=by omega
 obtain ⟨xs,_,hxl,hsp⟩:=Zmx (pr:=pr) l 35 (by omega)
 have hsp35:∀ (L:List Blk) (e':Option Nat),call T pr XA [sV l,.int .u8 35] ⟨L,e'⟩=some (slX L.length (xs.length+1) none,⟨L++[.cells (sV (Y4 l 35)::Zcd xs) true],e'⟩):=hsp
 have hA:=Zeq l 35
 have hpos:∀ n:Nat,(0:Int)<((n+1:Nat):Int):=fun n=>by omega
 rw [Zh ZsO]
 have hlt:decide (((Y4 l 35).length:Int)<((Lib.itoa k++[32]).length:Int))=decide ((Y4 l 35).length<(Lib.itoa k++[32]).length):=decide_eq_decide.mpr (by omega)
 have hal:(Lib.itoa k++[32]).length=(Lib.itoa k).length+1:=by simp
 by_cases ha1:(Y4 l 35).length<(Lib.itoa k++[32]).length
 ·have hno:¬ ZhU k l:=fun h=>h.1 ha1
  have hd:=ZtM h0 h1 (fun h=>hno h.1)
  have hs:ZnI k l=([],[]):=by unfold ZnI;rw [if_neg (fun h=>hno h.1)]
  rw [hd,hs]
  have hlt':decide ((Y4 l 35).length<(Lib.itoa k).length+1)=true:=decide_eq_true (by omega)
  simp +contextual only [JU,ZaH,Zc,hnum,ZD,g1,hsp35,hlt',hpos,Z1,RW,R9,RH,RJ,decide_true,Wg,go_sem,reduceIte,Ra,Rb,Rc,Rd]
 ·have hlt':decide ((Y4 l 35).length<(Lib.itoa k).length+1)=false:=decide_eq_false (by omega)
  have hle1:(Lib.itoa k).length+1≤(Y4 l 35).length:=by omega
  by_cases ha2:(Y4 l 35).take (Lib.itoa k++[32]).length=Lib.itoa k++[32]
  ·have hah:ZhU k l:=⟨ha1,ha2⟩
   rw [hal] at ha2
   have hbd:decide (bs ((Y4 l 35).take ((Lib.itoa k).length+1))=bs (Lib.itoa k++[32]))=true:=by rw [Zff];exact decide_eq_true ha2
   have hrl:(Yi k l).length≤l.length:=by unfold Yi;rw [R7];omega
   obtain ⟨ys,hy1,hyl,hspy⟩:=Zmx (pr:=pr) (Yi k l) 64 (by omega)
   have hsp64:∀ (L:List Blk) (e':Option Nat),call T pr XA [sV (Yi k l),.int .u8 64] ⟨L,e'⟩=some (slX L.length (ys.length+1) none,⟨L++[.cells (sV (Y4 (Yi k l) 64)::Zcd ys) true],e'⟩):=hspy
   have hrd:(Y4 l 35).drop ((Lib.itoa k).length+1)=Yi k l:=rfl
   have hB:=Zeq (Yi k l) 64
   by_cases hne:(Y4 (Yi k l) 64).length=(Yi k l).length
   ·have hd:=ZtM h0 h1 (fun h=>h.2 hne)
    have hs:ZnI k l=([],[]):=by unfold ZnI;rw [if_neg (fun h=>h.2 hne)]
    rw [hd,hs]
    have heq:decide (((Y4 (Yi k l) 64).length:Int)=((Yi k l).length:Int))=true:=decide_eq_true (by omega)
    simp +contextual only [JU,ZaH,Zc,hnum,ZD,g1,hsp35,hsp64,hlt',hle1,hpos,hbd,hrd,heq,Zn1,ZaT,ZAb,ZhQ,Z1,RW,R9,RH,RJ,decide_true,Wg,RD,go_sem,reduceIte,Ra,Rb,Rc,Rd]
   ·have hs:ZnI k l=(Y4 (Yi k l) 64,(Yi k l).drop ((Y4 (Yi k l) 64).length+1)):=by unfold ZnI;rw [if_pos ⟨hah,hne⟩]
    have hok:=ZGL h0 h1 hah hne
    rw [hs,←hok]
    have heq:decide (((Y4 (Yi k l) 64).length:Int)=((Yi k l).length:Int))=false:=decide_eq_false (by omega)
    have hle2:(Y4 (Yi k l) 64).length+1≤(Yi k l).length:=by omega
    have hw:=Zi (show (Y4 (Yi k l) 64).length<9223372036854775807 by omega)
    have hcl:(Y4 (Yi k l) 64).length≤1048576:=by omega
    have hdl:((Yi k l).drop ((Y4 (Yi k l) 64).length+1)).length≤1048576:=by rw [R7];omega
    have hbd2:=Zff (J1 k (Y4 (Yi k l) 64) ((Yi k l).drop ((Y4 (Yi k l) 64).length+1))) (l++[10])
    generalize hr:(Yi k l).drop ((Y4 (Yi k l) 64).length+1)=r at hbd2 hdl ⊢
    clear hs hok
    generalize Y4 (Yi k l) 64=c at *
    have hrec:=fun L=>ZgH (pr:=pr) (H:=L) (e:=none) (s:=bs c) (t:=bs r) (by rw [Jc];omega) (by rw [Jc];omega)
    have hln:=fun L=>ZpP (pr:=pr) (H:=L) (e:=none) (k:=k) (c:=c) (r:=r) h0 (by omega) hcl hdl
    have hll:l.length+1≤140737488355328:=by omega
    unfold Zi2
    cases hv:Zmk (bs c) (bs r) <;> rw [hv] at hrec <;> simp +contextual only [JU,ZaH,Zc,hnum,ZD,g1,hsp35,hsp64,hlt',hle1,hle2,hpos,hbd,hrd,hr,hw,heq,hrec,hln,hll,hbd2,Zn1,ZaT,ZAb,ZhQ,RY,Z1,RW,R9,RH,RJ,decide_true,RD,go_sem,reduceIte,Ra,Rb,Rc,Rd]
  ·have hno:¬ ZhU k l:=fun h=>ha2 h.2
   have hd:=ZtM h0 h1 (fun h=>hno h.1)
   have hs:ZnI k l=([],[]):=by unfold ZnI;rw [if_neg (fun h=>hno h.1)]
   rw [hal] at ha2
   have hbd:decide (bs ((Y4 l 35).take ((Lib.itoa k).length+1))=bs (Lib.itoa k++[32]))=false:=by rw [Zff];exact decide_eq_false ha2
   rw [hd,hs]
   simp +contextual only [JU,ZaH,Zc,hnum,ZD,g1,hsp35,hlt',hle1,hpos,hbd,Zn1,ZAb,Z1,RW,R9,RH,RJ,decide_true,Wg,go_sem,reduceIte,Ra,Rb,Rc,Rd]
abbrev Rc:=By×By
def rcC (p:Rc):List AV:=[sV p.1,sV p.2]
theorem Zfj (p:Rc):(rcC p).length=2:=rfl
theorem JF (p:Rc) (n:Nat):((rcC p).all fun c=>c.under n)=true:=by simp [rcC,AV.under]
abbrev ZnJ (xs:List Rc):List AV:=Zmr rcC xs
abbrev slR (b n:Nat) (c:Option Nat):AV:=.slice (some (b,0)) 2 n c
def ZaU (k:Nat) (l:By):Option (Rc×Nat):=if l.contains 10=true then (Zwx k (Y4 l 10)).map fun p=>(p,(Y4 l 10).length+1) else none
def Z7:Nat→Nat→By→List Rc
 | 0,k,l=>[]
 | f+1,k,l=>match ZaU k l with
  | some (p,n)=>p::Z7 f (k+1) (l.drop n)
  | none=>[]
def ZeK:Nat→Nat→Nat→By→List Nat
 | 0,k,a,l=>[]
 | f+1,k,a,l=>match ZaU k l with
  | some (p,n)=>(a+n)::ZeK f (k+1) (a+n) (l.drop n)
  | none=>[]
theorem ZcM {k:Nat} {l:By} {p:Rc} {n:Nat} (h:ZaU k l=some (p,n)):n≤l.length∧l.contains 10=true∧Zwx k (Y4 l 10)=some p∧n=(Y4 l 10).length+1:=by
 unfold ZaU at h
 split at h
 ·rename_i hc
  obtain ⟨q,hq,hq2⟩:=Option.map_eq_some_iff.mp h
  cases hq2
  exact ⟨(Zww hc).2,hc,hq,rfl⟩
 ·cases h
theorem Zsn {k:Nat} {l:By} (h:ZaU k l=none):l.contains 10=false∨(Zwx k (Y4 l 10)).isSome=false:=by
 unfold ZaU at h
 split at h
 ·right
  cases hd:Zwx k (Y4 l 10) with
  | none=>rfl
  | some p=>rw [hd] at h;cases h
 ·rename_i hc
  left
  simpa using hc
theorem ZpU (k:Nat):ZaU k []=none:=by simp [ZaU]
theorem ZpV:∀ (f k a:Nat) (l:By),(Z7 f k l).length=(ZeK f k a l).length∧(Z7 f k l).length≤f
 | 0,k,a,l=>⟨rfl,Nat.le_refl _⟩
 | f+1,k,a,l=>by
  rw [Z7,ZeK]
  cases h:ZaU k l with
  | none=>simp
  | some p=>
   obtain ⟨p,n⟩:=p
   have:=ZpV f (k+1) (a+n) (l.drop n)
   simp only [RN]
   omega
def ZpW (n:Nat):Option Nat:=if n=0 then some 0 else none
theorem ZpX {n:Nat} (h:ZpW n=some 0):n=0:=by
 unfold ZpW at h
 split at h
 ·assumption
 ·cases h
def ZtO (ns:List Nat):List AV:=ZR (ns.map fun n:Nat=>(n:Int))
theorem ZpY (ns:List Nat):(ZtO ns).length=ns.length:=by simp [ZtO,ZR]
theorem Zzq (a b:List Nat):ZtO (a++b)=ZtO a++ZtO b:=by simp [ZtO,ZR]
theorem Zmy (n:Nat) (ns:List Nat):((ZtO ns).all fun c=>c.under n)=true:=by
 unfold ZtO ZR
 simp [AV.under]
theorem Zlr (hi:Ko pr) (hc:YW pr) (hx:QW pr) (l:By) (hn:l.length≤1048576):call T pr Kp [sV l] ⟨H,e⟩ =
  some (.tup [slR H.length (Z7 60 0 l).length (ZpW (Z7 60 0 l).length),slI (H.length+1) (Z7 60 0 l).length (ZpW (Z7 60 0 l).length)],⟨H++[.cells (ZnJ (Z7 60 0 l)) true,.cells (ZtO (ZeK 60 0 0 l)) true],e⟩):=by
 apply Wc.eq
 rw [Zr ZkW]
 simp +contextual only [YE,Zd7,Zc,pp,go_sem,reduceIte,Ra,Rb,Rc,Rd]
 refine ZL (fun n st=>∃ (a j1 j2:Nat) (xs:List Rc) (es:List Nat) (cap:Option Nat) (G:List Blk) (y1 y2 y6 y7 y8 y9 y10 y11:AV),cap=ZpW xs.length∧n+xs.length=60∧a≤l.length∧es.length=xs.length∧xs++Z7 n xs.length (l.drop a)=Z7 60 0 l∧es++ZeK n xs.length a (l.drop a)=ZeK 60 0 0 l∧j1≠j2 ∧
  G[j1]?=some (.cells (ZnJ xs) true)∧G[j2]?=some (.cells (ZtO es) true) ∧
  st=⟨[sV l,y1,y2,slR (H.length+j1) xs.length cap,slI (H.length+j2) xs.length cap,.int .i64 a,y6,y7,y8,y9,y10,y11],⟨H++G,none⟩⟩) ?_ 60 _
  ⟨0,0,1,[],[],some 0,[.cells [] true,.cells [] true],_,_,_,_,_,_,_,_,rfl,rfl,by omega,rfl,rfl,rfl,by decide,rfl,rfl,rfl⟩
 rintro n _ ⟨a,j1,j2,xs,es,cap,G,y1,y2,y6,y7,y8,y9,y10,y11,rfl,hk,ha,hel,hop,hen,hj,g1,g2,rfl⟩
 have hmb:(xs.length+1)*32≤maxBytes:=by unfold maxBytes;omega
 have hmb2:(xs.length+1)*8≤maxBytes:=by unfold maxBytes;omega
 cases n with
 | zero=>
  have h60:xs.length=60:=by omega
  have hx1:Z7 60 0 l=xs:=by rw [←hop];simp [Z7]
  have hx2:ZeK 60 0 0 l=es:=by rw [←hen];simp [ZeK]
  have hlt:decide ((xs.length:Int)<60)=false:=decide_eq_false (by omega)
  rw [hx1,hx2]
  simp +contextual only [Xh,hlt,YE,g1,g2,Y9 JF,Zmy,ne_eq,hj,not_false_eq_true,pp,ff,go_sem,reduceIte,Ra,Rb,Rc,Rd]
 | succ n=>
  have hlt:decide ((xs.length:Int)<60)=true:=decide_eq_true (by omega)
  have hdl:(l.drop a).length≤1048576:=by rw [R7];omega
  have hcut:=fun L=>ZcK (pr:=pr) (H:=L) (e:=none) hx (l.drop a) 10 (by omega)
  have hA:=Zeq (l.drop a) 10
  have hdec:=fun L=>ZCE (pr:=pr) (H:=L) (e:=none) hi hc hx (k:=(xs.length:Int)) (by omega) (by omega) (Y4 (l.drop a) 10) (by omega)
  rw [Z7] at hop
  rw [ZeK] at hen
  cases hh:ZaU xs.length (l.drop a) with
  | none=>
   simp only [hh,List.append_nil] at hop hen
   rw [←hop,←hen]
   rcases Zsn hh with h10 | hds
   ·rw [h10] at hcut
    simp +contextual only [Xh,hlt,ZaT,ZhQ,ha,hcut,hdec,YE,g1,g2,ZY g1,ZY g2,Y9 JF,Zmy,ne_eq,hj,not_false_eq_true,pp,ff,go_sem,reduceIte,Ra,Rb,Rc,Rd]
   ·rw [hds] at hdec
    cases h10:(l.drop a).contains 10 <;> rw [h10] at hcut <;> simp +contextual only [Xh,hlt,ZaT,ZhQ,ha,hcut,hdec,YE,g1,g2,ZY g1,ZY g2,Y9 JF,Zmy,ne_eq,hj,not_false_eq_true,pp,ff,go_sem,reduceIte,Ra,Rb,Rc,Rd]
  | some q=>
   obtain ⟨⟨c,r⟩,m⟩:=q
   obtain ⟨hm1,h10,hd1,hm2⟩:=ZcM hh
   rw [R7] at hm1
   obtain ⟨_,hc1,hr1⟩:=ZJg (by omega) (by omega) hd1
   rw [hd1,hc1,hr1,Wn] at hdec
   rw [h10] at hcut
   simp only [hh] at hop hen
   have happ1:=fun e'=>Zdx (H:=H) (e:=e') (G:=G++[.cells [sV c,sV r] true]) (j:=j1) (n:=xs.length) (sz:=2) (bytes:=32) (cs:=ZnJ xs) (new:=[sV c,sV r]) (cap:=ZpW xs.length) (c:=some 1) (w:=true) (ZY g1 _) ZpX (ZgG Zfj xs) rfl hmb
   have g2':(Zcl (ZpW xs.length) j1 (G++[.cells [sV c,sV r] true,.cells [sV c,sV r] true])++[.cells (ZnJ xs++[sV c,sV r]) true])[j2]?=some (.cells (ZtO es) true):=by
    rw [Ws (by rw [YH,RX];have:=(Wl.mp g2).1;omega),Zmv (fun h=>hj h.symm)]
    exact ZY g2 _
   have happ2:=fun e'=>Zdx (H:=H) (e:=e') (G:=Zcl (ZpW xs.length) j1 (G++[.cells [sV c,sV r] true,.cells [sV c,sV r] true])++[.cells (ZnJ xs++[sV c,sV r]) true]) (j:=j2) (n:=xs.length) (sz:=1) (bytes:=8) (cs:=ZtO es) (new:=[.int .i64 ((a+m:Nat):Int)]) (cap:=ZpW xs.length) (c:=some 1) (w:=true) g2' ZpX (by rw [ZpY,R8];exact hel) rfl hmb2
   simp only [Rk,Rp,List.nil_append,RX,RN,Wk,YH,Nat.zero_add] at happ1 happ2
   have hw1:IntKind.i64.wrap (((Y4 (l.drop a) 10).length:Int)+1)=(m:Int):=by rw [hm2];exact Zi (by omega)
   have hw2:IntKind.i64.wrap ((a:Int)+(m:Int))=((a+m:Nat):Int):=by
    rw [show (a:Int)+(m:Int)=((a+m:Nat):Int) by omega];exact ZN (by omega) (by omega)
   have hrx:ZnJ xs++[sV c,sV r]=ZnJ (xs++[(c,r)]):=by show _=Zmr rcC _;rw [Zkb];rfl
   have hex:ZtO es++[.int .i64 ((a+m:Nat):Int)]=ZtO (es++[a+m]):=by rw [Zzq];rfl
   simp +contextual only [Xh,Zc,hlt,ZaT,ZhQ,ha,hcut,hdec,Z1,RW,hw1,hw2,happ1,happ2,YH,pp,go_sem,reduceIte,Ra,Rb,Rc,Rd]
   have hlen:xs.length+1=(xs++[(c,r)]).length:=by simp
   rw [hrx,hex,hlen]
   refine ⟨n,by omega,a+m,G.length+2,G.length+4,xs++[(c,r)],es++[a+m],none,Zcl (ZpW xs.length) j2 (Zcl (ZpW xs.length) j1 (G++[.cells [sV c,sV r] true,.cells [sV c,sV r] true])++[.cells (ZnJ (xs++[(c,r)])) true,.cells [.int .i64 ((a+m:Nat):Int)] true])++[.cells (ZtO (es++[a+m])) true],
    _,_,_,_,_,_,_,_,by simp [ZpW],by simp;omega,by omega,by simp [hel],?_,?_,by omega,?_,?_,rfl⟩
   ·rw [←hop,Rk,RX,Wf]
    rfl
   ·rw [←hen,Rk,RX,Wf]
    rfl
   ·rw [Ws (by rw [YH,RX,YH,RX];simp),Zmv (by have:=(Wl.mp g2).1;omega)]
    rw [List.getElem?_append_right (by rw [YH,RX];simp),YH,RX]
    simp
   ·exact ZgI (by rw [RX,YH,RX];rfl)
def XE:Nat→Nat→By→Nat
 | 0,k,l=>0
 | f+1,k,l=>match ZaU k l with
  | some (p,n)=>n+XE f (k+1) (l.drop n)
  | none=>0
theorem Zkc (l:By) (hn:l.length≤1048576):call T pr Zbc [sV l] ⟨H,e⟩ =
  some (.tup [slR H.length (Z7 60 0 l).length (ZpW (Z7 60 0 l).length),.int .i64 (XE 60 0 l)],⟨H++[.cells (ZnJ (Z7 60 0 l)) true],e⟩):=by
 apply Wc.eq
 rw [Zr ZxQ]
 simp +contextual only [KC,ZoH,Zc,pp,go_sem,reduceIte,Ra,Rb,Rc,Rd]
 refine ZL (fun n st=>∃ (a j:Nat) (xs:List Rc) (cap:Option Nat) (G:List Blk) (y1 y2 y5 y6 y7 y8 y9:AV),cap=ZpW xs.length∧n+xs.length=60∧a≤l.length∧xs++Z7 n xs.length (l.drop a)=Z7 60 0 l∧a+XE n xs.length (l.drop a)=XE 60 0 l ∧
  G[j]?=some (.cells (ZnJ xs) true) ∧
  st=⟨[sV l,y1,y2,slR (H.length+j) xs.length cap,.int .i64 a,y5,y6,y7,y8,y9],⟨H++G,none⟩⟩) ?_ 60 _
  ⟨0,0,[],some 0,[.cells [] true],_,_,_,_,_,_,_,rfl,rfl,by omega,rfl,by simp,rfl,rfl⟩
 rintro n _ ⟨a,j,xs,cap,G,y1,y2,y5,y6,y7,y8,y9,rfl,hk,ha,hop,hco,g1,rfl⟩
 have hmb:(xs.length+1)*32≤maxBytes:=by unfold maxBytes;omega
 have hdl:(l.drop a).length≤1048576:=by rw [R7];omega
 by_cases hat:a<l.length
 ·have hatd:decide (a<l.length)=true:=decide_eq_true hat
  cases n with
  | zero=>
   have hx1:Z7 60 0 l=xs:=by rw [←hop];simp [Z7]
   have hx2:XE 60 0 l=a:=by rw [←hco];simp [XE]
   have hlt:decide ((xs.length:Int)<60)=false:=decide_eq_false (by omega)
   rw [hx1,hx2]
   simp +contextual only [KY,hlt,hat,hatd,Z1,RW,KC,g1,Y9 JF,pp,ff,go_sem,reduceIte,Ra,Rb,Rc,Rd]
  | succ n=>
   have hlt:decide ((xs.length:Int)<60)=true:=decide_eq_true (by omega)
   obtain ⟨ys,hy1,hyl,hsp⟩:=Zmx (pr:=pr) (l.drop a) 10 (by omega)
   have hsp10:∀ (L:List Blk) (e':Option Nat),call T pr XA [sV (l.drop a),.int .u8 10] ⟨L,e'⟩=some (slX L.length (ys.length+1) none,⟨L++[.cells (sV (Y4 (l.drop a) 10)::Zcd ys) true],e'⟩):=hsp
   have hA:=Zeq (l.drop a) 10
   have hdec:=fun L=>ZtN (pr:=pr) (H:=L) (e:=none) (k:=(xs.length:Int)) (by omega) (by omega) (Y4 (l.drop a) 10) (by omega)
   have hpos:∀ n:Nat,(0:Int)<((n+1:Nat):Int):=fun n=>by omega
   rw [Z7] at hop
   rw [XE] at hco
   cases hh:ZaU xs.length (l.drop a) with
   | none=>
    simp only [hh,List.append_nil,Nat.add_zero] at hop hco
    rw [←hop,←hco]
    rcases Zsn hh with h10 | hds
    ·have hys:ys=[]:=hy1.mpr h10
     subst hys
     have h2:decide (((0+1:Nat):Int)<2)=true:=by decide
     simp +contextual only [KY,hlt,hat,hatd,Z1,RW,ZaT,ZhQ,ha,hsp10,hdec,hpos,h2,R9,RH,RJ,KC,g1,ZY g1,Y9 JF,Rk,pp,ff,go_sem,reduceIte,Ra,Rb,Rc,Rd]
    ·rw [hds] at hdec
     cases h2:decide (((ys.length+1:Nat):Int)<2) <;> simp +contextual only [KY,hlt,hat,hatd,Z1,RW,ZaT,ZhQ,ha,hsp10,hdec,hpos,h2,R9,RH,RJ,KC,g1,ZY g1,Y9 JF,Rk,pp,ff,go_sem,reduceIte,Ra,Rb,Rc,Rd]
   | some q=>
    obtain ⟨⟨c,r⟩,m⟩:=q
    obtain ⟨hm1,h10,hd1,hm2⟩:=ZcM hh
    rw [R7] at hm1
    have hsr:=(ZJh (by omega) (by omega) hd1).2.2
    rw [hd1,hsr,Wn] at hdec
    have hys:ys≠[]:=fun h=>by rw [hy1.mp h] at h10;cases h10
    have hyp:1≤ys.length:=by
     rcases Nat.eq_zero_or_pos ys.length with h | h
     ·exact absurd (List.length_eq_zero_iff.mp h) hys
     ·exact h
    have h2:decide (((ys.length+1:Nat):Int)<2)=false:=decide_eq_false (by omega)
    simp only [hh] at hop hco
    have happ1:=fun e'=>Zdx (H:=H) (e:=e') (G:=G++[.cells (sV (Y4 (l.drop a) 10)::Zcd ys) true,.cells [sV c,sV r] true]) (j:=j) (n:=xs.length) (sz:=2) (bytes:=32) (cs:=ZnJ xs) (new:=[sV c,sV r]) (cap:=ZpW xs.length) (c:=some 1) (w:=true) (ZY g1 _) ZpX (ZgG Zfj xs) rfl hmb
    simp only [Rk,Rp,List.nil_append,RX,RN,Wk,Nat.zero_add] at happ1
    have hw2:IntKind.i64.wrap (IntKind.i64.wrap ((a:Int)+((Y4 (l.drop a) 10).length:Int))+1)=((a+m:Nat):Int):=by
     rw [show (a:Int)+((Y4 (l.drop a) 10).length:Int)=((a+(Y4 (l.drop a) 10).length:Nat):Int) by omega,ZN (x:=((a+(Y4 (l.drop a) 10).length:Nat):Int)) (by omega) (by omega),hm2,←RD]
     exact Zi (by omega)
    have hrx:ZnJ xs++[sV c,sV r]=ZnJ (xs++[(c,r)]):=by show _=Zmr rcC _;rw [Zkb];rfl
    have hlen:xs.length+1=(xs++[(c,r)]).length:=by simp
    have hcl:∀ X:List Blk,Zb (Zcl (ZpW xs.length) j (G++[.cells (sV (Y4 (l.drop a) 10)::Zcd ys) true,.cells [sV c,sV r] true,.cells [sV c,sV r] true])++X) G.length=some (sV (Y4 (l.drop a) 10)::Zcd ys):=by
     intro X
     refine Ze (w:=true) (ZY ?_ X)
     rw [Zmv (by have:=(Wl.mp g1).1;omega)]
     simp
    simp +contextual only [KY,Zc,hlt,hat,hatd,Z1,RW,ZaT,ZhQ,ha,hsp10,hdec,hpos,h2,hw2,happ1,hcl,R9,RH,RJ,YH,Rk,pp,go_sem,reduceIte,Ra,Rb,Rc,Rd]
    rw [hrx,hlen]
    refine ⟨n,by omega,a+m,G.length+3,xs++[(c,r)],none,Zcl (ZpW xs.length) j (G++[.cells (sV (Y4 (l.drop a) 10)::Zcd ys) true,.cells [sV c,sV r] true,.cells [sV c,sV r] true])++[.cells (ZnJ (xs++[(c,r)])) true],
     _,_,_,_,_,_,_,by simp [ZpW],by simp;omega,by omega,?_,?_,?_,rfl⟩
    ·rw [←hop,Rk,RX,Wf]
     rfl
    ·rw [←hco,RX,Wf,RD]
     rfl
    ·exact ZgI (by rw [RX];rfl)
 ·have hae:a=l.length:=by omega
  have hatd:decide (a<l.length)=false:=decide_eq_false hat
  have hnil:l.drop a=[]:=by rw [hae,List.drop_length]
  have hx1:Z7 60 0 l=xs:=by
   rw [←hop,hnil]
   cases n <;> simp [Z7,ZpU]
  have hx2:XE 60 0 l=a:=by
   rw [←hco,hnil]
   cases n <;> simp [XE,ZpU]
  rw [hx1,hx2]
  simp +contextual only [KY,hat,hatd,Z1,RW,KC,g1,Y9 JF,pp,ff,go_sem,reduceIte,Ra,Rb,Rc,Rd]
theorem ZpZ {k:Nat} {d:By} {q:Rc} {n:Nat} (p:By) (h:ZaU k d=some (q,n)):ZaU k (d++p)=some (q,n):=by
 obtain ⟨h1,h10,h3,h4⟩:=ZcM h
 have hw:=Zfi 10 d h10
 have hno:(Y4 d 10).contains 10=false:=Zb8 (ZpQ 10 d)
 have hA:Y4 (d++p) 10=Y4 d 10:=by
  conv=>lhs;rw [hw,Rk,Rp]
  exact (ZpS hno).1
 have hc:(d++p).contains 10=true:=by
  simp at h10 ⊢
  exact Or.inl h10
 unfold ZaU
 rw [if_pos hc,hA,h3,h4]
 rfl
theorem ZEX {k:Nat} {d p:By} {q:Rc} {n:Nat} (h:ZaU k (d++p)=some (q,n)) (hn:n≤d.length):ZaU k d=some (q,n):=by
 obtain ⟨h1,h10,h3,h4⟩:=ZcM h
 have hw:=Zfi 10 (d++p) h10
 have hno:(Y4 (d++p) 10).contains 10=false:=Zb8 (ZpQ 10 (d++p))
 generalize Y4 (d++p) 10=A at hw hno h3 h4
 generalize Zg1 (d++p) 10=B at hw
 have hd:d=A++10::B.take (d.length - (A.length+1)):=by
  have:d=(A++10::B).take d.length:=by rw [←hw];simp
  conv=>lhs;rw [this]
  rw [List.take_append,List.take_of_length_le (by omega)]
  congr 1
  rw [show d.length - A.length=(d.length - (A.length+1))+1 by omega,List.take_succ_cons]
 have hA:Y4 d 10=A:=by
  conv=>lhs;rw [hd]
  exact (ZpS hno).1
 have hc:d.contains 10=true:=by rw [hd];simp
 unfold ZaU
 rw [if_pos hc,hA,h3,h4]
 rfl
theorem ZAf:∀ (f k a:Nat) (l:By) (x:Nat),x∈ZeK f k a l→a<x∧∀ q n,ZaU k l=some (q,n)→a+n≤x
 | 0,k,a,l,x,h=>by simp [ZeK] at h
 | f+1,k,a,l,x,h=>by
  rw [ZeK] at h
  cases hh:ZaU k l with
  | none=>rw [hh] at h;simp at h
  | some q=>
   obtain ⟨q,n⟩:=q
   have hn:=(ZcM hh).2.2.2
   rw [hh] at h
   rcases R6.mp h with rfl | h
   ·exact ⟨by omega,fun q' n' he=>by cases he;exact Nat.le_refl _⟩
   ·have:=(ZAf f (k+1) (a+n) (l.drop n) x h).1
    exact ⟨by omega,fun q' n' he=>by cases he;omega⟩
theorem ZAg (p:By):∀ (f k a:Nat) (d:By),a+d.length∈a::ZeK f k a (d++p)↔XE f k d=d.length
 | 0,k,a,d=>by
  simp only [ZeK,XE,R3]
  omega
 | f+1,k,a,d=>by
  cases hd:ZaU k d with
  | some q=>
   obtain ⟨q,n⟩:=q
   obtain ⟨h1,_,_,h4⟩:=ZcM hd
   have hx:=ZpZ p hd
   have ih:=ZAg p f (k+1) (a+n) (d.drop n)
   rw [R7,show a+n+(d.length - n)=a+d.length by omega] at ih
   rw [ZeK,hx,XE,hd]
   simp only
   rw [List.drop_append_of_le_length h1,R6,ih]
   constructor
   ·rintro (h | h)
    ·omega
    ·omega
   ·intro h
    exact .inr (by omega)
  | none=>
   rw [XE,hd]
   simp only
   constructor
   ·intro h
    rcases R6.mp h with h | h
    ·omega
    ·have hg:=ZAf (f+1) k a (d++p) _ h
     cases hx:ZaU k (d++p) with
     | none=>rw [ZeK,hx] at h;simp at h
     | some q=>
      obtain ⟨q,n⟩:=q
      have h2:=hg.2 q n hx
      have:=ZEX hx (by omega)
      rw [hd] at this
      cases this
   ·intro h
    rw [←h]
    exact Wb
theorem Zwy:∀ (f k a:Nat) (l:By),(a::ZeK f k a l)[(ZeK f k a l).length]?=some (a+XE f k l)
 | 0,k,a,l=>by simp [ZeK,XE]
 | f+1,k,a,l=>by
  rw [ZeK,XE]
  cases hh:ZaU k l with
  | none=>simp
  | some q=>
   obtain ⟨q,n⟩:=q
   have:=Zwy f (k+1) (a+n) (l.drop n)
   simp only [RN,List.getElem?_cons_succ]
   rw [this,RD]
def Zao (d p:By) (c:Int):Bool:=decide (d.length+p.length≤30000)&&(decide (XE 60 0 (d++p)=d.length+p.length)&&(decide (XE 60 0 d=d.length)&&decide (c=((Z7 60 0 (d++p)).length:Int))))
abbrev lgV (d p:By) (c:Int):AV:=.agg [sV d,sV p,.int .i64 c]
theorem ZhV (d p:By) (c:Int) (hd:d.length≤1048576) (hp:p.length≤1048576):call T pr Kx [lgV d p c] ⟨H,e⟩=some (.bool (Zao d p c),⟨H,e⟩):=by
 have hw:IntKind.i64.wrap ((d.length:Int)+(p.length:Int))=((d.length+p.length:Nat):Int):=by
  rw [show (d.length:Int)+(p.length:Int)=((d.length+p.length:Nat):Int) by omega];exact ZN (by omega) (by omega)
 rw [Zh ZuH]
 unfold Zao
 by_cases h3:d.length+p.length≤30000
 ·have hgt:decide ((30000:Int)<((d.length+p.length:Nat):Int))=false:=decide_eq_false (by omega)
  have ho1:=fun L=>Zkc (pr:=pr) (H:=L) (e:=none) (d++p) (by rw [RX];omega)
  have ho2:=fun L=>Zkc (pr:=pr) (H:=L) (e:=none) d hd
  have hll:d.length+p.length≤140737488355328:=by omega
  have hA:decide (((XE 60 0 (d++p):Nat):Int)=((d.length+p.length:Nat):Int))=decide (XE 60 0 (d++p)=d.length+p.length):=decide_eq_decide.mpr (by omega)
  have hB:decide (((XE 60 0 d:Nat):Int)=(d.length:Int))=decide (XE 60 0 d=d.length):=decide_eq_decide.mpr (by omega)
  have hC:decide ((((Z7 60 0 (d++p)).length:Nat):Int)=c)=decide (c=((Z7 60 0 (d++p)).length:Int)):=decide_eq_decide.mpr ⟨fun h=>h.symm,fun h=>h.symm⟩
  rw [decide_eq_true h3,←hA,←hB,←hC]
  cases hA':decide (((XE 60 0 (d++p):Nat):Int)=((d.length+p.length:Nat):Int)) with
  | false=>simp +contextual only [KB,ZbV,hw,hgt,gt_iff_lt,Z1,RW,ZD,hll,ho1,ho2,hA',go_sem,reduceIte,Ra,Rb,Rc,Rd]
  | true=>
   cases hB':decide (((XE 60 0 d:Nat):Int)=(d.length:Int)) with
   | false=>simp +contextual only [KB,ZbV,hw,hgt,gt_iff_lt,Z1,RW,ZD,hll,ho1,ho2,hA',hB',go_sem,reduceIte,Ra,Rb,Rc,Rd]
   | true=>simp +contextual only [KB,ZbV,hw,hgt,gt_iff_lt,Z1,RW,ZD,hll,ho1,ho2,hA',hB',go_sem,reduceIte,Ra,Rb,Rc,Rd]
 ·have hgt:decide ((30000:Int)<((d.length+p.length:Nat):Int))=true:=decide_eq_true (by omega)
  rw [decide_eq_false h3]
  simp +contextual only [KB,ZbV,hw,hgt,gt_iff_lt,Z1,RW,go_sem,reduceIte,Ra,Rb,Rc,Rd]
theorem Zrc {q:Nat} {c:Option Nat} {zs:List Int} (h:Zb H q=some (ZR zs)) (hn:zs.length≤1048576) (x:Int):call T pr YN [slI q zs.length c,.int .i64 x] ⟨H,e⟩=some (.bool (decide (x∈zs)),⟨H,e⟩):=by
 have hix:Wc (call T pr Xk [slI q zs.length c,.int .i64 x] ⟨H,none⟩) fun v m=>∃ z:Int,decide (0≤z)=decide (x∈zs)∧v=.int .i64 z∧m=⟨H,none⟩:=by
  rw [Zr Zgr]
  simp +contextual only [Xm,ZaK,pp,go_sem,reduceIte,Ra,Rb,Rc,Rd]
  refine ZL (fun k st=>∃ (i:Nat) (y3 y6 y7:AV),k+i=zs.length∧x ∉ zs.take i∧st=⟨[slI q zs.length c,.int .i64 x,.int .i64 0,y3,.int .i64 zs.length,.int .i64 i,y6,y7],⟨H,none⟩⟩) ?_ zs.length _ ⟨0,_,_,_,rfl,by simp,rfl⟩
  rintro k _ ⟨i,y3,y6,y7,hk,hni,rfl⟩
  by_cases hi:i<zs.length
  ·have hl:zs[i]?=some zs[i]:=Rj hi
   have hp:Zcn false (ZR zs) i 1=some (.int .i64 zs[i]):=by rw [ZcT];unfold ZR;rw [List.getElem?_map,hl];rfl
   cases hx:decide (x=zs[i]) with
   | true=>
    simp +contextual only [Y1,h,hi,hp,hx,decide_true,pp,go_sem,reduceIte,Ra,Rb,Rc,Rd]
    refine ⟨i,?_,rfl⟩
    rw [decide_eq_true (by omega:(0:Int)≤i),decide_eq_true]
    rw [of_decide_eq_true hx]
    exact List.getElem_mem hi
   | false=>
    simp +contextual only [Y1,h,hi,hp,hx,Zi (show i<9223372036854775807 by omega),decide_true,pp,go_sem,reduceIte,Ra,Rb,Rc,Rd]
    refine ⟨k - 1,by omega,i+1,_,_,_,by omega,?_,rfl⟩
    rw [List.take_add_one,hl,Wa]
    rintro (h | h)
    ·exact hni h
    ·simp at h
     exact of_decide_eq_false hx h
  ·obtain rfl:i=zs.length:=by omega
   rw [Wi] at hni
   simp +contextual only [Y1,hi,decide_false,pp,go_sem,reduceIte,Ra,Rb,Rc,Rd]
   exact ⟨-1,by simp [hni],rfl⟩
 apply Wc.eq
 rw [Zr ZdB]
 simp +contextual only [Yg,Qk,pp,go_sem,reduceIte,Ra,Rb,Rc,Rd]
 refine hix.mono ?_
 rintro v m ⟨z,hz,rfl,rfl⟩
 simp +contextual only [Yg,hz,ge_iff_le,pp,go_sem,reduceIte,Ra,Rb,Rc,Rd]
theorem ZH1 {L:List Blk} {b q n k sz bytes:Nat} {cs new:List AV} {c cap:Option Nat} (hb:L[b]?=some (.cells cs true)) (hq:Zb L q=some new) (hcs:cs.length=n*sz) (hnew:new.length=k*sz) (hcap:cap≠some 0) (hm:(n+k)*bytes≤maxBytes) :
  Zaa L e false sz bytes (.slice (some (b,0)) sz n cap) (.slice (some (q,0)) sz k c)=some (.slice (some (L.length,0)) sz (n+k) none,⟨L.set b .dead++[.cells (cs++new) true],e⟩):=by
 have hs:=Zek L k sz c new q hq hnew
 unfold Zaa
 simp only [hb,hs]
 rw [if_pos ⟨trivial,hm,hnew,by omega⟩,if_neg (fun h=>hcap h.1),List.drop_zero,List.take_of_length_le (Nat.le_of_eq hcs),if_pos trivial]
theorem Zjt (hi:Ko pr) (hc:YW pr) (hx:QW pr) (d p:By) (c:Int) (hd:d.length≤1048576) (hp:p.length≤1048576):call T pr QB [lgV d p c] ⟨H,e⟩ =
  if d.length+p.length≤30000 then some (.tup [slR H.length (Z7 60 0 (d++p)).length (ZpW (Z7 60 0 (d++p)).length),.bool (Zao d p c)],⟨H++[.cells (ZnJ (Z7 60 0 (d++p))) true],e⟩)
  else some (.tup [.slice none 0 0 none,.bool (Zao d p c)],⟨H,e⟩):=by
 have hll:d.length+p.length≤140737488355328:=by omega
 unfold Zao
 by_cases h3:d.length+p.length≤30000
 ·have hgt:decide ((30000:Int)<((d.length+p.length:Nat):Int))=false:=decide_eq_false (by omega)
  have hrr:=fun L=>Zlr (pr:=pr) (H:=L) (e:=none) hi hc hx (d++p) (by rw [RX];omega)
  have hol:=ZpV 60 0 0 (d++p)
  have hlast:=Zwy 60 0 0 (d++p)
  have hmem:=ZAg p 60 0 0 d
  rw [Nat.zero_add] at hlast hmem
  rw [if_pos h3,decide_eq_true h3,Bool.true_and]
  generalize Z7 60 0 (d++p)=xs at *
  generalize ZeK 60 0 0 (d++p)=es at *
  generalize XE 60 0 (d++p)=S at *
  have happ:=fun L b q e' c0 (hb:L[b]?=some (.cells [.int .i64 0] true)) (hq:Zb L q=some (ZtO es))=>ZH1 (e:=e') (L:=L) (b:=b) (q:=q) (n:=1) (k:=xs.length) (sz:=1) (bytes:=8) (c:=c0) (cap:=some 1) hb hq rfl (by rw [ZpY,R8];exact hol.1.symm) (by simp) (by unfold maxBytes;omega)
  have hen:AV.int .i64 0::ZtO es=ZR (((0::es).map fun n:Nat=>(n:Int))):=rfl
  have hsub:IntKind.i64.wrap (((1+xs.length:Nat):Int) - 1)=(xs.length:Int):=by
   rw [show ((1+xs.length:Nat):Int) - 1=(xs.length:Int) by omega];exact ZN (by omega) (by omega)
  have hlt1:xs.length<1+xs.length:=by omega
  have hpl:Zcn false (AV.int .i64 0::ZtO es) xs.length 1=some (.int .i64 (S:Nat)):=by
   rw [hen,ZcT]
   unfold ZR
   rw [hol.1,List.getElem?_map,List.getElem?_map,hlast]
   rfl
  have hcon:=fun L q c0 (h:Zb L q=some (AV.int .i64 0::ZtO es))=>Zrc (pr:=pr) (H:=L) (e:=none) (q:=q) (c:=c0) (zs:=((0::es).map fun n:Nat=>(n:Int))) (h.trans (congrArg some hen)) (by simp;omega) (d.length:Int)
  have hmem2:decide ((d.length:Int)∈((0::es).map fun n:Nat=>(n:Int)))=decide (XE 60 0 d=d.length):=by
   refine decide_eq_decide.mpr ?_
   rw [←hmem,Wd]
   constructor
   ·rintro ⟨x,hx,he⟩
    rw [show d.length=x by omega];exact hx
   ·intro h;exact ⟨d.length,h,rfl⟩
  rw [hmem2] at hcon
  have hzl:((0::es).map fun n:Nat=>(n:Int)).length=1+xs.length:=by simp;omega
  rw [hzl] at hcon
  have hA:decide ((S:Int)=((d.length+p.length:Nat):Int))=decide (S=d.length+p.length):=decide_eq_decide.mpr (by omega)
  rw [←hA]
  apply Wc.eq
  rw [Zr Zjh]
  cases hA':decide ((S:Int)=((d.length+p.length:Nat):Int)) with
  | false=>simp +contextual only [Jl,QK,Zc,ZD,hll,hgt,gt_iff_lt,Z1,RW,RX,hrr,happ,hsub,hlt1,hpl,hA',Y9 JF,R8,RD,decide_true,pp,ff,go_sem,reduceIte,Ra,Rb,Rc,Rd]
  | true=>
   cases hB':decide (XE 60 0 d=d.length) with
   | false=>
    rw [hB'] at hcon
    simp +contextual only [Jl,QK,Zc,ZD,hll,hgt,gt_iff_lt,Z1,RW,RX,hrr,happ,hsub,hlt1,hpl,hcon,hA',Y9 JF,R8,RD,decide_true,pp,ff,go_sem,reduceIte,Ra,Rb,Rc,Rd]
   | true=>
    rw [hB'] at hcon
    simp +contextual only [Jl,QK,Zc,ZD,hll,hgt,gt_iff_lt,Z1,RW,RX,hrr,happ,hsub,hlt1,hpl,hcon,hA',Y9 JF,R8,RD,decide_true,pp,ff,go_sem,reduceIte,Ra,Rb,Rc,Rd]
 ·have hgt:decide ((30000:Int)<((d.length+p.length:Nat):Int))=true:=decide_eq_true (by omega)
  rw [if_neg h3,decide_eq_false h3,RR]
  apply Wc.eq
  rw [Zr Zjh]
  simp +contextual only [Jl,QK,ZD,hll,hgt,gt_iff_lt,Z1,RW,RX,pp,ff,go_sem,reduceIte,Ra,Rb,Rc,Rd]
theorem ZgM {d p:By} {c:Int} (h:Zao d p c=true):d.length+p.length≤30000∧XE 60 0 (d++p)=d.length+p.length∧XE 60 0 d=d.length∧c=((Z7 60 0 (d++p)).length:Int)∧(Z7 60 0 (d++p)).length≤60:=by
 unfold Zao at h
 simp only [Rs,decide_eq_true_eq] at h
 exact ⟨h.1,h.2.1,h.2.2.1,h.2.2.2,(ZpV 60 0 0 (d++p)).2⟩
theorem Zju (hi:Ko pr) (hc:YW pr) (hx:QW pr) (d p:By) (c:Int) (hd:d.length≤1048576) (hp:p.length≤1048576):call T pr QA [lgV d p c] ⟨H,e⟩=some (.bool (Zao d p c),⟨H,e⟩):=by
 have hl:=fun L=>Zjt (pr:=pr) (H:=L) (e:=none) hi hc hx d p c hd hp
 rw [Zh Zqz]
 by_cases h3:d.length+p.length≤30000
 ·simp only [h3,if_true] at hl
  simp +contextual only [QJ,ZeG,hl,go_sem,reduceIte,Ra,Rb,Rc,Rd]
 ·simp only [h3,if_false] at hl
  simp +contextual only [QJ,ZeG,hl,go_sem,reduceIte,Ra,Rb,Rc,Rd]
def ZIL (d p:By) (c:Int) (a r:By):AV :=
 if (Zao d p c&&Zi2 a r)=true then (if c=60 then .tup [lgV d p c,.int .i64 2] else .tup [lgV d (p++J1 c a r) (c+1),.int .i64 0]) else .tup [lgV d p c,.int .i64 1]
theorem ZnK (hi:Ko pr) (hcn:YW pr) (hx:QW pr) (d p:By) (c:Int) (a r:By) (hd:d.length≤1048576) (hp:p.length≤1048576) (ha:a.length≤1048576) (hr:r.length≤1048576):call T pr QQ [lgV d p c,rcV (bs a) (bs r)] ⟨H,e⟩=some (ZIL d p c a r,⟨H,e⟩):=by
 have hv:=fun L=>Zju (pr:=pr) (H:=L) (e:=none) hi hcn hx d p c hd hp
 have hr':=fun L=>Zbv (pr:=pr) (H:=L) (e:=none) (s:=bs a) (t:=bs r) hcn (by rw [Jc];omega) (by rw [Jc];omega)
 rw [Zh Zns]
 unfold ZIL Zi2
 cases ho:Zao d p c with
 | false=>
  rw [ho] at hv
  simp +contextual only [Xc,J3,Zc,hv,RR,RZ,if_false,go_sem,reduceIte,Ra,Rb,Rc,Rd]
 | true=>
  rw [ho] at hv
  cases hk:Zmk (bs a) (bs r) with
  | false=>
   rw [hk] at hr'
   simp +contextual only [Xc,J3,Zc,hv,hr',RU,RZ,if_false,go_sem,reduceIte,Ra,Rb,Rc,Rd]
  | true=>
   rw [hk] at hr'
   obtain ⟨g1,_,_,g4,g5⟩:=ZgM ho
   by_cases h60:c=60
   ·have hd60:decide (c=60)=true:=decide_eq_true h60
    simp +contextual only [Xc,J3,Zc,hv,hr',if_pos h60,hd60,decide_true,Bool.and_true,if_true,go_sem,reduceIte,Ra,Rb,Rc,Rd]
    rw [h60]
   ·have hd60:decide (c=60)=false:=decide_eq_false h60
    have henc:=fun L=>Zg2 (pr:=pr) (H:=L) (e:=none) hi hcn ha hr c
    have heo:Zrb c a r=true:=by
     unfold Zrb Zi2
     rw [hk,decide_eq_true (by omega),decide_eq_true (by omega)];rfl
    rw [if_pos heo] at henc
    have hbl:=Zn3 (k:=c) (c:=a) (r:=r) (by omega) (by omega)
    have hsl:=Zfg (J0 c a r)
    have hll:(J1 c a r).length≤a.length+r.length+12:=by unfold J1;rw [RX,RY];omega
    have hadd:p.length+(J1 c a r).length≤140737488355328:=by omega
    have hw:IntKind.i64.wrap (c+1)=c+1:=ZN (by omega) (by omega)
    simp +contextual only [Xc,J3,Zc,hv,hr',if_neg h60,hd60,henc,ZD,hadd,hw,Bool.and_true,if_true,if_false,go_sem,reduceIte,Ra,Rb,Rc,Rd]
theorem ZnL (d p:By) (c:Int) (a r:By) (hd:d.length≤1048576) (hp:p.length≤1048576) (ha:a.length≤1048576) (hr:r.length≤1048576):call T pr QR [lgV d p c,rcV (bs a) (bs r)] ⟨H,e⟩=some (ZIL d p c a r,⟨H,e⟩):=by
 have hv:=fun L=>ZhV (pr:=pr) (H:=L) (e:=none) d p c hd hp
 have hr':=fun L=>ZgH (pr:=pr) (H:=L) (e:=none) (s:=bs a) (t:=bs r) (by rw [Jc];omega) (by rw [Jc];omega)
 rw [Zh Znt]
 unfold ZIL Zi2
 cases ho:Zao d p c with
 | false=>
  rw [ho] at hv
  simp +contextual only [Xd,J4,Zc,hv,RR,RZ,if_false,go_sem,reduceIte,Ra,Rb,Rc,Rd]
 | true=>
  rw [ho] at hv
  cases hk:Zmk (bs a) (bs r) with
  | false=>
   rw [hk] at hr'
   simp +contextual only [Xd,J4,Zc,hv,hr',RU,RZ,if_false,go_sem,reduceIte,Ra,Rb,Rc,Rd]
  | true=>
   rw [hk] at hr'
   obtain ⟨g1,_,_,g4,g5⟩:=ZgM ho
   by_cases h60:c=60
   ·have hd60:decide (c=60)=true:=decide_eq_true h60
    simp +contextual only [Xd,J4,Zc,hv,hr',if_pos h60,hd60,decide_true,Bool.and_true,if_true,go_sem,reduceIte,Ra,Rb,Rc,Rd]
    rw [h60]
   ·have hd60:decide (c=60)=false:=decide_eq_false h60
    have hln:=fun L=>ZpP (pr:=pr) (H:=L) (e:=none) (k:=c) (c:=a) (r:=r) (by omega) (by omega) ha hr
    have hbl:=Zn3 (k:=c) (c:=a) (r:=r) (by omega) (by omega)
    have hsl:=Zfg (J0 c a r)
    have hll:(J1 c a r).length≤a.length+r.length+12:=by unfold J1;rw [RX,RY];omega
    have hadd:p.length+(J1 c a r).length≤140737488355328:=by omega
    have hw:IntKind.i64.wrap (c+1)=c+1:=ZN (by omega) (by omega)
    simp +contextual only [Xd,J4,Zc,hv,hr',if_neg h60,hd60,hln,ZD,hadd,hw,Bool.and_true,if_true,if_false,go_sem,reduceIte,Ra,Rb,Rc,Rd]
theorem ZEY {d p:By} (k:Int) (c:Int) (hk:0≤k∧k≤1048576) (hd:d.length≤maxLen) (hp:p.length≤maxLen):call T pr Zkt [lgV d p c,.int .i64 k] ⟨H,e⟩=some (.int .i64 (if ((d.length+p.length:Nat):Int)≤k then k - ((d.length+p.length:Nat):Int) else -1),⟨H,e⟩):=by
 have hm:(maxLen:Int)=9223372036854775807:=by unfold maxLen;omega
 have w1:IntKind.i64.wrap (k - (d.length:Int))=k - (d.length:Int):=ZN (by omega) (by omega)
 rw [Zh ZDE]
 by_cases h1:(d.length:Int)≤k
 ·have g1:decide (k - (d.length:Int)<0)=false:=decide_eq_false (by omega)
  have w2:IntKind.i64.wrap (k - (d.length:Int) - (p.length:Int))=k - (d.length:Int) - (p.length:Int):=ZN (by omega) (by omega)
  by_cases h2:(d.length:Int)+(p.length:Int)≤k
  ·have g2:decide (k - (d.length:Int) - (p.length:Int)<0)=false:=decide_eq_false (by omega)
   rw [if_pos (by omega),show k - ((d.length+p.length:Nat):Int)=k - (d.length:Int) - (p.length:Int) by omega]
   simp +contextual only [ZeY,Zkz,w1,w2,g1,g2,Z1,RW,go_sem,reduceIte,Ra,Rb,Rc,Rd]
  ·have g2:decide (k - (d.length:Int) - (p.length:Int)<0)=true:=decide_eq_true (by omega)
   rw [if_neg (by omega)]
   simp +contextual only [ZeY,Zkz,w1,w2,g1,g2,Z1,RW,go_sem,reduceIte,Ra,Rb,Rc,Rd]
 ·have g1:decide (k - (d.length:Int)<0)=true:=decide_eq_true (by omega)
  rw [if_neg (by omega)]
  simp +contextual only [ZeY,Zkz,w1,g1,Z1,RW,go_sem,reduceIte,Ra,Rb,Rc,Rd]
theorem ZEZ (d p:By) (c:Int):call T pr Zhg [lgV d p c] ⟨H,e⟩=some (lgV d p c,⟨H,e⟩):=by
 rw [Zh ZDF]
 simp +contextual only [ZkA,Zuy,go_sem,reduceIte,Ra,Rb,Rc,Rd]
def Zxn:List Int→List Int→Int
 | [],[]=>0
 | [],_::_ => -1
 | _::_,[]=>1
 | a::x,b::y=>if a<b then -1 else if b<a then 1 else Zxn x y
def cfG (a b:List Int):Int:=if a.length=b.length then Zxn a b else (a.length:Int) - b.length
theorem ZE0:∀ (x y:List Int),Zxn x y<0↔x<y
 | [],[]=>by simp [Zxn]
 | [],_::_=>by simp [Zxn]
 | _::_,[]=>by simp [Zxn]
 | a::x,b::y=>by
  have ih:=ZE0 x y
  rw [Wh]
  unfold Zxn
  split
  ·rename_i h;simp [h]
  ·split
   ·rename_i h1 h2
    constructor
    ·intro h;omega
    ·rintro (h | ⟨h,_⟩)
     ·exact absurd h h1
     ·omega
   ·rename_i h1 h2
    rw [ih]
    constructor
    ·intro h;exact .inr ⟨by omega,h⟩
    ·rintro (h | ⟨_,h⟩)
     ·exact absurd h h1
     ·exact h
theorem ZHt (a b:List Int):cfG a b<0↔a.length<b.length∨a.length=b.length∧a<b:=by
 unfold cfG
 split
 ·rename_i h
  rw [ZE0]
  constructor
  ·intro g;exact .inr ⟨h,g⟩
  ·rintro (g | ⟨_,g⟩)
   ·omega
   ·exact g
 ·rename_i h
  constructor
  ·intro g;exact .inl (by omega)
  ·rintro (g | ⟨g,_⟩) <;> omega
def ltG (a b:List Int):Prop:=a.length<b.length∨a.length=b.length∧a<b
theorem ZE1 (a:List Int):¬ ltG a a:=by
 rintro (h | ⟨_,h⟩)
 ·omega
 ·exact List.lt_irrefl a h
theorem Zp0 (a b c:List Int) (h1:ltG a b) (h2:ltG b c):ltG a c:=by
 rcases h1 with h1 | ⟨h1,h1'⟩ <;> rcases h2 with h2 | ⟨h2,h2'⟩
 ·exact .inl (by omega)
 ·exact .inl (by omega)
 ·exact .inl (by omega)
 ·exact .inr ⟨by omega,List.lt_trans h1' h2'⟩
theorem ZE2 (a b:List Int) (h1:¬ ltG a b) (h2:¬ ltG b a):a=b:=by
 unfold ltG at h1 h2
 have e:a.length=b.length:=by omega
 have g1:¬ a<b:=fun h=>h1 (.inr ⟨e,h⟩)
 have g2:¬ b<a:=fun h=>h2 (.inr ⟨e.symm,h⟩)
 exact List.le_antisymm (List.not_lt.mp g2) (List.not_lt.mp g1)
theorem Zp1 {α:Type} (R:α→α→Prop) (hirr:∀ a,¬ R a a) (htr:∀ a b c,R a b→R b c→R a c):∀ (A B:List α),A.Pairwise R→B.Pairwise R→(∀ x,x∈A↔x∈B)→A=B
 | [],[],_,_,_=>rfl
 | [],b::B,_,_,h=>absurd ((h b).mpr Wb) (by simp)
 | a::A,[],_,_,h=>absurd ((h a).mp Wb) (by simp)
 | a::A,b::B,hA,hB,h=>by
  obtain ⟨a1,a2⟩:=List.pairwise_cons.mp hA
  obtain ⟨b1,b2⟩:=List.pairwise_cons.mp hB
  have e:a=b:=by
   rcases R6.mp ((h a).mp Wb) with e | m1
   ·exact e
   ·rcases R6.mp ((h b).mpr Wb) with e | m2
    ·exact e.symm
    ·exact absurd (htr _ _ _ (a1 b m2) (b1 a m1)) (hirr a)
  subst e
  congr 1
  refine Zp1 R hirr htr A B a2 b2 fun x=>⟨fun hx => ?_,fun hx => ?_⟩
  ·rcases R6.mp ((h x).mp (Wt _ hx)) with e | m
   ·subst e;exact absurd (a1 _ hx) (hirr _)
   ·exact m
  ·rcases R6.mp ((h x).mpr (Wt _ hx)) with e | m
   ·subst e;exact absurd (b1 _ hx) (hirr _)
   ·exact m
def Zg8 (n code:Nat):List Nat:=(List.range n).filter fun i=>code.testBit i
def firstN (l:List Nat):Nat:=match l.getLast? with
 | none=>0
 | some x=>x+1
def Z6 (n:Nat):Nat→List (List Nat)
 | 0=>[[]]
 | k+1=>(Z6 n k).flatMap fun l=>(List.range' (firstN l) (n - firstN l)).map fun x=>l++[x]
theorem ZE3 (l:List Nat) (h:l.Pairwise (· < ·)):∀ a∈l,a<firstN l:=by
 intro a ha
 rcases Wu l with rfl | ⟨l0,y,rfl⟩
 ·simp at ha
 ·simp only [Wv] at h ha ⊢
  have h3:=(Ww.mp h).2.2
  simp only [firstN,List.getLast?_append,List.getLast?_singleton,Option.some_or]
  rcases Wa.mp ha with h4 | h4
  ·have:=h3 a h4 y (by simp);omega
  ·simp only [R3] at h4;omega
theorem Zwz (l:List Nat) (x:Nat) (h:∀ a∈l,a<x):firstN l≤x:=by
 rcases Wu l with rfl | ⟨l0,y,rfl⟩
 ·simp [firstN]
 ·simp only [Wv] at h ⊢
  simp only [firstN,List.getLast?_append,List.getLast?_singleton,Option.some_or]
  have:=h y (by simp);omega
theorem Jd (n:Nat):∀ k l,l∈Z6 n k↔l.length=k∧l.Pairwise (· < ·)∧∀ x∈l,x<n
 | 0,l=>by
  simp only [Z6,R3,List.length_eq_zero_iff]
  constructor
  ·rintro rfl;simp
  ·rintro ⟨h,_⟩;exact h
 | k+1,l=>by
  simp only [Z6,List.mem_flatMap,Wd,List.mem_range'_1]
  constructor
  ·rintro ⟨l0,h0,x,⟨h1,h2⟩,rfl⟩
   obtain ⟨g1,g2,g3⟩:=(Jd n k l0).mp h0
   refine ⟨by simp [g1],Ww.mpr ⟨g2,by simp,fun a ha b hb => ?_⟩,fun y hy => ?_⟩
   ·simp only [R3] at hb
    have:=ZE3 l0 g2 a ha
    omega
   ·rcases Wa.mp hy with h | h
    ·exact g3 y h
    ·simp only [R3] at h
     omega
  ·rintro ⟨h1,h2,h3⟩
   rcases Wu l with rfl | ⟨l0,y,rfl⟩
   ·simp at h1
   ·simp only [Wv] at h1 h2 h3 ⊢
    obtain ⟨g1,_,g3⟩:=Ww.mp h2
    have hy:=h3 y (by simp)
    have hf:=Zwz l0 y fun a ha=>g3 a ha y (by simp)
    exact ⟨l0,(Jd n k l0).mpr ⟨by simpa using h1,g1,fun x hx=>h3 x (by simp [hx])⟩,y,⟨hf,by omega⟩,rfl⟩
theorem ZAh:∀ (l:List Nat) (x y:Nat),x<y→l++[x]<l++[y]
 | [],x,y,h=>by simp [Wh,h]
 | a::l,x,y,h=>by simp only [Rp,Wh];exact .inr ⟨trivial,ZAh l x y h⟩
theorem ZE4:∀ (a b:List Nat) (u v:List Nat),a.length=b.length→a<b→a++u<b++v
 | [],[],_,_,_,h=>absurd h (List.lt_irrefl _)
 | [],_::_,_,_,h,_=>by simp at h
 | _::_,[],_,_,h,_=>by simp at h
 | a::x,b::y,u,v,hl,h=>by
  simp only [Rp,Wh] at h ⊢
  rcases h with h | ⟨h,h'⟩
  ·exact .inl h
  ·exact .inr ⟨h,ZE4 x y u v (by simpa using hl) h'⟩
theorem Znm (n:Nat):∀ k,(Z6 n k).Pairwise (· < ·)
 | 0=>by simp [Z6]
 | k+1=>by
  have ih:=Znm n k
  rw [Z6,List.pairwise_flatMap]
  refine ⟨fun l _ => ?_,Wx ?_ ih⟩
  ·rw [Wo]
   exact (List.pairwise_lt_range' (s:=firstN l) (n:=n - firstN l)).imp fun h=>ZAh l _ _ h
  ·intro a b ha hb hab x hx y hy
   obtain ⟨p,_,rfl⟩:=Wd.mp hx
   obtain ⟨q,_,rfl⟩:=Wd.mp hy
   exact ZE4 a b _ _ (((Jd n k a).mp ha).1.trans ((Jd n k b).mp hb).1.symm) hab
def asZ (l:List Nat):List Int:=l.map fun (i:Nat)=>(i:Int)
theorem ZHu:∀ (a b:List Nat),asZ a<asZ b↔a<b
 | [],[]=>by simp [asZ]
 | [],_::_=>by simp [asZ]
 | _::_,[]=>by simp [asZ]
 | a::x,b::y=>by
  have ih:=ZHu x y
  simp only [asZ,List.map_cons,Wh] at ih ⊢
  rw [ih]
  constructor
  ·rintro (h | ⟨h,h'⟩)
   ·exact .inl (by omega)
   ·exact .inr ⟨by omega,h'⟩
  ·rintro (h | ⟨h,h'⟩)
   ·exact .inl (by omega)
   ·exact .inr ⟨by omega,h'⟩
theorem Zzr (n m:Nat):((List.range m).flatMap (Z6 n)).Pairwise fun a b=>ltG (asZ a) (asZ b):=by
 rw [List.pairwise_flatMap]
 refine ⟨fun k _=>Wx ?_ (Znm n k),?_⟩
 ·intro a b ha hb hab
  refine .inr ⟨?_,(ZHu a b).mpr hab⟩
  simp [asZ,((Jd n k a).mp ha).1,((Jd n k b).mp hb).1]
 ·refine (Wq (n:=m)).imp ?_
  intro i j hij x hx y hy
  refine .inl ?_
  simp only [asZ,List.length_map,((Jd n i x).mp hx).1,((Jd n j y).mp hy).1]
  exact hij
def Zzs:List Nat→Nat
 | []=>0
 | i::l=>2 ^ i ||| Zzs l
theorem ZwA:∀ (l:List Nat) (i:Nat),(Zzs l).testBit i=decide (i∈l)
 | [],i=>by simp [Zzs]
 | a::l,i=>by
  rw [Zzs,Nat.testBit_or,ZwA l i,Nat.testBit_two_pow]
  by_cases h:a=i <;> simp [h,eq_comm]
theorem ZAi (n:Nat):∀ (l:List Nat),(∀ x∈l,x<n)→Zzs l<2 ^ n
 | [],_=>by simp [Zzs];exact Nat.pow_pos (by omega)
 | a::l,h=>Nat.or_lt_two_pow (Nat.pow_lt_pow_right (by omega) (h a Wb)) (ZAi n l fun x hx=>h x (Wt _ hx))
theorem ZAj (n:Nat) (l:List Nat):(∃ c,c<2 ^ n∧Zg8 n c=l)↔l.Pairwise (· < ·)∧∀ x∈l,x<n:=by
 constructor
 ·rintro ⟨c,_,rfl⟩
  refine ⟨(Wq (n:=n)).filter _,fun x hx => ?_⟩
  exact We.mp (Wr.mp hx).1
 ·rintro ⟨h1,h2⟩
  refine ⟨Zzs l,ZAi n l h2,Zp1 (·< ·) (fun a=>Nat.lt_irrefl a) (fun a b c=>Nat.lt_trans) _ _ ((Wq (n:=n)).filter _) h1 fun x => ?_⟩
  simp only [Zg8,Wr,We,ZwA,decide_eq_true_eq]
  exact ⟨fun h=>h.2,fun h=>⟨h2 x h,h⟩⟩
theorem ZGM (n a b:Nat) (ha:a<2 ^ n) (hb:b<2 ^ n) (h:Zg8 n a=Zg8 n b):a=b:=by
 apply Nat.eq_of_testBit_eq
 intro i
 by_cases hi:i<n
 ·have e:i∈Zg8 n a↔i∈Zg8 n b:=by rw [h]
  simp only [Zg8,Wr,We,hi,true_and] at e
  cases h1:a.testBit i <;> cases h2:b.testBit i <;> simp_all
 ·have hp:2 ^ n≤2 ^ i:=Nat.pow_le_pow_right (by omega) (by omega)
  rw [Nat.testBit_lt_two_pow (Nat.lt_of_lt_of_le ha hp),Nat.testBit_lt_two_pow (Nat.lt_of_lt_of_le hb hp)]
def ZFZ (n:Nat) (Z:List Nat→Bool):List (List Nat):=((List.range (n+1)).flatMap (Z6 n)).filter Z
def Zzt (n:Nat) (Z:List Nat→Bool):List (List Nat):=((List.range (2 ^ n)).map (Zg8 n)).filter Z
theorem ZE5:∀ (a b:List Nat),asZ a=asZ b→a=b
 | [],[],_=>rfl
 | [],_::_,h=>by simp [asZ] at h
 | _::_,[],h=>by simp [asZ] at h
 | a::x,b::y,h=>by
  simp only [asZ,List.map_cons,List.cons.injEq] at h
  rw [ZE5 x y h.2,show a=b by omega]
theorem ZtP (n:Nat) (Z:List Nat→Bool) (S:List (List Int)) (hp:S.Perm ((Zzt n Z).map asZ)) (hs:S.Pairwise fun a b=>¬ ltG b a):S=(ZFZ n Z).map asZ:=by
 have hall:∀ l,l∈Zzt n Z↔l∈ZFZ n Z:=by
  intro l
  simp only [Zzt,ZFZ,Wr,Wd,We,List.mem_flatMap]
  refine and_congr_left fun _ => ?_
  rw [ZAj]
  constructor
  ·rintro ⟨h1,h2⟩
   refine ⟨l.length,?_,(Jd n _ l).mpr ⟨rfl,h1,h2⟩⟩
   have h3:l.length≤n:=by
    obtain ⟨c,_,hc⟩:=(ZAj n l).mpr ⟨h1,h2⟩
    rw [←hc]
    have:=List.length_filter_le (fun i=>c.testBit i) (List.range n)
    simpa [Zg8] using this
   omega
  ·rintro ⟨k,_,hk⟩
   exact ((Jd n k l).mp hk).2
 have hnd:(Zzt n Z).Pairwise (·≠ ·):=by
  refine List.Pairwise.filter _ ?_
  rw [Wo]
  refine Wx ?_ (Wq (n:=2 ^ n))
  intro a b ha hb hab h
  have:=ZGM n a b (We.mp ha) (We.mp hb) h
  omega
 have hnd2:S.Nodup:=by
  refine hp.nodup_iff.mpr ?_
  show ((Zzt n Z).map asZ).Pairwise (·≠ ·)
  rw [Wo]
  exact hnd.imp fun h e=>h (ZE5 _ _ e)
 have hS:S.Pairwise ltG:=by
  refine (hs.and hnd2).imp ?_
  rintro a b ⟨h1,h2⟩
  exact Classical.byContradiction fun h3=>h2 (ZE2 a b h3 h1)
 have hR:((ZFZ n Z).map asZ).Pairwise ltG:=by
  rw [Wo]
  exact (Zzr n (n+1)).filter _
 refine Zp1 ltG ZE1 Zp0 _ _ hS hR fun x => ?_
 rw [hp.mem_iff]
 simp only [Wd,hall]
end Go.Proofs.YtemcdiajejekoaaGreatDoor.Slim
