/- Parts of the proof. -/
import Derived.Test.YtemcdiajejekoaaGreatDoorSlimZw14
import Derived.Sort.Grow
import Derived.Lib.LaidTab
import Derived.Lib.ItoaMem
import Derived.LaidSub
import Derived.MakeChecks
import Derived.Shelf.SlSortCmp.Whole1
set_option linter.unusedSimpArgs false
set_option linter.unusedVariables false
namespace Go.Proofs.YtemcdiajejekoaaGreatDoor.Slim
open Go Go.Sort
theorem Rel.later {ι:Emb} {m:Mem} {w w':World} (R:Rel ι m w) (hsz:w.heap.size≤w'.heap.size) (hold:∀ r,r<w.heap.size→w'.heap[r]?=w.heap[r]?) (h1:w'.os=w.os) (h2:w'.tape=w.tape) (h3:w'.output=w.output) :
  Rel ι m w'∧Ext ι m w ι m w':=by
 have hsh:YJ w w':=by
  intro r s h
  have hr:r<w.heap.size:=by
   rcases Nat.lt_or_ge r w.heap.size with h' | h'
   ·exact h'
   ·unfold World.shape? at h
    simp [Array.getElem?_eq_none h'] at h
  unfold World.shape? at *
  rw [hold r hr]
  exact h
 refine R.of0 ⟨⟨R.len,fun b c d hb=>Nat.lt_of_lt_of_le (R.low b c d hb) hsz,fun b cs wr hb => ?_,fun b es hb => ?_,R.sep⟩,⟨Emb.le_refl _,Nat.le_refl _,hsz,hsh,fun r hr=>.inl hr,fun r hr _=>hold r hr,h1,h2,h3⟩⟩
 ·obtain ⟨c,d,g1,g2⟩:=R.at' b cs wr hb
  exact ⟨c,d,g1,g2.mono (Emb.le_refl _) hsh (hold c (R.low b c d g1))⟩
 ·obtain ⟨c,g1,g2⟩:=R.mp b es hb
  exact ⟨c,g1,g2.mono (hold c (R.low b c 0 g1))⟩
theorem Rel.grown {ι:Emb} {m:Mem} {w:World} (R:Rel ι m w) (k:Nat) (os:Array Obj):Rel ι m (grow (w.drewN k) os)∧Ext ι m w ι m (grow (w.drewN k) os):=by
 refine R.later ?_ (fun r hr => ?_) rfl rfl rfl
 ·show w.heap.size≤(w.heap++os).size
  simp
 ·show (w.heap++os)[r]?=w.heap[r]?
  rw [Array.getElem?_append_left hr]
theorem ZxN.tab {ι:Emb} {m:Mem} {w:World} {P:Program} {name:String} {k:IntKind} {zs:List Int} {g:Nat} {Q:Array Value→Prop} (h:ZxN ι m w) (hg:P.globalNamed name=some g) (hm:(g,Q)∈ZcP) (hQ:∀ cs,Q cs→cs=(zs.map fun z=>Value.int k z).toArray) :
  Lib.TabIs P w name k zs:=by
 obtain ⟨_,_,cs,e,fz,h1,h2⟩:=h _ hm
 unfold Lib.TabIs World.var?
 rw [hg]
 simp only [Option.bind_some]
 simp only at h1
 rw [h1,←hQ cs h2]
end Go.Proofs.YtemcdiajejekoaaGreatDoor.Slim
namespace Go.Proofs.YtemcdiajejekoaaGreatDoor.Slim
open Go Go.Sort
theorem ZhQ {α:Type} [Inhabited α] (enc:α→Value) (w:World) (blk off:Nat) (d:Array α):putRow enc w blk off d=putRow id w blk off (d.map enc):=by
 unfold putRow
 congr 1
 funext c
 unfold putCells
 apply Array.ext
 ·simp
 ·intro k h1 h2
  simp only [Array.getElem_mapIdx,Array.size_map,id_eq]
  split
  ·rename_i h
   have hk:k - off<d.size:=by omega
   rw [getElem!_pos d _ hk,getElem!_pos (d.map enc) _ (by simpa using hk),Array.getElem_map]
  ·rfl
theorem ZbZ.holds {ι:Emb} {w:World} {c d:Nat} {cs:List AV} (h:ZbZ ι w c d cs true):∃ us:List Value,VL ι w cs us∧us.length=cs.length∧Holds id w c d us.toArray:=by
 obtain ⟨e,M,hM,hfree⟩:=h.free rfl
 obtain ⟨us,h1,h2⟩:=h.vals
 refine ⟨us,h1,h1.length,fun j hj => ?_⟩
 have hj':j<us.length:=by simpa using hj
 have hc:=h2 j (us[j]'hj') (List.getElem?_eq_getElem hj')
 have e1:(us.toArray)[j]! = us[j]:=by rw [getElem!_pos us.toArray j hj];simp
 exact ⟨by rw [e1];exact hc,hfree _ (Zhh hM hc)⟩
theorem Rel.row {P:Program} {ι:Emb} {m:Mem} {w:World} (R:Rel ι m w) {b c d:Nat} {cs new:List AV} {vs:List Value} (hb:m.H[b]?=some (.cells cs true)) (hi:ι[b]?=some (some (c,d)))
  (hv:VL ι w new vs) (hc:new.all AV.isCell=true) (hlen:new.length=cs.length) (hpos:0<cs.length) (n:Nat) (os:Array Obj) :
  Rel ι ⟨m.H.set b (.cells new true),m.esc⟩ (grow (putRow id (Sort.ahead w n) c d vs.toArray) os)∧Ext ι m w ι ⟨m.H.set b (.cells new true),m.esc⟩ (grow (putRow id (Sort.ahead w n) c d vs.toArray) os):=by
 obtain ⟨c',d',hi',hC⟩:=R.at' b cs true hb
 rw [hi] at hi'
 cases hi'
 obtain ⟨us,_,h2,h3⟩:=hC.holds
 have hvl:=hv.length
 obtain ⟨_,r1,r2⟩:=R.store (P:=P) (o:=0) hb hi hv hc (by omega) (by omega) m.esc
 have e0:Yz cs 0 new=new:=by
  unfold Yz
  rw [List.take_zero,List.nil_append,List.drop_eq_nil_of_le (by omega),List.append_nil]
 rw [e0] at r1 r2
 have e1:w.setCells c (d+0) vs=putRow id w c d vs.toArray:=by
  have h4:=setCells_putRow w c d vs 0 us.toArray (by simp;omega)
  rw [putRow_self id w c d _ h3] at h4
  rw [h4]
  congr 1
  apply Array.ext
  ·simp;omega
  ·intro k k1 k2
   have k2':k<vs.length:=by simpa using k2
   have k3:=get_setMany vs 0 us.toArray k (by simp;omega)
   rw [getElem!_pos _ k k1] at k3
   rw [k3,if_pos ⟨Nat.zero_le _,by omega⟩,Nat.sub_zero,getElem!_pos _ k k2']
   simp
 rw [e1] at r1 r2
 obtain ⟨r3,r4⟩:=r1.grown n os
 have e2:grow (putRow id (Sort.ahead w n) c d vs.toArray) os=grow ((putRow id w c d vs.toArray).drewN n) os:=rfl
 rw [e2]
 exact ⟨r3,r2.trans r4⟩
theorem VL.ints {ι:Emb} {w:World}:∀ {zs:List Int} {us:List Value},VL ι w (zs.map (.int .i64)) us→us=zs.map (.int .i64)
 | [],us,h=>h
 | z::zs,us,h=>by
  obtain ⟨y,ys,rfl,rfl,h'⟩:=h
  rw [VL.ints h'];rfl
theorem VL.of_ints (ι:Emb) (w:World):∀ (zs:List Int),VL ι w (zs.map (.int .i64)) (zs.map (.int .i64))
 | []=>rfl
 | z::zs=>⟨_,_,rfl,rfl,VL.of_ints ι w zs⟩
theorem ZmK (zs:List Int):(zs.map (AV.int .i64)).all AV.isCell=true:=by
 simp [AV.isCell]
theorem VL.strs {ι:Emb} {w:World}:∀ {xs:List ByteArray} {us:List Value},VL ι w (xs.map .str) us→us=xs.map .string
 | [],us,h=>h
 | z::zs,us,h=>by
  obtain ⟨y,ys,rfl,rfl,h'⟩:=h
  rw [VL.strs h'];rfl
theorem VL.of_strs (ι:Emb) (w:World):∀ (xs:List ByteArray),VL ι w (xs.map .str) (xs.map .string)
 | []=>rfl
 | z::zs=>⟨_,_,rfl,rfl,VL.of_strs ι w zs⟩
theorem ZmL {w:World} {c d:Nat} {zs:List Int} (h:Holds id w c d (zs.map (Value.int .i64)).toArray):Holds (Value.int .i64) w c d zs.toArray:=by
 intro j hj
 have hj':j<zs.length:=by simpa using hj
 have:=h j (by simpa using hj)
 rw [getElem!_pos _ j (by simpa using hj)] at this
 rw [getElem!_pos _ j hj]
 simpa using this
end Go.Proofs.YtemcdiajejekoaaGreatDoor.Slim
namespace Go.Proofs.YtemcdiajejekoaaGreatDoor.Slim
open Go
open Nat renaming reduceAdd → Ra, reduceLeDiff → Rb, reduceLT → Rc, reduceEqDiff → Rd
open List renaming length_append → RL, size_toArray → RM, length_singleton → RN, mem_singleton → RP, mem_cons → RQ, length_cons → RB, cons_append → Rv, mem_cons_self → RR, mem_map → RS, mem_range → RT, mem_append → RU, append_assoc → Rj, cons_lt_cons_iff → RV, length_drop → RW, pairwise_map → RX, pairwise_lt_range → RY, mem_filter → RZ, contains_eq_mem → Wa, getElem?_eq_some_iff → Wb, getElem?_append_left → Wd, mem_cons_of_mem → We, eq_nil_or_concat → Wf, concat_eq_append → Wg, pairwise_append → Wh, Pairwise.imp_of_mem → Wi
open Bool renaming false_eq_true → RO, false_and → RG, and_false → RJ, and_eq_true → Ru
open Nat renaming add_assoc → Rw
variable {pr : Zq} {H : List Blk} {e : Option Nat}
def sumStep (h:Nat) (b:UInt8):Nat:=(41*h+b.toNat+1) % 999979
def ZyC (l:By):Nat:=l.foldl sumStep 7
theorem ZhR:∀ (l:By) (h:Nat),h<999979→l.foldl sumStep h<999979
 | [],h,hh=>hh
 | b::l,h,hh=>ZhR l _ (Nat.mod_lt _ (by omega))
theorem Zwq (l:By):ZyC l<999979:=ZhR l 7 (by omega)
theorem ZyD {h:Nat} (b:UInt8) (hh:h<999979):(IntKind.i64.wrap (IntKind.i64.wrap (IntKind.i64.wrap (41*(h:Int))+IntKind.i64.wrap (b.toNat:Int))+1)).tmod 999979=((sumStep h b:Nat):Int):=by
 have hb:=b.toNat_lt
 have w1:IntKind.i64.wrap (41*(h:Int))=41*(h:Int):=Yc (by omega) (by omega)
 have w2:IntKind.i64.wrap (b.toNat:Int)=(b.toNat:Int):=Yc (by omega) (by omega)
 have w3:IntKind.i64.wrap (41*(h:Int)+(b.toNat:Int))=41*(h:Int)+(b.toNat:Int):=Yc (by omega) (by omega)
 have w4:IntKind.i64.wrap (41*(h:Int)+(b.toNat:Int)+1)=41*(h:Int)+(b.toNat:Int)+1:=Yc (by omega) (by omega)
 rw [w1,w2,w3,w4,Int.tmod_eq_emod_of_nonneg (by omega)]
 unfold sumStep
 omega
theorem Zun {α β:Type} (f:β→α→β) (z:β) {l:List α} {i:Nat} {x:α} (h:l[i]?=some x):f ((l.take i).foldl f z) x=(l.take (i+1)).foldl f z:=by
 rw [List.take_add_one,h,List.foldl_append]
 rfl
theorem ZpJ (l:By) (hn:l.length≤1073741824):call T pr ZbA [sV l] ⟨H,e⟩=some (if l.length≤4000 then .tup [.int .i64 (ZyC l),.bool true] else .tup [.int .i64 0,.bool false],⟨H,e⟩):=by
 by_cases h4:l.length≤4000
 ·have h4':¬ ((4000:Int)<(l.length:Int)):=by omega
  rw [if_pos h4]
  apply Wc.eq
  rw [ZK Zil]
  simp +contextual only [Zaj,Zec,J9,RM,h4',gt_iff_lt,decide_false,pp,go_sem,reduceIte,Ra,Rb,Rc,Rd]
  refine XQ (fun k st=>∃ (i:Nat) (y1 y2 y4 y5 y8:AV),k+i=l.length∧st=⟨[sV l,y1,y2,.int .i64 ((l.take i).foldl sumStep 7:Nat),y4,y5,.int .i64 l.length,.int .i64 i,y8],⟨H,none⟩⟩) ?_ l.length _ ⟨0,_,_,_,_,_,rfl,rfl⟩
  rintro k _ ⟨i,y1,y2,y4,y5,y8,hk,rfl⟩
  by_cases hi:i<l.length
  ·have hl:l[i]?=some l[i]:=List.getElem?_eq_getElem hi
   have hst:=ZyD l[i] (ZhR (l.take i) 7 (by omega))
   rw [Zun sumStep 7 hl] at hst
   simp +contextual only [Zb9,hi,ZA8 hl,hst,show ¬ ((999979:Int)=0) by omega,Zw (show i<9223372036854775807 by omega),decide_true,pp,go_sem,reduceIte,Ra,Rb,Rc,Rd]
   exact ⟨k - 1,by omega,i+1,_,_,_,_,_,by omega,rfl⟩
  ·obtain rfl:i=l.length:=by omega
   simp +contextual only [Zb9,hi,List.take_length,decide_false,pp,go_sem,reduceIte,Ra,Rb,Rc,Rd]
   trivial
 ·have h4':(4000:Int)<(l.length:Int):=by omega
  rw [if_neg h4,Zl Zil]
  simp +contextual only [Zaj,Zec,J9,RM,h4',gt_iff_lt,decide_true,go_sem,reduceIte,Ra,Rb,Rc,Rd]
def ZfR (l:By):By:=l++[35]++Lib.itoa (ZyC l)
theorem Zsi {n:Int} (h1 : -9223372036854775807≤n) (h2:n≤9223372036854775807):(Lib.itoa n).length≤21:=by
 unfold Lib.itoa
 split
 ·have:=ZbT n.natAbs (by omega)
  rw [RB];omega
 ·have:=ZbT n.toNat (by omega)
  omega
theorem ZnS (u:Nat) (h:u<1000000):(Lib.decDigits u).length≤6:=by
 have:∀ (k u:Nat),u<10 ^ k→(Lib.decDigits u).length≤max k 1:=by
  intro k
  induction k with
  | zero=>
   intro u hu
   have:u=0:=by omega
   subst this;rw [Lib.decDigits];simp
  | succ k ih=>
   intro u hu
   rw [Lib.decDigits]
   split
   ·simp
   ·have:=ih (u / 10) (by rw [Nat.pow_succ] at hu;omega)
    rw [RL,RN]
    have h1:1≤k:=by
     rcases Nat.eq_zero_or_pos k with h0 | h0
     ·subst h0;omega
     ·exact h0
    omega
 have:=this 6 u (by omega)
 omega
theorem Ziw (l:By):(Lib.itoa (ZyC l)).length≤6:=by
 have:=Zwq l
 unfold Lib.itoa
 rw [if_neg (by omega),Int.toNat_natCast]
 exact ZnS _ (by omega)
theorem ZkQ (l:By):(ZfR l).length≤l.length+7:=by
 have:=Ziw l
 unfold ZfR
 simp only [RL,RN]
 omega
theorem Zwr (l:By) (c:UInt8):ZBR (bs l) (c.toNat:Int)=l.contains c:=by
 unfold ZBR
 rw [Zam]
 induction l with
 | nil=>rfl
 | cons b l ih=>
  rw [List.any_cons,List.contains_cons,ih]
  congr 1
  rw [Bool.eq_iff_iff]
  simp only [decide_eq_true_eq,beq_iff_eq]
  constructor
  ·intro h;exact (UInt8.toNat_inj.mp (by omega)).symm
  ·rintro rfl;rfl
def Zuo (l:By):Bool:=decide (l.length≤4000)&&(!l.contains 35&&decide ((ZfR l).length≤4000))
theorem ZbU (hi:Jg pr) (hc:YH pr) (l:By) (hn:l.length≤1073741824):call T pr Xy [sV l] ⟨H,e⟩=some (if Zuo l=true then .tup [sV (ZfR l),.bool true] else .tup [sV [],.bool false],⟨H,e⟩):=by
 have hcs:=fun L=>ZpJ (pr:=pr) (H:=L) (e:=none) l hn
 have hcon:∀ L,call T pr Yb [sV l,sV [35]] ⟨L,none⟩=some (.bool (l.contains 35),⟨L,none⟩):=fun L=>by
  rw [hc (bs l) 35 ⟨L,none⟩,ZkC,←Zwr l 35];rfl
 have hlt:=Zwq l
 have h1:l.length+1≤140737488355328:=by omega
 rw [Zl Zgs]
 unfold Zuo
 by_cases h4:l.length≤4000
 ·rw [if_pos h4] at hcs
  have hit:=fun L=>hi (ZyC l) ⟨L,none⟩ (by omega) (by omega)
  have hl:=Ziw l
  have h2:l.length+1+(Lib.itoa (ZyC l)).length≤140737488355328:=by omega
  have hsl:ZfR l=l++(35::Lib.itoa (ZyC l)):=by unfold ZfR;simp
  have hcmp:decide ((ZfR l).length≤4000) = !decide ((4000:Int)<((l++(35::Lib.itoa (ZyC l))).length:Int)):=by
   rw [hsl,←decide_not]
   exact decide_eq_decide.mpr (by omega)
  cases hB:l.contains 35 with
  | true=>
   rw [hB] at hcon
   simp +contextual only [Yu,XD,hcs,hit,hcon,h4,X0,h1,h2,RN,decide_true,Bool.not_true,RG,RJ,go_sem,reduceIte,Ra,Rb,Rc,Rd]
  | false=>
   rw [hB] at hcon
   rw [hcmp,hsl]
   generalize Lib.itoa (ZyC l)=d at hit h2 ⊢
   simp only [RL,RB] at *
   cases hS:decide ((4000:Int)<((l.length+(d.length+1):Nat):Int)) with
   | true=>simp +contextual only [Yu,XD,hcs,hit,hcon,h4,X0,h1,h2,hS,gt_iff_lt,J9,RM,RN,decide_true,Bool.not_true,Bool.not_false,Bool.true_and,RG,RJ,go_sem,reduceIte,Ra,Rb,Rc,Rd]
   | false=>simp +contextual only [Yu,XD,hcs,hit,hcon,h4,X0,h1,h2,hS,gt_iff_lt,J9,RM,RN,decide_true,Bool.not_true,Bool.not_false,Bool.true_and,RG,RJ,go_sem,reduceIte,Ra,Rb,Rc,Rd]
 ·rw [if_neg h4] at hcs
  have hit:=fun L=>hi 0 ⟨L,none⟩ (by omega) (by omega)
  have hl:=Zsi (n:=0) (by omega) (by omega)
  have h2:l.length+1+(Lib.itoa 0).length≤140737488355328:=by omega
  simp +contextual only [Yu,XD,hcs,hit,h4,X0,h1,h2,RN,decide_true,decide_false,RG,RO,if_false,go_sem,reduceIte,Ra,Rb,Rc,Rd]
theorem Zws:∀ (u:Nat) (b:UInt8),b∈Lib.decDigits u→48≤b.toNat∧b.toNat≤57:=by
 have one:∀ i:Nat,i<10→48≤(UInt8.ofNat (48+i)).toNat∧(UInt8.ofNat (48+i)).toNat≤57:=by decide +kernel
 intro u
 induction u using Nat.strongRecOn with
 | _ u ih=>
  intro b hb
  rw [Lib.decDigits] at hb
  split at hb
  ·rename_i h
   rw [RP] at hb
   subst hb
   exact one u h
  ·rename_i h
   rcases RU.mp hb with hb | hb
   ·exact ih (u / 10) (by omega) b hb
   ·rw [RP] at hb
    subst hb
    exact one _ (Nat.mod_lt _ (by omega))
theorem ZhS {n:Int} (hn:0≤n) {b:UInt8} (hb:b∈Lib.itoa n):48≤b.toNat∧b.toNat≤57:=by
 unfold Lib.itoa at hb
 rw [if_neg (by omega)] at hb
 exact Zws _ _ hb
theorem ZbV {l:By} {c:UInt8} (h:∀ b∈l,b≠c):l.contains c=false:=by
 cases hc:l.contains c with
 | false=>rfl
 | true=>exact absurd rfl (h c (by simpa using hc))
theorem Zwt {n:Int} (hn:0≤n) {c:UInt8} (hc:c.toNat<48∨57<c.toNat):(Lib.itoa n).contains c=false :=
 ZbV fun b hb h=>by
  have:=ZhS hn hb
  rw [h] at this
  omega
theorem ZpK {l:By} (h:Zfi (bs l)=true):l.contains 35=false :=
 ZbV fun b hb h35=>by
  unfold Zfi at h
  rw [Zam,List.all_eq_true] at h
  have:=h b hb
  subst h35
  simp [okB] at this
def Zof (c r:By):Bool:=ZrC (bs c) (bs r)
theorem ZgM {c r:By} (h:Zof c r=true):1≤c.length∧c.length≤160∧r.length≤250∧Zfi (bs c)=true∧Zfi (bs r)=true∧c.contains 64=false:=by
 unfold Zof ZrC at h
 simp only [Ru,decide_eq_true_eq,J9,RM,Bool.not_eq_true'] at h
 obtain ⟨⟨⟨h1,h2⟩,h3⟩,h4,h5,h6⟩:=h
 refine ⟨by omega,by omega,by omega,h4,h5,?_⟩
 have:=Zwr c 64
 rw [←this]
 exact h6
def Zbe (k:Int) (c r:By):By:=Lib.itoa k++[32]++c++[64]++r
def ZgN (k:Int) (c r:By):By:=ZfR (Zbe k c r)++[10]
theorem Zsj {k:Int} {c r:By} (h0:0≤k) (h1:k≤59):(Zbe k c r).length≤c.length+r.length+4:=by
 have:(Lib.itoa k).length≤2:=by
  unfold Lib.itoa
  rw [if_neg (by omega)]
  by_cases h:k.toNat<10
  ·rw [Lib.decDigits_one h];simp
  ·rw [Lib.decDigits_two h (by omega)];simp
 unfold Zbe
 simp only [RL,RN]
 omega
theorem ZpL {k:Int} {c r:By} (h0:0≤k) (h:Zof c r=true):(Zbe k c r).contains 35=false:=by
 obtain ⟨_,_,_,h4,h5,_⟩:=ZgM h
 unfold Zbe
 simp only [Wa,RU,RP] at *
 have a1:=Zwt (c:=35) h0 (by decide)
 have a2:=ZpK h4
 have a3:=ZpK h5
 simp only [Wa,decide_eq_false_iff_not] at a1 a2 a3 ⊢
 rintro ((((h | h) | h) | h) | h)
 ·exact a1 h
 ·cases h
 ·exact a2 h
 ·cases h
 ·exact a3 h
theorem Zsk {k:Int} {c r:By} (h0:0≤k) (h1:k≤59) (h:Zof c r=true):Zuo (Zbe k c r)=true:=by
 obtain ⟨_,g2,g3,_,_,_⟩:=ZgM h
 have hb:=Zsj (c:=c) (r:=r) h0 h1
 have hs:=ZkQ (Zbe k c r)
 unfold Zuo
 rw [ZpL h0 h,decide_eq_true (by omega),decide_eq_true (by omega)]
 rfl
def ZlT (k:Int) (c r:By):Bool:=(decide (0≤k)&&decide (k≤59))&&Zof c r
theorem ZdN (hi:Jg pr) (hp:YH pr) {c r:By} (hc:c.length≤1048576) (hr:r.length≤1048576) (k:Int):call T pr Jj [.int .i64 k,rcV (bs c) (bs r)] ⟨H,e⟩ =
  some (if ZlT k c r=true then .tup [sV (ZgN k c r),.bool true] else .tup [sV [],.bool false],⟨H,e⟩):=by
 have hv:=fun L=>Q3 (pr:=pr) (H:=L) (e:=none) (s:=bs c) (t:=bs r) hp (by rw [Zam];omega) (by rw [Zam];omega)
 rw [Zl ZiG]
 unfold ZlT Zof
 cases hk:(decide (0≤k)&&decide (k≤59)) with
 | false=>simp +contextual only [Xw,Kw,Z0,hk,RG,RO,if_false,go_sem,reduceIte,Ra,Rb,Rc,Rd]
 | true=>
  simp only [Ru,decide_eq_true_eq] at hk
  have hk':(decide (0≤k)&&decide (k≤59))=true:=by simp [hk]
  cases hr':ZrC (bs c) (bs r) with
  | false=>
   rw [hr'] at hv
   simp +contextual only [Xw,Kw,Z0,hk',hv,RJ,RO,if_false,go_sem,reduceIte,Ra,Rb,Rc,Rd]
  | true=>
   rw [hr'] at hv
   have hit:=fun L=>hi k ⟨L,none⟩ (by omega) (by omega)
   have hbl:(Zbe k c r).length=(Lib.itoa k).length+1+c.length+1+r.length:=by unfold Zbe;simp;omega
   have hil:=Zsi (n:=k) (by omega) (by omega)
   have hack:=fun L=>ZbU (pr:=pr) (H:=L) (e:=none) hi hp (Zbe k c r) (by omega)
   rw [if_pos (Zsk hk.1 hk.2 hr')] at hack
   have hsl:=ZkQ (Zbe k c r)
   have g1:(Lib.itoa k).length+1≤140737488355328:=by omega
   have g2:(Lib.itoa k).length+1+c.length≤140737488355328:=by omega
   have g3:(Lib.itoa k).length+1+c.length+1≤140737488355328:=by omega
   have g4:(Lib.itoa k).length+1+c.length+1+r.length≤140737488355328:=by omega
   have g5:(ZfR (Zbe k c r)).length+1≤140737488355328:=by omega
   have hbd:Zbe k c r=Lib.itoa k++(32::(c++(64::r))):=by unfold Zbe;simp
   rw [hbd] at hack g5
   unfold ZgN
   rw [hbd]
   generalize Lib.itoa k=d at *
   simp only [Rw,Nat.reduceAdd] at g1 g2 g3 g4 g5
   simp +contextual only [Xw,Kw,Z0,hk',hv,hit,hack,X0,g1,g2,g3,g4,g5,RL,RB,List.length_nil,Rw,Bool.true_and,J9,RM,go_sem,reduceIte,Ra,Rb,Rc,Rd]
   rw [if_pos (by omega),if_pos (by omega)]
theorem ZkR {G:List Blk} {j n sz bytes:Nat} {cs new:List AV} {cap c:Option Nat} {w:Bool} (hG:G[j]?=some (.cells cs true)) (hcap:cap=some 0→n=0) (hcs:cs.length=n*sz) (hnew:new.length=sz) (hmb:(n+1)*bytes≤maxBytes) :
  XO (H++(G++[.cells new w])) e false sz bytes (.slice (some (H.length+j,0)) sz n cap) (.slice (some (H.length+G.length,0)) sz 1 c) =
   some (.slice (some (H.length+(G.length+1),0)) sz (n+1) none,⟨H++(ZdJ cap j (G++[.cells new w])++[.cells (cs++new) true]),e⟩):=by
 have hj:=(Wb.mp hG).1
 have hg:(G++[Blk.cells new w])[j]?=some (.cells cs true):=by rw [Wd hj];exact hG
 have hs:YK false (H++(G++[.cells new w])) (.slice (some (H.length+G.length,0)) sz 1 c)=some (1,new):=by
  have:Za (H++(G++[Blk.cells new w])) (H.length+G.length)=some new:=by
   rw [JO,Zin];rfl
  exact ZbQ _ 1 sz c new _ this (by rw [hnew,Nat.one_mul])
 have:=Zpm (e:=e) (str:=false) (bytes:=bytes) hg hs (by omega) hcs (by rw [hnew,Nat.one_mul]) hmb hcap
 rw [RL,RN] at this
 exact this
theorem ZmM {cap:Option Nat} {j k:Nat} {G:List Blk} (h:k≠j):(ZdJ cap j G)[k]?=G[k]?:=by
 unfold ZdJ
 split
 ·rfl
 ·rw [List.getElem?_set_ne (fun e=>h e.symm)]
theorem ZrG {cap:Option Nat} {j:Nat} {G:List Blk} {b:Blk} {n:Nat} (hn:n=G.length):(ZdJ cap j G++[b])[n]?=some b:=by
 rw [List.getElem?_append_right (by rw [YO];omega),YO]
 simp [hn]
def Yy (c:UInt8):By→List By
 | []=>[[]]
 | b::l=>if b=c then []::Yy c l else match Yy c l with
  | []=>[[b]]
  | x::xs=>(b::x)::xs
theorem Zwu (c:UInt8):∀ l:By,Yy c l≠[]
 | []=>by simp [Yy]
 | b::l=>by
  rw [Yy]
  split
  ·simp
  ·split <;> simp
theorem ZkS {c:UInt8}:∀ {l:By},(∀ b∈l,b≠c)→Yy c l=[l]
 | [],_=>rfl
 | b::l,h=>by
  rw [Yy,if_neg (h b (by simp)),ZkS (fun x hx=>h x (by simp [hx]))]
theorem ZpM {c:UInt8} (q:By):∀ {p:By},(∀ b∈p,b≠c)→Yy c (p++c::q)=p::Yy c q
 | [],_=>by rw [List.nil_append,Yy,if_pos rfl]
 | b::p,h=>by
  rw [Rv,Yy,if_neg (h b (by simp)),ZpM q (fun x hx=>h x (by simp [hx]))]
theorem ZnT (c:UInt8):∀ (l:By) (b:UInt8),b∈Zar l c→b≠c
 | [],b,h=>by simp [Zar] at h
 | x::l,b,h=>by
  unfold Zar at h
  rw [List.takeWhile_cons] at h
  split at h
  ·rename_i hx
   rcases RQ.mp h with rfl | h
   ·simpa using hx
   ·exact ZnT c l b h
  ·cases h
theorem ZgO (c:UInt8):∀ (l:By),l.contains c=true→l=Zar l c++c::Zfn l c
 | [],h=>by simp at h
 | x::l,h=>by
  unfold Zar Zfn
  rw [List.takeWhile_cons,List.dropWhile_cons]
  by_cases hx:x=c
  ·subst hx
   simp
  ·have h2:(x != c)=true:=by simpa using hx
   have h3:l.contains c=true:=by
    rw [List.contains_cons] at h
    have:(c==x)=false:=by simpa using fun e=>hx e.symm
    rw [this,Bool.false_or] at h
    exact h
   have ih:=ZgO c l h3
   unfold Zar Zfn at ih
   rw [h2]
   simp only [if_true,Rv]
   rw [←ih]
theorem ZmN (c:UInt8):∀ l:By,(Yy c l).length≤l.length+1
 | []=>by simp [Yy]
 | b::l=>by
  have ih:=ZmN c l
  rw [Yy]
  split
  ·simp;omega
  ·split
   ·simp
   ·rename_i h
    rw [h] at ih
    simp at ih ⊢
    omega
def Zfo (xs:List By):List AV:=xs.map sV
theorem ZfS (xs:List By):(Zfo xs).length=xs.length:=List.length_map _
theorem ZfT (a b:List By):Zfo (a++b)=Zfo a++Zfo b:=List.map_append
abbrev slX (b n:Nat) (c:Option Nat):AV:=.slice (some (b,0)) 1 n c
theorem ZmO {p q:By} {c:UInt8} (h:p.contains c=false):Zar (p++c::q) c=p∧Zfn (p++c::q) c=q:=by
 have hno:∀ b∈p,(b != c)=true:=by
  intro b hb
  rw [Wa,decide_eq_false_iff_not] at h
  have:b≠c:=fun e=>h (e ▸ hb)
  simpa using this
 unfold Zar Zfn
 constructor
 ·rw [List.takeWhile_append_of_pos hno]
  simp
 ·rw [List.dropWhile_append_of_pos hno]
  simp
theorem ZgP (l:By) (c:UInt8):(Zar l c).length≤l.length:=by
 rcases Zej l c with ⟨_,_,e,_⟩|⟨i,_,h,_,e,_⟩ <;> rw [e]
 ·exact Nat.le_refl _
 ·rw [List.length_take];omega
theorem ZnU (l:By) (c:UInt8):(Zfn l c).length≤l.length:=by
 rcases Zej l c with ⟨_,_,_,e⟩|⟨i,_,h,_,_,e⟩ <;> rw [e]
 ·simp
 ·rw [RW];omega
theorem Zwv {l:By} {c:UInt8} (h:l.contains c=true):Zfn l c=l.drop ((Zar l c).length+1)∧(Zar l c).length+1≤l.length:=by
 rcases Zej l c with ⟨_,e,_,_⟩|⟨i,_,hi,_,ea,eb⟩
 ·rw [e] at h;cases h
 ·rw [eb,ea,List.length_take,Nat.min_eq_left (by omega)]
  exact ⟨rfl,by omega⟩
def ZnV (k:Int) (l:By):By:=(Zar l 35).drop ((Lib.itoa k).length+1)
def ZxK (k:Int) (l:By):Option (By×By) :=
 if Zof (Zar (ZnV k l) 64) (Zfn (ZnV k l) 64)=true∧ZgN k (Zar (ZnV k l) 64) (Zfn (ZnV k l) 64)=l++[10] then some (Zar (ZnV k l) 64,Zfn (ZnV k l) 64) else none
theorem Zww {k:Int} (h0:0≤k):(Lib.itoa k).contains 32=false:=Zwt h0 (by decide)
theorem ZmP {k:Int} {c r l:By} (h0:0≤k) (h1:k≤59) (hv:Zof c r=true) (hl:ZgN k c r=l++[10]) :
  l=ZfR (Zbe k c r)∧Zar l 35=Zbe k c r∧ZnV k l=c++64::r∧Zfn (Zbe k c r) 32=c++64::r∧Zar (c++64::r) 64=c∧Zfn (c++64::r) 64=r:=by
 have e1:l=ZfR (Zbe k c r):=by
  unfold ZgN at hl
  exact (List.append_inj' hl rfl).1.symm
 have e2:Zar l 35=Zbe k c r:=by
  rw [e1]
  unfold ZfR
  rw [Rj]
  exact (ZmO (ZpL h0 hv)).1
 have hb:Zbe k c r=Lib.itoa k++32::(c++64::r):=by unfold Zbe;simp
 have e3:ZnV k l=c++64::r:=by
  unfold ZnV
  rw [e2,hb]
  have:Lib.itoa k++32::(c++64::r)=(Lib.itoa k++[32])++(c++64::r):=by simp
  rw [this,List.drop_left' (by simp)]
 have h64:=(ZgM hv).2.2.2.2.2
 refine ⟨e1,e2,e3,?_,(ZmO h64).1,(ZmO h64).2⟩
 rw [hb]
 exact (ZmO (Zww h0)).2
theorem ZnW {k:Int} {l:By} (h0:0≤k) (h1:k≤59) {c r:By}:ZxK k l=some (c,r)↔Zof c r=true∧ZgN k c r=l++[10]:=by
 unfold ZxK
 constructor
 ·intro h
  split at h
  ·rename_i hc
   cases h
   exact hc
  ·cases h
 ·rintro ⟨hv,hl⟩
  obtain ⟨_,_,e3,_,e5,e6⟩:=ZmP h0 h1 hv hl
  rw [e3,e5,e6,if_pos ⟨hv,hl⟩]
def ZkT (l:By):Option By:=if Zuo (Zar l 35)=true∧ZfR (Zar l 35)=l then some (Zar l 35) else none
def iC (l:By):By:=Zar (Zfn ((ZkT l).getD []) 32) 64
def iR (l:By):By:=Zfn (Zfn ((ZkT l).getD []) 32) 64
theorem ZBa (l:By):(iC l).length≤l.length∧(iR l).length≤l.length:=by
 have h:((ZkT l).getD []).length≤l.length:=by
  unfold ZkT
  split
  ·exact ZgP l 35
  ·simp
 have h2:=ZnU ((ZkT l).getD []) 32
 have h3:=ZgP (Zfn ((ZkT l).getD []) 32) 64
 have h4:=ZnU (Zfn ((ZkT l).getD []) 32) 64
 unfold iC iR
 omega
theorem ZBb {k:Int} {l c r:By} (h0:0≤k) (h1:k≤59) (h:ZxK k l=some (c,r)):(ZkT l).isSome=true∧iC l=c∧iR l=r:=by
 obtain ⟨hv,hl⟩:=(ZnW h0 h1).mp h
 obtain ⟨e1,e2,e3,e4,e5,e6⟩:=ZmP h0 h1 hv hl
 have hver:ZkT l=some (Zbe k c r):=by
  unfold ZkT
  rw [e2,if_pos ⟨Zsk h0 h1 hv,e1.symm⟩]
 unfold iC iR
 rw [hver]
 simp only [Option.getD_some,e4,e5,e6,Option.isSome_some,and_self]
theorem ZyE {k:Int} {l:By} (h0:0≤k) (h1:k≤59):((ZkT l).isSome&&(ZlT k (iC l) (iR l)&&decide (ZgN k (iC l) (iR l)=l++[10])))=(ZxK k l).isSome:=by
 cases hd:ZxK k l with
 | some p=>
  obtain ⟨c,r⟩:=p
  obtain ⟨g1,g2,g3⟩:=ZBb h0 h1 hd
  obtain ⟨hv,hl⟩:=(ZnW h0 h1).mp hd
  rw [g1,g2,g3]
  simp [ZlT,h0,h1,hv,hl]
 | none=>
  cases hx:((ZkT l).isSome&&(ZlT k (iC l) (iR l)&&decide (ZgN k (iC l) (iR l)=l++[10]))) with
  | false=>rfl
  | true=>
   simp only [Ru,decide_eq_true_eq,ZlT] at hx
   have:=(ZnW h0 h1).mpr ⟨hx.2.1.2,hx.2.2⟩
   rw [hd] at this
   cases this
theorem ZgQ (hi:Jg pr) (hc:YH pr) (hx:QC pr) (l:By) (hn:l.length≤1048576):call T pr Jy [sV l] ⟨H,e⟩=some (.tup [sV ((ZkT l).getD []),.bool (ZkT l).isSome],⟨H,e⟩):=by
 have hcut:=fun L=>ZaJ (pr:=pr) (H:=L) (e:=none) hx l 35 (by omega)
 have hA:=ZgP l 35
 have hack:=fun L=>ZbU (pr:=pr) (H:=L) (e:=none) hi hc (Zar l 35) (by omega)
 rw [Zl Zgt]
 unfold ZkT
 cases ha:Zuo (Zar l 35) with
 | false=>
  simp only [ha,RO,if_false] at hack
  simp +contextual only [YT,JA,hcut,hack,false_and,if_false,Option.getD_none,Option.isSome_none,go_sem,reduceIte,Ra,Rb,Rc,Rd]
 | true=>
  simp only [ha,if_true] at hack
  have hbd:=ZkP (ZfR (Zar l 35)) l
  cases hd:decide (ZfR (Zar l 35)=l) with
  | false=>
   rw [hd] at hbd
   have hd':=of_decide_eq_false hd
   simp +contextual only [YT,JA,hcut,hack,hbd,hd',and_false,if_false,Option.getD_none,Option.isSome_none,go_sem,reduceIte,Ra,Rb,Rc,Rd]
  | true=>
   rw [hd] at hbd
   rw [if_pos ⟨rfl,of_decide_eq_true hd⟩]
   simp +contextual only [YT,JA,hcut,hack,hbd,Option.getD_some,Option.isSome_some,go_sem,reduceIte,Ra,Rb,Rc,Rd]
theorem Zup (hi:Jg pr) (hc:YH pr) (hx:QC pr) {k:Int} (h0:0≤k) (h1:k≤59) (l:By) (hn:l.length≤1048576):call T pr ZeE [.int .i64 k,sV l] ⟨H,e⟩=some (.tup [rcV (bs (iC l)) (bs (iR l)),.bool (ZxK k l).isSome],⟨H,e⟩):=by
 have hver:=fun L=>ZgQ (pr:=pr) (H:=L) (e:=none) hi hc hx l hn
 have hvl:((ZkT l).getD []).length≤l.length:=by
  unfold ZkT
  split
  ·exact ZgP l 35
  ·simp
 have hcut1:=fun L=>ZaJ (pr:=pr) (H:=L) (e:=none) hx ((ZkT l).getD []) 32 (by omega)
 have hB:=ZnU ((ZkT l).getD []) 32
 have hcut2:=fun L=>ZaJ (pr:=pr) (H:=L) (e:=none) hx (Zfn ((ZkT l).getD []) 32) 64 (by omega)
 have hcr:=ZBa l
 have henc:=fun L=>ZdN (pr:=pr) (H:=L) (e:=none) hi hc (c:=iC l) (r:=iR l) (by omega) (by omega) k
 have hok:=ZyE (l:=l) h0 h1
 have hll:l.length+1≤140737488355328:=by omega
 have hbd:=ZkP (ZgN k (iC l) (iR l)) (l++[10])
 rw [Zl Ztm,←hok]
 have eC:Zar (Zfn ((ZkT l).getD []) 32) 64=iC l:=rfl
 have eR:Zfn (Zfn ((ZkT l).getD []) 32) 64=iR l:=rfl
 rw [eC,eR] at hcut2
 generalize iC l=c at *
 generalize iR l=r at *
 cases hv:(ZkT l).isSome with
 | false=>
  rw [hv] at hver
  cases ho:ZlT k c r with
  | false=>
   simp only [ho,RO,if_false] at henc
   simp +contextual only [QX,Zcu,Zb,hver,hcut1,hcut2,henc,go_sem,reduceIte,Ra,Rb,Rc,Rd]
  | true=>
   simp only [ho,if_true] at henc
   simp +contextual only [QX,Zcu,Zb,hver,hcut1,hcut2,henc,go_sem,reduceIte,Ra,Rb,Rc,Rd]
 | true=>
  rw [hv] at hver
  cases ho:ZlT k c r with
  | false=>
   simp only [ho,RO,if_false] at henc
   simp +contextual only [QX,Zcu,Zb,hver,hcut1,hcut2,henc,go_sem,reduceIte,Ra,Rb,Rc,Rd]
  | true=>
   simp only [ho,if_true] at henc
   simp +contextual only [QX,Zcu,Zb,hver,hcut1,hcut2,henc,X0,hll,RN,hbd,go_sem,reduceIte,Ra,Rb,Rc,Rd]
def Zzt (k:Int) (l:By):Prop:=¬ (Zar l 35).length<(Lib.itoa k++[32]).length∧(Zar l 35).take (Lib.itoa k++[32]).length=Lib.itoa k++[32]
instance (k:Int) (l:By):Decidable (Zzt k l):=by unfold Zzt;infer_instance
abbrev Rc:=By×By
def rcC (p:Rc):List AV:=[sV p.1,sV p.2]
theorem Zuq (p:Rc):(rcC p).length=2:=rfl
theorem ZcJ (p:Rc) (n:Nat):((rcC p).all fun c=>c.under n)=true:=by simp [rcC,AV.under]
abbrev ZyF (xs:List Rc):List AV:=Zum rcC xs
abbrev slR (b n:Nat) (c:Option Nat):AV:=.slice (some (b,0)) 2 n c
def Zbm (k:Nat) (l:By):Option (Rc×Nat):=if l.contains 10=true then (ZxK k (Zar l 10)).map fun p=>(p,(Zar l 10).length+1) else none
def ZaK:Nat→Nat→By→List Rc
 | 0,k,l=>[]
 | f+1,k,l=>match Zbm k l with
  | some (p,n)=>p::ZaK f (k+1) (l.drop n)
  | none=>[]
def Zcc:Nat→Nat→Nat→By→List Nat
 | 0,k,a,l=>[]
 | f+1,k,a,l=>match Zbm k l with
  | some (p,n)=>(a+n)::Zcc f (k+1) (a+n) (l.drop n)
  | none=>[]
theorem ZgR {k:Nat} {l:By} {p:Rc} {n:Nat} (h:Zbm k l=some (p,n)):n≤l.length∧l.contains 10=true∧ZxK k (Zar l 10)=some p∧n=(Zar l 10).length+1:=by
 unfold Zbm at h
 split at h
 ·rename_i hc
  obtain ⟨q,hq,hq2⟩:=Option.map_eq_some_iff.mp h
  cases hq2
  exact ⟨(Zwv hc).2,hc,hq,rfl⟩
 ·cases h
theorem Zur {k:Nat} {l:By} (h:Zbm k l=none):l.contains 10=false∨(ZxK k (Zar l 10)).isSome=false:=by
 unfold Zbm at h
 split at h
 ·right
  cases hd:ZxK k (Zar l 10) with
  | none=>rfl
  | some p=>rw [hd] at h;cases h
 ·rename_i hc
  left
  simpa using hc
theorem Zwx (k:Nat):Zbm k []=none:=by simp [Zbm]
theorem ZkU:∀ (f k a:Nat) (l:By),(ZaK f k l).length=(Zcc f k a l).length∧(ZaK f k l).length≤f
 | 0,k,a,l=>⟨rfl,Nat.le_refl _⟩
 | f+1,k,a,l=>by
  rw [ZaK,Zcc]
  cases h:Zbm k l with
  | none=>simp
  | some p=>
   obtain ⟨p,n⟩:=p
   have:=ZkU f (k+1) (a+n) (l.drop n)
   simp only [RB]
   omega
def Zus (n:Nat):Option Nat:=if n=0 then some 0 else none
theorem ZpN {n:Nat} (h:Zus n=some 0):n=0:=by
 unfold Zus at h
 split at h
 ·assumption
 ·cases h
def ZnX (ns:List Nat):List AV:=Y5 (ns.map fun n:Nat=>(n:Int))
theorem ZkV (ns:List Nat):(ZnX ns).length=ns.length:=by simp [ZnX,Y5]
theorem ZrH (a b:List Nat):ZnX (a++b)=ZnX a++ZnX b:=by simp [ZnX,Y5]
theorem ZhT (n:Nat) (ns:List Nat):((ZnX ns).all fun c=>c.under n)=true:=by
 unfold ZnX Y5
 simp [AV.under]
theorem ZgS (hi:Jg pr) (hc:YH pr) (hx:QC pr) (l:By) (hn:l.length≤1048576):call T pr Jx [sV l] ⟨H,e⟩ =
  some (.tup [slR H.length (ZaK 60 0 l).length (Zus (ZaK 60 0 l).length),slI (H.length+1) (ZaK 60 0 l).length (Zus (ZaK 60 0 l).length)],⟨H++[.cells (ZyF (ZaK 60 0 l)) true,.cells (ZnX (Zcc 60 0 0 l)) true],e⟩):=by
 apply Wc.eq
 rw [ZK Zgp]
 simp +contextual only [Yt,ZbG,Zb,pp,go_sem,reduceIte,Ra,Rb,Rc,Rd]
 refine XQ (fun n st=>∃ (a j1 j2:Nat) (xs:List Rc) (es:List Nat) (cap:Option Nat) (G:List Blk) (y1 y2 y6 y7 y8 y9 y10 y11:AV),cap=Zus xs.length∧n+xs.length=60∧a≤l.length∧es.length=xs.length∧xs++ZaK n xs.length (l.drop a)=ZaK 60 0 l∧es++Zcc n xs.length a (l.drop a)=Zcc 60 0 0 l∧j1≠j2 ∧
  G[j1]?=some (.cells (ZyF xs) true)∧G[j2]?=some (.cells (ZnX es) true) ∧
  st=⟨[sV l,y1,y2,slR (H.length+j1) xs.length cap,slI (H.length+j2) xs.length cap,.int .i64 a,y6,y7,y8,y9,y10,y11],⟨H++G,none⟩⟩) ?_ 60 _
  ⟨0,0,1,[],[],some 0,[.cells [] true,.cells [] true],_,_,_,_,_,_,_,_,rfl,rfl,by omega,rfl,rfl,rfl,by decide,rfl,rfl,rfl⟩
 rintro n _ ⟨a,j1,j2,xs,es,cap,G,y1,y2,y6,y7,y8,y9,y10,y11,rfl,hk,ha,hel,hop,hen,hj,g1,g2,rfl⟩
 have hmb:(xs.length+1)*32≤maxBytes:=by unfold maxBytes;omega
 have hmb2:(xs.length+1)*8≤maxBytes:=by unfold maxBytes;omega
 cases n with
 | zero=>
  have h60:xs.length=60:=by omega
  have hx1:ZaK 60 0 l=xs:=by rw [←hop];simp [ZaK]
  have hx2:Zcc 60 0 0 l=es:=by rw [←hen];simp [Zcc]
  have hlt:decide ((xs.length:Int)<60)=false:=decide_eq_false (by omega)
  rw [hx1,hx2]
  simp +contextual only [Y0,hlt,Yt,g1,g2,Q5 ZcJ,ZhT,ne_eq,hj,not_false_eq_true,pp,ff,go_sem,reduceIte,Ra,Rb,Rc,Rd]
 | succ n=>
  have hlt:decide ((xs.length:Int)<60)=true:=decide_eq_true (by omega)
  have hdl:(l.drop a).length≤1048576:=by rw [RW];omega
  have hcut:=fun L=>ZaJ (pr:=pr) (H:=L) (e:=none) hx (l.drop a) 10 (by omega)
  have hA:=ZgP (l.drop a) 10
  have hdec:=fun L=>Zup (pr:=pr) (H:=L) (e:=none) hi hc hx (k:=(xs.length:Int)) (by omega) (by omega) (Zar (l.drop a) 10) (by omega)
  rw [ZaK] at hop
  rw [Zcc] at hen
  cases hh:Zbm xs.length (l.drop a) with
  | none=>
   simp only [hh,List.append_nil] at hop hen
   rw [←hop,←hen]
   rcases Zur hh with h10 | hds
   ·rw [h10] at hcut
    simp +contextual only [Y0,hlt,Zji,Zsh,ha,hcut,hdec,Yt,g1,g2,ZY g1,ZY g2,Q5 ZcJ,ZhT,ne_eq,hj,not_false_eq_true,pp,ff,go_sem,reduceIte,Ra,Rb,Rc,Rd]
   ·rw [hds] at hdec
    cases h10:(l.drop a).contains 10 <;> rw [h10] at hcut <;> simp +contextual only [Y0,hlt,Zji,Zsh,ha,hcut,hdec,Yt,g1,g2,ZY g1,ZY g2,Q5 ZcJ,ZhT,ne_eq,hj,not_false_eq_true,pp,ff,go_sem,reduceIte,Ra,Rb,Rc,Rd]
  | some q=>
   obtain ⟨⟨c,r⟩,m⟩:=q
   obtain ⟨hm1,h10,hd1,hm2⟩:=ZgR hh
   rw [RW] at hm1
   obtain ⟨_,hc1,hr1⟩:=ZBb (by omega) (by omega) hd1
   rw [hd1,hc1,hr1,Option.isSome_some] at hdec
   rw [h10] at hcut
   simp only [hh] at hop hen
   have happ1:=fun e'=>ZkR (H:=H) (e:=e') (G:=G++[.cells [sV c,sV r] true]) (j:=j1) (n:=xs.length) (sz:=2) (bytes:=32) (cs:=ZyF xs) (new:=[sV c,sV r]) (cap:=Zus xs.length) (c:=some 1) (w:=true) (ZY g1 _) ZpN (ZkO Zuq xs) rfl hmb
   have g2':(ZdJ (Zus xs.length) j1 (G++[.cells [sV c,sV r] true,.cells [sV c,sV r] true])++[.cells (ZyF xs++[sV c,sV r]) true])[j2]?=some (.cells (ZnX es) true):=by
    rw [Wd (by rw [YO,RL];have:=(Wb.mp g2).1;omega),ZmM (fun h=>hj h.symm)]
    exact ZY g2 _
   have happ2:=fun e'=>ZkR (H:=H) (e:=e') (G:=ZdJ (Zus xs.length) j1 (G++[.cells [sV c,sV r] true,.cells [sV c,sV r] true])++[.cells (ZyF xs++[sV c,sV r]) true]) (j:=j2) (n:=xs.length) (sz:=1) (bytes:=8) (cs:=ZnX es) (new:=[.int .i64 ((a+m:Nat):Int)]) (cap:=Zus xs.length) (c:=some 1) (w:=true) g2' ZpN (by rw [ZkV,Nat.mul_one];exact hel) rfl hmb2
   simp only [Rj,Rv,List.nil_append,RL,RB,List.length_nil,YO,Nat.zero_add] at happ1 happ2
   have hw1:IntKind.i64.wrap (((Zar (l.drop a) 10).length:Int)+1)=(m:Int):=by rw [hm2];exact Zw (by omega)
   have hw2:IntKind.i64.wrap ((a:Int)+(m:Int))=((a+m:Nat):Int):=by
    rw [show (a:Int)+(m:Int)=((a+m:Nat):Int) by omega];exact Yc (by omega) (by omega)
   have hrx:ZyF xs++[sV c,sV r]=ZyF (xs++[(c,r)]):=by show _=Zum rcC _;rw [ZkN];rfl
   have hex:ZnX es++[.int .i64 ((a+m:Nat):Int)]=ZnX (es++[a+m]):=by rw [ZrH];rfl
   simp +contextual only [Y0,Zb,hlt,Zji,Zsh,ha,hcut,hdec,J9,RM,hw1,hw2,happ1,happ2,YO,pp,go_sem,reduceIte,Ra,Rb,Rc,Rd]
   have hlen:xs.length+1=(xs++[(c,r)]).length:=by simp
   rw [hrx,hex,hlen]
   refine ⟨n,by omega,a+m,G.length+2,G.length+4,xs++[(c,r)],es++[a+m],none,ZdJ (Zus xs.length) j2 (ZdJ (Zus xs.length) j1 (G++[.cells [sV c,sV r] true,.cells [sV c,sV r] true])++[.cells (ZyF (xs++[(c,r)])) true,.cells [.int .i64 ((a+m:Nat):Int)] true])++[.cells (ZnX (es++[a+m])) true],
    _,_,_,_,_,_,_,_,by simp [Zus],by simp;omega,by omega,by simp [hel],?_,?_,by omega,?_,?_,rfl⟩
   ·rw [←hop,Rj,RL,List.drop_drop]
    rfl
   ·rw [←hen,Rj,RL,List.drop_drop]
    rfl
   ·rw [Wd (by rw [YO,RL,YO,RL];simp),ZmM (by have:=(Wb.mp g2).1;omega)]
    rw [List.getElem?_append_right (by rw [YO,RL];simp),YO,RL]
    simp
   ·exact ZrG (by rw [RL,YO,RL];rfl)
def ZdR:Nat→Nat→By→Nat
 | 0,k,l=>0
 | f+1,k,l=>match Zbm k l with
  | some (p,n)=>n+ZdR f (k+1) (l.drop n)
  | none=>0
theorem Zwy {k:Nat} {d:By} {q:Rc} {n:Nat} (p:By) (h:Zbm k d=some (q,n)):Zbm k (d++p)=some (q,n):=by
 obtain ⟨h1,h10,h3,h4⟩:=ZgR h
 have hw:=ZgO 10 d h10
 have hno:(Zar d 10).contains 10=false:=ZbV (ZnT 10 d)
 have hA:Zar (d++p) 10=Zar d 10:=by
  conv=>lhs;rw [hw,Rj,Rv]
  exact (ZmO hno).1
 have hc:(d++p).contains 10=true:=by
  simp at h10 ⊢
  exact Or.inl h10
 unfold Zbm
 rw [if_pos hc,hA,h3,h4]
 rfl
theorem Zwz {k:Nat} {d p:By} {q:Rc} {n:Nat} (h:Zbm k (d++p)=some (q,n)) (hn:n≤d.length):Zbm k d=some (q,n):=by
 obtain ⟨h1,h10,h3,h4⟩:=ZgR h
 have hw:=ZgO 10 (d++p) h10
 have hno:(Zar (d++p) 10).contains 10=false:=ZbV (ZnT 10 (d++p))
 generalize Zar (d++p) 10=A at hw hno h3 h4
 generalize Zfn (d++p) 10=B at hw
 have hd:d=A++10::B.take (d.length - (A.length+1)):=by
  have:d=(A++10::B).take d.length:=by rw [←hw];simp
  conv=>lhs;rw [this]
  rw [List.take_append,List.take_of_length_le (by omega)]
  congr 1
  rw [show d.length - A.length=(d.length - (A.length+1))+1 by omega,List.take_succ_cons]
 have hA:Zar d 10=A:=by
  conv=>lhs;rw [hd]
  exact (ZmO hno).1
 have hc:d.contains 10=true:=by rw [hd];simp
 unfold Zbm
 rw [if_pos hc,hA,h3,h4]
 rfl
theorem Zsl:∀ (f k a:Nat) (l:By) (x:Nat),x∈Zcc f k a l→a<x∧∀ q n,Zbm k l=some (q,n)→a+n≤x
 | 0,k,a,l,x,h=>by simp [Zcc] at h
 | f+1,k,a,l,x,h=>by
  rw [Zcc] at h
  cases hh:Zbm k l with
  | none=>rw [hh] at h;simp at h
  | some q=>
   obtain ⟨q,n⟩:=q
   have hn:=(ZgR hh).2.2.2
   rw [hh] at h
   rcases RQ.mp h with rfl | h
   ·exact ⟨by omega,fun q' n' he=>by cases he;exact Nat.le_refl _⟩
   ·have:=(Zsl f (k+1) (a+n) (l.drop n) x h).1
    exact ⟨by omega,fun q' n' he=>by cases he;omega⟩
theorem Zsm (p:By):∀ (f k a:Nat) (d:By),a+d.length∈a::Zcc f k a (d++p)↔ZdR f k d=d.length
 | 0,k,a,d=>by
  simp only [Zcc,ZdR,RP]
  omega
 | f+1,k,a,d=>by
  cases hd:Zbm k d with
  | some q=>
   obtain ⟨q,n⟩:=q
   obtain ⟨h1,_,_,h4⟩:=ZgR hd
   have hx:=Zwy p hd
   have ih:=Zsm p f (k+1) (a+n) (d.drop n)
   rw [RW,show a+n+(d.length - n)=a+d.length by omega] at ih
   rw [Zcc,hx,ZdR,hd]
   simp only
   rw [List.drop_append_of_le_length h1,RQ,ih]
   constructor
   ·rintro (h | h)
    ·omega
    ·omega
   ·intro h
    exact .inr (by omega)
  | none=>
   rw [ZdR,hd]
   simp only
   constructor
   ·intro h
    rcases RQ.mp h with h | h
    ·omega
    ·have hg:=Zsl (f+1) k a (d++p) _ h
     cases hx:Zbm k (d++p) with
     | none=>rw [Zcc,hx] at h;simp at h
     | some q=>
      obtain ⟨q,n⟩:=q
      have h2:=hg.2 q n hx
      have:=Zwz hx (by omega)
      rw [hd] at this
      cases this
   ·intro h
    rw [←h]
    exact RR
theorem ZpO:∀ (f k a:Nat) (l:By),(a::Zcc f k a l)[(Zcc f k a l).length]?=some (a+ZdR f k l)
 | 0,k,a,l=>by simp [Zcc,ZdR]
 | f+1,k,a,l=>by
  rw [Zcc,ZdR]
  cases hh:Zbm k l with
  | none=>simp
  | some q=>
   obtain ⟨q,n⟩:=q
   have:=ZpO f (k+1) (a+n) (l.drop n)
   simp only [RB,List.getElem?_cons_succ]
   rw [this,Rw]
def Ze1 (d p:By) (c:Int):Bool:=decide (d.length+p.length≤30000)&&(decide (ZdR 60 0 (d++p)=d.length+p.length)&&(decide (ZdR 60 0 d=d.length)&&decide (c=((ZaK 60 0 (d++p)).length:Int))))
abbrev lgV (d p:By) (c:Int):AV:=.agg [sV d,sV p,.int .i64 c]
theorem ZlU {q:Nat} {c:Option Nat} {zs:List Int} (h:Za H q=some (Y5 zs)) (hn:zs.length≤1048576) (x:Int):call T pr YB [slI q zs.length c,.int .i64 x] ⟨H,e⟩=some (.bool (decide (x∈zs)),⟨H,e⟩):=by
 have hix:Wc (call T pr Y2 [slI q zs.length c,.int .i64 x] ⟨H,none⟩) fun v m=>∃ z:Int,decide (0≤z)=decide (x∈zs)∧v=.int .i64 z∧m=⟨H,none⟩:=by
  rw [ZK Zdl]
  simp +contextual only [Y4,Qw,pp,go_sem,reduceIte,Ra,Rb,Rc,Rd]
  refine XQ (fun k st=>∃ (i:Nat) (y3 y6 y7:AV),k+i=zs.length∧x ∉ zs.take i∧st=⟨[slI q zs.length c,.int .i64 x,.int .i64 0,y3,.int .i64 zs.length,.int .i64 i,y6,y7],⟨H,none⟩⟩) ?_ zs.length _ ⟨0,_,_,_,rfl,by simp,rfl⟩
  rintro k _ ⟨i,y3,y6,y7,hk,hni,rfl⟩
  by_cases hi:i<zs.length
  ·have hl:zs[i]?=some zs[i]:=List.getElem?_eq_getElem hi
   have hp:ZdV false (Y5 zs) i 1=some (.int .i64 zs[i]):=by rw [ZaQ];unfold Y5;rw [List.getElem?_map,hl];rfl
   cases hx:decide (x=zs[i]) with
   | true=>
    simp +contextual only [YN,h,hi,hp,hx,decide_true,pp,go_sem,reduceIte,Ra,Rb,Rc,Rd]
    refine ⟨i,?_,rfl⟩
    rw [decide_eq_true (by omega:(0:Int)≤i),decide_eq_true]
    rw [of_decide_eq_true hx]
    exact List.getElem_mem hi
   | false=>
    simp +contextual only [YN,h,hi,hp,hx,Zw (show i<9223372036854775807 by omega),decide_true,pp,go_sem,reduceIte,Ra,Rb,Rc,Rd]
    refine ⟨k - 1,by omega,i+1,_,_,_,by omega,?_,rfl⟩
    rw [List.take_add_one,hl,RU]
    rintro (h | h)
    ·exact hni h
    ·simp at h
     exact of_decide_eq_false hx h
  ·obtain rfl:i=zs.length:=by omega
   rw [List.take_length] at hni
   simp +contextual only [YN,hi,decide_false,pp,go_sem,reduceIte,Ra,Rb,Rc,Rd]
   exact ⟨-1,by simp [hni],rfl⟩
 apply Wc.eq
 rw [ZK Zbk]
 simp +contextual only [Z7,J4,pp,go_sem,reduceIte,Ra,Rb,Rc,Rd]
 refine hix.mono ?_
 rintro v m ⟨z,hz,rfl,rfl⟩
 simp +contextual only [Z7,hz,ge_iff_le,pp,go_sem,reduceIte,Ra,Rb,Rc,Rd]
theorem Zz1 {L:List Blk} {b q n k sz bytes:Nat} {cs new:List AV} {c cap:Option Nat} (hb:L[b]?=some (.cells cs true)) (hq:Za L q=some new) (hcs:cs.length=n*sz) (hnew:new.length=k*sz) (hcap:cap≠some 0) (hm:(n+k)*bytes≤maxBytes) :
  XO L e false sz bytes (.slice (some (b,0)) sz n cap) (.slice (some (q,0)) sz k c)=some (.slice (some (L.length,0)) sz (n+k) none,⟨L.set b .dead++[.cells (cs++new) true],e⟩):=by
 have hs:=ZbQ L k sz c new q hq hnew
 unfold XO
 simp only [hb,hs]
 rw [if_pos ⟨trivial,hm,hnew,by omega⟩,if_neg (fun h=>hcap h.1),List.drop_zero,List.take_of_length_le (Nat.le_of_eq hcs),if_pos trivial]
theorem ZlV (hi:Jg pr) (hc:YH pr) (hx:QC pr) (d p:By) (c:Int) (hd:d.length≤1048576) (hp:p.length≤1048576):call T pr Q8 [lgV d p c] ⟨H,e⟩ =
  if d.length+p.length≤30000 then some (.tup [slR H.length (ZaK 60 0 (d++p)).length (Zus (ZaK 60 0 (d++p)).length),.bool (Ze1 d p c)],⟨H++[.cells (ZyF (ZaK 60 0 (d++p))) true],e⟩)
  else some (.tup [.slice none 0 0 none,.bool (Ze1 d p c)],⟨H,e⟩):=by
 have hll:d.length+p.length≤140737488355328:=by omega
 unfold Ze1
 by_cases h3:d.length+p.length≤30000
 ·have hgt:decide ((30000:Int)<((d.length+p.length:Nat):Int))=false:=decide_eq_false (by omega)
  have hrr:=fun L=>ZgS (pr:=pr) (H:=L) (e:=none) hi hc hx (d++p) (by rw [RL];omega)
  have hol:=ZkU 60 0 0 (d++p)
  have hlast:=ZpO 60 0 0 (d++p)
  have hmem:=Zsm p 60 0 0 d
  rw [Nat.zero_add] at hlast hmem
  rw [if_pos h3,decide_eq_true h3,Bool.true_and]
  generalize ZaK 60 0 (d++p)=xs at *
  generalize Zcc 60 0 0 (d++p)=es at *
  generalize ZdR 60 0 (d++p)=S at *
  have happ:=fun L b q e' c0 (hb:L[b]?=some (.cells [.int .i64 0] true)) (hq:Za L q=some (ZnX es))=>Zz1 (e:=e') (L:=L) (b:=b) (q:=q) (n:=1) (k:=xs.length) (sz:=1) (bytes:=8) (c:=c0) (cap:=some 1) hb hq rfl (by rw [ZkV,Nat.mul_one];exact hol.1.symm) (by simp) (by unfold maxBytes;omega)
  have hen:AV.int .i64 0::ZnX es=Y5 (((0::es).map fun n:Nat=>(n:Int))):=rfl
  have hsub:IntKind.i64.wrap (((1+xs.length:Nat):Int) - 1)=(xs.length:Int):=by
   rw [show ((1+xs.length:Nat):Int) - 1=(xs.length:Int) by omega];exact Yc (by omega) (by omega)
  have hlt1:xs.length<1+xs.length:=by omega
  have hpl:ZdV false (AV.int .i64 0::ZnX es) xs.length 1=some (.int .i64 (S:Nat)):=by
   rw [hen,ZaQ]
   unfold Y5
   rw [hol.1,List.getElem?_map,List.getElem?_map,hlast]
   rfl
  have hcon:=fun L q c0 (h:Za L q=some (AV.int .i64 0::ZnX es))=>ZlU (pr:=pr) (H:=L) (e:=none) (q:=q) (c:=c0) (zs:=((0::es).map fun n:Nat=>(n:Int))) (h.trans (congrArg some hen)) (by simp;omega) (d.length:Int)
  have hmem2:decide ((d.length:Int)∈((0::es).map fun n:Nat=>(n:Int)))=decide (ZdR 60 0 d=d.length):=by
   refine decide_eq_decide.mpr ?_
   rw [←hmem,RS]
   constructor
   ·rintro ⟨x,hx,he⟩
    rw [show d.length=x by omega];exact hx
   ·intro h;exact ⟨d.length,h,rfl⟩
  rw [hmem2] at hcon
  have hzl:((0::es).map fun n:Nat=>(n:Int)).length=1+xs.length:=by simp;omega
  rw [hzl] at hcon
  have hA:decide ((S:Int)=((d.length+p.length:Nat):Int))=decide (S=d.length+p.length):=decide_eq_decide.mpr (by omega)
  rw [←hA]
  apply Wc.eq
  rw [ZK Zfd]
  cases hA':decide ((S:Int)=((d.length+p.length:Nat):Int)) with
  | false=>simp +contextual only [XK,Kk,Zb,X0,hll,hgt,gt_iff_lt,J9,RM,RL,hrr,happ,hsub,hlt1,hpl,hA',Q5 ZcJ,Nat.mul_one,Rw,decide_true,pp,ff,go_sem,reduceIte,Ra,Rb,Rc,Rd]
  | true=>
   cases hB':decide (ZdR 60 0 d=d.length) with
   | false=>
    rw [hB'] at hcon
    simp +contextual only [XK,Kk,Zb,X0,hll,hgt,gt_iff_lt,J9,RM,RL,hrr,happ,hsub,hlt1,hpl,hcon,hA',Q5 ZcJ,Nat.mul_one,Rw,decide_true,pp,ff,go_sem,reduceIte,Ra,Rb,Rc,Rd]
   | true=>
    rw [hB'] at hcon
    simp +contextual only [XK,Kk,Zb,X0,hll,hgt,gt_iff_lt,J9,RM,RL,hrr,happ,hsub,hlt1,hpl,hcon,hA',Q5 ZcJ,Nat.mul_one,Rw,decide_true,pp,ff,go_sem,reduceIte,Ra,Rb,Rc,Rd]
 ·have hgt:decide ((30000:Int)<((d.length+p.length:Nat):Int))=true:=decide_eq_true (by omega)
  rw [if_neg h3,decide_eq_false h3,RG]
  apply Wc.eq
  rw [ZK Zfd]
  simp +contextual only [XK,Kk,X0,hll,hgt,gt_iff_lt,J9,RM,RL,pp,ff,go_sem,reduceIte,Ra,Rb,Rc,Rd]
theorem ZyG {d p:By} {c:Int} (h:Ze1 d p c=true):d.length+p.length≤30000∧ZdR 60 0 (d++p)=d.length+p.length∧ZdR 60 0 d=d.length∧c=((ZaK 60 0 (d++p)).length:Int)∧(ZaK 60 0 (d++p)).length≤60:=by
 unfold Ze1 at h
 simp only [Ru,decide_eq_true_eq] at h
 exact ⟨h.1,h.2.1,h.2.2.1,h.2.2.2,(ZkU 60 0 0 (d++p)).2⟩
theorem Zfp (hi:Jg pr) (hc:YH pr) (hx:QC pr) (d p:By) (c:Int) (hd:d.length≤1048576) (hp:p.length≤1048576):call T pr Ke [lgV d p c] ⟨H,e⟩=some (.bool (Ze1 d p c),⟨H,e⟩):=by
 have hl:=fun L=>ZlV (pr:=pr) (H:=L) (e:=none) hi hc hx d p c hd hp
 rw [Zl Zln]
 by_cases h3:d.length+p.length≤30000
 ·simp only [h3,if_true] at hl
  simp +contextual only [Kj,Zb6,hl,go_sem,reduceIte,Ra,Rb,Rc,Rd]
 ·simp only [h3,if_false] at hl
  simp +contextual only [Kj,Zb6,hl,go_sem,reduceIte,Ra,Rb,Rc,Rd]
def ZBU (d p:By) (c:Int) (a r:By):AV :=
 if (Ze1 d p c&&Zof a r)=true then (if c=60 then .tup [lgV d p c,.int .i64 2] else .tup [lgV d (p++ZgN c a r) (c+1),.int .i64 0]) else .tup [lgV d p c,.int .i64 1]
theorem ZiY (hi:Jg pr) (hcn:YH pr) (hx:QC pr) (d p:By) (c:Int) (a r:By) (hd:d.length≤1048576) (hp:p.length≤1048576) (ha:a.length≤1048576) (hr:r.length≤1048576):call T pr Kr [lgV d p c,rcV (bs a) (bs r)] ⟨H,e⟩=some (ZBU d p c a r,⟨H,e⟩):=by
 have hv:=fun L=>Zfp (pr:=pr) (H:=L) (e:=none) hi hcn hx d p c hd hp
 have hr':=fun L=>Q3 (pr:=pr) (H:=L) (e:=none) (s:=bs a) (t:=bs r) hcn (by rw [Zam];omega) (by rw [Zam];omega)
 rw [Zl ZiE]
 unfold ZBU Zof
 cases ho:Ze1 d p c with
 | false=>
  rw [ho] at hv
  simp +contextual only [YU,Jk,Zb,hv,RG,RO,if_false,go_sem,reduceIte,Ra,Rb,Rc,Rd]
 | true=>
  rw [ho] at hv
  cases hk:ZrC (bs a) (bs r) with
  | false=>
   rw [hk] at hr'
   simp +contextual only [YU,Jk,Zb,hv,hr',RJ,RO,if_false,go_sem,reduceIte,Ra,Rb,Rc,Rd]
  | true=>
   rw [hk] at hr'
   obtain ⟨g1,_,_,g4,g5⟩:=ZyG ho
   by_cases h60:c=60
   ·have hd60:decide (c=60)=true:=decide_eq_true h60
    simp +contextual only [YU,Jk,Zb,hv,hr',if_pos h60,hd60,decide_true,Bool.and_true,if_true,go_sem,reduceIte,Ra,Rb,Rc,Rd]
    rw [h60]
   ·have hd60:decide (c=60)=false:=decide_eq_false h60
    have henc:=fun L=>ZdN (pr:=pr) (H:=L) (e:=none) hi hcn ha hr c
    have heo:ZlT c a r=true:=by
     unfold ZlT Zof
     rw [hk,decide_eq_true (by omega),decide_eq_true (by omega)];rfl
    rw [if_pos heo] at henc
    have hbl:=Zsj (k:=c) (c:=a) (r:=r) (by omega) (by omega)
    have hsl:=ZkQ (Zbe c a r)
    have hll:(ZgN c a r).length≤a.length+r.length+12:=by unfold ZgN;rw [RL,RN];omega
    have hadd:p.length+(ZgN c a r).length≤140737488355328:=by omega
    have hw:IntKind.i64.wrap (c+1)=c+1:=Yc (by omega) (by omega)
    simp +contextual only [YU,Jk,Zb,hv,hr',if_neg h60,hd60,henc,X0,hadd,hw,Bool.and_true,if_true,if_false,go_sem,reduceIte,Ra,Rb,Rc,Rd]
variable {pr : Zq} {H : List Blk} {e : Option Nat}
def Zqk:List Int→List Int→Int
 | [],[]=>0
 | [],_::_ => -1
 | _::_,[]=>1
 | a::x,b::y=>if a<b then -1 else if b<a then 1 else Zqk x y
def cfG (a b:List Int):Int:=if a.length=b.length then Zqk a b else (a.length:Int) - b.length
theorem ZwA:∀ (x y:List Int),Zqk x y<0↔x<y
 | [],[]=>by simp [Zqk]
 | [],_::_=>by simp [Zqk]
 | _::_,[]=>by simp [Zqk]
 | a::x,b::y=>by
  have ih:=ZwA x y
  rw [RV]
  unfold Zqk
  split
  ·rename_i h;simp [h]
  ·split
   ·rename_i h1 h2
    constructor
    ·intro h;omega
    ·rintro (h | ⟨h,_⟩)
     ·exact absurd h h1
     ·omega
   ·rename_i h1 h2
    rw [ih]
    constructor
    ·intro h;exact .inr ⟨by omega,h⟩
    ·rintro (h | ⟨_,h⟩)
     ·exact absurd h h1
     ·exact h
theorem Zzu (a b:List Int):cfG a b<0↔a.length<b.length∨a.length=b.length∧a<b:=by
 unfold cfG
 split
 ·rename_i h
  rw [ZwA]
  constructor
  ·intro g;exact .inr ⟨h,g⟩
  ·rintro (g | ⟨_,g⟩)
   ·omega
   ·exact g
 ·rename_i h
  constructor
  ·intro g;exact .inl (by omega)
  ·rintro (g | ⟨g,_⟩) <;> omega
def ltG (a b:List Int):Prop:=a.length<b.length∨a.length=b.length∧a<b
theorem ZwB (a:List Int):¬ ltG a a:=by
 rintro (h | ⟨_,h⟩)
 ·omega
 ·exact List.lt_irrefl a h
theorem ZkW (a b c:List Int) (h1:ltG a b) (h2:ltG b c):ltG a c:=by
 rcases h1 with h1 | ⟨h1,h1'⟩ <;> rcases h2 with h2 | ⟨h2,h2'⟩
 ·exact .inl (by omega)
 ·exact .inl (by omega)
 ·exact .inl (by omega)
 ·exact .inr ⟨by omega,List.lt_trans h1' h2'⟩
theorem ZwC (a b:List Int) (h1:¬ ltG a b) (h2:¬ ltG b a):a=b:=by
 unfold ltG at h1 h2
 have e:a.length=b.length:=by omega
 have g1:¬ a<b:=fun h=>h1 (.inr ⟨e,h⟩)
 have g2:¬ b<a:=fun h=>h2 (.inr ⟨e.symm,h⟩)
 exact List.le_antisymm (List.not_lt.mp g2) (List.not_lt.mp g1)
theorem ZkX {α:Type} (R:α→α→Prop) (hirr:∀ a,¬ R a a) (htr:∀ a b c,R a b→R b c→R a c):∀ (A B:List α),A.Pairwise R→B.Pairwise R→(∀ x,x∈A↔x∈B)→A=B
 | [],[],_,_,_=>rfl
 | [],b::B,_,_,h=>absurd ((h b).mpr RR) (by simp)
 | a::A,[],_,_,h=>absurd ((h a).mp RR) (by simp)
 | a::A,b::B,hA,hB,h=>by
  obtain ⟨a1,a2⟩:=List.pairwise_cons.mp hA
  obtain ⟨b1,b2⟩:=List.pairwise_cons.mp hB
  have e:a=b:=by
   rcases RQ.mp ((h a).mp RR) with e | m1
   ·exact e
   ·rcases RQ.mp ((h b).mpr RR) with e | m2
    ·exact e.symm
    ·exact absurd (htr _ _ _ (a1 b m2) (b1 a m1)) (hirr a)
  subst e
  congr 1
  refine ZkX R hirr htr A B a2 b2 fun x=>⟨fun hx => ?_,fun hx => ?_⟩
  ·rcases RQ.mp ((h x).mp (We _ hx)) with e | m
   ·subst e;exact absurd (a1 _ hx) (hirr _)
   ·exact m
  ·rcases RQ.mp ((h x).mpr (We _ hx)) with e | m
   ·subst e;exact absurd (b1 _ hx) (hirr _)
   ·exact m
def ZdS (n code:Nat):List Nat:=(List.range n).filter fun i=>code.testBit i
def Zbf (l:List Nat):Nat:=match l.getLast? with
 | none=>0
 | some x=>x+1
def ZaL (n:Nat):Nat→List (List Nat)
 | 0=>[[]]
 | k+1=>(ZaL n k).flatMap fun l=>(List.range' (Zbf l) (n - Zbf l)).map fun x=>l++[x]
theorem ZwD (l:List Nat) (h:l.Pairwise (· < ·)):∀ a∈l,a<Zbf l:=by
 intro a ha
 rcases Wf l with rfl | ⟨l0,y,rfl⟩
 ·simp at ha
 ·simp only [Wg] at h ha ⊢
  have h3:=(Wh.mp h).2.2
  simp only [Zbf,List.getLast?_append,List.getLast?_singleton,Option.some_or]
  rcases RU.mp ha with h4 | h4
  ·have:=h3 a h4 y (by simp);omega
  ·simp only [RP] at h4;omega
theorem ZwE (l:List Nat) (x:Nat) (h:∀ a∈l,a<x):Zbf l≤x:=by
 rcases Wf l with rfl | ⟨l0,y,rfl⟩
 ·simp [Zbf]
 ·simp only [Wg] at h ⊢
  simp only [Zbf,List.getLast?_append,List.getLast?_singleton,Option.some_or]
  have:=h y (by simp);omega
theorem X1 (n:Nat):∀ k l,l∈ZaL n k↔l.length=k∧l.Pairwise (· < ·)∧∀ x∈l,x<n
 | 0,l=>by
  simp only [ZaL,RP,List.length_eq_zero_iff]
  constructor
  ·rintro rfl;simp
  ·rintro ⟨h,_⟩;exact h
 | k+1,l=>by
  simp only [ZaL,List.mem_flatMap,RS,List.mem_range'_1]
  constructor
  ·rintro ⟨l0,h0,x,⟨h1,h2⟩,rfl⟩
   obtain ⟨g1,g2,g3⟩:=(X1 n k l0).mp h0
   refine ⟨by simp [g1],Wh.mpr ⟨g2,by simp,fun a ha b hb => ?_⟩,fun y hy => ?_⟩
   ·simp only [RP] at hb
    have:=ZwD l0 g2 a ha
    omega
   ·rcases RU.mp hy with h | h
    ·exact g3 y h
    ·simp only [RP] at h
     omega
  ·rintro ⟨h1,h2,h3⟩
   rcases Wf l with rfl | ⟨l0,y,rfl⟩
   ·simp at h1
   ·simp only [Wg] at h1 h2 h3 ⊢
    obtain ⟨g1,_,g3⟩:=Wh.mp h2
    have hy:=h3 y (by simp)
    have hf:=ZwE l0 y fun a ha=>g3 a ha y (by simp)
    exact ⟨l0,(X1 n k l0).mpr ⟨by simpa using h1,g1,fun x hx=>h3 x (by simp [hx])⟩,y,⟨hf,by omega⟩,rfl⟩
theorem Zsn:∀ (l:List Nat) (x y:Nat),x<y→l++[x]<l++[y]
 | [],x,y,h=>by simp [RV,h]
 | a::l,x,y,h=>by simp only [Rv,RV];exact .inr ⟨trivial,Zsn l x y h⟩
theorem ZwF:∀ (a b:List Nat) (u v:List Nat),a.length=b.length→a<b→a++u<b++v
 | [],[],_,_,_,h=>absurd h (List.lt_irrefl _)
 | [],_::_,_,_,h,_=>by simp at h
 | _::_,[],_,_,h,_=>by simp at h
 | a::x,b::y,u,v,hl,h=>by
  simp only [Rv,RV] at h ⊢
  rcases h with h | ⟨h,h'⟩
  ·exact .inl h
  ·exact .inr ⟨h,ZwF x y u v (by simpa using hl) h'⟩
theorem Zix (n:Nat):∀ k,(ZaL n k).Pairwise (· < ·)
 | 0=>by simp [ZaL]
 | k+1=>by
  have ih:=Zix n k
  rw [ZaL,List.pairwise_flatMap]
  refine ⟨fun l _ => ?_,Wi ?_ ih⟩
  ·rw [RX]
   exact (List.pairwise_lt_range' (s:=Zbf l) (n:=n - Zbf l)).imp fun h=>Zsn l _ _ h
  ·intro a b ha hb hab x hx y hy
   obtain ⟨p,_,rfl⟩:=RS.mp hx
   obtain ⟨q,_,rfl⟩:=RS.mp hy
   exact ZwF a b _ _ (((X1 n k a).mp ha).1.trans ((X1 n k b).mp hb).1.symm) hab
def asZ (l:List Nat):List Int:=l.map fun (i:Nat)=>(i:Int)
theorem Zzv:∀ (a b:List Nat),asZ a<asZ b↔a<b
 | [],[]=>by simp [asZ]
 | [],_::_=>by simp [asZ]
 | _::_,[]=>by simp [asZ]
 | a::x,b::y=>by
  have ih:=Zzv x y
  simp only [asZ,List.map_cons,RV] at ih ⊢
  rw [ih]
  constructor
  ·rintro (h | ⟨h,h'⟩)
   ·exact .inl (by omega)
   ·exact .inr ⟨by omega,h'⟩
  ·rintro (h | ⟨h,h'⟩)
   ·exact .inl (by omega)
   ·exact .inr ⟨by omega,h'⟩
theorem ZrI (n m:Nat):((List.range m).flatMap (ZaL n)).Pairwise fun a b=>ltG (asZ a) (asZ b):=by
 rw [List.pairwise_flatMap]
 refine ⟨fun k _=>Wi ?_ (Zix n k),?_⟩
 ·intro a b ha hb hab
  refine .inr ⟨?_,(Zzv a b).mpr hab⟩
  simp [asZ,((X1 n k a).mp ha).1,((X1 n k b).mp hb).1]
 ·refine (RY (n:=m)).imp ?_
  intro i j hij x hx y hy
  refine .inl ?_
  simp only [asZ,List.length_map,((X1 n i x).mp hx).1,((X1 n j y).mp hy).1]
  exact hij
def ZrJ:List Nat→Nat
 | []=>0
 | i::l=>2 ^ i ||| ZrJ l
theorem ZpP:∀ (l:List Nat) (i:Nat),(ZrJ l).testBit i=decide (i∈l)
 | [],i=>by simp [ZrJ]
 | a::l,i=>by
  rw [ZrJ,Nat.testBit_or,ZpP l i,Nat.testBit_two_pow]
  by_cases h:a=i <;> simp [h,eq_comm]
theorem Zso (n:Nat):∀ (l:List Nat),(∀ x∈l,x<n)→ZrJ l<2 ^ n
 | [],_=>by simp [ZrJ];exact Nat.pow_pos (by omega)
 | a::l,h=>Nat.or_lt_two_pow (Nat.pow_lt_pow_right (by omega) (h a RR)) (Zso n l fun x hx=>h x (We _ hx))
theorem Zsp (n:Nat) (l:List Nat):(∃ c,c<2 ^ n∧ZdS n c=l)↔l.Pairwise (· < ·)∧∀ x∈l,x<n:=by
 constructor
 ·rintro ⟨c,_,rfl⟩
  refine ⟨(RY (n:=n)).filter _,fun x hx => ?_⟩
  exact RT.mp (RZ.mp hx).1
 ·rintro ⟨h1,h2⟩
  refine ⟨ZrJ l,Zso n l h2,ZkX (·< ·) (fun a=>Nat.lt_irrefl a) (fun a b c=>Nat.lt_trans) _ _ ((RY (n:=n)).filter _) h1 fun x => ?_⟩
  simp only [ZdS,RZ,RT,ZpP,decide_eq_true_eq]
  exact ⟨fun h=>h.2,fun h=>⟨h2 x h,h⟩⟩
theorem ZyH (n a b:Nat) (ha:a<2 ^ n) (hb:b<2 ^ n) (h:ZdS n a=ZdS n b):a=b:=by
 apply Nat.eq_of_testBit_eq
 intro i
 by_cases hi:i<n
 ·have e:i∈ZdS n a↔i∈ZdS n b:=by rw [h]
  simp only [ZdS,RZ,RT,hi,true_and] at e
  cases h1:a.testBit i <;> cases h2:b.testBit i <;> simp_all
 ·have hp:2 ^ n≤2 ^ i:=Nat.pow_le_pow_right (by omega) (by omega)
  rw [Nat.testBit_lt_two_pow (Nat.lt_of_lt_of_le ha hp),Nat.testBit_lt_two_pow (Nat.lt_of_lt_of_le hb hp)]
def ZxL (n:Nat) (Z:List Nat→Bool):List (List Nat):=((List.range (n+1)).flatMap (ZaL n)).filter Z
def ZpQ (n:Nat) (Z:List Nat→Bool):List (List Nat):=((List.range (2 ^ n)).map (ZdS n)).filter Z
theorem ZwG:∀ (a b:List Nat),asZ a=asZ b→a=b
 | [],[],_=>rfl
 | [],_::_,h=>by simp [asZ] at h
 | _::_,[],h=>by simp [asZ] at h
 | a::x,b::y,h=>by
  simp only [asZ,List.map_cons,List.cons.injEq] at h
  rw [ZwG x y h.2,show a=b by omega]
theorem ZgT (n:Nat) (Z:List Nat→Bool) (S:List (List Int)) (hp:S.Perm ((ZpQ n Z).map asZ)) (hs:S.Pairwise fun a b=>¬ ltG b a):S=(ZxL n Z).map asZ:=by
 have hall:∀ l,l∈ZpQ n Z↔l∈ZxL n Z:=by
  intro l
  simp only [ZpQ,ZxL,RZ,RS,RT,List.mem_flatMap]
  refine and_congr_left fun _ => ?_
  rw [Zsp]
  constructor
  ·rintro ⟨h1,h2⟩
   refine ⟨l.length,?_,(X1 n _ l).mpr ⟨rfl,h1,h2⟩⟩
   have h3:l.length≤n:=by
    obtain ⟨c,_,hc⟩:=(Zsp n l).mpr ⟨h1,h2⟩
    rw [←hc]
    have:=List.length_filter_le (fun i=>c.testBit i) (List.range n)
    simpa [ZdS] using this
   omega
  ·rintro ⟨k,_,hk⟩
   exact ((X1 n k l).mp hk).2
 have hnd:(ZpQ n Z).Pairwise (·≠ ·):=by
  refine List.Pairwise.filter _ ?_
  rw [RX]
  refine Wi ?_ (RY (n:=2 ^ n))
  intro a b ha hb hab h
  have:=ZyH n a b (RT.mp ha) (RT.mp hb) h
  omega
 have hnd2:S.Nodup:=by
  refine hp.nodup_iff.mpr ?_
  show ((ZpQ n Z).map asZ).Pairwise (·≠ ·)
  rw [RX]
  exact hnd.imp fun h e=>h (ZwG _ _ e)
 have hS:S.Pairwise ltG:=by
  refine (hs.and hnd2).imp ?_
  rintro a b ⟨h1,h2⟩
  exact Classical.byContradiction fun h3=>h2 (ZwC a b h3 h1)
 have hR:((ZxL n Z).map asZ).Pairwise ltG:=by
  rw [RX]
  exact (ZrI n (n+1)).filter _
 refine ZkX ltG ZwB ZkW _ _ hS hR fun x => ?_
 rw [hp.mem_iff]
 simp only [RS,hall]
end Go.Proofs.YtemcdiajejekoaaGreatDoor.Slim
