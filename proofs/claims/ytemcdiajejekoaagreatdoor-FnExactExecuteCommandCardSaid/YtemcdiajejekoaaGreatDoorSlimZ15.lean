/- Parts of the proof. -/
import Derived.Test.YtemcdiajejekoaaGreatDoorSlimZ14
import Derived.Sort.Grow
import Derived.Lib.LaidTab
import Derived.Lib.ItoaMem
import Derived.LaidSub
import Derived.MakeChecks
import Derived.Shelf.SlSortCmp.Whole1
set_option linter.unusedSimpArgs false
set_option linter.unusedVariables false
namespace Go.Proofs.YtemcdiajejekoaaGreatDoor.Slim
open Go Go.Sort
theorem Rel.later {ι:Emb} {m:Mem} {w w':World} (R:Rel ι m w) (hsz:w.heap.size≤w'.heap.size) (hold:∀ r,r<w.heap.size→w'.heap[r]?=w.heap[r]?) (h1:w'.os=w.os) (h2:w'.tape=w.tape) (h3:w'.output=w.output) :
  Rel ι m w'∧Ext ι m w ι m w':=by
 have hsh:YM w w':=by
  intro r s h
  have hr:r<w.heap.size:=by
   rcases Nat.lt_or_ge r w.heap.size with h' | h'
   ·exact h'
   ·unfold World.shape? at h
    simp [Array.getElem?_eq_none h'] at h
  unfold World.shape? at *
  rw [hold r hr]
  exact h
 refine R.of0 ⟨⟨R.len,fun b c d hb=>Nat.lt_of_lt_of_le (R.low b c d hb) hsz,fun b cs wr hb => ?_,fun b es hb => ?_,R.sep⟩,⟨Emb.le_refl _,Nat.le_refl _,hsz,hsh,fun r hr=>.inl hr,fun r hr _=>hold r hr,h1,h2,h3⟩⟩
 ·obtain ⟨c,d,g1,g2⟩:=R.at' b cs wr hb
  exact ⟨c,d,g1,g2.mono (Emb.le_refl _) hsh (hold c (R.low b c d g1))⟩
 ·obtain ⟨c,g1,g2⟩:=R.mp b es hb
  exact ⟨c,g1,g2.mono (hold c (R.low b c 0 g1))⟩
theorem Rel.grown {ι:Emb} {m:Mem} {w:World} (R:Rel ι m w) (k:Nat) (os:Array Obj):Rel ι m (grow (w.drewN k) os)∧Ext ι m w ι m (grow (w.drewN k) os):=by
 refine R.later ?_ (fun r hr => ?_) rfl rfl rfl
 ·show w.heap.size≤(w.heap++os).size
  simp
 ·show (w.heap++os)[r]?=w.heap[r]?
  rw [Array.getElem?_append_left hr]
theorem ZGB.tab {ι:Emb} {m:Mem} {w:World} {P:Program} {name:String} {k:IntKind} {zs:List Int} {g:Nat} {Q:Array Value→Prop} (h:ZGB ι m w) (hg:P.globalNamed name=some g) (hm:(g,Q)∈Zfx) (hQ:∀ cs,Q cs→cs=(zs.map fun z=>Value.int k z).toArray) :
  Lib.TabIs P w name k zs:=by
 obtain ⟨_,_,cs,e,fz,h1,h2⟩:=h _ hm
 unfold Lib.TabIs World.var?
 rw [hg]
 simp only [Option.bind_some]
 simp only at h1
 rw [h1,←hQ cs h2]
end Go.Proofs.YtemcdiajejekoaaGreatDoor.Slim
namespace Go.Proofs.YtemcdiajejekoaaGreatDoor.Slim
open Go Go.Sort
theorem ZmG {α:Type} [Inhabited α] (enc:α→Value) (w:World) (blk off:Nat) (d:Array α):putRow enc w blk off d=putRow id w blk off (d.map enc):=by
 unfold putRow
 congr 1
 funext c
 unfold putCells
 apply Array.ext
 ·simp
 ·intro k h1 h2
  simp only [Array.getElem_mapIdx,Array.size_map,id_eq]
  split
  ·rename_i h
   have hk:k - off<d.size:=by omega
   rw [getElem!_pos d _ hk,getElem!_pos (d.map enc) _ (by simpa using hk),Array.getElem_map]
  ·rfl
theorem ZeF.holds {ι:Emb} {w:World} {c d:Nat} {cs:List AV} (h:ZeF ι w c d cs true):∃ us:List Value,VL ι w cs us∧us.length=cs.length∧Holds id w c d us.toArray:=by
 obtain ⟨e,M,hM,hfree⟩:=h.free rfl
 obtain ⟨us,h1,h2⟩:=h.vals
 refine ⟨us,h1,h1.length,fun j hj => ?_⟩
 have hj':j<us.length:=by simpa using hj
 have hc:=h2 j (us[j]'hj') (List.getElem?_eq_getElem hj')
 have e1:(us.toArray)[j]! = us[j]:=by rw [getElem!_pos us.toArray j hj];simp
 exact ⟨by rw [e1];exact hc,hfree _ (Zl6 hM hc)⟩
theorem Rel.row {P:Program} {ι:Emb} {m:Mem} {w:World} (R:Rel ι m w) {b c d:Nat} {cs new:List AV} {vs:List Value} (hb:m.H[b]?=some (.cells cs true)) (hi:ι[b]?=some (some (c,d)))
  (hv:VL ι w new vs) (hc:new.all AV.isCell=true) (hlen:new.length=cs.length) (hpos:0<cs.length) (n:Nat) (os:Array Obj) :
  Rel ι ⟨m.H.set b (.cells new true),m.esc⟩ (grow (putRow id (Sort.ahead w n) c d vs.toArray) os)∧Ext ι m w ι ⟨m.H.set b (.cells new true),m.esc⟩ (grow (putRow id (Sort.ahead w n) c d vs.toArray) os):=by
 obtain ⟨c',d',hi',hC⟩:=R.at' b cs true hb
 rw [hi] at hi'
 cases hi'
 obtain ⟨us,_,h2,h3⟩:=hC.holds
 have hvl:=hv.length
 obtain ⟨_,r1,r2⟩:=R.store (P:=P) (o:=0) hb hi hv hc (by omega) (by omega) m.esc
 have e0:ZN cs 0 new=new:=by
  unfold ZN
  rw [List.take_zero,List.nil_append,List.drop_eq_nil_of_le (by omega),List.append_nil]
 rw [e0] at r1 r2
 have e1:w.setCells c (d+0) vs=putRow id w c d vs.toArray:=by
  have h4:=setCells_putRow w c d vs 0 us.toArray (by simp;omega)
  rw [putRow_self id w c d _ h3] at h4
  rw [h4]
  congr 1
  apply Array.ext
  ·simp;omega
  ·intro k k1 k2
   have k2':k<vs.length:=by simpa using k2
   have k3:=get_setMany vs 0 us.toArray k (by simp;omega)
   rw [getElem!_pos _ k k1] at k3
   rw [k3,if_pos ⟨Nat.zero_le _,by omega⟩,Nat.sub_zero,getElem!_pos _ k k2']
   simp
 rw [e1] at r1 r2
 obtain ⟨r3,r4⟩:=r1.grown n os
 have e2:grow (putRow id (Sort.ahead w n) c d vs.toArray) os=grow ((putRow id w c d vs.toArray).drewN n) os:=rfl
 rw [e2]
 exact ⟨r3,r2.trans r4⟩
theorem VL.ints {ι:Emb} {w:World}:∀ {zs:List Int} {us:List Value},VL ι w (zs.map (.int .i64)) us→us=zs.map (.int .i64)
 | [],us,h=>h
 | z::zs,us,h=>by
  obtain ⟨y,ys,rfl,rfl,h'⟩:=h
  rw [VL.ints h'];rfl
theorem VL.of_ints (ι:Emb) (w:World):∀ (zs:List Int),VL ι w (zs.map (.int .i64)) (zs.map (.int .i64))
 | []=>rfl
 | z::zs=>⟨_,_,rfl,rfl,VL.of_ints ι w zs⟩
theorem ZsH (zs:List Int):(zs.map (AV.int .i64)).all AV.isCell=true:=by
 simp [AV.isCell]
theorem VL.strs {ι:Emb} {w:World}:∀ {xs:List ByteArray} {us:List Value},VL ι w (xs.map .str) us→us=xs.map .string
 | [],us,h=>h
 | z::zs,us,h=>by
  obtain ⟨y,ys,rfl,rfl,h'⟩:=h
  rw [VL.strs h'];rfl
theorem VL.of_strs (ι:Emb) (w:World):∀ (xs:List ByteArray),VL ι w (xs.map .str) (xs.map .string)
 | []=>rfl
 | z::zs=>⟨_,_,rfl,rfl,VL.of_strs ι w zs⟩
theorem ZsI {w:World} {c d:Nat} {zs:List Int} (h:Holds id w c d (zs.map (Value.int .i64)).toArray):Holds (Value.int .i64) w c d zs.toArray:=by
 intro j hj
 have hj':j<zs.length:=by simpa using hj
 have:=h j (by simpa using hj)
 rw [getElem!_pos _ j (by simpa using hj)] at this
 rw [getElem!_pos _ j hj]
 simpa using this
end Go.Proofs.YtemcdiajejekoaaGreatDoor.Slim
namespace Go.Proofs.YtemcdiajejekoaaGreatDoor.Slim
open Go
open Nat renaming reduceAdd → Ra, reduceLeDiff → Rb, reduceLT → Rc, reduceEqDiff → Rd
open List renaming size_toArray → RZ, length_append → R3, length_singleton → R6, append_assoc → Rs, length_cons → Rl, mem_singleton → R8, mem_cons → R9, length_drop → Wa, cons_append → Rn, mem_append → We, mem_cons_self → Wf, mem_map → Wg, mem_range → Wh, drop_drop → Wi, cons_lt_cons_iff → Wk, getElem?_eq_getElem → Rj, take_length → Wl, contains_eq_mem → Wm, length_nil → RM, getElem?_eq_some_iff → RB, length_take → Wn, pairwise_map → Wq, pairwise_lt_range → Wr, mem_filter → Ws, getElem?_append_left → Wt, mem_cons_of_mem → Wu, eq_nil_or_concat → Wv, concat_eq_append → Ww, pairwise_append → Wx, Pairwise.imp_of_mem → Wy
open Nat renaming add_assoc → RS, mul_one → Wb, zero_mul → Rr
open Bool renaming and_false → RX, false_eq_true → R7, false_and → RU, and_eq_true → Ru
open Int renaming le_refl → Wd, toNat_zero → RH
open Option renaming isSome_none → Wj, isSome_some → Wo
variable {pr : Zy} {H : List Blk} {e : Option Nat}
def sumStep (h:Nat) (b:UInt8):Nat:=(41*h+b.toNat+1) % 999979
def ZDc (l:By):Nat:=l.foldl sumStep 7
theorem ZiV:∀ (l:By) (h:Nat),h<999979→l.foldl sumStep h<999979
 | [],h,hh=>hh
 | b::l,h,hh=>ZiV l _ (Nat.mod_lt _ (by omega))
theorem ZzV (l:By):ZDc l<999979:=ZiV l 7 (by omega)
theorem ZAN {h:Nat} (b:UInt8) (hh:h<999979):(IntKind.i64.wrap (IntKind.i64.wrap (IntKind.i64.wrap (41*(h:Int))+IntKind.i64.wrap (b.toNat:Int))+1)).tmod 999979=((sumStep h b:Nat):Int):=by
 have hb:=b.toNat_lt
 have w1:IntKind.i64.wrap (41*(h:Int))=41*(h:Int):=ZP (by omega) (by omega)
 have w2:IntKind.i64.wrap (b.toNat:Int)=(b.toNat:Int):=ZP (by omega) (by omega)
 have w3:IntKind.i64.wrap (41*(h:Int)+(b.toNat:Int))=41*(h:Int)+(b.toNat:Int):=ZP (by omega) (by omega)
 have w4:IntKind.i64.wrap (41*(h:Int)+(b.toNat:Int)+1)=41*(h:Int)+(b.toNat:Int)+1:=ZP (by omega) (by omega)
 rw [w1,w2,w3,w4,Int.tmod_eq_emod_of_nonneg (by omega)]
 unfold sumStep
 omega
theorem ZsJ {α β:Type} (f:β→α→β) (z:β) {l:List α} {i:Nat} {x:α} (h:l[i]?=some x):f ((l.take i).foldl f z) x=(l.take (i+1)).foldl f z:=by
 rw [List.take_add_one,h,List.foldl_append]
 rfl
theorem ZwZ (l:By) (hn:l.length≤1073741824):call T pr Zd2 [sV l] ⟨H,e⟩=some (if l.length≤4000 then .tup [.int .i64 (ZDc l),.bool true] else .tup [.int .i64 0,.bool false],⟨H,e⟩):=by
 by_cases h4:l.length≤4000
 ·have h4':¬ ((4000:Int)<(l.length:Int)):=by omega
  rw [if_pos h4]
  apply Wc.eq
  rw [Zs Znj]
  simp +contextual only [Zb3,ZhE,Z3,RZ,h4',gt_iff_lt,decide_false,pp,go_sem,reduceIte,Ra,Rb,Rc,Rd]
  refine ZM (fun k st=>∃ (i:Nat) (y1 y2 y4 y5 y8:AV),k+i=l.length∧st=⟨[sV l,y1,y2,.int .i64 ((l.take i).foldl sumStep 7:Nat),y4,y5,.int .i64 l.length,.int .i64 i,y8],⟨H,none⟩⟩) ?_ l.length _ ⟨0,_,_,_,_,_,rfl,rfl⟩
  rintro k _ ⟨i,y1,y2,y4,y5,y8,hk,rfl⟩
  by_cases hi:i<l.length
  ·have hl:l[i]?=some l[i]:=Rj hi
   have hst:=ZAN l[i] (ZiV (l.take i) 7 (by omega))
   rw [ZsJ sumStep 7 hl] at hst
   simp +contextual only [ZeM,hi,ZsG hl,hst,show ¬ ((999979:Int)=0) by omega,Zh (show i<9223372036854775807 by omega),decide_true,pp,go_sem,reduceIte,Ra,Rb,Rc,Rd]
   exact ⟨k - 1,by omega,i+1,_,_,_,_,_,by omega,rfl⟩
  ·obtain rfl:i=l.length:=by omega
   simp +contextual only [ZeM,hi,Wl,decide_false,pp,go_sem,reduceIte,Ra,Rb,Rc,Rd]
   trivial
 ·have h4':(4000:Int)<(l.length:Int):=by omega
  rw [if_neg h4,Zi Znj]
  simp +contextual only [Zb3,ZhE,Z3,RZ,h4',gt_iff_lt,decide_true,go_sem,reduceIte,Ra,Rb,Rc,Rd]
theorem ZFu (l:By) (hn:l.length≤1073741824):call T pr ZkG [sV l] ⟨H,e⟩=some (.int .i64 (ZDc l),⟨H,e⟩):=by
 apply Wc.eq
 rw [Zs ZEs]
 simp +contextual only [Zk5,Zvc,pp,go_sem,reduceIte,Ra,Rb,Rc,Rd]
 refine ZM (fun k st=>∃ (i:Nat) (y1 y4:AV),k+i=l.length∧st=⟨[sV l,y1,.int .i64 ((l.take i).foldl sumStep 7:Nat),.int .i64 i,y4],⟨H,none⟩⟩) ?_ l.length _ ⟨0,_,_,rfl,rfl⟩
 rintro k _ ⟨i,y1,y4,hk,rfl⟩
 by_cases hi:i<l.length
 ·have hl:l[i]?=some l[i]:=Rj hi
  have hst:=ZAN l[i] (ZiV (l.take i) 7 (by omega))
  rw [ZsJ sumStep 7 hl] at hst
  simp +contextual only [Zj1,hi,Z3,RZ,ZsG hl,hst,show ¬ ((999979:Int)=0) by omega,Zh (show i<9223372036854775807 by omega),decide_true,pp,go_sem,reduceIte,Ra,Rb,Rc,Rd]
  exact ⟨k - 1,by omega,i+1,_,_,by omega,rfl⟩
 ·obtain rfl:i=l.length:=by omega
  simp +contextual only [Zj1,hi,Z3,RZ,Wl,decide_false,pp,go_sem,reduceIte,Ra,Rb,Rc,Rd]
  trivial
def Zhe (l:By):By:=l++[35]++Lib.itoa (ZDc l)
theorem Zoi {n:Int} (h1 : -9223372036854775807≤n) (h2:n≤9223372036854775807):(Lib.itoa n).length≤21:=by
 unfold Lib.itoa
 split
 ·have:=Zak n.natAbs (by omega)
  rw [Rl];omega
 ·have:=Zak n.toNat (by omega)
  omega
theorem Zug (u:Nat) (h:u<1000000):(Lib.decDigits u).length≤6:=by
 have:∀ (k u:Nat),u<10 ^ k→(Lib.decDigits u).length≤max k 1:=by
  intro k
  induction k with
  | zero=>
   intro u hu
   have:u=0:=by omega
   subst this;rw [Lib.decDigits];simp
  | succ k ih=>
   intro u hu
   rw [Lib.decDigits]
   split
   ·simp
   ·have:=ih (u / 10) (by rw [Nat.pow_succ] at hu;omega)
    rw [R3,R6]
    have h1:1≤k:=by
     rcases Nat.eq_zero_or_pos k with h0 | h0
     ·subst h0;omega
     ·exact h0
    omega
 have:=this 6 u (by omega)
 omega
theorem ZhZ (l:By):(Lib.itoa (ZDc l)).length≤6:=by
 have:=ZzV l
 unfold Lib.itoa
 rw [if_neg (by omega),Int.toNat_natCast]
 exact Zug _ (by omega)
theorem Zh0 (l:By):(Zhe l).length≤l.length+7:=by
 have:=ZhZ l
 unfold Zhe
 simp only [R3,R6]
 omega
theorem ZDd (l:By) (hn:l.length≤1073741824):call T pr Ziv [sV l] ⟨H,e⟩=some (sV (Zhe l),⟨H,e⟩):=by
 have hs:=fun L=>ZFu (pr:=pr) (H:=L) (e:=none) l hn
 have hlt:=ZzV l
 have hnum:=fun L=>XA (pr:=pr) (H:=L) (e:=none) (ZDc l) (by omega) (by omega)
 have hl:=ZhZ l
 have h1:l.length+1≤140737488355328:=by omega
 have h2:l.length+1+(Lib.itoa (ZDc l)).length≤140737488355328:=by omega
 rw [Zi ZBQ]
 unfold Zhe
 generalize ZDc l=S at hs hnum hl h2 ⊢
 simp +contextual only [ZiN,Zr7,hs,hnum,ZL,h1,h2,R6,go_sem,reduceIte,Ra,Rb,Rc,Rd]
theorem ZFv (l:By) (c:UInt8):ZIu (bs l) (c.toNat:Int)=l.contains c:=by
 unfold ZIu
 rw [X9]
 induction l with
 | nil=>rfl
 | cons b l ih=>
  rw [List.any_cons,List.contains_cons,ih]
  congr 1
  rw [Bool.eq_iff_iff]
  simp only [decide_eq_true_eq,beq_iff_eq]
  constructor
  ·intro h;exact (UInt8.toNat_inj.mp (by omega)).symm
  ·rintro rfl;rfl
def ZDe (l:By):Bool:=decide (l.length≤4000)&&(!l.contains 35&&decide ((Zhe l).length≤4000))
theorem Zex (hi:KJ pr) (hc:Y9 pr) (l:By) (hn:l.length≤1073741824):call T pr XU [sV l] ⟨H,e⟩=some (if ZDe l=true then .tup [sV (Zhe l),.bool true] else .tup [sV [],.bool false],⟨H,e⟩):=by
 have hcs:=fun L=>ZwZ (pr:=pr) (H:=L) (e:=none) l hn
 have hcon:∀ L,call T pr Yy [sV l,sV [35]] ⟨L,none⟩=some (.bool (l.contains 35),⟨L,none⟩):=fun L=>by
  rw [hc (bs l) 35 ⟨L,none⟩,ZwE,←ZFv l 35];rfl
 have hlt:=ZzV l
 have h1:l.length+1≤140737488355328:=by omega
 rw [Zi Zle]
 unfold ZDe
 by_cases h4:l.length≤4000
 ·rw [if_pos h4] at hcs
  have hit:=fun L=>hi (ZDc l) ⟨L,none⟩ (by omega) (by omega)
  have hl:=ZhZ l
  have h2:l.length+1+(Lib.itoa (ZDc l)).length≤140737488355328:=by omega
  have hsl:Zhe l=l++(35::Lib.itoa (ZDc l)):=by unfold Zhe;simp
  have hcmp:decide ((Zhe l).length≤4000) = !decide ((4000:Int)<((l++(35::Lib.itoa (ZDc l))).length:Int)):=by
   rw [hsl,←decide_not]
   exact decide_eq_decide.mpr (by omega)
  cases hB:l.contains 35 with
  | true=>
   rw [hB] at hcon
   simp +contextual only [YE,X1,hcs,hit,hcon,h4,ZL,h1,h2,R6,decide_true,Bool.not_true,RU,RX,go_sem,reduceIte,Ra,Rb,Rc,Rd]
  | false=>
   rw [hB] at hcon
   rw [hcmp,hsl]
   generalize Lib.itoa (ZDc l)=d at hit h2 ⊢
   simp only [R3,Rl] at *
   cases hS:decide ((4000:Int)<((l.length+(d.length+1):Nat):Int)) with
   | true=>simp +contextual only [YE,X1,hcs,hit,hcon,h4,ZL,h1,h2,hS,gt_iff_lt,Z3,RZ,R6,decide_true,Bool.not_true,Bool.not_false,Bool.true_and,RU,RX,go_sem,reduceIte,Ra,Rb,Rc,Rd]
   | false=>simp +contextual only [YE,X1,hcs,hit,hcon,h4,ZL,h1,h2,hS,gt_iff_lt,Z3,RZ,R6,decide_true,Bool.not_true,Bool.not_false,Bool.true_and,RU,RX,go_sem,reduceIte,Ra,Rb,Rc,Rd]
 ·rw [if_neg h4] at hcs
  have hit:=fun L=>hi 0 ⟨L,none⟩ (by omega) (by omega)
  have hl:=Zoi (n:=0) (by omega) (by omega)
  have h2:l.length+1+(Lib.itoa 0).length≤140737488355328:=by omega
  simp +contextual only [YE,X1,hcs,hit,h4,ZL,h1,h2,R6,decide_true,decide_false,RU,R7,if_false,go_sem,reduceIte,Ra,Rb,Rc,Rd]
theorem ZFw:∀ (u:Nat) (b:UInt8),b∈Lib.decDigits u→48≤b.toNat∧b.toNat≤57:=by
 have one:∀ i:Nat,i<10→48≤(UInt8.ofNat (48+i)).toNat∧(UInt8.ofNat (48+i)).toNat≤57:=by decide +kernel
 intro u
 induction u using Nat.strongRecOn with
 | _ u ih=>
  intro b hb
  rw [Lib.decDigits] at hb
  split at hb
  ·rename_i h
   rw [R8] at hb
   subst hb
   exact one u h
  ·rename_i h
   rcases We.mp hb with hb | hb
   ·exact ih (u / 10) (by omega) b hb
   ·rw [R8] at hb
    subst hb
    exact one _ (Nat.mod_lt _ (by omega))
theorem ZDf {n:Int} (hn:0≤n) {b:UInt8} (hb:b∈Lib.itoa n):48≤b.toNat∧b.toNat≤57:=by
 unfold Lib.itoa at hb
 rw [if_neg (by omega)] at hb
 exact ZFw _ _ hb
theorem Zey {l:By} {c:UInt8} (h:∀ b∈l,b≠c):l.contains c=false:=by
 cases hc:l.contains c with
 | false=>rfl
 | true=>exact absurd rfl (h c (by simpa using hc))
theorem ZFx {n:Int} (hn:0≤n) {c:UInt8} (hc:c.toNat<48∨57<c.toNat):(Lib.itoa n).contains c=false :=
 Zey fun b hb h=>by
  have:=ZDf hn hb
  rw [h] at this
  omega
theorem Zw0 {l:By} (h:Zev (bs l)=true):l.contains 35=false :=
 Zey fun b hb h35=>by
  unfold Zev at h
  rw [X9,List.all_eq_true] at h
  have:=h b hb
  subst h35
  simp [okB] at this
def Zp7 (c r:By):Bool:=ZnU (bs c) (bs r)
theorem ZlD {c r:By} (h:Zp7 c r=true):1≤c.length∧c.length≤160∧r.length≤250∧Zev (bs c)=true∧Zev (bs r)=true∧c.contains 64=false:=by
 unfold Zp7 ZnU at h
 simp only [Ru,decide_eq_true_eq,Z3,RZ,Bool.not_eq_true'] at h
 obtain ⟨⟨⟨h1,h2⟩,h3⟩,h4,h5,h6⟩:=h
 refine ⟨by omega,by omega,by omega,h4,h5,?_⟩
 have:=ZFv c 64
 rw [←this]
 exact h6
def K8 (k:Int) (c r:By):By:=Lib.itoa k++[32]++c++[64]++r
def ZdC (k:Int) (c r:By):By:=Zhe (K8 k c r)++[10]
theorem Zuh {k:Int} {c r:By} (h0:0≤k) (h1:k≤59):(K8 k c r).length≤c.length+r.length+4:=by
 have:(Lib.itoa k).length≤2:=by
  unfold Lib.itoa
  rw [if_neg (by omega)]
  by_cases h:k.toNat<10
  ·rw [Lib.decDigits_one h];simp
  ·rw [Lib.decDigits_two h (by omega)];simp
 unfold K8
 simp only [R3,R6]
 omega
theorem Zw1 {k:Int} {c r:By} (h0:0≤k) (h:Zp7 c r=true):(K8 k c r).contains 35=false:=by
 obtain ⟨_,_,_,h4,h5,_⟩:=ZlD h
 unfold K8
 simp only [Wm,We,R8] at *
 have a1:=ZFx (c:=35) h0 (by decide)
 have a2:=Zw0 h4
 have a3:=Zw0 h5
 simp only [Wm,decide_eq_false_iff_not] at a1 a2 a3 ⊢
 rintro ((((h | h) | h) | h) | h)
 ·exact a1 h
 ·cases h
 ·exact a2 h
 ·cases h
 ·exact a3 h
theorem ZAO {k:Int} {c r:By} (h0:0≤k) (h1:k≤59) (h:Zp7 c r=true):ZDe (K8 k c r)=true:=by
 obtain ⟨_,g2,g3,_,_,_⟩:=ZlD h
 have hb:=Zuh (c:=c) (r:=r) h0 h1
 have hs:=Zh0 (K8 k c r)
 unfold ZDe
 rw [Zw1 h0 h,decide_eq_true (by omega),decide_eq_true (by omega)]
 rfl
theorem Zp8 {k:Int} {c r:By} (h0:0≤k) (h1:k≤60) (hc:c.length≤1048576) (hr:r.length≤1048576):call T pr Zc9 [.int .i64 k,rcV (bs c) (bs r)] ⟨H,e⟩=some (sV (ZdC k c r),⟨H,e⟩):=by
 have hnum:=fun L=>XA (pr:=pr) (H:=L) (e:=none) k (by omega) (by omega)
 have hil:=Zoi (n:=k) (by omega) (by omega)
 have hbl:(K8 k c r).length=(Lib.itoa k).length+1+c.length+1+r.length:=by unfold K8;simp;omega
 have hseal:=fun L=>ZDd (pr:=pr) (H:=L) (e:=none) (K8 k c r) (by omega)
 have hsl:=Zh0 (K8 k c r)
 have g1:(Lib.itoa k).length+1≤140737488355328:=by omega
 have g2:(Lib.itoa k).length+1+c.length≤140737488355328:=by omega
 have g3:(Lib.itoa k).length+1+c.length+1≤140737488355328:=by omega
 have g4:(Lib.itoa k).length+1+c.length+1+r.length≤140737488355328:=by omega
 have g5:(Zhe (K8 k c r)).length+1≤140737488355328:=by omega
 have hbd:K8 k c r=Lib.itoa k++(32::(c++(64::r))):=by unfold K8;simp
 rw [hbd] at hseal g5
 rw [Zi Zyu]
 unfold ZdC
 rw [hbd]
 generalize Lib.itoa k=d at *
 simp only [RS,Nat.reduceAdd] at g1 g2 g3 g4 g5
 simp +contextual only [Zgf,Zo6,hnum,hseal,ZL,g1,g2,g3,g4,g5,R3,Rl,RM,RS,Z3,RZ,go_sem,reduceIte,Ra,Rb,Rc,Rd]
 rw [if_pos (by omega),if_pos (by omega)]
def ZrB (k:Int) (c r:By):Bool:=(decide (0≤k)&&decide (k≤59))&&Zp7 c r
theorem Zg7 (hi:KJ pr) (hp:Y9 pr) {c r:By} (hc:c.length≤1048576) (hr:r.length≤1048576) (k:Int):call T pr J1 [.int .i64 k,rcV (bs c) (bs r)] ⟨H,e⟩ =
  some (if ZrB k c r=true then .tup [sV (ZdC k c r),.bool true] else .tup [sV [],.bool false],⟨H,e⟩):=by
 have hv:=fun L=>Zbx (pr:=pr) (H:=L) (e:=none) (s:=bs c) (t:=bs r) hp (by rw [X9];omega) (by rw [X9];omega)
 rw [Zi ZnG]
 unfold ZrB Zp7
 cases hk:(decide (0≤k)&&decide (k≤59)) with
 | false=>simp +contextual only [XM,QQ,Yd,hk,RU,R7,if_false,go_sem,reduceIte,Ra,Rb,Rc,Rd]
 | true=>
  simp only [Ru,decide_eq_true_eq] at hk
  have hk':(decide (0≤k)&&decide (k≤59))=true:=by simp [hk]
  cases hr':ZnU (bs c) (bs r) with
  | false=>
   rw [hr'] at hv
   simp +contextual only [XM,QQ,Yd,hk',hv,RX,R7,if_false,go_sem,reduceIte,Ra,Rb,Rc,Rd]
  | true=>
   rw [hr'] at hv
   have hit:=fun L=>hi k ⟨L,none⟩ (by omega) (by omega)
   have hbl:(K8 k c r).length=(Lib.itoa k).length+1+c.length+1+r.length:=by unfold K8;simp;omega
   have hil:=Zoi (n:=k) (by omega) (by omega)
   have hack:=fun L=>Zex (pr:=pr) (H:=L) (e:=none) hi hp (K8 k c r) (by omega)
   rw [if_pos (ZAO hk.1 hk.2 hr')] at hack
   have hsl:=Zh0 (K8 k c r)
   have g1:(Lib.itoa k).length+1≤140737488355328:=by omega
   have g2:(Lib.itoa k).length+1+c.length≤140737488355328:=by omega
   have g3:(Lib.itoa k).length+1+c.length+1≤140737488355328:=by omega
   have g4:(Lib.itoa k).length+1+c.length+1+r.length≤140737488355328:=by omega
   have g5:(Zhe (K8 k c r)).length+1≤140737488355328:=by omega
   have hbd:K8 k c r=Lib.itoa k++(32::(c++(64::r))):=by unfold K8;simp
   rw [hbd] at hack g5
   unfold ZdC
   rw [hbd]
   generalize Lib.itoa k=d at *
   simp only [RS,Nat.reduceAdd] at g1 g2 g3 g4 g5
   simp +contextual only [XM,QQ,Yd,hk',hv,hit,hack,ZL,g1,g2,g3,g4,g5,R3,Rl,RM,RS,Bool.true_and,Z3,RZ,go_sem,reduceIte,Ra,Rb,Rc,Rd]
   rw [if_pos (by omega),if_pos (by omega)]
theorem ZgN {s t:ByteArray} (hs:s.data.toList.length≤9223372036854775806) (ht:t.data.toList.length≤9223372036854775806):call T pr KM [rcV s t] ⟨H,e⟩=some (.bool (ZnU s t),⟨H,e⟩):=by
 rw [Zi Ztc]
 unfold ZnU
 have hn:=ZHh s
 cases h1:decide ((1:Int)≤(s.size:Int)) with
 | false=>
  rw [h1] at hn
  have hn':decide (s=⟨#[]⟩)=true:=by simpa using hn
  simp +contextual only [XY,KS,hn',h1,go_sem,reduceIte,Ra,Rb,Rc,Rd]
 | true=>
  rw [h1] at hn
  have hn':decide (s=⟨#[]⟩)=false:=by simpa using hn
  cases h3:Zev s with
  | false=>simp +contextual only [XY,KS,hn',h1,Zcc hs,h3,RX,go_sem,reduceIte,Ra,Rb,Rc,Rd]
  | true=>
   cases h5:decide ((s.size:Int)≤160) with
   | false=>simp +contextual only [XY,KS,hn',h1,Zcc hs,h3,h5,RX,go_sem,reduceIte,Ra,Rb,Rc,Rd]
   | true=>
    cases h6:ZIu s 64 with
    | true=>simp +contextual only [XY,KS,hn',h1,Zcc hs,Znq hs,h3,h5,h6,RX,go_sem,reduceIte,Ra,Rb,Rc,Rd]
    | false=>
     cases h4:Zev t <;> cases h2:decide ((t.size:Int)≤250) <;> simp +contextual only [XY,KS,hn',h1,Zcc hs,Zcc ht,Znq hs,h2,h3,h4,h5,h6,RX,go_sem,reduceIte,Ra,Rb,Rc,Rd]
theorem ZdD {G:List Blk} {j n sz bytes:Nat} {cs new:List AV} {cap c:Option Nat} {w:Bool} (hG:G[j]?=some (.cells cs true)) (hcap:cap=some 0→n=0) (hcs:cs.length=n*sz) (hnew:new.length=sz) (hmb:(n+1)*bytes≤maxBytes) :
  Q5 (H++(G++[.cells new w])) e false sz bytes (.slice (some (H.length+j,0)) sz n cap) (.slice (some (H.length+G.length,0)) sz 1 c) =
   some (.slice (some (H.length+(G.length+1),0)) sz (n+1) none,⟨H++(Zcm cap j (G++[.cells new w])++[.cells (cs++new) true]),e⟩):=by
 have hj:=(RB.mp hG).1
 have hg:(G++[Blk.cells new w])[j]?=some (.cells cs true):=by rw [Wt hj];exact hG
 have hs:Y2 false (H++(G++[.cells new w])) (.slice (some (H.length+G.length,0)) sz 1 c)=some (1,new):=by
  have:Zb (H++(G++[Blk.cells new w])) (H.length+G.length)=some new:=by
   rw [KG,ZhN];rfl
  exact Zer _ 1 sz c new _ this (by rw [hnew,Nat.one_mul])
 have:=Zwx (e:=e) (str:=false) (bytes:=bytes) hg hs (by omega) hcs (by rw [hnew,Nat.one_mul]) hmb hcap
 rw [R3,R6] at this
 exact this
theorem ZmH {cap:Option Nat} {j k:Nat} {G:List Blk} (h:k≠j):(Zcm cap j G)[k]?=G[k]?:=by
 unfold Zcm
 split
 ·rfl
 ·rw [List.getElem?_set_ne (fun e=>h e.symm)]
theorem ZgO {cap:Option Nat} {j:Nat} {G:List Blk} {b:Blk} {n:Nat} (hn:n=G.length):(Zcm cap j G++[b])[n]?=some b:=by
 rw [List.getElem?_append_right (by rw [YF];omega),YF]
 simp [hn]
def ZV (c:UInt8):By→List By
 | []=>[[]]
 | b::l=>if b=c then []::ZV c l else match ZV c l with
  | []=>[[b]]
  | x::xs=>(b::x)::xs
theorem Zh1 (c:UInt8):∀ l:By,ZV c l≠[]
 | []=>by simp [ZV]
 | b::l=>by
  rw [ZV]
  split
  ·simp
  ·split <;> simp
theorem Zh2 {c:UInt8}:∀ {l:By},(∀ b∈l,b≠c)→ZV c l=[l]
 | [],_=>rfl
 | b::l,h=>by
  rw [ZV,if_neg (h b (by simp)),Zh2 (fun x hx=>h x (by simp [hx]))]
theorem ZlE {c:UInt8} (q:By):∀ {p:By},(∀ b∈p,b≠c)→ZV c (p++c::q)=p::ZV c q
 | [],_=>by rw [List.nil_append,ZV,if_pos rfl]
 | b::p,h=>by
  rw [Rn,ZV,if_neg (h b (by simp)),ZlE q (fun x hx=>h x (by simp [hx]))]
theorem Zp9 (c:UInt8):∀ (l:By) (b:UInt8),b∈Y1 l c→b≠c
 | [],b,h=>by simp [Y1] at h
 | x::l,b,h=>by
  unfold Y1 at h
  rw [List.takeWhile_cons] at h
  split at h
  ·rename_i hx
   rcases R9.mp h with rfl | h
   ·simpa using hx
   ·exact Zp9 c l b h
  ·cases h
theorem Zh3 (c:UInt8):∀ (l:By),l.contains c=true→l=Y1 l c++c::Zg6 l c
 | [],h=>by simp at h
 | x::l,h=>by
  unfold Y1 Zg6
  rw [List.takeWhile_cons,List.dropWhile_cons]
  by_cases hx:x=c
  ·subst hx
   simp
  ·have h2:(x != c)=true:=by simpa using hx
   have h3:l.contains c=true:=by
    rw [List.contains_cons] at h
    have:(c==x)=false:=by simpa using fun e=>hx e.symm
    rw [this,Bool.false_or] at h
    exact h
   have ih:=Zh3 c l h3
   unfold Y1 Zg6 at ih
   rw [h2]
   simp only [if_true,Rn]
   rw [←ih]
theorem ZDg (c:UInt8) (l:By):∃ xs,ZV c l=Y1 l c::xs∧(xs=[]↔l.contains c=false):=by
 cases hc:l.contains c with
 | false=>
  have hno:∀ b∈l,b≠c:=by
   rintro b hb rfl
   rw [Wm,decide_eq_false_iff_not] at hc
   exact hc hb
  have hA:Y1 l c=l:=by
   rcases ZdB l c with ⟨_,_,e,_⟩|⟨i,_,_,e,_,_⟩
   ·exact e
   ·rw [hc] at e;cases e
  exact ⟨[],by rw [Zh2 hno,hA],by simp⟩
 | true=>
  refine ⟨ZV c (Zg6 l c),?_,?_⟩
  ·have:=ZlE (Zg6 l c) (Zp9 c l)
   rw [←Zh3 c l hc] at this
   exact this
  ·constructor
   ·intro h;exact absurd h (Zh1 c _)
   ·intro h;cases h
theorem ZiW (c:UInt8):∀ l:By,(ZV c l).length≤l.length+1
 | []=>by simp [ZV]
 | b::l=>by
  have ih:=ZiW c l
  rw [ZV]
  split
  ·simp;omega
  ·split
   ·simp
   ·rename_i h
    rw [h] at ih
    simp at ih ⊢
    omega
def Zcf (xs:List By):List AV:=xs.map sV
theorem ZgP (xs:List By):(Zcf xs).length=xs.length:=List.length_map _
theorem ZgQ (a b:List By):Zcf (a++b)=Zcf a++Zcf b:=List.map_append
theorem ZDh (n:Nat) (xs:List By):((Zcf xs).all fun c=>c.under n)=true:=by
 unfold Zcf
 simp [AV.under]
abbrev slX (b n:Nat) (c:Option Nat):AV:=.slice (some (b,0)) 1 n c
theorem ZJI (a b:UInt8):decide ((a.toNat:Int)=(b.toNat:Int))=decide (a=b):=decide_eq_decide.mpr ⟨fun h=>UInt8.toNat_inj.mp (by omega),fun h=>by rw [h]⟩
theorem Zqa (l:By) (c:UInt8) (hn:l.length≤1073741824):call T pr Xx [sV l,.int .u8 c.toNat] ⟨H,e⟩=some (slX H.length (ZV c l).length none,⟨H++[.cells (Zcf (ZV c l)) true],e⟩):=by
 apply Wc.eq
 rw [Zs Zyg]
 simp +contextual only [Zf8,ZoV,Zc,pp,go_sem,reduceIte,Ra,Rb,Rc,Rd]
 refine ZM (fun k st=>∃ (i f j:Nat) (xs:List By) (cap:Option Nat) (G:List Blk) (y2 y6 y7:AV),k+i=l.length∧f≤i∧xs.length≤i∧xs++ZV c (l.drop f)=ZV c l∧(∀ b∈(l.take i).drop f,b≠c)∧G[j]?=some (.cells (Zcf xs) true)∧(cap=some 0→xs.length=0) ∧
  st=⟨[sV l,.int .u8 c.toNat,y2,slX (H.length+j) xs.length cap,.int .i64 f,.int .i64 i,y6,y7],⟨H++G,none⟩⟩) ?_ l.length _
  ⟨0,0,0,[],some 0,[.cells [] true],_,_,_,by omega,by omega,by simp,rfl,by simp,rfl,fun _=>rfl,rfl⟩
 rintro k _ ⟨i,f,j,xs,cap,G,y2,y6,y7,hk,hf,hxl,hs,hno,hG,hcap,rfl⟩
 have hmb:∀ n,n≤1073741824→(n+1)*16≤maxBytes:=by intro n hn;unfold maxBytes;omega
 by_cases hi:i<l.length
 ·have hl:l[i]?=some l[i]:=Rj hi
  have hile:i≤l.length:=by omega
  have happ:=fun e'=>ZdD (H:=H) (e:=e') (G:=G) (j:=j) (n:=xs.length) (sz:=1) (bytes:=16) (cs:=Zcf xs) (new:=[sV ((l.take i).drop f)]) (cap:=cap) (c:=some 1) (w:=true) hG hcap (by rw [ZgP,Wb]) rfl (hmb _ (by omega))
  have hb8:=ZJI l[i] c
  cases hc:decide (l[i]=c) with
  | true=>
   rw [hc] at hb8
   have hc':l[i]=c:=of_decide_eq_true hc
   simp +contextual only [ZcC,Zc,hi,Z3,RZ,ZsG hl,hb8,Zp6,ZzU,hf,hile,happ,Zh (show i<9223372036854775807 by omega),decide_true,pp,go_sem,reduceIte,Ra,Rb,Rc,Rd]
   have hsc:Zcf xs++[sV ((l.take i).drop f)]=Zcf (xs++[(l.take i).drop f]):=by rw [ZgQ];rfl
   have hlen:xs.length+1=(xs++[(l.take i).drop f]).length:=by simp
   rw [hsc,hlen]
   refine ⟨k - 1,by omega,i+1,i+1,G.length+1,xs++[(l.take i).drop f],none,Zcm cap j (G++[.cells [sV ((l.take i).drop f)] true])++[.cells (Zcf (xs++[(l.take i).drop f])) true],_,_,_,by omega,by omega,by simp;omega,?_,?_,ZgO (by rw [R3];rfl),(fun h=>by cases h),rfl⟩
   ·rw [←hs,Rs]
    congr 1
    have hd:l.drop f=(l.take i).drop f++c::l.drop (i+1):=by
     rw [←hc',←List.drop_eq_getElem_cons hi]
     rw [show l.drop i=(l.drop f).drop (i - f) by rw [Wi];congr 1;omega]
     rw [List.drop_take,List.take_append_drop]
    rw [hd,ZlE _ hno]
    rfl
   ·intro b hb
    rw [List.drop_eq_nil_of_le (by rw [Wn];omega)] at hb
    cases hb
  | false=>
   rw [hc] at hb8
   have hc':l[i]≠c:=of_decide_eq_false hc
   simp +contextual only [ZcC,Zc,hi,Z3,RZ,ZsG hl,hb8,Zh (show i<9223372036854775807 by omega),decide_true,pp,go_sem,reduceIte,Ra,Rb,Rc,Rd]
   refine ⟨k - 1,by omega,i+1,f,j,xs,cap,G,_,_,_,by omega,by omega,by omega,hs,?_,hG,hcap,rfl⟩
   intro b hb
   rw [List.take_add_one,hl,List.drop_append_of_le_length (by simp;omega)] at hb
   rcases We.mp hb with hb | hb
   ·exact hno b hb
   ·simp at hb
    rw [hb];exact hc'
 ·obtain rfl:i=l.length:=by omega
  rw [Wl] at hno
  have hfin:ZV c l=xs++[l.drop f]:=by rw [←hs,Zh2 hno]
  have happ:=fun e'=>ZdD (H:=H) (e:=e') (G:=G) (j:=j) (n:=xs.length) (sz:=1) (bytes:=16) (cs:=Zcf xs) (new:=[sV (l.drop f)]) (cap:=cap) (c:=some 1) (w:=true) hG hcap (by rw [ZgP,Wb]) rfl (hmb _ (by omega))
  have hlast:∀ b,(Zcm cap j (G++[.cells [sV (l.drop f)] true])++[b])[G.length+1]?=some b:=fun b=>ZgO (by rw [R3];rfl)
  rw [hfin]
  have hsc:Zcf xs++[sV (l.drop f)]=Zcf (xs++[l.drop f]):=by rw [ZgQ];rfl
  simp +contextual only [ZcC,Zc,hi,Z3,RZ,ZaW,ZhY,hf,happ,hlast,hsc,ZDh,decide_false,pp,ff,go_sem,reduceIte,Ra,Rb,Rc,Rd]
theorem ZsK {p q:By} {c:UInt8} (h:p.contains c=false):Y1 (p++c::q) c=p∧Zg6 (p++c::q) c=q:=by
 have hno:∀ b∈p,(b != c)=true:=by
  intro b hb
  rw [Wm,decide_eq_false_iff_not] at h
  have:b≠c:=fun e=>h (e ▸ hb)
  simpa using this
 unfold Y1 Zg6
 constructor
 ·rw [List.takeWhile_append_of_pos hno]
  simp
 ·rw [List.dropWhile_append_of_pos hno]
  simp
theorem Zez (l:By) (c:UInt8):(Y1 l c).length≤l.length:=by
 rcases ZdB l c with ⟨_,_,e,_⟩|⟨i,_,h,_,e,_⟩ <;> rw [e]
 ·exact Nat.le_refl _
 ·rw [Wn];omega
theorem Zui (l:By) (c:UInt8):(Zg6 l c).length≤l.length:=by
 rcases ZdB l c with ⟨_,_,_,e⟩|⟨i,_,h,_,_,e⟩ <;> rw [e]
 ·simp
 ·rw [Wa];omega
theorem Zw2 {l:By} {c:UInt8} (h:l.contains c=true):Zg6 l c=l.drop ((Y1 l c).length+1)∧(Y1 l c).length+1≤l.length:=by
 rcases ZdB l c with ⟨_,e,_,_⟩|⟨i,_,hi,_,ea,eb⟩
 ·rw [e] at h;cases h
 ·rw [eb,ea,Wn,Nat.min_eq_left (by omega)]
  exact ⟨rfl,by omega⟩
def Yi (k:Int) (l:By):By:=(Y1 l 35).drop ((Lib.itoa k).length+1)
def ZxO (k:Int) (l:By):Option (By×By) :=
 if Zp7 (Y1 (Yi k l) 64) (Zg6 (Yi k l) 64)=true∧ZdC k (Y1 (Yi k l) 64) (Zg6 (Yi k l) 64)=l++[10] then some (Y1 (Yi k l) 64,Zg6 (Yi k l) 64) else none
theorem ZFy {k:Int} (h0:0≤k):(Lib.itoa k).contains 32=false:=ZFx h0 (by decide)
theorem ZmI {k:Int} {c r l:By} (h0:0≤k) (h1:k≤59) (hv:Zp7 c r=true) (hl:ZdC k c r=l++[10]) :
  l=Zhe (K8 k c r)∧Y1 l 35=K8 k c r∧Yi k l=c++64::r∧Zg6 (K8 k c r) 32=c++64::r∧Y1 (c++64::r) 64=c∧Zg6 (c++64::r) 64=r:=by
 have e1:l=Zhe (K8 k c r):=by
  unfold ZdC at hl
  exact (List.append_inj' hl rfl).1.symm
 have e2:Y1 l 35=K8 k c r:=by
  rw [e1]
  unfold Zhe
  rw [Rs]
  exact (ZsK (Zw1 h0 hv)).1
 have hb:K8 k c r=Lib.itoa k++32::(c++64::r):=by unfold K8;simp
 have e3:Yi k l=c++64::r:=by
  unfold Yi
  rw [e2,hb]
  have:Lib.itoa k++32::(c++64::r)=(Lib.itoa k++[32])++(c++64::r):=by simp
  rw [this,List.drop_left' (by simp)]
 have h64:=(ZlD hv).2.2.2.2.2
 refine ⟨e1,e2,e3,?_,(ZsK h64).1,(ZsK h64).2⟩
 rw [hb]
 exact (ZsK (ZFy h0)).2
theorem Zoj {k:Int} {l:By} (h0:0≤k) (h1:k≤59) {c r:By}:ZxO k l=some (c,r)↔Zp7 c r=true∧ZdC k c r=l++[10]:=by
 unfold ZxO
 constructor
 ·intro h
  split at h
  ·rename_i hc
   cases h
   exact hc
  ·cases h
 ·rintro ⟨hv,hl⟩
  obtain ⟨_,_,e3,_,e5,e6⟩:=ZmI h0 h1 hv hl
  rw [e3,e5,e6,if_pos ⟨hv,hl⟩]
def Zqb (l:By):Option By:=if ZDe (Y1 l 35)=true∧Zhe (Y1 l 35)=l then some (Y1 l 35) else none
def iC (l:By):By:=Y1 (Zg6 ((Zqb l).getD []) 32) 64
def iR (l:By):By:=Zg6 (Zg6 ((Zqb l).getD []) 32) 64
theorem ZJJ (l:By):(iC l).length≤l.length∧(iR l).length≤l.length:=by
 have h:((Zqb l).getD []).length≤l.length:=by
  unfold Zqb
  split
  ·exact Zez l 35
  ·simp
 have h2:=Zui ((Zqb l).getD []) 32
 have h3:=Zez (Zg6 ((Zqb l).getD []) 32) 64
 have h4:=Zui (Zg6 ((Zqb l).getD []) 32) 64
 unfold iC iR
 omega
theorem ZJK {k:Int} {l c r:By} (h0:0≤k) (h1:k≤59) (h:ZxO k l=some (c,r)):(Zqb l).isSome=true∧iC l=c∧iR l=r:=by
 obtain ⟨hv,hl⟩:=(Zoj h0 h1).mp h
 obtain ⟨e1,e2,e3,e4,e5,e6⟩:=ZmI h0 h1 hv hl
 have hver:Zqb l=some (K8 k c r):=by
  unfold Zqb
  rw [e2,if_pos ⟨ZAO h0 h1 hv,e1.symm⟩]
 unfold iC iR
 rw [hver]
 simp only [Option.getD_some,e4,e5,e6,Wo,and_self]
theorem ZHk {k:Int} {l:By} (h0:0≤k) (h1:k≤59):((Zqb l).isSome&&(ZrB k (iC l) (iR l)&&decide (ZdC k (iC l) (iR l)=l++[10])))=(ZxO k l).isSome:=by
 cases hd:ZxO k l with
 | some p=>
  obtain ⟨c,r⟩:=p
  obtain ⟨g1,g2,g3⟩:=ZJK h0 h1 hd
  obtain ⟨hv,hl⟩:=(Zoj h0 h1).mp hd
  rw [g1,g2,g3]
  simp [ZrB,h0,h1,hv,hl]
 | none=>
  cases hx:((Zqb l).isSome&&(ZrB k (iC l) (iR l)&&decide (ZdC k (iC l) (iR l)=l++[10]))) with
  | false=>rfl
  | true=>
   simp only [Ru,decide_eq_true_eq,ZrB] at hx
   have:=(Zoj h0 h1).mpr ⟨hx.2.1.2,hx.2.2⟩
   rw [hd] at this
   cases this
theorem ZlF (hi:KJ pr) (hc:Y9 pr) (hx:ZaX pr) (l:By) (hn:l.length≤1048576):call T pr Km [sV l] ⟨H,e⟩=some (.tup [sV ((Zqb l).getD []),.bool (Zqb l).isSome],⟨H,e⟩):=by
 have hcut:=fun L=>ZcU (pr:=pr) (H:=L) (e:=none) hx l 35 (by omega)
 have hA:=Zez l 35
 have hack:=fun L=>Zex (pr:=pr) (H:=L) (e:=none) hi hc (Y1 l 35) (by omega)
 rw [Zi Zlg]
 unfold Zqb
 cases ha:ZDe (Y1 l 35) with
 | false=>
  simp only [ha,R7,if_false] at hack
  simp +contextual only [Y4,Kp,hcut,hack,false_and,if_false,Option.getD_none,Wj,go_sem,reduceIte,Ra,Rb,Rc,Rd]
 | true=>
  simp only [ha,if_true] at hack
  have hbd:=Zfm (Zhe (Y1 l 35)) l
  cases hd:decide (Zhe (Y1 l 35)=l) with
  | false=>
   rw [hd] at hbd
   have hd':=of_decide_eq_false hd
   simp +contextual only [Y4,Kp,hcut,hack,hbd,hd',and_false,if_false,Option.getD_none,Wj,go_sem,reduceIte,Ra,Rb,Rc,Rd]
  | true=>
   rw [hd] at hbd
   rw [if_pos ⟨rfl,of_decide_eq_true hd⟩]
   simp +contextual only [Y4,Kp,hcut,hack,hbd,Option.getD_some,Wo,go_sem,reduceIte,Ra,Rb,Rc,Rd]
theorem ZDi (hi:KJ pr) (hc:Y9 pr) (hx:ZaX pr) {k:Int} (h0:0≤k) (h1:k≤59) (l:By) (hn:l.length≤1048576):call T pr Ziw [.int .i64 k,sV l] ⟨H,e⟩=some (.tup [rcV (bs (iC l)) (bs (iR l)),.bool (ZxO k l).isSome],⟨H,e⟩):=by
 have hver:=fun L=>ZlF (pr:=pr) (H:=L) (e:=none) hi hc hx l hn
 have hvl:((Zqb l).getD []).length≤l.length:=by
  unfold Zqb
  split
  ·exact Zez l 35
  ·simp
 have hcut1:=fun L=>ZcU (pr:=pr) (H:=L) (e:=none) hx ((Zqb l).getD []) 32 (by omega)
 have hB:=Zui ((Zqb l).getD []) 32
 have hcut2:=fun L=>ZcU (pr:=pr) (H:=L) (e:=none) hx (Zg6 ((Zqb l).getD []) 32) 64 (by omega)
 have hcr:=ZJJ l
 have henc:=fun L=>Zg7 (pr:=pr) (H:=L) (e:=none) hi hc (c:=iC l) (r:=iR l) (by omega) (by omega) k
 have hok:=ZHk (l:=l) h0 h1
 have hll:l.length+1≤140737488355328:=by omega
 have hbd:=Zfm (ZdC k (iC l) (iR l)) (l++[10])
 rw [Zi ZBR,←hok]
 have eC:Y1 (Zg6 ((Zqb l).getD []) 32) 64=iC l:=rfl
 have eR:Zg6 (Zg6 ((Zqb l).getD []) 32) 64=iR l:=rfl
 rw [eC,eR] at hcut2
 generalize iC l=c at *
 generalize iR l=r at *
 cases hv:(Zqb l).isSome with
 | false=>
  rw [hv] at hver
  cases ho:ZrB k c r with
  | false=>
   simp only [ho,R7,if_false] at henc
   simp +contextual only [Zbq,Ze8,Zc,hver,hcut1,hcut2,henc,go_sem,reduceIte,Ra,Rb,Rc,Rd]
  | true=>
   simp only [ho,if_true] at henc
   simp +contextual only [Zbq,Ze8,Zc,hver,hcut1,hcut2,henc,go_sem,reduceIte,Ra,Rb,Rc,Rd]
 | true=>
  rw [hv] at hver
  cases ho:ZrB k c r with
  | false=>
   simp only [ho,R7,if_false] at henc
   simp +contextual only [Zbq,Ze8,Zc,hver,hcut1,hcut2,henc,go_sem,reduceIte,Ra,Rb,Rc,Rd]
  | true=>
   simp only [ho,if_true] at henc
   simp +contextual only [Zbq,Ze8,Zc,hver,hcut1,hcut2,henc,ZL,hll,R6,hbd,go_sem,reduceIte,Ra,Rb,Rc,Rd]
def Zh4 (k:Int) (l:By):Prop:=¬ (Y1 l 35).length<(Lib.itoa k++[32]).length∧(Y1 l 35).take (Lib.itoa k++[32]).length=Lib.itoa k++[32]
instance (k:Int) (l:By):Decidable (Zh4 k l):=by unfold Zh4;infer_instance
def ZnV (k:Int) (l:By):By×By :=
 if Zh4 k l∧(Y1 (Yi k l) 64).length≠(Yi k l).length then (Y1 (Yi k l) 64,(Yi k l).drop ((Y1 (Yi k l) 64).length+1)) else ([],[])
theorem Znv (l:By) (c:UInt8):(Y1 l c).length=l.length↔l.contains c=false:=by
 rcases ZdB l c with ⟨_,e2,e3,_⟩|⟨i,_,hi,e2,e3,_⟩
 ·rw [e2,e3];simp
 ·rw [e2,e3,Wn]
  simp
  omega
theorem ZJL {k:Int} {l c r:By} (h0:0≤k) (h1:k≤59) (h:ZxO k l=some (c,r)):Zh4 k l∧(Y1 (Yi k l) 64).length≠(Yi k l).length∧ZnV k l=(c,r):=by
 obtain ⟨hv,hl⟩:=(Zoj h0 h1).mp h
 obtain ⟨e1,e2,e3,e4,e5,e6⟩:=ZmI h0 h1 hv hl
 have hb:K8 k c r=(Lib.itoa k++[32])++(c++64::r):=by unfold K8;simp
 have ha:Zh4 k l:=by
  unfold Zh4
  rw [e2,hb]
  refine ⟨by rw [R3];omega,?_⟩
  rw [List.take_left']
  rfl
 have hc:(Y1 (Yi k l) 64).length≠(Yi k l).length:=by
  rw [e3]
  intro hh
  have:=(Znv _ _).mp hh
  simp at this
 refine ⟨ha,hc,?_⟩
 unfold ZnV
 rw [if_pos ⟨ha,hc⟩,e3,e5]
 have:(c++64::r).drop (c.length+1)=r:=by
  rw [show c++64::r=(c++[64])++r by simp,List.drop_left' (by simp)]
 rw [this]
theorem ZHl {k:Int} {l:By} (h0:0≤k) (h1:k≤59) (ha:Zh4 k l) (hne:(Y1 (Yi k l) 64).length≠(Yi k l).length) :
  (Zp7 (Y1 (Yi k l) 64) ((Yi k l).drop ((Y1 (Yi k l) 64).length+1))&&decide (ZdC k (Y1 (Yi k l) 64) ((Yi k l).drop ((Y1 (Yi k l) 64).length+1))=l++[10]))=(ZxO k l).isSome:=by
 have h64:(Yi k l).contains 64=true:=by
  cases h:(Yi k l).contains 64 with
  | true=>rfl
  | false=>exact absurd ((Znv _ _).mpr h) hne
 rw [←(Zw2 h64).1]
 unfold ZxO
 by_cases hc:Zp7 (Y1 (Yi k l) 64) (Zg6 (Yi k l) 64)=true∧ZdC k (Y1 (Yi k l) 64) (Zg6 (Yi k l) 64)=l++[10]
 ·rw [if_pos hc,hc.1,decide_eq_true hc.2];rfl
 ·rw [if_neg hc]
  cases hx:(Zp7 (Y1 (Yi k l) 64) (Zg6 (Yi k l) 64)&&decide (ZdC k (Y1 (Yi k l) 64) (Zg6 (Yi k l) 64)=l++[10])) with
  | false=>rfl
  | true=>exact absurd (by simpa using hx) hc
theorem Zuj {k:Int} {l:By} (h0:0≤k) (h1:k≤59) (h:¬ (Zh4 k l∧(Y1 (Yi k l) 64).length≠(Yi k l).length)):ZxO k l=none:=by
 cases hd:ZxO k l with
 | none=>rfl
 | some p=>
  obtain ⟨c,r⟩:=p
  obtain ⟨g1,g2,_⟩:=ZJL h0 h1 hd
  exact absurd ⟨g1,g2⟩ h
theorem ZmJ (l:By) (c:UInt8) (hn:l.length≤1073741824):∃ xs:List By,(xs=[]↔l.contains c=false)∧xs.length≤l.length∧∀ (L:List Blk) (e':Option Nat),call T pr Xx [sV l,.int .u8 c.toNat] ⟨L,e'⟩=some (slX L.length (xs.length+1) none,⟨L++[.cells (sV (Y1 l c)::Zcf xs) true],e'⟩):=by
 obtain ⟨xs,h1,h2⟩:=ZDg c l
 have h3:=ZiW c l
 rw [h1,Rl] at h3
 refine ⟨xs,h2,by omega,fun L e' => ?_⟩
 rw [Zqa l c hn,h1]
 rfl
theorem Zuk {k:Int} (h0:0≤k) (h1:k≤59) (l:By) (hn:l.length≤1048576):call T pr Zct [sV l,.int .i64 k] ⟨H,e⟩=some (.tup [rcV (bs (ZnV k l).1) (bs (ZnV k l).2),.bool (ZxO k l).isSome],⟨H,e⟩):=by
 have hnum:=fun L=>XA (pr:=pr) (H:=L) (e:=none) k (by omega) (by omega)
 have hil:=Zoi (n:=k) (by omega) (by omega)
 have g1:(Lib.itoa k).length+1≤140737488355328:=by omega
 obtain ⟨xs,_,hxl,hsp⟩:=ZmJ (pr:=pr) l 35 (by omega)
 have hsp35:∀ (L:List Blk) (e':Option Nat),call T pr Xx [sV l,.int .u8 35] ⟨L,e'⟩=some (slX L.length (xs.length+1) none,⟨L++[.cells (sV (Y1 l 35)::Zcf xs) true],e'⟩):=hsp
 have hA:=Zez l 35
 have hpos:∀ n:Nat,(0:Int)<((n+1:Nat):Int):=fun n=>by omega
 rw [Zi Ztg]
 have hlt:decide (((Y1 l 35).length:Int)<((Lib.itoa k++[32]).length:Int))=decide ((Y1 l 35).length<(Lib.itoa k++[32]).length):=decide_eq_decide.mpr (by omega)
 have hal:(Lib.itoa k++[32]).length=(Lib.itoa k).length+1:=by simp
 by_cases ha1:(Y1 l 35).length<(Lib.itoa k++[32]).length
 ·have hno:¬ Zh4 k l:=fun h=>h.1 ha1
  have hd:=Zuj h0 h1 (fun h=>hno h.1)
  have hs:ZnV k l=([],[]):=by unfold ZnV;rw [if_neg (fun h=>hno h.1)]
  rw [hd,hs]
  have hlt':decide ((Y1 l 35).length<(Lib.itoa k).length+1)=true:=decide_eq_true (by omega)
  simp +contextual only [JU,ZaI,Zc,hnum,ZL,g1,hsp35,hlt',hpos,Z3,RZ,Wd,RH,Rr,decide_true,Wj,go_sem,reduceIte,Ra,Rb,Rc,Rd]
 ·have hlt':decide ((Y1 l 35).length<(Lib.itoa k).length+1)=false:=decide_eq_false (by omega)
  have hle1:(Lib.itoa k).length+1≤(Y1 l 35).length:=by omega
  by_cases ha2:(Y1 l 35).take (Lib.itoa k++[32]).length=Lib.itoa k++[32]
  ·have hah:Zh4 k l:=⟨ha1,ha2⟩
   rw [hal] at ha2
   have hbd:decide (bs ((Y1 l 35).take ((Lib.itoa k).length+1))=bs (Lib.itoa k++[32]))=true:=by rw [Zfm];exact decide_eq_true ha2
   have hrl:(Yi k l).length≤l.length:=by unfold Yi;rw [Wa];omega
   obtain ⟨ys,hy1,hyl,hspy⟩:=ZmJ (pr:=pr) (Yi k l) 64 (by omega)
   have hsp64:∀ (L:List Blk) (e':Option Nat),call T pr Xx [sV (Yi k l),.int .u8 64] ⟨L,e'⟩=some (slX L.length (ys.length+1) none,⟨L++[.cells (sV (Y1 (Yi k l) 64)::Zcf ys) true],e'⟩):=hspy
   have hrd:(Y1 l 35).drop ((Lib.itoa k).length+1)=Yi k l:=rfl
   have hB:=Zez (Yi k l) 64
   by_cases hne:(Y1 (Yi k l) 64).length=(Yi k l).length
   ·have hd:=Zuj h0 h1 (fun h=>h.2 hne)
    have hs:ZnV k l=([],[]):=by unfold ZnV;rw [if_neg (fun h=>h.2 hne)]
    rw [hd,hs]
    have heq:decide (((Y1 (Yi k l) 64).length:Int)=((Yi k l).length:Int))=true:=decide_eq_true (by omega)
    simp +contextual only [JU,ZaI,Zc,hnum,ZL,g1,hsp35,hsp64,hlt',hle1,hpos,hbd,hrd,heq,Zoh,ZaW,ZAL,ZhY,Z3,RZ,Wd,RH,Rr,decide_true,Wj,RS,go_sem,reduceIte,Ra,Rb,Rc,Rd]
   ·have hs:ZnV k l=(Y1 (Yi k l) 64,(Yi k l).drop ((Y1 (Yi k l) 64).length+1)):=by unfold ZnV;rw [if_pos ⟨hah,hne⟩]
    have hok:=ZHl h0 h1 hah hne
    rw [hs,←hok]
    have heq:decide (((Y1 (Yi k l) 64).length:Int)=((Yi k l).length:Int))=false:=decide_eq_false (by omega)
    have hle2:(Y1 (Yi k l) 64).length+1≤(Yi k l).length:=by omega
    have hw:=Zh (show (Y1 (Yi k l) 64).length<9223372036854775807 by omega)
    have hcl:(Y1 (Yi k l) 64).length≤1048576:=by omega
    have hdl:((Yi k l).drop ((Y1 (Yi k l) 64).length+1)).length≤1048576:=by rw [Wa];omega
    have hbd2:=Zfm (ZdC k (Y1 (Yi k l) 64) ((Yi k l).drop ((Y1 (Yi k l) 64).length+1))) (l++[10])
    generalize hr:(Yi k l).drop ((Y1 (Yi k l) 64).length+1)=r at hbd2 hdl ⊢
    clear hs hok
    generalize Y1 (Yi k l) 64=c at *
    have hrec:=fun L=>ZgN (pr:=pr) (H:=L) (e:=none) (s:=bs c) (t:=bs r) (by rw [X9];omega) (by rw [X9];omega)
    have hln:=fun L=>Zp8 (pr:=pr) (H:=L) (e:=none) (k:=k) (c:=c) (r:=r) h0 (by omega) hcl hdl
    have hll:l.length+1≤140737488355328:=by omega
    unfold Zp7
    cases hv:ZnU (bs c) (bs r) <;> rw [hv] at hrec <;> simp +contextual only [JU,ZaI,Zc,hnum,ZL,g1,hsp35,hsp64,hlt',hle1,hle2,hpos,hbd,hrd,hr,hw,heq,hrec,hln,hll,hbd2,Zoh,ZaW,ZAL,ZhY,R6,Z3,RZ,Wd,RH,Rr,decide_true,RS,go_sem,reduceIte,Ra,Rb,Rc,Rd]
  ·have hno:¬ Zh4 k l:=fun h=>ha2 h.2
   have hd:=Zuj h0 h1 (fun h=>hno h.1)
   have hs:ZnV k l=([],[]):=by unfold ZnV;rw [if_neg (fun h=>hno h.1)]
   rw [hal] at ha2
   have hbd:decide (bs ((Y1 l 35).take ((Lib.itoa k).length+1))=bs (Lib.itoa k++[32]))=false:=by rw [Zfm];exact decide_eq_false ha2
   rw [hd,hs]
   simp +contextual only [JU,ZaI,Zc,hnum,ZL,g1,hsp35,hlt',hle1,hpos,hbd,Zoh,ZAL,Z3,RZ,Wd,RH,Rr,decide_true,Wj,go_sem,reduceIte,Ra,Rb,Rc,Rd]
abbrev Rc:=By×By
def rcC (p:Rc):List AV:=[sV p.1,sV p.2]
theorem ZsL (p:Rc):(rcC p).length=2:=rfl
theorem QJ (p:Rc) (n:Nat):((rcC p).all fun c=>c.under n)=true:=by simp [rcC,AV.under]
abbrev ZzW (xs:List Rc):List AV:=ZAK rcC xs
abbrev slR (b n:Nat) (c:Option Nat):AV:=.slice (some (b,0)) 2 n c
def ZdE (k:Nat) (l:By):Option (Rc×Nat):=if l.contains 10=true then (ZxO k (Y1 l 10)).map fun p=>(p,(Y1 l 10).length+1) else none
def K9:Nat→Nat→By→List Rc
 | 0,k,l=>[]
 | f+1,k,l=>match ZdE k l with
  | some (p,n)=>p::K9 f (k+1) (l.drop n)
  | none=>[]
def ZeQ:Nat→Nat→Nat→By→List Nat
 | 0,k,a,l=>[]
 | f+1,k,a,l=>match ZdE k l with
  | some (p,n)=>(a+n)::ZeQ f (k+1) (a+n) (l.drop n)
  | none=>[]
theorem ZiX {k:Nat} {l:By} {p:Rc} {n:Nat} (h:ZdE k l=some (p,n)):n≤l.length∧l.contains 10=true∧ZxO k (Y1 l 10)=some p∧n=(Y1 l 10).length+1:=by
 unfold ZdE at h
 split at h
 ·rename_i hc
  obtain ⟨q,hq,hq2⟩:=Option.map_eq_some_iff.mp h
  cases hq2
  exact ⟨(Zw2 hc).2,hc,hq,rfl⟩
 ·cases h
theorem ZsM {k:Nat} {l:By} (h:ZdE k l=none):l.contains 10=false∨(ZxO k (Y1 l 10)).isSome=false:=by
 unfold ZdE at h
 split at h
 ·right
  cases hd:ZxO k (Y1 l 10) with
  | none=>rfl
  | some p=>rw [hd] at h;cases h
 ·rename_i hc
  left
  simpa using hc
theorem Zw3 (k:Nat):ZdE k []=none:=by simp [ZdE]
theorem Zqc:∀ (f k a:Nat) (l:By),(K9 f k l).length=(ZeQ f k a l).length∧(K9 f k l).length≤f
 | 0,k,a,l=>⟨rfl,Nat.le_refl _⟩
 | f+1,k,a,l=>by
  rw [K9,ZeQ]
  cases h:ZdE k l with
  | none=>simp
  | some p=>
   obtain ⟨p,n⟩:=p
   have:=Zqc f (k+1) (a+n) (l.drop n)
   simp only [Rl]
   omega
def Zul (n:Nat):Option Nat:=if n=0 then some 0 else none
theorem Zqd {n:Nat} (h:Zul n=some 0):n=0:=by
 unfold Zul at h
 split at h
 ·assumption
 ·cases h
def Zum (ns:List Nat):List AV:=ZR (ns.map fun n:Nat=>(n:Int))
theorem Zqe (ns:List Nat):(Zum ns).length=ns.length:=by simp [Zum,ZR]
theorem ZzX (a b:List Nat):Zum (a++b)=Zum a++Zum b:=by simp [Zum,ZR]
theorem ZmK (n:Nat) (ns:List Nat):((Zum ns).all fun c=>c.under n)=true:=by
 unfold Zum ZR
 simp [AV.under]
theorem ZlG (hi:KJ pr) (hc:Y9 pr) (hx:ZaX pr) (l:By) (hn:l.length≤1048576):call T pr Kl [sV l] ⟨H,e⟩ =
  some (.tup [slR H.length (K9 60 0 l).length (Zul (K9 60 0 l).length),slI (H.length+1) (K9 60 0 l).length (Zul (K9 60 0 l).length)],⟨H++[.cells (ZzW (K9 60 0 l)) true,.cells (Zum (ZeQ 60 0 0 l)) true],e⟩):=by
 apply Wc.eq
 rw [Zs Zlb]
 simp +contextual only [YD,Zee,Zc,pp,go_sem,reduceIte,Ra,Rb,Rc,Rd]
 refine ZM (fun n st=>∃ (a j1 j2:Nat) (xs:List Rc) (es:List Nat) (cap:Option Nat) (G:List Blk) (y1 y2 y6 y7 y8 y9 y10 y11:AV),cap=Zul xs.length∧n+xs.length=60∧a≤l.length∧es.length=xs.length∧xs++K9 n xs.length (l.drop a)=K9 60 0 l∧es++ZeQ n xs.length a (l.drop a)=ZeQ 60 0 0 l∧j1≠j2 ∧
  G[j1]?=some (.cells (ZzW xs) true)∧G[j2]?=some (.cells (Zum es) true) ∧
  st=⟨[sV l,y1,y2,slR (H.length+j1) xs.length cap,slI (H.length+j2) xs.length cap,.int .i64 a,y6,y7,y8,y9,y10,y11],⟨H++G,none⟩⟩) ?_ 60 _
  ⟨0,0,1,[],[],some 0,[.cells [] true,.cells [] true],_,_,_,_,_,_,_,_,rfl,rfl,by omega,rfl,rfl,rfl,by decide,rfl,rfl,rfl⟩
 rintro n _ ⟨a,j1,j2,xs,es,cap,G,y1,y2,y6,y7,y8,y9,y10,y11,rfl,hk,ha,hel,hop,hen,hj,g1,g2,rfl⟩
 have hmb:(xs.length+1)*32≤maxBytes:=by unfold maxBytes;omega
 have hmb2:(xs.length+1)*8≤maxBytes:=by unfold maxBytes;omega
 cases n with
 | zero=>
  have h60:xs.length=60:=by omega
  have hx1:K9 60 0 l=xs:=by rw [←hop];simp [K9]
  have hx2:ZeQ 60 0 0 l=es:=by rw [←hen];simp [ZeQ]
  have hlt:decide ((xs.length:Int)<60)=false:=decide_eq_false (by omega)
  rw [hx1,hx2]
  simp +contextual only [Xc,hlt,YD,g1,g2,JE QJ,ZmK,ne_eq,hj,not_false_eq_true,pp,ff,go_sem,reduceIte,Ra,Rb,Rc,Rd]
 | succ n=>
  have hlt:decide ((xs.length:Int)<60)=true:=decide_eq_true (by omega)
  have hdl:(l.drop a).length≤1048576:=by rw [Wa];omega
  have hcut:=fun L=>ZcU (pr:=pr) (H:=L) (e:=none) hx (l.drop a) 10 (by omega)
  have hA:=Zez (l.drop a) 10
  have hdec:=fun L=>ZDi (pr:=pr) (H:=L) (e:=none) hi hc hx (k:=(xs.length:Int)) (by omega) (by omega) (Y1 (l.drop a) 10) (by omega)
  rw [K9] at hop
  rw [ZeQ] at hen
  cases hh:ZdE xs.length (l.drop a) with
  | none=>
   simp only [hh,List.append_nil] at hop hen
   rw [←hop,←hen]
   rcases ZsM hh with h10 | hds
   ·rw [h10] at hcut
    simp +contextual only [Xc,hlt,ZaW,ZhY,ha,hcut,hdec,YD,g1,g2,Yv g1,Yv g2,JE QJ,ZmK,ne_eq,hj,not_false_eq_true,pp,ff,go_sem,reduceIte,Ra,Rb,Rc,Rd]
   ·rw [hds] at hdec
    cases h10:(l.drop a).contains 10 <;> rw [h10] at hcut <;> simp +contextual only [Xc,hlt,ZaW,ZhY,ha,hcut,hdec,YD,g1,g2,Yv g1,Yv g2,JE QJ,ZmK,ne_eq,hj,not_false_eq_true,pp,ff,go_sem,reduceIte,Ra,Rb,Rc,Rd]
  | some q=>
   obtain ⟨⟨c,r⟩,m⟩:=q
   obtain ⟨hm1,h10,hd1,hm2⟩:=ZiX hh
   rw [Wa] at hm1
   obtain ⟨_,hc1,hr1⟩:=ZJK (by omega) (by omega) hd1
   rw [hd1,hc1,hr1,Wo] at hdec
   rw [h10] at hcut
   simp only [hh] at hop hen
   have happ1:=fun e'=>ZdD (H:=H) (e:=e') (G:=G++[.cells [sV c,sV r] true]) (j:=j1) (n:=xs.length) (sz:=2) (bytes:=32) (cs:=ZzW xs) (new:=[sV c,sV r]) (cap:=Zul xs.length) (c:=some 1) (w:=true) (Yv g1 _) Zqd (Zkm ZsL xs) rfl hmb
   have g2':(Zcm (Zul xs.length) j1 (G++[.cells [sV c,sV r] true,.cells [sV c,sV r] true])++[.cells (ZzW xs++[sV c,sV r]) true])[j2]?=some (.cells (Zum es) true):=by
    rw [Wt (by rw [YF,R3];have:=(RB.mp g2).1;omega),ZmH (fun h=>hj h.symm)]
    exact Yv g2 _
   have happ2:=fun e'=>ZdD (H:=H) (e:=e') (G:=Zcm (Zul xs.length) j1 (G++[.cells [sV c,sV r] true,.cells [sV c,sV r] true])++[.cells (ZzW xs++[sV c,sV r]) true]) (j:=j2) (n:=xs.length) (sz:=1) (bytes:=8) (cs:=Zum es) (new:=[.int .i64 ((a+m:Nat):Int)]) (cap:=Zul xs.length) (c:=some 1) (w:=true) g2' Zqd (by rw [Zqe,Wb];exact hel) rfl hmb2
   simp only [Rs,Rn,List.nil_append,R3,Rl,RM,YF,Nat.zero_add] at happ1 happ2
   have hw1:IntKind.i64.wrap (((Y1 (l.drop a) 10).length:Int)+1)=(m:Int):=by rw [hm2];exact Zh (by omega)
   have hw2:IntKind.i64.wrap ((a:Int)+(m:Int))=((a+m:Nat):Int):=by
    rw [show (a:Int)+(m:Int)=((a+m:Nat):Int) by omega];exact ZP (by omega) (by omega)
   have hrx:ZzW xs++[sV c,sV r]=ZzW (xs++[(c,r)]):=by show _=ZAK rcC _;rw [Zkl];rfl
   have hex:Zum es++[.int .i64 ((a+m:Nat):Int)]=Zum (es++[a+m]):=by rw [ZzX];rfl
   simp +contextual only [Xc,Zc,hlt,ZaW,ZhY,ha,hcut,hdec,Z3,RZ,hw1,hw2,happ1,happ2,YF,pp,go_sem,reduceIte,Ra,Rb,Rc,Rd]
   have hlen:xs.length+1=(xs++[(c,r)]).length:=by simp
   rw [hrx,hex,hlen]
   refine ⟨n,by omega,a+m,G.length+2,G.length+4,xs++[(c,r)],es++[a+m],none,Zcm (Zul xs.length) j2 (Zcm (Zul xs.length) j1 (G++[.cells [sV c,sV r] true,.cells [sV c,sV r] true])++[.cells (ZzW (xs++[(c,r)])) true,.cells [.int .i64 ((a+m:Nat):Int)] true])++[.cells (Zum (es++[a+m])) true],
    _,_,_,_,_,_,_,_,by simp [Zul],by simp;omega,by omega,by simp [hel],?_,?_,by omega,?_,?_,rfl⟩
   ·rw [←hop,Rs,R3,Wi]
    rfl
   ·rw [←hen,Rs,R3,Wi]
    rfl
   ·rw [Wt (by rw [YF,R3,YF,R3];simp),ZmH (by have:=(RB.mp g2).1;omega)]
    rw [List.getElem?_append_right (by rw [YF,R3];simp),YF,R3]
    simp
   ·exact ZgO (by rw [R3,YF,R3];rfl)
def ZaY:Nat→Nat→By→Nat
 | 0,k,l=>0
 | f+1,k,l=>match ZdE k l with
  | some (p,n)=>n+ZaY f (k+1) (l.drop n)
  | none=>0
theorem Zqf (l:By) (hn:l.length≤1048576):call T pr Zc8 [sV l] ⟨H,e⟩ =
  some (.tup [slR H.length (K9 60 0 l).length (Zul (K9 60 0 l).length),.int .i64 (ZaY 60 0 l)],⟨H++[.cells (ZzW (K9 60 0 l)) true],e⟩):=by
 apply Wc.eq
 rw [Zs Zyk]
 simp +contextual only [Kx,ZoW,Zc,pp,go_sem,reduceIte,Ra,Rb,Rc,Rd]
 refine ZM (fun n st=>∃ (a j:Nat) (xs:List Rc) (cap:Option Nat) (G:List Blk) (y1 y2 y5 y6 y7 y8 y9:AV),cap=Zul xs.length∧n+xs.length=60∧a≤l.length∧xs++K9 n xs.length (l.drop a)=K9 60 0 l∧a+ZaY n xs.length (l.drop a)=ZaY 60 0 l ∧
  G[j]?=some (.cells (ZzW xs) true) ∧
  st=⟨[sV l,y1,y2,slR (H.length+j) xs.length cap,.int .i64 a,y5,y6,y7,y8,y9],⟨H++G,none⟩⟩) ?_ 60 _
  ⟨0,0,[],some 0,[.cells [] true],_,_,_,_,_,_,_,rfl,rfl,by omega,rfl,by simp,rfl,rfl⟩
 rintro n _ ⟨a,j,xs,cap,G,y1,y2,y5,y6,y7,y8,y9,rfl,hk,ha,hop,hco,g1,rfl⟩
 have hmb:(xs.length+1)*32≤maxBytes:=by unfold maxBytes;omega
 have hdl:(l.drop a).length≤1048576:=by rw [Wa];omega
 by_cases hat:a<l.length
 ·have hatd:decide (a<l.length)=true:=decide_eq_true hat
  cases n with
  | zero=>
   have hx1:K9 60 0 l=xs:=by rw [←hop];simp [K9]
   have hx2:ZaY 60 0 l=a:=by rw [←hco];simp [ZaY]
   have hlt:decide ((xs.length:Int)<60)=false:=decide_eq_false (by omega)
   rw [hx1,hx2]
   simp +contextual only [KT,hlt,hat,hatd,Z3,RZ,Kx,g1,JE QJ,pp,ff,go_sem,reduceIte,Ra,Rb,Rc,Rd]
  | succ n=>
   have hlt:decide ((xs.length:Int)<60)=true:=decide_eq_true (by omega)
   obtain ⟨ys,hy1,hyl,hsp⟩:=ZmJ (pr:=pr) (l.drop a) 10 (by omega)
   have hsp10:∀ (L:List Blk) (e':Option Nat),call T pr Xx [sV (l.drop a),.int .u8 10] ⟨L,e'⟩=some (slX L.length (ys.length+1) none,⟨L++[.cells (sV (Y1 (l.drop a) 10)::Zcf ys) true],e'⟩):=hsp
   have hA:=Zez (l.drop a) 10
   have hdec:=fun L=>Zuk (pr:=pr) (H:=L) (e:=none) (k:=(xs.length:Int)) (by omega) (by omega) (Y1 (l.drop a) 10) (by omega)
   have hpos:∀ n:Nat,(0:Int)<((n+1:Nat):Int):=fun n=>by omega
   rw [K9] at hop
   rw [ZaY] at hco
   cases hh:ZdE xs.length (l.drop a) with
   | none=>
    simp only [hh,List.append_nil,Nat.add_zero] at hop hco
    rw [←hop,←hco]
    rcases ZsM hh with h10 | hds
    ·have hys:ys=[]:=hy1.mpr h10
     subst hys
     have h2:decide (((0+1:Nat):Int)<2)=true:=by decide
     simp +contextual only [KT,hlt,hat,hatd,Z3,RZ,ZaW,ZhY,ha,hsp10,hdec,hpos,h2,Wd,RH,Rr,Kx,g1,Yv g1,JE QJ,Rs,pp,ff,go_sem,reduceIte,Ra,Rb,Rc,Rd]
    ·rw [hds] at hdec
     cases h2:decide (((ys.length+1:Nat):Int)<2) <;> simp +contextual only [KT,hlt,hat,hatd,Z3,RZ,ZaW,ZhY,ha,hsp10,hdec,hpos,h2,Wd,RH,Rr,Kx,g1,Yv g1,JE QJ,Rs,pp,ff,go_sem,reduceIte,Ra,Rb,Rc,Rd]
   | some q=>
    obtain ⟨⟨c,r⟩,m⟩:=q
    obtain ⟨hm1,h10,hd1,hm2⟩:=ZiX hh
    rw [Wa] at hm1
    have hsr:=(ZJL (by omega) (by omega) hd1).2.2
    rw [hd1,hsr,Wo] at hdec
    have hys:ys≠[]:=fun h=>by rw [hy1.mp h] at h10;cases h10
    have hyp:1≤ys.length:=by
     rcases Nat.eq_zero_or_pos ys.length with h | h
     ·exact absurd (List.length_eq_zero_iff.mp h) hys
     ·exact h
    have h2:decide (((ys.length+1:Nat):Int)<2)=false:=decide_eq_false (by omega)
    simp only [hh] at hop hco
    have happ1:=fun e'=>ZdD (H:=H) (e:=e') (G:=G++[.cells (sV (Y1 (l.drop a) 10)::Zcf ys) true,.cells [sV c,sV r] true]) (j:=j) (n:=xs.length) (sz:=2) (bytes:=32) (cs:=ZzW xs) (new:=[sV c,sV r]) (cap:=Zul xs.length) (c:=some 1) (w:=true) (Yv g1 _) Zqd (Zkm ZsL xs) rfl hmb
    simp only [Rs,Rn,List.nil_append,R3,Rl,RM,Nat.zero_add] at happ1
    have hw2:IntKind.i64.wrap (IntKind.i64.wrap ((a:Int)+((Y1 (l.drop a) 10).length:Int))+1)=((a+m:Nat):Int):=by
     rw [show (a:Int)+((Y1 (l.drop a) 10).length:Int)=((a+(Y1 (l.drop a) 10).length:Nat):Int) by omega,ZP (x:=((a+(Y1 (l.drop a) 10).length:Nat):Int)) (by omega) (by omega),hm2,←RS]
     exact Zh (by omega)
    have hrx:ZzW xs++[sV c,sV r]=ZzW (xs++[(c,r)]):=by show _=ZAK rcC _;rw [Zkl];rfl
    have hlen:xs.length+1=(xs++[(c,r)]).length:=by simp
    have hcl:∀ X:List Blk,Zb (Zcm (Zul xs.length) j (G++[.cells (sV (Y1 (l.drop a) 10)::Zcf ys) true,.cells [sV c,sV r] true,.cells [sV c,sV r] true])++X) G.length=some (sV (Y1 (l.drop a) 10)::Zcf ys):=by
     intro X
     refine Zg (w:=true) (Yv ?_ X)
     rw [ZmH (by have:=(RB.mp g1).1;omega)]
     simp
    simp +contextual only [KT,Zc,hlt,hat,hatd,Z3,RZ,ZaW,ZhY,ha,hsp10,hdec,hpos,h2,hw2,happ1,hcl,Wd,RH,Rr,YF,Rs,pp,go_sem,reduceIte,Ra,Rb,Rc,Rd]
    rw [hrx,hlen]
    refine ⟨n,by omega,a+m,G.length+3,xs++[(c,r)],none,Zcm (Zul xs.length) j (G++[.cells (sV (Y1 (l.drop a) 10)::Zcf ys) true,.cells [sV c,sV r] true,.cells [sV c,sV r] true])++[.cells (ZzW (xs++[(c,r)])) true],
     _,_,_,_,_,_,_,by simp [Zul],by simp;omega,by omega,?_,?_,?_,rfl⟩
    ·rw [←hop,Rs,R3,Wi]
     rfl
    ·rw [←hco,R3,Wi,RS]
     rfl
    ·exact ZgO (by rw [R3];rfl)
 ·have hae:a=l.length:=by omega
  have hatd:decide (a<l.length)=false:=decide_eq_false hat
  have hnil:l.drop a=[]:=by rw [hae,List.drop_length]
  have hx1:K9 60 0 l=xs:=by
   rw [←hop,hnil]
   cases n <;> simp [K9,Zw3]
  have hx2:ZaY 60 0 l=a:=by
   rw [←hco,hnil]
   cases n <;> simp [ZaY,Zw3]
  rw [hx1,hx2]
  simp +contextual only [KT,hat,hatd,Z3,RZ,Kx,g1,JE QJ,pp,ff,go_sem,reduceIte,Ra,Rb,Rc,Rd]
theorem ZFz {k:Nat} {d:By} {q:Rc} {n:Nat} (p:By) (h:ZdE k d=some (q,n)):ZdE k (d++p)=some (q,n):=by
 obtain ⟨h1,h10,h3,h4⟩:=ZiX h
 have hw:=Zh3 10 d h10
 have hno:(Y1 d 10).contains 10=false:=Zey (Zp9 10 d)
 have hA:Y1 (d++p) 10=Y1 d 10:=by
  conv=>lhs;rw [hw,Rs,Rn]
  exact (ZsK hno).1
 have hc:(d++p).contains 10=true:=by
  simp at h10 ⊢
  exact Or.inl h10
 unfold ZdE
 rw [if_pos hc,hA,h3,h4]
 rfl
theorem ZFA {k:Nat} {d p:By} {q:Rc} {n:Nat} (h:ZdE k (d++p)=some (q,n)) (hn:n≤d.length):ZdE k d=some (q,n):=by
 obtain ⟨h1,h10,h3,h4⟩:=ZiX h
 have hw:=Zh3 10 (d++p) h10
 have hno:(Y1 (d++p) 10).contains 10=false:=Zey (Zp9 10 (d++p))
 generalize Y1 (d++p) 10=A at hw hno h3 h4
 generalize Zg6 (d++p) 10=B at hw
 have hd:d=A++10::B.take (d.length - (A.length+1)):=by
  have:d=(A++10::B).take d.length:=by rw [←hw];simp
  conv=>lhs;rw [this]
  rw [List.take_append,List.take_of_length_le (by omega)]
  congr 1
  rw [show d.length - A.length=(d.length - (A.length+1))+1 by omega,List.take_succ_cons]
 have hA:Y1 d 10=A:=by
  conv=>lhs;rw [hd]
  exact (ZsK hno).1
 have hc:d.contains 10=true:=by rw [hd];simp
 unfold ZdE
 rw [if_pos hc,hA,h3,h4]
 rfl
theorem ZAP:∀ (f k a:Nat) (l:By) (x:Nat),x∈ZeQ f k a l→a<x∧∀ q n,ZdE k l=some (q,n)→a+n≤x
 | 0,k,a,l,x,h=>by simp [ZeQ] at h
 | f+1,k,a,l,x,h=>by
  rw [ZeQ] at h
  cases hh:ZdE k l with
  | none=>rw [hh] at h;simp at h
  | some q=>
   obtain ⟨q,n⟩:=q
   have hn:=(ZiX hh).2.2.2
   rw [hh] at h
   rcases R9.mp h with rfl | h
   ·exact ⟨by omega,fun q' n' he=>by cases he;exact Nat.le_refl _⟩
   ·have:=(ZAP f (k+1) (a+n) (l.drop n) x h).1
    exact ⟨by omega,fun q' n' he=>by cases he;omega⟩
theorem ZAQ (p:By):∀ (f k a:Nat) (d:By),a+d.length∈a::ZeQ f k a (d++p)↔ZaY f k d=d.length
 | 0,k,a,d=>by
  simp only [ZeQ,ZaY,R8]
  omega
 | f+1,k,a,d=>by
  cases hd:ZdE k d with
  | some q=>
   obtain ⟨q,n⟩:=q
   obtain ⟨h1,_,_,h4⟩:=ZiX hd
   have hx:=ZFz p hd
   have ih:=ZAQ p f (k+1) (a+n) (d.drop n)
   rw [Wa,show a+n+(d.length - n)=a+d.length by omega] at ih
   rw [ZeQ,hx,ZaY,hd]
   simp only
   rw [List.drop_append_of_le_length h1,R9,ih]
   constructor
   ·rintro (h | h)
    ·omega
    ·omega
   ·intro h
    exact .inr (by omega)
  | none=>
   rw [ZaY,hd]
   simp only
   constructor
   ·intro h
    rcases R9.mp h with h | h
    ·omega
    ·have hg:=ZAP (f+1) k a (d++p) _ h
     cases hx:ZdE k (d++p) with
     | none=>rw [ZeQ,hx] at h;simp at h
     | some q=>
      obtain ⟨q,n⟩:=q
      have h2:=hg.2 q n hx
      have:=ZFA hx (by omega)
      rw [hd] at this
      cases this
   ·intro h
    rw [←h]
    exact Wf
theorem Zw4:∀ (f k a:Nat) (l:By),(a::ZeQ f k a l)[(ZeQ f k a l).length]?=some (a+ZaY f k l)
 | 0,k,a,l=>by simp [ZeQ,ZaY]
 | f+1,k,a,l=>by
  rw [ZeQ,ZaY]
  cases hh:ZdE k l with
  | none=>simp
  | some q=>
   obtain ⟨q,n⟩:=q
   have:=Zw4 f (k+1) (a+n) (l.drop n)
   simp only [Rl,List.getElem?_cons_succ]
   rw [this,RS]
def Zfn (d p:By) (c:Int):Bool:=decide (d.length+p.length≤30000)&&(decide (ZaY 60 0 (d++p)=d.length+p.length)&&(decide (ZaY 60 0 d=d.length)&&decide (c=((K9 60 0 (d++p)).length:Int))))
abbrev lgV (d p:By) (c:Int):AV:=.agg [sV d,sV p,.int .i64 c]
theorem Znw (d p:By) (c:Int) (hd:d.length≤1048576) (hp:p.length≤1048576):call T pr Zad [lgV d p c] ⟨H,e⟩=some (.bool (Zfn d p c),⟨H,e⟩):=by
 have hw:IntKind.i64.wrap ((d.length:Int)+(p.length:Int))=((d.length+p.length:Nat):Int):=by
  rw [show (d.length:Int)+(p.length:Int)=((d.length+p.length:Nat):Int) by omega];exact ZP (by omega) (by omega)
 rw [Zi Zve]
 unfold Zfn
 by_cases h3:d.length+p.length≤30000
 ·have hgt:decide ((30000:Int)<((d.length+p.length:Nat):Int))=false:=decide_eq_false (by omega)
  have ho1:=fun L=>Zqf (pr:=pr) (H:=L) (e:=none) (d++p) (by rw [R3];omega)
  have ho2:=fun L=>Zqf (pr:=pr) (H:=L) (e:=none) d hd
  have hll:d.length+p.length≤140737488355328:=by omega
  have hA:decide (((ZaY 60 0 (d++p):Nat):Int)=((d.length+p.length:Nat):Int))=decide (ZaY 60 0 (d++p)=d.length+p.length):=decide_eq_decide.mpr (by omega)
  have hB:decide (((ZaY 60 0 d:Nat):Int)=(d.length:Int))=decide (ZaY 60 0 d=d.length):=decide_eq_decide.mpr (by omega)
  have hC:decide ((((K9 60 0 (d++p)).length:Nat):Int)=c)=decide (c=((K9 60 0 (d++p)).length:Int)):=decide_eq_decide.mpr ⟨fun h=>h.symm,fun h=>h.symm⟩
  rw [decide_eq_true h3,←hA,←hB,←hC]
  cases hA':decide (((ZaY 60 0 (d++p):Nat):Int)=((d.length+p.length:Nat):Int)) with
  | false=>simp +contextual only [Kw,ZbY,hw,hgt,gt_iff_lt,Z3,RZ,ZL,hll,ho1,ho2,hA',go_sem,reduceIte,Ra,Rb,Rc,Rd]
  | true=>
   cases hB':decide (((ZaY 60 0 d:Nat):Int)=(d.length:Int)) with
   | false=>simp +contextual only [Kw,ZbY,hw,hgt,gt_iff_lt,Z3,RZ,ZL,hll,ho1,ho2,hA',hB',go_sem,reduceIte,Ra,Rb,Rc,Rd]
   | true=>simp +contextual only [Kw,ZbY,hw,hgt,gt_iff_lt,Z3,RZ,ZL,hll,ho1,ho2,hA',hB',go_sem,reduceIte,Ra,Rb,Rc,Rd]
 ·have hgt:decide ((30000:Int)<((d.length+p.length:Nat):Int))=true:=decide_eq_true (by omega)
  rw [decide_eq_false h3]
  simp +contextual only [Kw,ZbY,hw,hgt,gt_iff_lt,Z3,RZ,go_sem,reduceIte,Ra,Rb,Rc,Rd]
theorem ZrC {q:Nat} {c:Option Nat} {zs:List Int} (h:Zb H q=some (ZR zs)) (hn:zs.length≤1048576) (x:Int):call T pr YK [slI q zs.length c,.int .i64 x] ⟨H,e⟩=some (.bool (decide (x∈zs)),⟨H,e⟩):=by
 have hix:Wc (call T pr Xg [slI q zs.length c,.int .i64 x] ⟨H,none⟩) fun v m=>∃ z:Int,decide (0≤z)=decide (x∈zs)∧v=.int .i64 z∧m=⟨H,none⟩:=by
  rw [Zs Zgy]
  simp +contextual only [Xi,ZaL,pp,go_sem,reduceIte,Ra,Rb,Rc,Rd]
  refine ZM (fun k st=>∃ (i:Nat) (y3 y6 y7:AV),k+i=zs.length∧x ∉ zs.take i∧st=⟨[slI q zs.length c,.int .i64 x,.int .i64 0,y3,.int .i64 zs.length,.int .i64 i,y6,y7],⟨H,none⟩⟩) ?_ zs.length _ ⟨0,_,_,_,rfl,by simp,rfl⟩
  rintro k _ ⟨i,y3,y6,y7,hk,hni,rfl⟩
  by_cases hi:i<zs.length
  ·have hl:zs[i]?=some zs[i]:=Rj hi
   have hp:Zco false (ZR zs) i 1=some (.int .i64 zs[i]):=by rw [Zfd];unfold ZR;rw [List.getElem?_map,hl];rfl
   cases hx:decide (x=zs[i]) with
   | true=>
    simp +contextual only [YW,h,hi,hp,hx,decide_true,pp,go_sem,reduceIte,Ra,Rb,Rc,Rd]
    refine ⟨i,?_,rfl⟩
    rw [decide_eq_true (by omega:(0:Int)≤i),decide_eq_true]
    rw [of_decide_eq_true hx]
    exact List.getElem_mem hi
   | false=>
    simp +contextual only [YW,h,hi,hp,hx,Zh (show i<9223372036854775807 by omega),decide_true,pp,go_sem,reduceIte,Ra,Rb,Rc,Rd]
    refine ⟨k - 1,by omega,i+1,_,_,_,by omega,?_,rfl⟩
    rw [List.take_add_one,hl,We]
    rintro (h | h)
    ·exact hni h
    ·simp at h
     exact of_decide_eq_false hx h
  ·obtain rfl:i=zs.length:=by omega
   rw [Wl] at hni
   simp +contextual only [YW,hi,decide_false,pp,go_sem,reduceIte,Ra,Rb,Rc,Rd]
   exact ⟨-1,by simp [hni],rfl⟩
 apply Wc.eq
 rw [Zs ZdH]
 simp +contextual only [Yg,K4,pp,go_sem,reduceIte,Ra,Rb,Rc,Rd]
 refine hix.mono ?_
 rintro v m ⟨z,hz,rfl,rfl⟩
 simp +contextual only [Yg,hz,ge_iff_le,pp,go_sem,reduceIte,Ra,Rb,Rc,Rd]
theorem ZIy {L:List Blk} {b q n k sz bytes:Nat} {cs new:List AV} {c cap:Option Nat} (hb:L[b]?=some (.cells cs true)) (hq:Zb L q=some new) (hcs:cs.length=n*sz) (hnew:new.length=k*sz) (hcap:cap≠some 0) (hm:(n+k)*bytes≤maxBytes) :
  Q5 L e false sz bytes (.slice (some (b,0)) sz n cap) (.slice (some (q,0)) sz k c)=some (.slice (some (L.length,0)) sz (n+k) none,⟨L.set b .dead++[.cells (cs++new) true],e⟩):=by
 have hs:=Zer L k sz c new q hq hnew
 unfold Q5
 simp only [hb,hs]
 rw [if_pos ⟨trivial,hm,hnew,by omega⟩,if_neg (fun h=>hcap h.1),List.drop_zero,List.take_of_length_le (Nat.le_of_eq hcs),if_pos trivial]
theorem ZrD (hi:KJ pr) (hc:Y9 pr) (hx:ZaX pr) (d p:By) (c:Int) (hd:d.length≤1048576) (hp:p.length≤1048576):call T pr ZbD [lgV d p c] ⟨H,e⟩ =
  if d.length+p.length≤30000 then some (.tup [slR H.length (K9 60 0 (d++p)).length (Zul (K9 60 0 (d++p)).length),.bool (Zfn d p c)],⟨H++[.cells (ZzW (K9 60 0 (d++p))) true],e⟩)
  else some (.tup [.slice none 0 0 none,.bool (Zfn d p c)],⟨H,e⟩):=by
 have hll:d.length+p.length≤140737488355328:=by omega
 unfold Zfn
 by_cases h3:d.length+p.length≤30000
 ·have hgt:decide ((30000:Int)<((d.length+p.length:Nat):Int))=false:=decide_eq_false (by omega)
  have hrr:=fun L=>ZlG (pr:=pr) (H:=L) (e:=none) hi hc hx (d++p) (by rw [R3];omega)
  have hol:=Zqc 60 0 0 (d++p)
  have hlast:=Zw4 60 0 0 (d++p)
  have hmem:=ZAQ p 60 0 0 d
  rw [Nat.zero_add] at hlast hmem
  rw [if_pos h3,decide_eq_true h3,Bool.true_and]
  generalize K9 60 0 (d++p)=xs at *
  generalize ZeQ 60 0 0 (d++p)=es at *
  generalize ZaY 60 0 (d++p)=S at *
  have happ:=fun L b q e' c0 (hb:L[b]?=some (.cells [.int .i64 0] true)) (hq:Zb L q=some (Zum es))=>ZIy (e:=e') (L:=L) (b:=b) (q:=q) (n:=1) (k:=xs.length) (sz:=1) (bytes:=8) (c:=c0) (cap:=some 1) hb hq rfl (by rw [Zqe,Wb];exact hol.1.symm) (by simp) (by unfold maxBytes;omega)
  have hen:AV.int .i64 0::Zum es=ZR (((0::es).map fun n:Nat=>(n:Int))):=rfl
  have hsub:IntKind.i64.wrap (((1+xs.length:Nat):Int) - 1)=(xs.length:Int):=by
   rw [show ((1+xs.length:Nat):Int) - 1=(xs.length:Int) by omega];exact ZP (by omega) (by omega)
  have hlt1:xs.length<1+xs.length:=by omega
  have hpl:Zco false (AV.int .i64 0::Zum es) xs.length 1=some (.int .i64 (S:Nat)):=by
   rw [hen,Zfd]
   unfold ZR
   rw [hol.1,List.getElem?_map,List.getElem?_map,hlast]
   rfl
  have hcon:=fun L q c0 (h:Zb L q=some (AV.int .i64 0::Zum es))=>ZrC (pr:=pr) (H:=L) (e:=none) (q:=q) (c:=c0) (zs:=((0::es).map fun n:Nat=>(n:Int))) (h.trans (congrArg some hen)) (by simp;omega) (d.length:Int)
  have hmem2:decide ((d.length:Int)∈((0::es).map fun n:Nat=>(n:Int)))=decide (ZaY 60 0 d=d.length):=by
   refine decide_eq_decide.mpr ?_
   rw [←hmem,Wg]
   constructor
   ·rintro ⟨x,hx,he⟩
    rw [show d.length=x by omega];exact hx
   ·intro h;exact ⟨d.length,h,rfl⟩
  rw [hmem2] at hcon
  have hzl:((0::es).map fun n:Nat=>(n:Int)).length=1+xs.length:=by simp;omega
  rw [hzl] at hcon
  have hA:decide ((S:Int)=((d.length+p.length:Nat):Int))=decide (S=d.length+p.length):=decide_eq_decide.mpr (by omega)
  rw [←hA]
  apply Wc.eq
  rw [Zs Zjn]
  cases hA':decide ((S:Int)=((d.length+p.length:Nat):Int)) with
  | false=>simp +contextual only [Ji,QE,Zc,ZL,hll,hgt,gt_iff_lt,Z3,RZ,R3,hrr,happ,hsub,hlt1,hpl,hA',JE QJ,Wb,RS,decide_true,pp,ff,go_sem,reduceIte,Ra,Rb,Rc,Rd]
  | true=>
   cases hB':decide (ZaY 60 0 d=d.length) with
   | false=>
    rw [hB'] at hcon
    simp +contextual only [Ji,QE,Zc,ZL,hll,hgt,gt_iff_lt,Z3,RZ,R3,hrr,happ,hsub,hlt1,hpl,hcon,hA',JE QJ,Wb,RS,decide_true,pp,ff,go_sem,reduceIte,Ra,Rb,Rc,Rd]
   | true=>
    rw [hB'] at hcon
    simp +contextual only [Ji,QE,Zc,ZL,hll,hgt,gt_iff_lt,Z3,RZ,R3,hrr,happ,hsub,hlt1,hpl,hcon,hA',JE QJ,Wb,RS,decide_true,pp,ff,go_sem,reduceIte,Ra,Rb,Rc,Rd]
 ·have hgt:decide ((30000:Int)<((d.length+p.length:Nat):Int))=true:=decide_eq_true (by omega)
  rw [if_neg h3,decide_eq_false h3,RU]
  apply Wc.eq
  rw [Zs Zjn]
  simp +contextual only [Ji,QE,ZL,hll,hgt,gt_iff_lt,Z3,RZ,R3,pp,ff,go_sem,reduceIte,Ra,Rb,Rc,Rd]
theorem ZAR {d p:By} {c:Int} (h:Zfn d p c=true):d.length+p.length≤30000∧ZaY 60 0 (d++p)=d.length+p.length∧ZaY 60 0 d=d.length∧c=((K9 60 0 (d++p)).length:Int)∧(K9 60 0 (d++p)).length≤60:=by
 unfold Zfn at h
 simp only [Ru,decide_eq_true_eq] at h
 exact ⟨h.1,h.2.1,h.2.2.1,h.2.2.2,(Zqc 60 0 0 (d++p)).2⟩
theorem ZjC (hi:KJ pr) (hc:Y9 pr) (hx:ZaX pr) (d p:By) (c:Int) (hd:d.length≤1048576) (hp:p.length≤1048576):call T pr Qw [lgV d p c] ⟨H,e⟩=some (.bool (Zfn d p c),⟨H,e⟩):=by
 have hl:=fun L=>ZrD (pr:=pr) (H:=L) (e:=none) hi hc hx d p c hd hp
 rw [Zi ZqO]
 by_cases h3:d.length+p.length≤30000
 ·simp only [h3,if_true] at hl
  simp +contextual only [QD,ZeL,hl,go_sem,reduceIte,Ra,Rb,Rc,Rd]
 ·simp only [h3,if_false] at hl
  simp +contextual only [QD,ZeL,hl,go_sem,reduceIte,Ra,Rb,Rc,Rd]
def ZJg (d p:By) (c:Int) (a r:By):AV :=
 if (Zfn d p c&&Zp7 a r)=true then (if c=60 then .tup [lgV d p c,.int .i64 2] else .tup [lgV d (p++ZdC c a r) (c+1),.int .i64 0]) else .tup [lgV d p c,.int .i64 1]
theorem ZnW (hi:KJ pr) (hcn:Y9 pr) (hx:ZaX pr) (d p:By) (c:Int) (a r:By) (hd:d.length≤1048576) (hp:p.length≤1048576) (ha:a.length≤1048576) (hr:r.length≤1048576):call T pr QM [lgV d p c,rcV (bs a) (bs r)] ⟨H,e⟩=some (ZJg d p c a r,⟨H,e⟩):=by
 have hv:=fun L=>ZjC (pr:=pr) (H:=L) (e:=none) hi hcn hx d p c hd hp
 have hr':=fun L=>Zbx (pr:=pr) (H:=L) (e:=none) (s:=bs a) (t:=bs r) hcn (by rw [X9];omega) (by rw [X9];omega)
 rw [Zi ZnD]
 unfold ZJg Zp7
 cases ho:Zfn d p c with
 | false=>
  rw [ho] at hv
  simp +contextual only [Y6,J2,Zc,hv,RU,R7,if_false,go_sem,reduceIte,Ra,Rb,Rc,Rd]
 | true=>
  rw [ho] at hv
  cases hk:ZnU (bs a) (bs r) with
  | false=>
   rw [hk] at hr'
   simp +contextual only [Y6,J2,Zc,hv,hr',RX,R7,if_false,go_sem,reduceIte,Ra,Rb,Rc,Rd]
  | true=>
   rw [hk] at hr'
   obtain ⟨g1,_,_,g4,g5⟩:=ZAR ho
   by_cases h60:c=60
   ·have hd60:decide (c=60)=true:=decide_eq_true h60
    simp +contextual only [Y6,J2,Zc,hv,hr',if_pos h60,hd60,decide_true,Bool.and_true,if_true,go_sem,reduceIte,Ra,Rb,Rc,Rd]
    rw [h60]
   ·have hd60:decide (c=60)=false:=decide_eq_false h60
    have henc:=fun L=>Zg7 (pr:=pr) (H:=L) (e:=none) hi hcn ha hr c
    have heo:ZrB c a r=true:=by
     unfold ZrB Zp7
     rw [hk,decide_eq_true (by omega),decide_eq_true (by omega)];rfl
    rw [if_pos heo] at henc
    have hbl:=Zuh (k:=c) (c:=a) (r:=r) (by omega) (by omega)
    have hsl:=Zh0 (K8 c a r)
    have hll:(ZdC c a r).length≤a.length+r.length+12:=by unfold ZdC;rw [R3,R6];omega
    have hadd:p.length+(ZdC c a r).length≤140737488355328:=by omega
    have hw:IntKind.i64.wrap (c+1)=c+1:=ZP (by omega) (by omega)
    simp +contextual only [Y6,J2,Zc,hv,hr',if_neg h60,hd60,henc,ZL,hadd,hw,Bool.and_true,if_true,if_false,go_sem,reduceIte,Ra,Rb,Rc,Rd]
theorem ZnX (d p:By) (c:Int) (a r:By) (hd:d.length≤1048576) (hp:p.length≤1048576) (ha:a.length≤1048576) (hr:r.length≤1048576):call T pr QN [lgV d p c,rcV (bs a) (bs r)] ⟨H,e⟩=some (ZJg d p c a r,⟨H,e⟩):=by
 have hv:=fun L=>Znw (pr:=pr) (H:=L) (e:=none) d p c hd hp
 have hr':=fun L=>ZgN (pr:=pr) (H:=L) (e:=none) (s:=bs a) (t:=bs r) (by rw [X9];omega) (by rw [X9];omega)
 rw [Zi ZnE]
 unfold ZJg Zp7
 cases ho:Zfn d p c with
 | false=>
  rw [ho] at hv
  simp +contextual only [Y7,J3,Zc,hv,RU,R7,if_false,go_sem,reduceIte,Ra,Rb,Rc,Rd]
 | true=>
  rw [ho] at hv
  cases hk:ZnU (bs a) (bs r) with
  | false=>
   rw [hk] at hr'
   simp +contextual only [Y7,J3,Zc,hv,hr',RX,R7,if_false,go_sem,reduceIte,Ra,Rb,Rc,Rd]
  | true=>
   rw [hk] at hr'
   obtain ⟨g1,_,_,g4,g5⟩:=ZAR ho
   by_cases h60:c=60
   ·have hd60:decide (c=60)=true:=decide_eq_true h60
    simp +contextual only [Y7,J3,Zc,hv,hr',if_pos h60,hd60,decide_true,Bool.and_true,if_true,go_sem,reduceIte,Ra,Rb,Rc,Rd]
    rw [h60]
   ·have hd60:decide (c=60)=false:=decide_eq_false h60
    have hln:=fun L=>Zp8 (pr:=pr) (H:=L) (e:=none) (k:=c) (c:=a) (r:=r) (by omega) (by omega) ha hr
    have hbl:=Zuh (k:=c) (c:=a) (r:=r) (by omega) (by omega)
    have hsl:=Zh0 (K8 c a r)
    have hll:(ZdC c a r).length≤a.length+r.length+12:=by unfold ZdC;rw [R3,R6];omega
    have hadd:p.length+(ZdC c a r).length≤140737488355328:=by omega
    have hw:IntKind.i64.wrap (c+1)=c+1:=ZP (by omega) (by omega)
    simp +contextual only [Y7,J3,Zc,hv,hr',if_neg h60,hd60,hln,ZL,hadd,hw,Bool.and_true,if_true,if_false,go_sem,reduceIte,Ra,Rb,Rc,Rd]
theorem ZFB {d p:By} (k:Int) (c:Int) (hk:0≤k∧k≤1048576) (hd:d.length≤maxLen) (hp:p.length≤maxLen):call T pr ZkD [lgV d p c,.int .i64 k] ⟨H,e⟩=some (.int .i64 (if ((d.length+p.length:Nat):Int)≤k then k - ((d.length+p.length:Nat):Int) else -1),⟨H,e⟩):=by
 have hm:(maxLen:Int)=9223372036854775807:=by unfold maxLen;omega
 have w1:IntKind.i64.wrap (k - (d.length:Int))=k - (d.length:Int):=ZP (by omega) (by omega)
 rw [Zi ZEh]
 by_cases h1:(d.length:Int)≤k
 ·have g1:decide (k - (d.length:Int)<0)=false:=decide_eq_false (by omega)
  have w2:IntKind.i64.wrap (k - (d.length:Int) - (p.length:Int))=k - (d.length:Int) - (p.length:Int):=ZP (by omega) (by omega)
  by_cases h2:(d.length:Int)+(p.length:Int)≤k
  ·have g2:decide (k - (d.length:Int) - (p.length:Int)<0)=false:=decide_eq_false (by omega)
   rw [if_pos (by omega),show k - ((d.length+p.length:Nat):Int)=k - (d.length:Int) - (p.length:Int) by omega]
   simp +contextual only [Ze3,ZkK,w1,w2,g1,g2,Z3,RZ,go_sem,reduceIte,Ra,Rb,Rc,Rd]
  ·have g2:decide (k - (d.length:Int) - (p.length:Int)<0)=true:=decide_eq_true (by omega)
   rw [if_neg (by omega)]
   simp +contextual only [Ze3,ZkK,w1,w2,g1,g2,Z3,RZ,go_sem,reduceIte,Ra,Rb,Rc,Rd]
 ·have g1:decide (k - (d.length:Int)<0)=true:=decide_eq_true (by omega)
  rw [if_neg (by omega)]
  simp +contextual only [Ze3,ZkK,w1,g1,Z3,RZ,go_sem,reduceIte,Ra,Rb,Rc,Rd]
theorem ZFC (d p:By) (c:Int):call T pr ZkE [lgV d p c] ⟨H,e⟩=some (lgV d p c,⟨H,e⟩):=by
 rw [Zi ZEi]
 simp +contextual only [ZkL,Zu5,go_sem,reduceIte,Ra,Rb,Rc,Rd]
theorem ZFD (d p d' p':By) (c c':Int):call T pr Zhn [lgV d p c,lgV d' p' c'] ⟨H,e⟩=some (.bool (decide (d=d'∧p=p'∧c=c')),⟨H,e⟩):=by
 rw [Zi ZEj]
 by_cases h1:d=d'
 ·by_cases h2:p=p'
  ·by_cases h3:c=c'
   ·subst h1;subst h2;subst h3
    simp +contextual only [Zde,Zht,ne_eq,not_true_eq_false,decide_false,and_self,decide_true,go_sem,reduceIte,Ra,Rb,Rc,Rd]
   ·have g3:decide (c≠c')=true:=decide_eq_true h3
    subst h1;subst h2
    rw [decide_eq_false (fun h=>h3 h.2.2)]
    simp +contextual only [Zde,Zht,ne_eq,not_true_eq_false,decide_false,g3,h3,not_false_eq_true,decide_true,go_sem,reduceIte,Ra,Rb,Rc,Rd]
  ·have g2:¬ bs p=bs p':=fun h=>h2 (Zp5.mp h)
   subst h1
   rw [decide_eq_false (fun h=>h2 h.2.1)]
   simp +contextual only [Zde,Zht,ne_eq,not_true_eq_false,decide_false,g2,not_false_eq_true,decide_true,decide_false,go_sem,reduceIte,Ra,Rb,Rc,Rd]
 ·have g1:¬ bs d=bs d':=fun h=>h1 (Zp5.mp h)
  rw [decide_eq_false (fun h=>h1 h.1)]
  simp +contextual only [Zde,Zht,ne_eq,g1,not_false_eq_true,decide_true,decide_false,go_sem,reduceIte,Ra,Rb,Rc,Rd]
theorem ZrE (d p:By) (c:Int):call T pr Zhn [lgV d p c,lgV d p c] ⟨H,e⟩=some (.bool true,⟨H,e⟩):=by
 rw [ZFD,decide_eq_true ⟨rfl,rfl,rfl⟩]
def ZxP:List Int→List Int→Int
 | [],[]=>0
 | [],_::_ => -1
 | _::_,[]=>1
 | a::x,b::y=>if a<b then -1 else if b<a then 1 else ZxP x y
def cfG (a b:List Int):Int:=if a.length=b.length then ZxP a b else (a.length:Int) - b.length
theorem ZFE:∀ (x y:List Int),ZxP x y<0↔x<y
 | [],[]=>by simp [ZxP]
 | [],_::_=>by simp [ZxP]
 | _::_,[]=>by simp [ZxP]
 | a::x,b::y=>by
  have ih:=ZFE x y
  rw [Wk]
  unfold ZxP
  split
  ·rename_i h;simp [h]
  ·split
   ·rename_i h1 h2
    constructor
    ·intro h;omega
    ·rintro (h | ⟨h,_⟩)
     ·exact absurd h h1
     ·omega
   ·rename_i h1 h2
    rw [ih]
    constructor
    ·intro h;exact .inr ⟨by omega,h⟩
    ·rintro (h | ⟨_,h⟩)
     ·exact absurd h h1
     ·exact h
theorem ZH2 (a b:List Int):cfG a b<0↔a.length<b.length∨a.length=b.length∧a<b:=by
 unfold cfG
 split
 ·rename_i h
  rw [ZFE]
  constructor
  ·intro g;exact .inr ⟨h,g⟩
  ·rintro (g | ⟨_,g⟩)
   ·omega
   ·exact g
 ·rename_i h
  constructor
  ·intro g;exact .inl (by omega)
  ·rintro (g | ⟨g,_⟩) <;> omega
def ltG (a b:List Int):Prop:=a.length<b.length∨a.length=b.length∧a<b
theorem ZFF (a:List Int):¬ ltG a a:=by
 rintro (h | ⟨_,h⟩)
 ·omega
 ·exact List.lt_irrefl a h
theorem Zqg (a b c:List Int) (h1:ltG a b) (h2:ltG b c):ltG a c:=by
 rcases h1 with h1 | ⟨h1,h1'⟩ <;> rcases h2 with h2 | ⟨h2,h2'⟩
 ·exact .inl (by omega)
 ·exact .inl (by omega)
 ·exact .inl (by omega)
 ·exact .inr ⟨by omega,List.lt_trans h1' h2'⟩
theorem ZFG (a b:List Int) (h1:¬ ltG a b) (h2:¬ ltG b a):a=b:=by
 unfold ltG at h1 h2
 have e:a.length=b.length:=by omega
 have g1:¬ a<b:=fun h=>h1 (.inr ⟨e,h⟩)
 have g2:¬ b<a:=fun h=>h2 (.inr ⟨e.symm,h⟩)
 exact List.le_antisymm (List.not_lt.mp g2) (List.not_lt.mp g1)
theorem Zqh {α:Type} (R:α→α→Prop) (hirr:∀ a,¬ R a a) (htr:∀ a b c,R a b→R b c→R a c):∀ (A B:List α),A.Pairwise R→B.Pairwise R→(∀ x,x∈A↔x∈B)→A=B
 | [],[],_,_,_=>rfl
 | [],b::B,_,_,h=>absurd ((h b).mpr Wf) (by simp)
 | a::A,[],_,_,h=>absurd ((h a).mp Wf) (by simp)
 | a::A,b::B,hA,hB,h=>by
  obtain ⟨a1,a2⟩:=List.pairwise_cons.mp hA
  obtain ⟨b1,b2⟩:=List.pairwise_cons.mp hB
  have e:a=b:=by
   rcases R9.mp ((h a).mp Wf) with e | m1
   ·exact e
   ·rcases R9.mp ((h b).mpr Wf) with e | m2
    ·exact e.symm
    ·exact absurd (htr _ _ _ (a1 b m2) (b1 a m1)) (hirr a)
  subst e
  congr 1
  refine Zqh R hirr htr A B a2 b2 fun x=>⟨fun hx => ?_,fun hx => ?_⟩
  ·rcases R9.mp ((h x).mp (Wu _ hx)) with e | m
   ·subst e;exact absurd (a1 _ hx) (hirr _)
   ·exact m
  ·rcases R9.mp ((h x).mpr (Wu _ hx)) with e | m
   ·subst e;exact absurd (b1 _ hx) (hirr _)
   ·exact m
def Zhf (n code:Nat):List Nat:=(List.range n).filter fun i=>code.testBit i
def firstN (l:List Nat):Nat:=match l.getLast? with
 | none=>0
 | some x=>x+1
def Z2 (n:Nat):Nat→List (List Nat)
 | 0=>[[]]
 | k+1=>(Z2 n k).flatMap fun l=>(List.range' (firstN l) (n - firstN l)).map fun x=>l++[x]
theorem ZFH (l:List Nat) (h:l.Pairwise (· < ·)):∀ a∈l,a<firstN l:=by
 intro a ha
 rcases Wv l with rfl | ⟨l0,y,rfl⟩
 ·simp at ha
 ·simp only [Ww] at h ha ⊢
  have h3:=(Wx.mp h).2.2
  simp only [firstN,List.getLast?_append,List.getLast?_singleton,Option.some_or]
  rcases We.mp ha with h4 | h4
  ·have:=h3 a h4 y (by simp);omega
  ·simp only [R8] at h4;omega
theorem Zw5 (l:List Nat) (x:Nat) (h:∀ a∈l,a<x):firstN l≤x:=by
 rcases Wv l with rfl | ⟨l0,y,rfl⟩
 ·simp [firstN]
 ·simp only [Ww] at h ⊢
  simp only [firstN,List.getLast?_append,List.getLast?_singleton,Option.some_or]
  have:=h y (by simp);omega
theorem Ja (n:Nat):∀ k l,l∈Z2 n k↔l.length=k∧l.Pairwise (· < ·)∧∀ x∈l,x<n
 | 0,l=>by
  simp only [Z2,R8,List.length_eq_zero_iff]
  constructor
  ·rintro rfl;simp
  ·rintro ⟨h,_⟩;exact h
 | k+1,l=>by
  simp only [Z2,List.mem_flatMap,Wg,List.mem_range'_1]
  constructor
  ·rintro ⟨l0,h0,x,⟨h1,h2⟩,rfl⟩
   obtain ⟨g1,g2,g3⟩:=(Ja n k l0).mp h0
   refine ⟨by simp [g1],Wx.mpr ⟨g2,by simp,fun a ha b hb => ?_⟩,fun y hy => ?_⟩
   ·simp only [R8] at hb
    have:=ZFH l0 g2 a ha
    omega
   ·rcases We.mp hy with h | h
    ·exact g3 y h
    ·simp only [R8] at h
     omega
  ·rintro ⟨h1,h2,h3⟩
   rcases Wv l with rfl | ⟨l0,y,rfl⟩
   ·simp at h1
   ·simp only [Ww] at h1 h2 h3 ⊢
    obtain ⟨g1,_,g3⟩:=Wx.mp h2
    have hy:=h3 y (by simp)
    have hf:=Zw5 l0 y fun a ha=>g3 a ha y (by simp)
    exact ⟨l0,(Ja n k l0).mpr ⟨by simpa using h1,g1,fun x hx=>h3 x (by simp [hx])⟩,y,⟨hf,by omega⟩,rfl⟩
theorem ZAS:∀ (l:List Nat) (x y:Nat),x<y→l++[x]<l++[y]
 | [],x,y,h=>by simp [Wk,h]
 | a::l,x,y,h=>by simp only [Rn,Wk];exact .inr ⟨trivial,ZAS l x y h⟩
theorem ZFI:∀ (a b:List Nat) (u v:List Nat),a.length=b.length→a<b→a++u<b++v
 | [],[],_,_,_,h=>absurd h (List.lt_irrefl _)
 | [],_::_,_,_,h,_=>by simp at h
 | _::_,[],_,_,h,_=>by simp at h
 | a::x,b::y,u,v,hl,h=>by
  simp only [Rn,Wk] at h ⊢
  rcases h with h | ⟨h,h'⟩
  ·exact .inl h
  ·exact .inr ⟨h,ZFI x y u v (by simpa using hl) h'⟩
theorem Znx (n:Nat):∀ k,(Z2 n k).Pairwise (· < ·)
 | 0=>by simp [Z2]
 | k+1=>by
  have ih:=Znx n k
  rw [Z2,List.pairwise_flatMap]
  refine ⟨fun l _ => ?_,Wy ?_ ih⟩
  ·rw [Wq]
   exact (List.pairwise_lt_range' (s:=firstN l) (n:=n - firstN l)).imp fun h=>ZAS l _ _ h
  ·intro a b ha hb hab x hx y hy
   obtain ⟨p,_,rfl⟩:=Wg.mp hx
   obtain ⟨q,_,rfl⟩:=Wg.mp hy
   exact ZFI a b _ _ (((Ja n k a).mp ha).1.trans ((Ja n k b).mp hb).1.symm) hab
def asZ (l:List Nat):List Int:=l.map fun (i:Nat)=>(i:Int)
theorem ZH3:∀ (a b:List Nat),asZ a<asZ b↔a<b
 | [],[]=>by simp [asZ]
 | [],_::_=>by simp [asZ]
 | _::_,[]=>by simp [asZ]
 | a::x,b::y=>by
  have ih:=ZH3 x y
  simp only [asZ,List.map_cons,Wk] at ih ⊢
  rw [ih]
  constructor
  ·rintro (h | ⟨h,h'⟩)
   ·exact .inl (by omega)
   ·exact .inr ⟨by omega,h'⟩
  ·rintro (h | ⟨h,h'⟩)
   ·exact .inl (by omega)
   ·exact .inr ⟨by omega,h'⟩
theorem ZzY (n m:Nat):((List.range m).flatMap (Z2 n)).Pairwise fun a b=>ltG (asZ a) (asZ b):=by
 rw [List.pairwise_flatMap]
 refine ⟨fun k _=>Wy ?_ (Znx n k),?_⟩
 ·intro a b ha hb hab
  refine .inr ⟨?_,(ZH3 a b).mpr hab⟩
  simp [asZ,((Ja n k a).mp ha).1,((Ja n k b).mp hb).1]
 ·refine (Wr (n:=m)).imp ?_
  intro i j hij x hx y hy
  refine .inl ?_
  simp only [asZ,List.length_map,((Ja n i x).mp hx).1,((Ja n j y).mp hy).1]
  exact hij
def ZzZ:List Nat→Nat
 | []=>0
 | i::l=>2 ^ i ||| ZzZ l
theorem Zw6:∀ (l:List Nat) (i:Nat),(ZzZ l).testBit i=decide (i∈l)
 | [],i=>by simp [ZzZ]
 | a::l,i=>by
  rw [ZzZ,Nat.testBit_or,Zw6 l i,Nat.testBit_two_pow]
  by_cases h:a=i <;> simp [h,eq_comm]
theorem ZAT (n:Nat):∀ (l:List Nat),(∀ x∈l,x<n)→ZzZ l<2 ^ n
 | [],_=>by simp [ZzZ];exact Nat.pow_pos (by omega)
 | a::l,h=>Nat.or_lt_two_pow (Nat.pow_lt_pow_right (by omega) (h a Wf)) (ZAT n l fun x hx=>h x (Wu _ hx))
theorem ZAU (n:Nat) (l:List Nat):(∃ c,c<2 ^ n∧Zhf n c=l)↔l.Pairwise (· < ·)∧∀ x∈l,x<n:=by
 constructor
 ·rintro ⟨c,_,rfl⟩
  refine ⟨(Wr (n:=n)).filter _,fun x hx => ?_⟩
  exact Wh.mp (Ws.mp hx).1
 ·rintro ⟨h1,h2⟩
  refine ⟨ZzZ l,ZAT n l h2,Zqh (·< ·) (fun a=>Nat.lt_irrefl a) (fun a b c=>Nat.lt_trans) _ _ ((Wr (n:=n)).filter _) h1 fun x => ?_⟩
  simp only [Zhf,Ws,Wh,Zw6,decide_eq_true_eq]
  exact ⟨fun h=>h.2,fun h=>⟨h2 x h,h⟩⟩
theorem ZHm (n a b:Nat) (ha:a<2 ^ n) (hb:b<2 ^ n) (h:Zhf n a=Zhf n b):a=b:=by
 apply Nat.eq_of_testBit_eq
 intro i
 by_cases hi:i<n
 ·have e:i∈Zhf n a↔i∈Zhf n b:=by rw [h]
  simp only [Zhf,Ws,Wh,hi,true_and] at e
  cases h1:a.testBit i <;> cases h2:b.testBit i <;> simp_all
 ·have hp:2 ^ n≤2 ^ i:=Nat.pow_le_pow_right (by omega) (by omega)
  rw [Nat.testBit_lt_two_pow (Nat.lt_of_lt_of_le ha hp),Nat.testBit_lt_two_pow (Nat.lt_of_lt_of_le hb hp)]
def ZGA (n:Nat) (Z:List Nat→Bool):List (List Nat):=((List.range (n+1)).flatMap (Z2 n)).filter Z
def Zz0 (n:Nat) (Z:List Nat→Bool):List (List Nat):=((List.range (2 ^ n)).map (Zhf n)).filter Z
theorem ZFJ:∀ (a b:List Nat),asZ a=asZ b→a=b
 | [],[],_=>rfl
 | [],_::_,h=>by simp [asZ] at h
 | _::_,[],h=>by simp [asZ] at h
 | a::x,b::y,h=>by
  simp only [asZ,List.map_cons,List.cons.injEq] at h
  rw [ZFJ x y h.2,show a=b by omega]
theorem Zun (n:Nat) (Z:List Nat→Bool) (S:List (List Int)) (hp:S.Perm ((Zz0 n Z).map asZ)) (hs:S.Pairwise fun a b=>¬ ltG b a):S=(ZGA n Z).map asZ:=by
 have hall:∀ l,l∈Zz0 n Z↔l∈ZGA n Z:=by
  intro l
  simp only [Zz0,ZGA,Ws,Wg,Wh,List.mem_flatMap]
  refine and_congr_left fun _ => ?_
  rw [ZAU]
  constructor
  ·rintro ⟨h1,h2⟩
   refine ⟨l.length,?_,(Ja n _ l).mpr ⟨rfl,h1,h2⟩⟩
   have h3:l.length≤n:=by
    obtain ⟨c,_,hc⟩:=(ZAU n l).mpr ⟨h1,h2⟩
    rw [←hc]
    have:=List.length_filter_le (fun i=>c.testBit i) (List.range n)
    simpa [Zhf] using this
   omega
  ·rintro ⟨k,_,hk⟩
   exact ((Ja n k l).mp hk).2
 have hnd:(Zz0 n Z).Pairwise (·≠ ·):=by
  refine List.Pairwise.filter _ ?_
  rw [Wq]
  refine Wy ?_ (Wr (n:=2 ^ n))
  intro a b ha hb hab h
  have:=ZHm n a b (Wh.mp ha) (Wh.mp hb) h
  omega
 have hnd2:S.Nodup:=by
  refine hp.nodup_iff.mpr ?_
  show ((Zz0 n Z).map asZ).Pairwise (·≠ ·)
  rw [Wq]
  exact hnd.imp fun h e=>h (ZFJ _ _ e)
 have hS:S.Pairwise ltG:=by
  refine (hs.and hnd2).imp ?_
  rintro a b ⟨h1,h2⟩
  exact Classical.byContradiction fun h3=>h2 (ZFG a b h3 h1)
 have hR:((ZGA n Z).map asZ).Pairwise ltG:=by
  rw [Wq]
  exact (ZzY n (n+1)).filter _
 refine Zqh ltG ZFF Zqg _ _ hS hR fun x => ?_
 rw [hp.mem_iff]
 simp only [Wg,hall]
end Go.Proofs.YtemcdiajejekoaaGreatDoor.Slim
