/- Parts of the proof. -/
import Derived.Test.YtemcdiajejekoaaGreatDoorSlimZw12
import Derived.Deep.RegionLaw
import Derived.WalkKit
import Derived.OwnWalk
import Derived.Lib.Walk
import Derived.Lib.SliceRun
import Derived.Lib.Slices
import Derived.Shelf.RegionOpenPlain
import Derived.Deep.LoopGhost
import Derived.Below
set_option linter.unusedSimpArgs false
set_option linter.unusedVariables false
namespace Go.Proofs.YtemcdiajejekoaaGreatDoor.Slim
open Go Go.Lib Go.RowKit
theorem Zpq {P:Program} (w:World) (t e ty:TypeId) (z:Value) (ht:P.underlying t=some (.slice e)) (hv:∀ w,(zeroValue e).run P w=.ok z w) (h1:∀ v∈z.cells.toList,v.oneCell'=true) (b o c:Nat)
  (hc:∀ j,j<z.cells.size→(w.cell? ⟨b,o+j,none⟩).isSome=true) (hf:∀ j,j<z.cells.size→w.frozen? ⟨b,o+j,none⟩=false) :
  (Builtin.clear_ #[t] ty #[.slice (some ⟨b,o,none⟩) 1 c]).run P w=.ok (.tuple #[]) (w.setCells b o z.cells.toList):=by
 have hzc:(Builtin.zeroCells z.cells 1).toList=z.cells.toList:=by
  simp [Builtin.zeroCells]
  apply List.ext_getElem
  ·simp
  ·intro i h1 h2
   simp at h2
   simp [Nat.mod_eq_of_lt h2,getElem!_pos z.cells i h2]
 have hst:=run_storeCells_cells (P:=P) b o z.cells.toList 0 w (by simpa using hc) (by simpa using hf) h1
 simp only [Nat.add_zero] at hst
 simp [Builtin.clear_,run_underlying ht,hv,hzc,hst]
section
variable {ι : Emb} {m : Mem} {w : World}
theorem Rel.trim (R:Rel ι m w) {b:Nat} {cs:List AV} {wr:Bool} (hb:m.H[b]?=some (.cells cs wr)) (k:Nat) :
  Rel ι { m with H:=m.H.set b (.cells (cs.take k) wr) } w∧Ext ι m w ι { m with H:=m.H.set b (.cells (cs.take k) wr) } w:=by
 have hbl:b<m.H.length:=(List.getElem?_eq_some_iff.mp hb).1
 have hset:∀ (b':Nat) cs' wr',(m.H.set b (.cells (cs.take k) wr))[b']?=some (Blk.cells cs' wr')→∃ cs'',m.H[b']?=some (Blk.cells cs'' wr')∧cs'=if b=b' then cs''.take k else cs'':=by
  intro b' cs' wr' h
  rw [List.getElem?_set] at h
  split at h
  ·rename_i hbb
   subst hbb
   cases h
   exact ⟨cs,hb,by simp⟩
  ·rename_i hbb
   exact ⟨cs',h,by simp [hbb]⟩
 have horig:∀ (b':Nat) (k':Blk),(m.H.set b (.cells (cs.take k) wr))[b']?=some k'→∃ k'',m.H[b']?=some k''∧(k'.wrt→k''.wrt)∧(k'.live→k''.live):=by
  intro b' k' h
  rw [List.getElem?_set] at h
  split at h
  ·rename_i hbb
   subst hbb
   cases h
   exact ⟨_,hb,fun h=>h,fun _=>trivial⟩
  ·exact ⟨k',h,fun h=>h,fun h=>h⟩
 refine R.of0 ⟨⟨by simp [R.len],R.low,fun b' cs' wr' h => ?_,fun b' es h => ?_,fun b1 b2 k1 k2 c d c' d' hne h1 hw h2 hl h3 h4 => ?_⟩,⟨Emb.le_refl _,Nat.le_refl _,Nat.le_refl _,YJ.refl _,fun r hr => ?_,fun _ _ _=>rfl,rfl,rfl,rfl⟩⟩
 ·obtain ⟨cs'',h1,rfl⟩:=hset _ _ _ h
  obtain ⟨c,d,h2,hC⟩:=R.at' b' cs'' wr' h1
  refine ⟨c,d,h2,?_⟩
  split
  ·obtain ⟨us,h3,h4⟩:=hC.vals
   refine ⟨⟨us.take k,h3.take k,fun j v hj=>h4 j v ?_⟩,?_,hC.free⟩
   ·rw [List.getElem?_take] at hj
    split at hj
    ·exact hj
    ·cases hj
   ·have:=all_sub hC.cell 0 k
    rwa [List.drop_zero] at this
  ·exact hC
 ·rw [List.getElem?_set] at h
  split at h
  ·cases h
  ·exact R.mp b' es h
 ·obtain ⟨e1,g1,g1',_⟩:=horig _ _ h1
  obtain ⟨e2,g2,_,g2'⟩:=horig _ _ h2
  exact R.sep b1 b2 e1 e2 c d c' d' hne g1 (g1' hw) g2 (g2' hl) h3 h4
 ·obtain ⟨b',k',d',h1,hw,h2⟩:=hr
  obtain ⟨e1,g1,g1',_⟩:=horig _ _ h1
  exact .inl ⟨b',e1,d',g1,g1' hw,h2⟩
theorem Zv6 {P:Program} (R:Rel ι m w) {b n sz i:Nat} {cap:Option Nat} {cs:List AV} {v:Value} (hb:m.H[b]?=some (.cells cs true)) (hcs:cs.length=n*sz) (hi:i<n) (hv:V ι w (.slice (some (b,0)) sz n cap) v) :
  ∃ (c x k:Nat) (news:List Value),v=.slice (some ⟨c,x,none⟩) n k∧n≤k∧news.length=(n - (i+1))*sz ∧
   (∀ t u,news[t]?=some u→w.drew.cell? ⟨c,x+(i+1)*sz+t,none⟩=some u)∧(∀ u∈news,u.oneCell'=true) ∧
   (∀ t,t<(n - (i+1))*sz→(w.drew.cell? ⟨c,x+i*sz+t,none⟩).isSome=true∧w.drew.frozen? ⟨c,x+i*sz+t,none⟩=false) ∧
   (∀ t,t<sz→((w.drew.setCells c (x+i*sz) news).cell? ⟨c,x+(i+(n - (i+1)))*sz+t,none⟩).isSome=true∧(w.drew.setCells c (x+i*sz) news).frozen? ⟨c,x+(i+(n - (i+1)))*sz+t,none⟩=false) ∧
   ∃ ι',V ι' ((w.drew.setCells c (x+i*sz) news).setCells c (x+(i+(n - (i+1)))*sz) (List.replicate sz (.int .i64 0))) (.slice (some (m.H.length+1,0)) sz (n - 1) none) (.slice (some ⟨c,x,none⟩) (i+(n - (i+1))) k) ∧
    Rel ι' ⟨m.H.set b .dead++[.dead,.cells (cs.take (i*sz)++cs.drop ((i+1)*sz)) true],m.esc⟩ ((w.drew.setCells c (x+i*sz) news).setCells c (x+(i+(n - (i+1)))*sz) (List.replicate sz (.int .i64 0))) ∧
    Ext ι m w ι' ⟨m.H.set b .dead++[.dead,.cells (cs.take (i*sz)++cs.drop ((i+1)*sz)) true],m.esc⟩ ((w.drew.setCells c (x+i*sz) news).setCells c (x+(i+(n - (i+1)))*sz) (List.replicate sz (.int .i64 0))):=by
 obtain ⟨c,d,x,k,e,M,g1,rfl,g3,g4,g5,g6,g7⟩:=hv
 obtain ⟨c',d',g1',hC⟩:=R.at' b cs true hb
 rw [g1] at g1'
 cases g1'
 have hx:x=d:=by rcases g4 with h | ⟨h,_⟩ <;> omega
 subst hx
 obtain ⟨us,hu,hcell⟩:=hC.vals
 obtain ⟨e',M',g5',hfree⟩:=hC.free rfl
 rw [g5] at g5'
 cases g5'
 have hul:us.length=n*sz:=hu.length.trans hcs
 have hkM:x+k*sz≤M:=by rcases g6 with h | h <;> omega
 have hnk:n*sz≤k*sz:=Nat.mul_le_mul_right _ g3
 have e1:(i+1)*sz+(n - (i+1))*sz=n*sz:=by rw [←Nat.add_mul];congr 1;omega
 have e2:(i+1)*sz=i*sz+sz:=by rw [Nat.add_mul,Nat.one_mul]
 have e3:(i+(n - (i+1)))*sz=i*sz+(n - (i+1))*sz:=Nat.add_mul _ _ _
 have hbl:b<m.H.length:=(List.getElem?_eq_some_iff.mp hb).1
 have R0:=R.drew
 have hu0:VL ι w.drew cs us:=VL.mono (w:=w) (w':=w.drew) (Emb.le_refl _) (fun _ _ h=>h) _ _ hu
 have hM:w.drew.shape? c=some (e,M):=g5
 obtain ⟨_,r1,r2⟩:=Rel.inplace (P:=P) (b:=b) (old:=cs) (cs:=cs.take (i*sz)) (new:=cs.drop ((i+1)*sz)) (us:=us.take (i*sz)) (vs:=us.drop ((i+1)*sz)) R0 hb g1 hM (hu0.take _)
  (fun j v hj=>by
   rw [List.getElem?_take] at hj
   split at hj
   ·exact hcell j v hj
   ·cases hj) (by have:=all_sub hC.cell 0 (i*sz);rwa [List.drop_zero] at this)
  (hu0.drop _) (by have:=all_sub hC.cell ((i+1)*sz) cs.length;rwa [List.take_of_length_le (by simp)] at this) (by simp;omega)
 have htl:(us.take (i*sz)).length=i*sz:=by rw [List.length_take];omega
 rw [htl] at r1 r2
 have hH1:(m.H.set b .dead++[Blk.cells (cs.take (i*sz)++cs.drop ((i+1)*sz)) true])[m.H.length]?=some (.cells (cs.take (i*sz)++cs.drop ((i+1)*sz)) true):=by
  rw [List.getElem?_append_right (by simp)];simp
 have hι1:(ι++[some (c,x)])[m.H.length]?=some (some (c,x)):=by rw [←R.len];exact KX _ _
 obtain ⟨c',d',q1,hC1⟩:=r1.at' m.H.length _ true hH1
 rw [hι1] at q1
 cases q1
 obtain ⟨us1,hu1,hcell1⟩:=hC1.vals
 obtain ⟨e',M',g5',hfree1⟩:=hC1.free rfl
 have hM1:=r2.shapes _ _ hM
 rw [hM1] at g5'
 cases g5'
 have hal:(cs.take (i*sz)++cs.drop ((i+1)*sz)).length=(i+(n - (i+1)))*sz:=by
  rw [List.length_append,List.length_take,List.length_drop];omega
 have hu1l:us1.length=(i+(n - (i+1)))*sz:=hu1.length.trans hal
 obtain ⟨_,r3,r4⟩:=Rel.inplace (P:=P) (b:=m.H.length) (old:=cs.take (i*sz)++cs.drop ((i+1)*sz)) (cs:=cs.take (i*sz)++cs.drop ((i+1)*sz)) (new:=List.replicate sz (AV.int .i64 0)) (us:=us1) (vs:=List.replicate sz (.int .i64 0)) r1 hH1 hι1 hM1 hu1 hcell1 hC1.cell
  (VL.replicate (c:=.int .i64 0) (y:=.int .i64 0) rfl sz) (by simp [AV.isCell]) (by right;simp;omega)
 rw [hu1l] at r3 r4
 have hH2:(m.H.set b .dead++[Blk.cells (cs.take (i*sz)++cs.drop ((i+1)*sz)) true]).set m.H.length .dead++[Blk.cells (cs.take (i*sz)++cs.drop ((i+1)*sz)++List.replicate sz (AV.int .i64 0)) true] =
   m.H.set b .dead++[.dead,.cells (cs.take (i*sz)++cs.drop ((i+1)*sz)++List.replicate sz (AV.int .i64 0)) true]:=by
  rw [List.set_append_right _ _ (by simp)]
  simp
 simp only [hH2] at r3 r4
 obtain ⟨r5,r6⟩:=r3.trim (b:=m.H.length+1) (cs:=cs.take (i*sz)++cs.drop ((i+1)*sz)++List.replicate sz (AV.int .i64 0)) (wr:=true) (by
  show (m.H.set b .dead++[.dead,_])[m.H.length+1]?=_
  rw [List.getElem?_append_right (by simp)];simp) ((i+(n - (i+1)))*sz)
 have hH3:(m.H.set b .dead++[.dead,Blk.cells (cs.take (i*sz)++cs.drop ((i+1)*sz)++List.replicate sz (AV.int .i64 0)) true]).set (m.H.length+1) (.cells ((cs.take (i*sz)++cs.drop ((i+1)*sz)++List.replicate sz (AV.int .i64 0)).take ((i+(n - (i+1)))*sz)) true) =
   m.H.set b .dead++[.dead,.cells (cs.take (i*sz)++cs.drop ((i+1)*sz)) true]:=by
  rw [List.set_append_right _ _ (by simp),List.take_left' hal]
  simp
 simp only [hH3] at r5 r6
 refine ⟨c,x,k,us.drop ((i+1)*sz),rfl,g3,by rw [List.length_drop];omega,fun t u ht => ?_,fun u hu' => ?_,fun t ht => ?_,fun t ht => ?_,_,?_,r5,((Ext.drew ι m w).trans r2).trans (r4.trans r6)⟩
 ·rw [List.getElem?_drop] at ht
  have:=hcell _ _ ht
  rw [←Nat.add_assoc] at this
  exact this
 ·exact Zi7 hu hC.cell u (List.mem_of_mem_drop hu')
 ·obtain ⟨y,hy⟩:=Zhg hM (show x+i*sz+t<M by omega)
  exact ⟨by rw [hy];rfl,hfree _ (by omega)⟩
 ·obtain ⟨y,hy⟩:=Zhg hM1 (show x+(i+(n - (i+1)))*sz+t<M by omega)
  exact ⟨by rw [hy];rfl,hfree1 _ (by omega)⟩
 ·refine ⟨c,x,x,k,e,M,?_,?_,by omega,.inl rfl,r6.shapes _ _ (r4.shapes _ _ hM1),.inr hkM,fun q hq=>by cases hq⟩
  ·rw [show m.H.length+1=(ι++[some (c,x)]).length by simp [R.len]]
   exact KX _ _
  ·rw [show i+(n - (i+1))=n - 1 by omega]
end
end Go.Proofs.YtemcdiajejekoaaGreatDoor.Slim
namespace Go.Proofs.YtemcdiajejekoaaGreatDoor.Slim
open Go
def ZnQ (sz:Nat) (args:List AV) (m:Mem):Option (AV×Mem):=match args with
 | [.slice (some (b,0)) sz' n cap,.int .i64 i,.int .i64 j]=>(match m.H[b]? with
  | some (.cells cs true)=>if sz'=sz∧cs.length=n*sz∧0≤i∧i<(n:Int)∧j=i+1 then
    some (.slice (some (m.H.length+1,0)) sz (n - 1) none,⟨m.H.set b .dead++[.dead,.cells (cs.take (i.toNat*sz)++cs.drop ((i.toNat+1)*sz)) true],m.esc⟩) else none
  | _=>none)
 | _=>none
theorem ZhJ {sz:Nat} {args:List AV} {m m':Mem} {v:AV} (h:ZnQ sz args m=some (v,m')):∃ (b n i:Nat) (cap:Option Nat) (cs:List AV),args=[.slice (some (b,0)) sz n cap,.int .i64 i,.int .i64 (i+1:Nat)] ∧
  m.H[b]?=some (.cells cs true)∧cs.length=n*sz∧i<n∧v=.slice (some (m.H.length+1,0)) sz (n - 1) none∧m'=⟨m.H.set b .dead++[.dead,.cells (cs.take (i*sz)++cs.drop ((i+1)*sz)) true],m.esc⟩:=by
 unfold ZnQ at h
 split at h
 ·rename_i b sz' n cap i j
  split at h
  ·rename_i cs hb
   split at h
   ·rename_i hc
    obtain ⟨rfl,h1,h2,h3,rfl⟩:=hc
    cases h
    obtain ⟨k,rfl⟩:∃ k:Nat,i=k:=⟨i.toNat,by omega⟩
    exact ⟨b,n,k,cap,cs,by simp,hb,h1,by omega,rfl,by simp⟩
   ·cases h
  ·cases h
 ·cases h
theorem Zsd {sz:Nat} {L:List Blk} {e:Option Nat} {b n i:Nat} {cap:Option Nat} {cs:List AV} (h1:L[b]?=some (.cells cs true)) (h2:cs.length=n*sz) (h3:i<n) :
  ZnQ sz [.slice (some (b,0)) sz n cap,.int .i64 i,.int .i64 (i+1:Nat)] ⟨L,e⟩=some (.slice (some (L.length+1,0)) sz (n - 1) none,⟨L.set b .dead++[.dead,.cells (cs.take (i*sz)++cs.drop ((i+1)*sz)) true],e⟩):=by
 unfold ZnQ
 simp only [h1]
 rw [if_pos ⟨trivial,h2,by omega,by omega,by omega⟩]
 simp
theorem Zmr {sz:Nat} {args:List AV} {m m':Mem} {v:AV} (h:ZnQ sz args m=some (v,m')):Grow m m':=by
 obtain ⟨b,n,i,cap,cs,rfl,hb,hcs,hi,rfl,rfl⟩:=ZhJ h
 have hbl:b<m.H.length:=(List.getElem?_eq_some_iff.mp hb).1
 have key:∀ (x:Nat) cs' wr',(m.H.set b .dead++[.dead,Blk.cells (cs.take (i*sz)++cs.drop ((i+1)*sz)) true])[x]?=some (.cells cs' wr')→(x<m.H.length∧m.H[x]?=some (.cells cs' wr'))∨(m.H.length≤x∧wr'=true):=by
  intro x cs' wr' hx
  rcases Nat.lt_or_ge x m.H.length with hl | hl
  ·rw [List.getElem?_append_left (by simpa using hl),List.getElem?_set] at hx
   split at hx
   ·cases hx
   ·exact .inl ⟨hl,hx⟩
  ·rw [List.getElem?_append_right (by simpa using hl)] at hx
   refine .inr ⟨hl,?_⟩
   match hq:x - (m.H.set b .dead).length,hx with
   | 0,hx=>simp at hx
   | 1,hx=>simp at hx;exact hx.2
   | q+2,hx=>simp at hx
 refine ⟨by simp,fun _ h=>h,fun x hx _ => ?_,fun x cs' hx => ?_⟩
 ·intro cs' wr' hc
  rcases key x cs' wr' hc with ⟨_,h2⟩|⟨h1,_⟩
  ·exact ⟨cs',wr',h2,fun c hc=>.inl hc⟩
  ·omega
 ·rcases key x cs' false hx with ⟨_,h2⟩|⟨_,h2⟩
  ·exact h2
  ·cases h2
def Zbc (pr:Zq):Prop:=(∀ (L:List Blk) (e:Option Nat) (b n i:Nat) (cap:Option Nat) (cs:List AV),L[b]?=some (.cells cs true)→cs.length=n*2→i<n→call T pr ZJ [.slice (some (b,0)) 2 n cap,.int .i64 i,.int .i64 (i+1:Nat)] ⟨L,e⟩=some (.slice (some (L.length+1,0)) 2 (n - 1) none,⟨L.set b .dead++[.dead,.cells (cs.take (i*2)++cs.drop ((i+1)*2)) true],e⟩))∧(∀ (L:List Blk) (e:Option Nat) (b n i:Nat) (cap:Option Nat) (cs:List AV),L[b]?=some (.cells cs true)→cs.length=n*3→i<n→call T pr ZH [.slice (some (b,0)) 3 n cap,.int .i64 i,.int .i64 (i+1:Nat)] ⟨L,e⟩=some (.slice (some (L.length+1,0)) 3 (n - 1) none,⟨L.set b .dead++[.dead,.cells (cs.take (i*3)++cs.drop ((i+1)*3)) true],e⟩))
end Go.Proofs.YtemcdiajejekoaaGreatDoor.Slim
namespace Go.Proofs.YtemcdiajejekoaaGreatDoor.Slim
open Go
open Nat renaming reduceAdd → Ra, reduceLeDiff → Rb, reduceLT → Rc, reduceEqDiff → Rd
open Nat renaming le_add_right → Ry, add_assoc → Rw, add_lt_add_iff_left → Rx, lt_irrefl → Ri, le_refl → Rt
open Int renaming reduceEq → RF
open Bool renaming false_and → RG, true_and → RI, and_false → RJ, and_eq_true → Ru
open Option renaming some.injEq → RH
open List renaming length_eraseIdx → RK
variable {pr : Zq} {H : List Blk} {e : Option Nat}
def Zjh (sz:Nat) (v h:AV):Option AV:=match v with
 | .slice p sz' n cap=>(match natOf h with
  | some h=>KV sz p sz' n cap 0 h none
  | none=>none)
 | _=>none
def ZeU (sz:Nat) (v l:AV):Option AV:=match v with
 | .slice p sz' n cap=>(match natOf l with
  | some l=>KV sz p sz' n cap l n none
  | none=>none)
 | _=>none
section
variable {C : FuncId → List AV → Mem → Option (AV × Mem)} {g : X → AV} {m : Mem}
theorem ZkD (sz:Nat) (x h:X):aop C g m (.sliceSl sz x none (some h) none)=J8 m (Zjh sz (g x) (g h)):=by
 rw [ZF rfl]
 simp only [Ji,Zjh,ZcN,Zjm]
 generalize g x=v
 generalize natOf (g h)=o
 cases v <;> cases o <;> simp
theorem Zdt (sz:Nat) (x l:X):aop C g m (.sliceSl sz x (some l) none none)=J8 m (ZeU sz (g x) (g l)):=by
 rw [ZF rfl]
 simp only [Ji,ZeU,ZcN,Zjm]
 generalize g x=v
 generalize natOf (g l)=o
 cases v <;> cases o <;> simp
end
theorem ZkE (sz b o n h:Nat) (cap:Option Nat) (hh:h≤n):Zjh sz (.slice (some (b,o)) sz n cap) (.int .i64 h)=some (.slice (some (b,o)) sz h cap):=by
 unfold Zjh natOf KV
 simp [hh]
theorem Zdu (sz b o n l:Nat) (hl:l≤n):ZeU sz (.slice (some (b,o)) sz n none) (.int .i64 l)=some (.slice (some (b,o+l*sz)) sz (n - l) none):=by
 unfold ZeU natOf KV
 simp [hl]
theorem Zpr:∀ (ls:List Ld) (i:Nat),(Zu ls).take (i*2)=Zu (ls.take i)
 | ls,0=>by simp [Zu]
 | [],i+1=>by simp [Zu]
 | l::ls,i+1=>by
  rw [show (i+1)*2=i*2+1+1 by omega]
  simp [Zu,Zpr ls i]
theorem Zps:∀ (ls:List Ld) (i:Nat),(Zu ls).drop (i*2)=Zu (ls.drop i)
 | ls,0=>by simp
 | [],i+1=>by simp [Zu]
 | l::ls,i+1=>by
  rw [show (i+1)*2=i*2+1+1 by omega]
  simp [Zu,Zps ls i]
theorem Zpt:∀ (ls:List Sg) (i:Nat),(ZI ls).take (i*3)=ZI (ls.take i)
 | ls,0=>by simp [ZI]
 | [],i+1=>by simp [ZI]
 | l::ls,i+1=>by
  rw [show (i+1)*3=i*3+1+1+1 by omega]
  simp [ZI,Zpt ls i]
theorem Zpu:∀ (ls:List Sg) (i:Nat),(ZI ls).drop (i*3)=ZI (ls.drop i)
 | ls,0=>by simp
 | [],i+1=>by simp [ZI]
 | l::ls,i+1=>by
  rw [show (i+1)*3=i*3+1+1+1 by omega]
  simp [ZI,Zpu ls i]
theorem Zdv:∀ a b:List Sg,ZI (a++b)=ZI a++ZI b
 | [],b=>rfl
 | l::a,b=>by simp [ZI,Zdv a b]
theorem Zms (ls:List Ld) (i:Nat):(Zu ls).take (i*2)++(Zu ls).drop ((i+1)*2)=Zu (ls.eraseIdx i):=by
 rw [Zpr,Zps,List.eraseIdx_eq_take_drop_succ,Q0]
theorem Zmt (ls:List Sg) (i:Nat):(ZI ls).take (i*3)++(ZI ls).drop ((i+1)*3)=ZI (ls.eraseIdx i):=by
 rw [Zpt,Zpu,List.eraseIdx_eq_take_drop_succ,Zdv]
theorem Zmu {L:List Blk} {b n sz bytes i:Nat} {cs:List AV} (hb:L[b]?=some (.cells cs true)) (hcs:cs.length=n*sz) (hi:i<n) (hm:n*bytes≤maxBytes) :
  XO L e false sz bytes (.slice (some (b,0)) sz i none) (.slice (some (b,(i+1)*sz)) sz (n - (i+1)) none)=some (.slice (some (L.length,0)) sz (n - 1) none,⟨L.set b .dead++[.cells (cs.take (i*sz)++cs.drop ((i+1)*sz)) true],e⟩):=by
 have e1:(i+1)*sz+(n - (i+1))*sz=n*sz:=by rw [←Nat.add_mul];congr 1;omega
 have e2:(i+1)*sz=i*sz+sz:=by rw [Nat.add_mul,Nat.one_mul]
 have hs:YK false L (.slice (some (b,(i+1)*sz)) sz (n - (i+1)) none)=some (n - (i+1),cs.drop ((i+1)*sz)):=by
  unfold YK
  have hc:Za L b=some cs:=by unfold Za;rw [hb]
  simp only [Bool.false_eq_true,if_false,hc]
  rw [if_pos (by omega),List.take_of_length_le (by rw [List.length_drop];omega)]
 have e3:i+(n - (i+1))=n - 1:=by omega
 unfold XO
 simp only [hb,hs]
 rw [if_pos ⟨trivial,by rw [e3];exact Nat.le_trans (Nat.mul_le_mul_right _ (by omega)) hm,by rw [List.length_drop];omega,by omega⟩]
 rw [if_neg (by simp),if_pos trivial,e3,List.drop_zero]
theorem ZeV {L:List Blk} {b q n sz bytes:Nat} {cs new:List AV} {c:Option Nat} (hb:L[b]?=some (.cells cs true)) (hq:Za L q=some new) (hcs:cs.length=n*sz) (hnew:new.length=sz) (hm:(n+1)*bytes≤maxBytes) :
  XO L e false sz bytes (.slice (some (b,0)) sz n none) (.slice (some (q,0)) sz 1 c)=some (.slice (some (L.length,0)) sz (n+1) none,⟨L.set b .dead++[.cells (cs++new) true],e⟩):=by
 have hs:=ZbQ L 1 sz c new q hq (by omega)
 unfold XO
 simp only [hb,hs]
 rw [if_pos ⟨trivial,hm,by omega,by omega⟩,if_neg (by simp),if_pos trivial,List.drop_zero,←hcs,List.take_length]
abbrev tkV (k x y z:Int):AV:=.agg [.int .i64 k,.int .i64 x,.int .i64 y,.int .i64 z]
def Zmv (ls:List Ld) (ss:List Sg) (k x y z:Int):Bool :=
 if k=1∨k=4 then decide (z=0)
 else if k=2 then ((decide (0≤x)&&decide (x≤(ls.length:Int) - 1))&&decide (y=0))&&decide (z=0)
 else if k=3 then (decide (0≤x)&&decide (x≤(ls.length:Int) - 1))&&decide (z=0)
 else if k=6 then ((decide (0≤x)&&decide (x≤(ss.length:Int) - 1))&&decide (y=0))&&decide (z=0)
 else decide (k=5)
def Zfj (ls:List Ld) (k x y:Int):List Ld :=
 if k=1 then ls++[(x,y)] else if k=2 then ls.eraseIdx x.toNat else if k=3 then ZnP ls x.toNat y else ls
def Xk (ss:List Sg) (k x y z:Int):List Sg :=
 if k=5 then ss++[(x,y,z)] else if k=6 then ss.eraseIdx x.toNat else ss
def Xq (a k x:Int):Int:=if k=4 then x else a
theorem Zud {p1 p2:Option (Nat×Nat)} {s1 s2:Nat} {c1 c2:Option Nat} {ls:List Ld} {ss:List Sg} (hn:ls.length≤1048576) (hm:ss.length≤1048576) (a b t c k x y z:Int) :
  call T pr ZeF [stV (.slice p1 s1 ls.length c1) a b (.slice p2 s2 ss.length c2) t c,tkV k x y z] ⟨H,e⟩=some (.bool (Zmv ls ss k x y z),⟨H,e⟩):=by
 have hw1:IntKind.i64.wrap ((ls.length:Int) - 1)=(ls.length:Int) - 1:=Yc (by omega) (by omega)
 have hw2:IntKind.i64.wrap ((ss.length:Int) - 1)=(ss.length:Int) - 1:=Yc (by omega) (by omega)
 rw [Zl Ztn]
 unfold Zmv
 by_cases h1:k=1
 ·subst h1
  simp +contextual only [J0,QY,decide_true,true_or,go_sem,reduceIte,Ra,Rb,Rc,Rd]
 by_cases h4:k=4
 ·subst h4
  simp +contextual only [J0,QY,h1,decide_true,decide_false,or_true,go_sem,reduceIte,Ra,Rb,Rc,Rd]
 by_cases h2:k=2
 ·subst h2
  cases hb:(decide (0≤x)&&decide (x≤(ls.length:Int) - 1)) <;> cases hy:decide (y=0) <;>
   simp +contextual only [J0,QY,XS,hw1,hb,hy,h1,h4,decide_true,decide_false,or_self,go_sem,reduceIte,Ra,Rb,Rc,Rd]
 by_cases h3:k=3
 ·subst h3
  cases hb:(decide (0≤x)&&decide (x≤(ls.length:Int) - 1)) <;>
   simp +contextual only [J0,QY,XS,hw1,hb,h1,h2,h4,decide_true,decide_false,or_self,go_sem,reduceIte,Ra,Rb,Rc,Rd]
 by_cases h6:k=6
 ·subst h6
  cases hb:(decide (0≤x)&&decide (x≤(ss.length:Int) - 1)) <;> cases hy:decide (y=0) <;>
   simp +contextual only [J0,QY,XS,hw2,hb,hy,h1,h2,h3,h4,decide_true,decide_false,or_self,go_sem,reduceIte,Ra,Rb,Rc,Rd]
 simp +contextual only [J0,QY,h1,h2,h3,h4,h6,decide_false,or_self,go_sem,reduceIte,Ra,Rb,Rc,Rd]
theorem ZrD {q1 q2:Nat} {c1 c2:Option Nat} {ls:List Ld} {ss:List Sg} (h1:Za H q1=some (Zu ls)) (h2:Za H q2=some (ZI ss)) (hn:ls.length≤1048575) (hm:ss.length≤1048575) (a b t c k x y z:Int) (hk:Zmv ls ss k x y z=true) :
  call T pr Zc2 [stV (slL q1 ls.length c1) a b (slS q2 ss.length c2) t c,tkV k x y z] ⟨H,e⟩ =
   some (stV (slL H.length (Zfj ls k x y).length none) (Xq a k x) (Xq b k y) (slS (H.length+1) (Xk ss k x y z).length none) t c,⟨H++[.cells (Zu (Zfj ls k x y)) true,.cells (ZI (Xk ss k x y z)) true],e⟩):=by
 have hown:=fun G=>Zub (pr:=pr) (e:=none) (c1:=c1) (c2:=c2) (Zc h1 G) (Zc h2 G) (by omega) (by omega) a b t c
 rw [Zl ZqQ]
 unfold Zmv at hk
 unfold Zfj Xk Xq
 by_cases k1:k=1
 ·subst k1
  have happ:=fun L b q c e' (hb:L[b]?=some (.cells (Zu ls) true)) hq=>ZeV (e:=e') (L:=L) (b:=b) (q:=q) (n:=ls.length) (sz:=2) (bytes:=16) (c:=c) (cs:=Zu ls) (new:=[.int .i64 x,.int .i64 y]) hb hq (Yv ls) rfl (by unfold maxBytes;omega)
  have hap2:Zu ls++[AV.int .i64 x,.int .i64 y]=Zu (ls++[(x,y)]):=by rw [Q0];rfl
  have hf:∀ (B0 B1 B2 B3 B5 B6:Blk) (e0 e1:Option Nat),clean H.length e1=true→finish 2 H.length e0 (stV (slL (H.length+7) (ls.length+1) none) a b (slS (H.length+4) ss.length none) t c) ⟨H++[B0,B1,B2,B3,.cells (ZI ss) true,B5,B6,.cells (Zu (ls++[(x,y)])) true],e1⟩ =
    some (stV (slL H.length (ls.length+1) none) a b (slS (H.length+1) ss.length none) t c,⟨H++[.cells (Zu (ls++[(x,y)])) true,.cells (ZI ss) true],e0⟩) :=
   fun B0 B1 B2 B3 B5 B6 e0 e1 hc=>YQ a b t c e0 e1 hc rfl rfl (by decide) (Yk _ _) (Yx _ _)
  simp +contextual only [Jf,KH,Zb,hown,happ,hap2,hf,Zr,Rw,Rx,Ri,decide_true,decide_false,Zj,Zp,Ry,Rt,RF,go_sem,reduceIte,Ra,Rb,Rc,Rd]
 by_cases k2:k=2
 ·subst k2
  simp only [show ¬ ((2:Int)=1) by omega,show ¬ ((2:Int)=4) by omega,or_self,if_false,if_true,Ru,decide_eq_true_eq] at hk
  obtain ⟨i,rfl⟩:∃ i:Nat,x=i:=⟨x.toNat,by omega⟩
  have hi:i<ls.length:=by omega
  have hi1:i≤ls.length:=by omega
  have hi2:i+1≤ls.length:=by omega
  have happ:=fun L b e' (hb:L[b]?=some (.cells (Zu ls) true))=>Zmu (e:=e') (L:=L) (b:=b) (n:=ls.length) (sz:=2) (bytes:=16) (i:=i) (cs:=Zu ls) hb (Yv ls) hi (by unfold maxBytes;omega)
  have hel:(ls.eraseIdx i).length=ls.length - 1:=by rw [RK,if_pos hi]
  have hf:∀ (B0 B1 B2 B3 B5:Blk) (e0 e1:Option Nat),clean H.length e1=true→finish 2 H.length e0 (stV (slL (H.length+6) (ls.length - 1) none) a b (slS (H.length+4) ss.length none) t c) ⟨H++[B0,B1,B2,B3,.cells (ZI ss) true,B5,.cells (Zu (ls.eraseIdx i)) true],e1⟩ =
    some (stV (slL H.length (ls.length - 1) none) a b (slS (H.length+1) ss.length none) t c,⟨H++[.cells (Zu (ls.eraseIdx i)) true,.cells (ZI ss) true],e0⟩) :=
   fun B0 B1 B2 B3 B5 e0 e1 hc=>YQ a b t c e0 e1 hc rfl rfl (by decide) (Yk _ _) (Yx _ _)
  simp +contextual only [Jf,KH,Zb,ZkD,Zdt,ZkE,Zdu,hi1,hi2,hown,happ,Zms,hel,hf,Zw (show i<9223372036854775807 by omega),Zr,Rw,Rx,Ri,decide_true,decide_false,Zj,Zp,Ry,Rt,RF,go_sem,reduceIte,Ra,Rb,Rc,Rd]
 by_cases k3:k=3
 ·subst k3
  simp only [show ¬ ((3:Int)=1) by omega,show ¬ ((3:Int)=2) by omega,show ¬ ((3:Int)=4) by omega,or_self,if_false,if_true,Ru,decide_eq_true_eq] at hk
  obtain ⟨i,rfl⟩:∃ i:Nat,x=i:=⟨x.toNat,by omega⟩
  have hi:i<ls.length:=by omega
  have hle:i*2+1≤(Zu ls).length:=by rw [Yv];omega
  have hle2:i*2+2≤(Zu ls).length:=by rw [Yv];omega
  have hf:∀ (B0 B1 B2 B5:Blk) (e0 e1:Option Nat),clean H.length e1=true→finish 2 H.length e0 (stV (slL (H.length+3) ls.length none) a b (slS (H.length+4) ss.length none) t c) ⟨H++[B0,B1,B2,.cells (Zu (ZnP ls i y)) true,.cells (ZI ss) true,B5],e1⟩ =
    some (stV (slL H.length ls.length none) a b (slS (H.length+1) ss.length none) t c,⟨H++[.cells (Zu (ZnP ls i y)) true,.cells (ZI ss) true],e0⟩) :=
   fun B0 B1 B2 B5 e0 e1 hc=>YQ a b t c e0 e1 hc rfl rfl (by decide) (Yk _ _) (Yx _ _)
  simp +contextual only [Jf,KH,Zb,hown,hi,hle,hle2,ZgH y hi,Zds,hf,Zr,Rw,Rx,Ri,decide_true,decide_false,Zj,Zp,Ry,Rt,RF,go_sem,reduceIte,Ra,Rb,Rc,Rd]
 by_cases k4:k=4
 ·subst k4
  have hf:∀ (B0 B1 B2 B5:Blk) (e0 e1:Option Nat),clean H.length e1=true→finish 2 H.length e0 (stV (slL (H.length+3) ls.length none) x y (slS (H.length+4) ss.length none) t c) ⟨H++[B0,B1,B2,.cells (Zu ls) true,.cells (ZI ss) true,B5],e1⟩ =
    some (stV (slL H.length ls.length none) x y (slS (H.length+1) ss.length none) t c,⟨H++[.cells (Zu ls) true,.cells (ZI ss) true],e0⟩) :=
   fun B0 B1 B2 B5 e0 e1 hc=>YQ x y t c e0 e1 hc rfl rfl (by decide) (Yk _ _) (Yx _ _)
  simp +contextual only [Jf,KH,Zb,hown,hf,Zr,Rw,Rx,Ri,decide_true,decide_false,Zj,Zp,Ry,Rt,RF,go_sem,reduceIte,Ra,Rb,Rc,Rd]
 by_cases k5:k=5
 ·subst k5
  have happ:=fun L b q c e' (hb:L[b]?=some (.cells (ZI ss) true)) hq=>ZeV (e:=e') (L:=L) (b:=b) (q:=q) (n:=ss.length) (sz:=3) (bytes:=24) (c:=c) (cs:=ZI ss) (new:=[.int .i64 x,.int .i64 y,.int .i64 z]) hb hq (KI ss) rfl (by unfold maxBytes;omega)
  have hap2:ZI ss++[AV.int .i64 x,.int .i64 y,.int .i64 z]=ZI (ss++[(x,y,z)]):=by rw [Zdv];rfl
  have hf:∀ (B0 B1 B2 B4 B5 B6:Blk) (e0 e1:Option Nat),clean H.length e1=true→finish 2 H.length e0 (stV (slL (H.length+3) ls.length none) a b (slS (H.length+7) (ss.length+1) none) t c) ⟨H++[B0,B1,B2,.cells (Zu ls) true,B4,B5,B6,.cells (ZI (ss++[(x,y,z)])) true],e1⟩ =
    some (stV (slL H.length ls.length none) a b (slS (H.length+1) (ss.length+1) none) t c,⟨H++[.cells (Zu ls) true,.cells (ZI (ss++[(x,y,z)])) true],e0⟩) :=
   fun B0 B1 B2 B4 B5 B6 e0 e1 hc=>YQ a b t c e0 e1 hc rfl rfl (by decide) (Yk _ _) (Yx _ _)
  simp +contextual only [Jf,KH,Zb,hown,happ,hap2,hf,Zr,Rw,Rx,Ri,decide_true,decide_false,Zj,Zp,Ry,Rt,RF,go_sem,reduceIte,Ra,Rb,Rc,Rd]
 by_cases k6:k=6
 ·subst k6
  simp only [show ¬ ((6:Int)=1) by omega,show ¬ ((6:Int)=2) by omega,show ¬ ((6:Int)=3) by omega,show ¬ ((6:Int)=4) by omega,or_self,if_false,if_true,Ru,decide_eq_true_eq] at hk
  obtain ⟨i,rfl⟩:∃ i:Nat,x=i:=⟨x.toNat,by omega⟩
  have hi:i<ss.length:=by omega
  have hi1:i≤ss.length:=by omega
  have hi2:i+1≤ss.length:=by omega
  have happ:=fun L b e' (hb:L[b]?=some (.cells (ZI ss) true))=>Zmu (e:=e') (L:=L) (b:=b) (n:=ss.length) (sz:=3) (bytes:=24) (i:=i) (cs:=ZI ss) hb (KI ss) hi (by unfold maxBytes;omega)
  have hel:(ss.eraseIdx i).length=ss.length - 1:=by rw [RK,if_pos hi]
  have hf:∀ (B0 B1 B2 B4 B5:Blk) (e0 e1:Option Nat),clean H.length e1=true→finish 2 H.length e0 (stV (slL (H.length+3) ls.length none) a b (slS (H.length+6) (ss.length - 1) none) t c) ⟨H++[B0,B1,B2,.cells (Zu ls) true,B4,B5,.cells (ZI (ss.eraseIdx i)) true],e1⟩ =
    some (stV (slL H.length ls.length none) a b (slS (H.length+1) (ss.length - 1) none) t c,⟨H++[.cells (Zu ls) true,.cells (ZI (ss.eraseIdx i)) true],e0⟩) :=
   fun B0 B1 B2 B4 B5 e0 e1 hc=>YQ a b t c e0 e1 hc rfl rfl (by decide) (Yk _ _) (Yx _ _)
  simp +contextual only [Jf,KH,Zb,ZkD,Zdt,ZkE,Zdu,hi1,hi2,hown,happ,Zmt,hel,hf,Zw (show i<9223372036854775807 by omega),Zr,Rw,Rx,Ri,decide_true,decide_false,Zj,Zp,Ry,Rt,RF,go_sem,reduceIte,Ra,Rb,Rc,Rd]
 simp [k1,k2,k3,k4,k5,k6] at hk
def Zhb (ls:List Ld) (ss:List Sg) (a b t c:Int):Bool:=Y1 ls&&(ZU ss&&J5 a b t c)
theorem ZhK {ls:List Ld} {ss:List Sg} {n m:Nat} (hn:ls.length=n) (hm:ss.length=m) (hm2:m≤1048576) (a b t c:Int) {L:List Blk} {q1 q2:Nat} {c1 c2:Option Nat} (h1:Za L q1=some (Zu ls)) (h2:Za L q2=some (ZI ss)) :
  call T pr YD [stV (slL q1 n c1) a b (slS q2 m c2) t c] ⟨L,e⟩=some (.bool (Zhb ls ss a b t c),⟨L,e⟩):=by
 subst hn hm
 exact Zbb (fun G=>Jo (Zc h1 G)) (fun G=>XP (Zc h2 G) (by omega)) a b t c
theorem ZzZ {ls:List Ld} {ss:List Sg} {n m:Nat} (hn:ls.length=n) (hm:ss.length=m) (hm2:m≤1048576) (a b t c:Int) {L:List Blk} {q1 q2:Nat} {c1 c2:Option Nat} (h1:Za L q1=some (Zu ls)) (h2:Za L q2=some (ZI ss)) :
  call T pr KB [stV (slL q1 n c1) a b (slS q2 m c2) t c] ⟨L,e⟩=some (.bool (Zhb ls ss a b t c),⟨L,e⟩):=by
 subst hn hm
 exact Zkw (fun G=>Zpk (Zc h1 G)) (fun G=>Zir (Zc h2 G) (by omega)) a b t c
theorem Zue {ls:List Ld} {n:Nat} (hn:ls.length=n) (hn2:n≤1048576) (a b:Int) {L:List Blk} {q1:Nat} {c1:Option Nat} (h1:Za L q1=some (Zu ls)) :
  call T pr QP [slL q1 n c1,.int .i64 a,.int .i64 b] ⟨L,e⟩=some (.int .i64 (ZcA ls a b),⟨L,e⟩):=by
 subst hn
 exact Zkt h1 (by omega) a b
theorem Zv7 {ls:List Ld} {n:Nat} (hn:ls.length=n) (hn2:n≤1048576) (a b:Int) {L:List Blk} {q1:Nat} {c1:Option Nat} (h1:Za L q1=some (Zu ls)) :
  call T pr Zco [slL q1 n c1,.int .i64 a,.int .i64 b] ⟨L,e⟩=some (.int .i64 (ZcA ls a b),⟨L,e⟩):=by
 subst hn
 exact Zt8 h1 (by omega) a b
abbrev ZfM:AV:=stV (.slice none 0 0 none) 0 0 (.slice none 0 0 none) 0 0
def ZhL (ls:List Ld) (ss:List Sg) (a b t c k x y z:Int):Bool:=Zmv ls ss k x y z&&Zhb (Zfj ls k x y) (Xk ss k x y z) (Xq a k x) (Xq b k y) t (wr (c+1))
def Zcb (ls:List Ld) (a b t k x y:Int):Int:=if decide (ZcA (Zfj ls k x y) (Xq a k x) (Xq b k y)=0)=true then t else wr (t+1)
def ZcH (H:List Blk) (e:Option Nat) (ok:Bool) (ls:List Ld) (ss:List Sg) (a b t c:Int):Option (AV×Mem) :=
 if ok=true then some (.tup [stV (slL H.length ls.length none) a b (slS (H.length+1) ss.length none) t c,.bool true],⟨H++[.cells (Zu ls) true,.cells (ZI ss) true],e⟩)
 else some (.tup [ZfM,.bool false],⟨H,e⟩)
theorem ZrE (ls:List Ld) (k x y:Int):(Zfj ls k x y).length≤ls.length+1:=by
 unfold Zfj
 split
 ·simp
 ·split
  ·have:=List.length_eraseIdx_le ls x.toNat;omega
  ·split
   ·rw [Zds];omega
   ·omega
theorem ZnR (ss:List Sg) (k x y z:Int):(Xk ss k x y z).length≤ss.length+1:=by
 unfold Xk
 split
 ·simp
 ·split
  ·have:=List.length_eraseIdx_le ss x.toNat;omega
  ·omega
theorem Zv8 {q1 q2:Nat} {c1 c2:Option Nat} {ls:List Ld} {ss:List Sg} (h1:Za H q1=some (Zu ls)) (h2:Za H q2=some (ZI ss)) (hn:ls.length≤1048575) (hm:ss.length≤1048575) (a b t c k x y z:Int) :
  call T pr Zf9 [stV (slL q1 ls.length c1) a b (slS q2 ss.length c2) t c,tkV k x y z] ⟨H,e⟩ =
   ZcH H e (ZhL ls ss a b t c k x y z) (Zfj ls k x y) (Xk ss k x y z) (Xq a k x) (Xq b k y) (Zcb ls a b t k x y) (wr (c+1)):=by
 have hfN:∀ (G:List Blk) (e0 e1:Option Nat),clean H.length e1=true→finish 2 H.length e0 (.tup [ZfM,.bool false]) ⟨H++G,e1⟩=some (.tup [ZfM,.bool false],⟨H,e0⟩) :=
  fun G e0 e1 hc=>ZgB 0 0 0 0 false e0 e1 hc
 have hmay:=fun G=>Zud (pr:=pr) (H:=H++G) (e:=none) (p1:=some (q1,0)) (p2:=some (q2,0)) (s1:=2) (s2:=3) (c1:=c1) (c2:=c2) (ls:=ls) (ss:=ss) (by omega) (by omega) a b t c k x y z
 rw [Zl Zvn]
 unfold ZcH ZhL Zcb
 cases hk:Zmv ls ss k x y z with
 | false=>
  rw [hk] at hmay
  simp +contextual only [Za2,Zd9,Zb,hmay,hfN,Zx,Zj,Zp,Ry,decide_true,go_sem,reduceIte,Ra,Rb,Rc,Rd]
 | true=>
  rw [hk] at hmay
  have hmk:=fun G=>ZrD (pr:=pr) (H:=H++G) (e:=none) (c1:=c1) (c2:=c2) (Zc h1 G) (Zc h2 G) hn hm a b t c k x y z hk
  have hr1:=ZrE ls k x y
  have hc1:=ZnR ss k x y z
  generalize Zfj ls k x y=ls' at hmk hr1 ⊢
  generalize Xk ss k x y z=ss' at hmk hc1 ⊢
  generalize Xq a k x=a' at hmk ⊢
  generalize Xq b k y=b' at hmk ⊢
  have hgood:=fun L q1 q2 c1 c2 h1 h2=>ZzZ (pr:=pr) (e:=none) (L:=L) (q1:=q1) (q2:=q2) (c1:=c1) (c2:=c2) (ls:=ls') (ss:=ss') rfl rfl (by omega) a' b' t (wr (c+1)) h1 h2
  have hside:=fun L q1 c1 h1=>Zv7 (pr:=pr) (e:=none) (L:=L) (q1:=q1) (c1:=c1) (ls:=ls') rfl (by omega) a' b' h1
  have hf:∀ (B0 B1 B2 B5:Blk) (t' c':Int) (e0 e1:Option Nat),clean H.length e1=true→finish 2 H.length e0 (.tup [stV (slL (H.length+3) ls'.length none) a' b' (slS (H.length+4) ss'.length none) t' c',.bool true]) ⟨H++[B0,B1,B2,.cells (Zu ls') true,.cells (ZI ss') true,B5],e1⟩ =
    some (.tup [stV (slL H.length ls'.length none) a' b' (slS (H.length+1) ss'.length none) t' c',.bool true],⟨H++[.cells (Zu ls') true,.cells (ZI ss') true],e0⟩) :=
   fun B0 B1 B2 B5 t' c' e0 e1 hc=>Zdo a' b' t' c' true e0 e1 hc rfl rfl (by decide) (Yk _ _) (Yx _ _)
  unfold wr at *
  cases hg:Zhb ls' ss' a' b' t (IntKind.i64.wrap (c+1)) with
  | false=>
   rw [hg] at hgood
   simp +contextual only [Za2,Zd9,Zb,hmay,hmk,hgood,hfN,Zr,Zx,Rw,Rx,Ri,decide_false,Zj,Zp,Ry,Rt,decide_true,go_sem,reduceIte,Ra,Rb,Rc,Rd]
  | true=>
   rw [hg] at hgood
   by_cases ht:ZcA ls' a' b'=0
   ·rw [ht] at hside
    simp +contextual only [Za2,Zd9,Zb,hmay,hmk,hgood,hside,ht,hf,Zr,Zx,Rw,Rx,Ri,not_true_eq_false,decide_false,Zj,Zp,Ry,Rt,decide_true,go_sem,reduceIte,Ra,Rb,Rc,Rd]
   ·simp +contextual only [Za2,Zd9,Zb,hmay,hmk,hgood,hside,ht,hf,Zr,Zx,Rw,Rx,Ri,not_false_eq_true,decide_false,Zj,Zp,Ry,Rt,decide_true,go_sem,reduceIte,Ra,Rb,Rc,Rd]
def ZdQ:Zg→Zg
 | .seq _ b=>b
 | c=>c
def Yw:Zg:=ZdQ (ZdQ (ZdQ (ZdQ (ZdQ ZD))))
noncomputable def Z3 (pr:Zq):St→Option (Ex×St):=run T pr Yw
theorem KJ {y0 y1 y2 y3 y8 y9 y10 y11 y12 y13 y14 y15 y16 y17 y18 y19 y20 y21 y22:AV} {B0 B1 X3 X4:Blk} {G:List Blk} {j1 j2 n m:Nat} {a b t c:Int} {ls:List Ld} {ss:List Sg} {e:Option Nat} (hn:ls.length=n) (hm:ss.length=m) (hn2:n≤1048576) (hm2:m≤1048576) (h1:∀ B2 B5,(B0::B1::B2::X3::X4::B5::G)[j1]?=some (.cells (Zu ls) true)) (h2:∀ B2 B5,(B0::B1::B2::X3::X4::B5::G)[j2]?=some (.cells (ZI ss) true)) {ok:Bool} (hno:(ok&&Zhb ls ss a b t (IntKind.i64.wrap (c+1)))=false) :
  Z3 pr ⟨[y0,y1,y2,y3,.ptr (some (H.length+2,0)),.bool false,.ptr (some (H.length+5,0)),.bool ok,y8,y9,y10,y11,y12,y13,y14,y15,y16,y17,y18,y19,y20,y21,y22],⟨H++(B0::B1::.cells [.slice none 0 0 none,.int .i64 0,.int .i64 0,.slice none 0 0 none,.int .i64 0,.int .i64 0] true::X3::X4::.cells [slL (H.length+j1) n none,.int .i64 a,.int .i64 b,slS (H.length+j2) m none,.int .i64 t,.int .i64 c] true::G),e⟩⟩ =
   some (Ex.ret,⟨[y0,y1,y2,y3,.ptr (some (H.length+2,0)),.bool false,.ptr (some (H.length+5,0)),.bool ok,y8,y9,y10,y11,y12,y13,y14,y15,y16,y17,y18,y19,y20,.bool true,y22],⟨H++(B0::B1::.cells [.slice none 0 0 none,.int .i64 0,.int .i64 0,.slice none 0 0 none,.int .i64 0,.int .i64 0] true::X3::X4::.cells [slL (H.length+j1) n none,.int .i64 a,.int .i64 b,slS (H.length+j2) m none,.int .i64 t,.int .i64 (IntKind.i64.wrap (c+1))] true::G),e⟩⟩):=by
 have hc1:∀ B2 B5,Za (H++(B0::B1::B2::X3::X4::B5::G)) (H.length+j1)=some (Zu ls):=fun B2 B5=>by rw [JO];exact Zdr (h1 B2 B5)
 have hc2:∀ B2 B5,Za (H++(B0::B1::B2::X3::X4::B5::G)) (H.length+j2)=some (ZI ss):=fun B2 B5=>by rw [JO];exact Zdr (h2 B2 B5)
 have hist:=fun B2 B5 e=>ZhK (pr:=pr) (e:=e) (c1:=none) (c2:=none) hn hm hm2 a b t (IntKind.i64.wrap (c+1)) (hc1 B2 B5) (hc2 B2 B5)
 unfold Z3 Yw
 simp only [ZdQ,ZD]
 cases ok with
 | false=>simp +contextual only [Zb,Zr,Zx,Rw,Rx,Ri,Zj,Zp,Ry,Rt,RF,not_true_eq_false,not_false_eq_true,decide_true,decide_false,go_sem,reduceIte,Ra,Rb,Rc,Rd]
 | true=>
  rw [RI] at hno
  rw [hno] at hist
  simp +contextual only [Zb,hist,Zr,Zx,Rw,Rx,Ri,Zj,Zp,Ry,Rt,RF,not_true_eq_false,not_false_eq_true,decide_true,decide_false,go_sem,reduceIte,Ra,Rb,Rc,Rd]
theorem ZeW {y0 y1 y2 y3 y8 y9 y10 y11 y12 y13 y14 y15 y16 y17 y18 y19 y20 y21 y22:AV} {B0 B1 X3 X4:Blk} {G:List Blk} {j1 j2 n m:Nat} {a b t c:Int} {ls:List Ld} {ss:List Sg} {e:Option Nat} (hn:ls.length=n) (hm:ss.length=m) (hn2:n≤1048576) (hm2:m≤1048576) (h1:∀ B2 B5,(B0::B1::B2::X3::X4::B5::G)[j1]?=some (.cells (Zu ls) true)) (h2:∀ B2 B5,(B0::B1::B2::X3::X4::B5::G)[j2]?=some (.cells (ZI ss) true)) (h3:3≤j1) (hyes:Zhb ls ss a b t (IntKind.i64.wrap (c+1))=true) :
  Z3 pr ⟨[y0,y1,y2,y3,.ptr (some (H.length+2,0)),.bool false,.ptr (some (H.length+5,0)),.bool true,y8,y9,y10,y11,y12,y13,y14,y15,y16,y17,y18,y19,y20,y21,y22],⟨H++(B0::B1::.cells [.slice none 0 0 none,.int .i64 0,.int .i64 0,.slice none 0 0 none,.int .i64 0,.int .i64 0] true::X3::X4::.cells [slL (H.length+j1) n none,.int .i64 a,.int .i64 b,slS (H.length+j2) m none,.int .i64 t,.int .i64 c] true::G),e⟩⟩ =
   some (Ex.ret,⟨[y0,y1,y2,y3,.ptr (some (H.length+2,0)),.bool true,.ptr (some (H.length+5,0)),.bool true,y8,y9,y10,y11,y12,y13,y14,y15,y16,y17,y18,y19,y20,.bool false,.bool (!decide (ZcA ls a b=0))],⟨H++(B0::B1::.cells [slL (H.length+j1) n none,.int .i64 a,.int .i64 b,slS (H.length+j2) m none,.int .i64 (if decide (ZcA ls a b=0)=true then t else IntKind.i64.wrap (t+1)),.int .i64 (IntKind.i64.wrap (c+1))] true::X3::X4::.cells [slL (H.length+j1) n none,.int .i64 a,.int .i64 b,slS (H.length+j2) m none,.int .i64 (if decide (ZcA ls a b=0)=true then t else IntKind.i64.wrap (t+1)),.int .i64 (IntKind.i64.wrap (c+1))] true::G),Z6 e (H.length+2)⟩⟩):=by
 have hc1:∀ B2 B5,Za (H++(B0::B1::B2::X3::X4::B5::G)) (H.length+j1)=some (Zu ls):=fun B2 B5=>by rw [JO];exact Zdr (h1 B2 B5)
 have hc2:∀ B2 B5,Za (H++(B0::B1::B2::X3::X4::B5::G)) (H.length+j2)=some (ZI ss):=fun B2 B5=>by rw [JO];exact Zdr (h2 B2 B5)
 have hist:=fun B2 B5 e=>ZhK (pr:=pr) (e:=e) (c1:=none) (c2:=none) hn hm hm2 a b t (IntKind.i64.wrap (c+1)) (hc1 B2 B5) (hc2 B2 B5)
 have hside:=fun B2 B5 e=>Zue (pr:=pr) (e:=e) (c1:=none) hn hn2 a b (hc1 B2 B5)
 have hlt:¬ (j1<2+1):=by omega
 unfold Z3 Yw
 simp only [ZdQ,ZD]
 rw [hyes] at hist
 by_cases ht:ZcA ls a b=0
 ·rw [ht] at hside
  simp +contextual only [Zb,hist,hside,ht,hlt,Zr,Zx,Rw,Rx,Ri,Zj,Zp,Ry,Rt,RF,not_true_eq_false,not_false_eq_true,decide_true,decide_false,go_sem,reduceIte,Ra,Rb,Rc,Rd]
 ·simp +contextual only [Zb,hist,hside,ht,hlt,Zr,Zx,Rw,Rx,Ri,Zj,Zp,Ry,Rt,RF,not_true_eq_false,not_false_eq_true,decide_true,decide_false,go_sem,reduceIte,Ra,Rb,Rc,Rd]
def ZbS:Zg:=ZdQ (ZdQ (ZdQ ZD))
def Ym:Zg:=ZdQ (ZdQ (ZdQ (ZdQ ZD)))
noncomputable def ZaI (pr:Zq):St→Option (Ex×St):=run T pr ZbS
noncomputable def ZA (pr:Zq):St→Option (Ex×St):=run T pr Ym
theorem Kn:run T pr Yw=Z3 pr:=rfl
theorem Zuf:run T pr ZbS=ZaI pr:=rfl
theorem Zug:run T pr Ym=ZA pr:=rfl
theorem ZA0 (ls:List Ld) (ss:List Sg) (x y z:Int):Zmv ls ss 1 x y z=decide (z=0):=by simp [Zmv]
theorem ZA1 (ls:List Ld) (ss:List Sg) (x y z:Int):Zmv ls ss 2 x y z=(((decide (0≤x)&&decide (x≤(ls.length:Int) - 1))&&decide (y=0))&&decide (z=0)):=by simp [Zmv]
theorem ZA2 (ls:List Ld) (ss:List Sg) (x y z:Int):Zmv ls ss 3 x y z=((decide (0≤x)&&decide (x≤(ls.length:Int) - 1))&&decide (z=0)):=by simp [Zmv]
theorem ZA3 (ls:List Ld) (ss:List Sg) (x y z:Int):Zmv ls ss 4 x y z=decide (z=0):=by simp [Zmv]
theorem ZA4 (ls:List Ld) (ss:List Sg) (x y z:Int):Zmv ls ss 5 x y z=true:=by simp [Zmv]
theorem ZA5 (ls:List Ld) (ss:List Sg) (x y z:Int):Zmv ls ss 6 x y z=(((decide (0≤x)&&decide (x≤(ss.length:Int) - 1))&&decide (y=0))&&decide (z=0)):=by simp [Zmv]
set_option maxHeartbeats 8000000 in
theorem Zdw {q1 q2:Nat} {c1 c2:Option Nat} {ls:List Ld} {ss:List Sg} {a b t c:Int} (h1:Za H q1=some (Zu ls)) (h2:Za H q2=some (ZI ss)) (hn:ls.length≤1048575) (hm:ss.length≤1048575) (k x y z:Int) (hv:Zhb ls ss a b t c=true) :
  call T pr Xb [stV (slL q1 ls.length c1) a b (slS q2 ss.length c2) t c,tkV k x y z] ⟨H,e⟩=QN XV ⟨H,e⟩ (ZaI pr ⟨[stV (slL q1 ls.length c1) a b (slS q2 ss.length c2) t c,tkV k x y z,.ptr (some (H.length,0)),.ptr (some (H.length+1,0)),.ptr (some (H.length+2,0)),.bool false,.ptr (some (H.length+5,0)),.bool false,.undef,.undef,.bool false,.undef,.undef,.undef,.undef,.undef,.undef,.undef,.undef,.undef,.undef,.undef,.undef],⟨H++[.cells [slL q1 ls.length c1,.int .i64 a,.int .i64 b,slS q2 ss.length c2,.int .i64 t,.int .i64 c] true,.cells [.int .i64 k,.int .i64 x,.int .i64 y,.int .i64 z] true,.cells [.slice none 0 0 none,.int .i64 0,.int .i64 0,.slice none 0 0 none,.int .i64 0,.int .i64 0] true,.cells (Zu ls) true,.cells (ZI ss) true,.cells [slL (H.length+3) (ls.length) none,.int .i64 a,.int .i64 b,slS (H.length+4) (ss.length) none,.int .i64 t,.int .i64 c] true],none⟩⟩):=by
 have hvalid:=fun G=>ZhK (pr:=pr) (e:=none) (c1:=c1) (c2:=c2) (ls:=ls) (ss:=ss) rfl rfl (by omega) a b t c (Zc h1 G) (Zc h2 G)
 rw [hv] at hvalid
 have hcopy:=fun G=>Zdq (pr:=pr) (e:=none) (c1:=c1) (c2:=c2) (Zc h1 G) (Zc h2 G) (by omega) (by omega) a b t c
 have hfold:=Zuf (pr:=pr)
 simp only [ZbS,ZdQ,ZD] at hfold
 rw [Zl Ztj]
 generalize hA:QN XV=EC
 simp (config:={ maxSteps:=2000000,contextual:=true }) only [XV] at hA
 simp (config:={ maxSteps:=2000000,contextual:=true }) only [XV,ZD,hA,hfold,hvalid,hcopy,Zr,Zx,Rw,Rx,Ri,Zj,Zp,Ry,Rt,RF,not_true_eq_false,not_false_eq_true,decide_true,decide_false,go_sem,reduceIte,Ra,Rb,Rc,Rd]
set_option maxHeartbeats 8000000 in
theorem Zdx {q1 q2:Nat} {c1 c2:Option Nat} {ls:List Ld} {ss:List Sg} {a b t c:Int} (hn:ls.length≤1048575) (hm:ss.length≤1048575) (k x y z:Int) :
  ZaI pr ⟨[stV (slL q1 ls.length c1) a b (slS q2 ss.length c2) t c,tkV k x y z,.ptr (some (H.length,0)),.ptr (some (H.length+1,0)),.ptr (some (H.length+2,0)),.bool false,.ptr (some (H.length+5,0)),.bool false,.undef,.undef,.bool false,.undef,.undef,.undef,.undef,.undef,.undef,.undef,.undef,.undef,.undef,.undef,.undef],⟨H++[.cells [slL q1 ls.length c1,.int .i64 a,.int .i64 b,slS q2 ss.length c2,.int .i64 t,.int .i64 c] true,.cells [.int .i64 k,.int .i64 x,.int .i64 y,.int .i64 z] true,.cells [.slice none 0 0 none,.int .i64 0,.int .i64 0,.slice none 0 0 none,.int .i64 0,.int .i64 0] true,.cells (Zu ls) true,.cells (ZI ss) true,.cells [slL (H.length+3) (ls.length) none,.int .i64 a,.int .i64 b,slS (H.length+4) (ss.length) none,.int .i64 t,.int .i64 c] true],none⟩⟩=ZA pr ⟨[stV (slL q1 ls.length c1) a b (slS q2 ss.length c2) t c,tkV k x y z,.ptr (some (H.length,0)),.ptr (some (H.length+1,0)),.ptr (some (H.length+2,0)),.bool false,.ptr (some (H.length+5,0)),.bool false,.bool (decide (0≤x)&&decide (x≤(ls.length:Int) - 1)),.bool (decide (0≤x)&&decide (x≤(ss.length:Int) - 1)),.bool false,.undef,.undef,.undef,.undef,.undef,.undef,.undef,.undef,.undef,.undef,.undef,.undef],⟨H++[.cells [slL q1 ls.length c1,.int .i64 a,.int .i64 b,slS q2 ss.length c2,.int .i64 t,.int .i64 c] true,.cells [.int .i64 k,.int .i64 x,.int .i64 y,.int .i64 z] true,.cells [.slice none 0 0 none,.int .i64 0,.int .i64 0,.slice none 0 0 none,.int .i64 0,.int .i64 0] true,.cells (Zu ls) true,.cells (ZI ss) true,.cells [slL (H.length+3) (ls.length) none,.int .i64 a,.int .i64 b,slS (H.length+4) (ss.length) none,.int .i64 t,.int .i64 c] true],none⟩⟩:=by
 have hw1:IntKind.i64.wrap ((ls.length:Int) - 1)=(ls.length:Int) - 1:=Yc (by omega) (by omega)
 have hw2:IntKind.i64.wrap ((ss.length:Int) - 1)=(ss.length:Int) - 1:=Yc (by omega) (by omega)
 have hfold:=Zug (pr:=pr)
 simp only [Ym,ZdQ,ZD] at hfold
 unfold ZaI ZbS
 simp only [ZdQ,ZD]
 simp (config:={ maxSteps:=2000000,contextual:=true }) only [hfold,Z0,hw1,hw2,Zr,Zx,Rw,Rx,Ri,Zj,Zp,Ry,Rt,RF,not_true_eq_false,not_false_eq_true,decide_true,decide_false,go_sem,reduceIte,Ra,Rb,Rc,Rd]
set_option maxHeartbeats 8000000 in
theorem Zv9 {q1 q2:Nat} {c1 c2:Option Nat} {ls:List Ld} {ss:List Sg} {a b t c:Int} (hn:ls.length≤1048575) (hm:ss.length≤1048575) (x:Int) (y z:Int) {isL isS:Bool} :
  ZA pr ⟨[stV (slL q1 ls.length c1) a b (slS q2 ss.length c2) t c,tkV 1 x y z,.ptr (some (H.length,0)),.ptr (some (H.length+1,0)),.ptr (some (H.length+2,0)),.bool false,.ptr (some (H.length+5,0)),.bool false,.bool isL,.bool isS,.bool false,.undef,.undef,.undef,.undef,.undef,.undef,.undef,.undef,.undef,.undef,.undef,.undef],⟨H++[.cells [slL q1 ls.length c1,.int .i64 a,.int .i64 b,slS q2 ss.length c2,.int .i64 t,.int .i64 c] true,.cells [.int .i64 1,.int .i64 x,.int .i64 y,.int .i64 z] true,.cells [.slice none 0 0 none,.int .i64 0,.int .i64 0,.slice none 0 0 none,.int .i64 0,.int .i64 0] true,.cells (Zu ls) true,.cells (ZI ss) true,.cells [slL (H.length+3) (ls.length) none,.int .i64 a,.int .i64 b,slS (H.length+4) (ss.length) none,.int .i64 t,.int .i64 c] true],none⟩⟩=Z3 pr ⟨[stV (slL q1 ls.length c1) a b (slS q2 ss.length c2) t c,tkV 1 x y z,.ptr (some (H.length,0)),.ptr (some (H.length+1,0)),.ptr (some (H.length+2,0)),.bool false,.ptr (some (H.length+5,0)),.bool (decide (z=0)),.bool isL,.bool isS,.bool false,.int .i64 1,.bool true,.undef,.undef,.undef,.undef,.undef,.undef,.undef,.undef,.undef,.undef],⟨H++[.cells [slL q1 ls.length c1,.int .i64 a,.int .i64 b,slS q2 ss.length c2,.int .i64 t,.int .i64 c] true,.cells [.int .i64 1,.int .i64 x,.int .i64 y,.int .i64 z] true,.cells [.slice none 0 0 none,.int .i64 0,.int .i64 0,.slice none 0 0 none,.int .i64 0,.int .i64 0] true,.dead,.cells (ZI ss) true,.cells [slL (H.length+7) (ls.length+1) none,.int .i64 a,.int .i64 b,slS (H.length+4) (ss.length) none,.int .i64 t,.int .i64 c] true,.cells [.int .i64 x,.int .i64 y] true,.cells (Zu (ls++[(x,y)])) true],(Z6 none (H.length+5))⟩⟩:=by
 have happ:=fun L b q c e' (hb:L[b]?=some (.cells (Zu ls) true)) hq=>ZeV (e:=e') (L:=L) (b:=b) (q:=q) (n:=ls.length) (sz:=2) (bytes:=16) (c:=c) (cs:=Zu ls) (new:=[.int .i64 x,.int .i64 y]) hb hq (Yv ls) rfl (by unfold maxBytes;omega)
 have hap2:Zu ls++[AV.int .i64 x,.int .i64 y]=Zu (ls++[(x,y)]):=by rw [Q0];rfl
 have hfold:=Kn (pr:=pr)
 simp only [Yw,ZdQ,ZD] at hfold
 unfold ZA Ym
 simp only [ZdQ,ZD]
 simp (config:={ maxSteps:=2000000,contextual:=true }) only [hfold,Zb,or_true,true_or,RH,eq_self,happ,hap2,Zr,Zx,Rw,Rx,Ri,Zj,Zp,Ry,Rt,RF,not_true_eq_false,not_false_eq_true,decide_true,decide_false,go_sem,reduceIte,Ra,Rb,Rc,Rd]
set_option maxHeartbeats 8000000 in
theorem Zwa (hp:Zbc pr) {q1 q2:Nat} {c1 c2:Option Nat} {ls:List Ld} {ss:List Sg} {a b t c:Int} (hn:ls.length≤1048575) (hm:ss.length≤1048575) {x:Nat} (hi:x<ls.length) (y z:Int) {isL isS:Bool} :
  ZA pr ⟨[stV (slL q1 ls.length c1) a b (slS q2 ss.length c2) t c,tkV 2 x y z,.ptr (some (H.length,0)),.ptr (some (H.length+1,0)),.ptr (some (H.length+2,0)),.bool false,.ptr (some (H.length+5,0)),.bool false,.bool true,.bool isS,.bool false,.undef,.undef,.undef,.undef,.undef,.undef,.undef,.undef,.undef,.undef,.undef,.undef],⟨H++[.cells [slL q1 ls.length c1,.int .i64 a,.int .i64 b,slS q2 ss.length c2,.int .i64 t,.int .i64 c] true,.cells [.int .i64 2,.int .i64 x,.int .i64 y,.int .i64 z] true,.cells [.slice none 0 0 none,.int .i64 0,.int .i64 0,.slice none 0 0 none,.int .i64 0,.int .i64 0] true,.cells (Zu ls) true,.cells (ZI ss) true,.cells [slL (H.length+3) (ls.length) none,.int .i64 a,.int .i64 b,slS (H.length+4) (ss.length) none,.int .i64 t,.int .i64 c] true],none⟩⟩=Z3 pr ⟨[stV (slL q1 ls.length c1) a b (slS q2 ss.length c2) t c,tkV 2 x y z,.ptr (some (H.length,0)),.ptr (some (H.length+1,0)),.ptr (some (H.length+2,0)),.bool false,.ptr (some (H.length+5,0)),.bool (decide (y=0)&&decide (z=0)),.bool true,.bool isS,.bool false,.int .i64 2,.bool false,.bool true,.bool true,.undef,.undef,.undef,.undef,.undef,.undef,.undef,.undef],⟨H++[.cells [slL q1 ls.length c1,.int .i64 a,.int .i64 b,slS q2 ss.length c2,.int .i64 t,.int .i64 c] true,.cells [.int .i64 2,.int .i64 x,.int .i64 y,.int .i64 z] true,.cells [.slice none 0 0 none,.int .i64 0,.int .i64 0,.slice none 0 0 none,.int .i64 0,.int .i64 0] true,.dead,.cells (ZI ss) true,.cells [slL (H.length+7) (ls.length - 1) none,.int .i64 a,.int .i64 b,slS (H.length+4) (ss.length) none,.int .i64 t,.int .i64 c] true,.dead,.cells (Zu (ls.eraseIdx x)) true],(Z6 none (H.length+5))⟩⟩:=by
 have hdel:∀ L e b cap,L[b]?=some (.cells (Zu ls) true)→call T pr ZJ [.slice (some (b,0)) 2 ls.length cap,.int .i64 x,.int .i64 (x+1:Nat)] ⟨L,e⟩=some (.slice (some (L.length+1,0)) 2 (ls.length - 1) none,⟨L.set b .dead++[.dead,.cells (Zu (ls.eraseIdx x)) true],e⟩):=by
  intro L e b cap hb
  rw [hp.1 L e b ls.length x cap (Zu ls) hb (Yv ls) hi,Zms]
 have hfold:=Kn (pr:=pr)
 simp only [Yw,ZdQ,ZD] at hfold
 unfold ZA Ym
 simp only [ZdQ,ZD]
 by_cases hy:y=0
 ·subst hy
  simp (config:={ maxSteps:=2000000,contextual:=true }) only [hfold,Zb,or_true,true_or,RH,eq_self,hdel,Zw (show x<9223372036854775807 by omega),Zr,Zx,Rw,Rx,Ri,Zj,Zp,Ry,Rt,RF,not_true_eq_false,not_false_eq_true,decide_true,decide_false,go_sem,reduceIte,Ra,Rb,Rc,Rd]
 ·simp (config:={ maxSteps:=2000000,contextual:=true }) only [hy,hfold,Zb,or_true,true_or,RH,eq_self,hdel,Zw (show x<9223372036854775807 by omega),Zr,Zx,Rw,Rx,Ri,Zj,Zp,Ry,Rt,RF,not_true_eq_false,not_false_eq_true,decide_true,decide_false,go_sem,reduceIte,Ra,Rb,Rc,Rd]
set_option maxHeartbeats 8000000 in
theorem Zuh {q1 q2:Nat} {c1 c2:Option Nat} {ls:List Ld} {ss:List Sg} {a b t c:Int} (hn:ls.length≤1048575) (hm:ss.length≤1048575) (x:Int) (y z:Int) {isL isS:Bool} :
  ZA pr ⟨[stV (slL q1 ls.length c1) a b (slS q2 ss.length c2) t c,tkV 2 x y z,.ptr (some (H.length,0)),.ptr (some (H.length+1,0)),.ptr (some (H.length+2,0)),.bool false,.ptr (some (H.length+5,0)),.bool false,.bool false,.bool isS,.bool false,.undef,.undef,.undef,.undef,.undef,.undef,.undef,.undef,.undef,.undef,.undef,.undef],⟨H++[.cells [slL q1 ls.length c1,.int .i64 a,.int .i64 b,slS q2 ss.length c2,.int .i64 t,.int .i64 c] true,.cells [.int .i64 2,.int .i64 x,.int .i64 y,.int .i64 z] true,.cells [.slice none 0 0 none,.int .i64 0,.int .i64 0,.slice none 0 0 none,.int .i64 0,.int .i64 0] true,.cells (Zu ls) true,.cells (ZI ss) true,.cells [slL (H.length+3) (ls.length) none,.int .i64 a,.int .i64 b,slS (H.length+4) (ss.length) none,.int .i64 t,.int .i64 c] true],none⟩⟩=Z3 pr ⟨[stV (slL q1 ls.length c1) a b (slS q2 ss.length c2) t c,tkV 2 x y z,.ptr (some (H.length,0)),.ptr (some (H.length+1,0)),.ptr (some (H.length+2,0)),.bool false,.ptr (some (H.length+5,0)),.bool false,.bool false,.bool isS,.bool false,.int .i64 2,.bool false,.bool true,.bool false,.undef,.undef,.undef,.undef,.undef,.undef,.undef,.undef],⟨H++[.cells [slL q1 ls.length c1,.int .i64 a,.int .i64 b,slS q2 ss.length c2,.int .i64 t,.int .i64 c] true,.cells [.int .i64 2,.int .i64 x,.int .i64 y,.int .i64 z] true,.cells [.slice none 0 0 none,.int .i64 0,.int .i64 0,.slice none 0 0 none,.int .i64 0,.int .i64 0] true,.cells (Zu ls) true,.cells (ZI ss) true,.cells [slL (H.length+3) (ls.length) none,.int .i64 a,.int .i64 b,slS (H.length+4) (ss.length) none,.int .i64 t,.int .i64 c] true],none⟩⟩:=by
 have hfold:=Kn (pr:=pr)
 simp only [Yw,ZdQ,ZD] at hfold
 unfold ZA Ym
 simp only [ZdQ,ZD]
 simp (config:={ maxSteps:=2000000,contextual:=true }) only [hfold,Zb,or_true,true_or,RH,eq_self,Zr,Zx,Rw,Rx,Ri,Zj,Zp,Ry,Rt,RF,not_true_eq_false,not_false_eq_true,decide_true,decide_false,go_sem,reduceIte,Ra,Rb,Rc,Rd]
set_option maxHeartbeats 8000000 in
theorem Zwb {q1 q2:Nat} {c1 c2:Option Nat} {ls:List Ld} {ss:List Sg} {a b t c:Int} (hn:ls.length≤1048575) (hm:ss.length≤1048575) {x:Nat} (hi:x<ls.length) (y z:Int) {isL isS:Bool} :
  ZA pr ⟨[stV (slL q1 ls.length c1) a b (slS q2 ss.length c2) t c,tkV 3 x y z,.ptr (some (H.length,0)),.ptr (some (H.length+1,0)),.ptr (some (H.length+2,0)),.bool false,.ptr (some (H.length+5,0)),.bool false,.bool true,.bool isS,.bool false,.undef,.undef,.undef,.undef,.undef,.undef,.undef,.undef,.undef,.undef,.undef,.undef],⟨H++[.cells [slL q1 ls.length c1,.int .i64 a,.int .i64 b,slS q2 ss.length c2,.int .i64 t,.int .i64 c] true,.cells [.int .i64 3,.int .i64 x,.int .i64 y,.int .i64 z] true,.cells [.slice none 0 0 none,.int .i64 0,.int .i64 0,.slice none 0 0 none,.int .i64 0,.int .i64 0] true,.cells (Zu ls) true,.cells (ZI ss) true,.cells [slL (H.length+3) (ls.length) none,.int .i64 a,.int .i64 b,slS (H.length+4) (ss.length) none,.int .i64 t,.int .i64 c] true],none⟩⟩=Z3 pr ⟨[stV (slL q1 ls.length c1) a b (slS q2 ss.length c2) t c,tkV 3 x y z,.ptr (some (H.length,0)),.ptr (some (H.length+1,0)),.ptr (some (H.length+2,0)),.bool false,.ptr (some (H.length+5,0)),.bool (decide (z=0)),.bool true,.bool isS,.bool false,.int .i64 3,.bool false,.bool false,.undef,.bool true,.bool true,.undef,.undef,.undef,.undef,.undef,.undef],⟨H++[.cells [slL q1 ls.length c1,.int .i64 a,.int .i64 b,slS q2 ss.length c2,.int .i64 t,.int .i64 c] true,.cells [.int .i64 3,.int .i64 x,.int .i64 y,.int .i64 z] true,.cells [.slice none 0 0 none,.int .i64 0,.int .i64 0,.slice none 0 0 none,.int .i64 0,.int .i64 0] true,.cells (Zu (ZnP ls x y)) true,.cells (ZI ss) true,.cells [slL (H.length+3) (ls.length) none,.int .i64 a,.int .i64 b,slS (H.length+4) (ss.length) none,.int .i64 t,.int .i64 c] true],none⟩⟩:=by
 have hle:x*2+1≤(Zu ls).length:=by rw [Yv];omega
 have hle2:x*2+2≤(Zu ls).length:=by rw [Yv];omega
 have hfold:=Kn (pr:=pr)
 simp only [Yw,ZdQ,ZD] at hfold
 unfold ZA Ym
 simp only [ZdQ,ZD]
 simp (config:={ maxSteps:=2000000,contextual:=true }) only [hfold,Zb,or_true,true_or,RH,eq_self,hi,hle,hle2,ZgH y hi,Zr,Zx,Rw,Rx,Ri,Zj,Zp,Ry,Rt,RF,not_true_eq_false,not_false_eq_true,decide_true,decide_false,go_sem,reduceIte,Ra,Rb,Rc,Rd]
set_option maxHeartbeats 8000000 in
theorem Zui {q1 q2:Nat} {c1 c2:Option Nat} {ls:List Ld} {ss:List Sg} {a b t c:Int} (hn:ls.length≤1048575) (hm:ss.length≤1048575) (x:Int) (y z:Int) {isL isS:Bool} :
  ZA pr ⟨[stV (slL q1 ls.length c1) a b (slS q2 ss.length c2) t c,tkV 3 x y z,.ptr (some (H.length,0)),.ptr (some (H.length+1,0)),.ptr (some (H.length+2,0)),.bool false,.ptr (some (H.length+5,0)),.bool false,.bool false,.bool isS,.bool false,.undef,.undef,.undef,.undef,.undef,.undef,.undef,.undef,.undef,.undef,.undef,.undef],⟨H++[.cells [slL q1 ls.length c1,.int .i64 a,.int .i64 b,slS q2 ss.length c2,.int .i64 t,.int .i64 c] true,.cells [.int .i64 3,.int .i64 x,.int .i64 y,.int .i64 z] true,.cells [.slice none 0 0 none,.int .i64 0,.int .i64 0,.slice none 0 0 none,.int .i64 0,.int .i64 0] true,.cells (Zu ls) true,.cells (ZI ss) true,.cells [slL (H.length+3) (ls.length) none,.int .i64 a,.int .i64 b,slS (H.length+4) (ss.length) none,.int .i64 t,.int .i64 c] true],none⟩⟩=Z3 pr ⟨[stV (slL q1 ls.length c1) a b (slS q2 ss.length c2) t c,tkV 3 x y z,.ptr (some (H.length,0)),.ptr (some (H.length+1,0)),.ptr (some (H.length+2,0)),.bool false,.ptr (some (H.length+5,0)),.bool false,.bool false,.bool isS,.bool false,.int .i64 3,.bool false,.bool false,.undef,.bool true,.bool false,.undef,.undef,.undef,.undef,.undef,.undef],⟨H++[.cells [slL q1 ls.length c1,.int .i64 a,.int .i64 b,slS q2 ss.length c2,.int .i64 t,.int .i64 c] true,.cells [.int .i64 3,.int .i64 x,.int .i64 y,.int .i64 z] true,.cells [.slice none 0 0 none,.int .i64 0,.int .i64 0,.slice none 0 0 none,.int .i64 0,.int .i64 0] true,.cells (Zu ls) true,.cells (ZI ss) true,.cells [slL (H.length+3) (ls.length) none,.int .i64 a,.int .i64 b,slS (H.length+4) (ss.length) none,.int .i64 t,.int .i64 c] true],none⟩⟩:=by
 have hfold:=Kn (pr:=pr)
 simp only [Yw,ZdQ,ZD] at hfold
 unfold ZA Ym
 simp only [ZdQ,ZD]
 simp (config:={ maxSteps:=2000000,contextual:=true }) only [hfold,Zb,or_true,true_or,RH,eq_self,Zr,Zx,Rw,Rx,Ri,Zj,Zp,Ry,Rt,RF,not_true_eq_false,not_false_eq_true,decide_true,decide_false,go_sem,reduceIte,Ra,Rb,Rc,Rd]
set_option maxHeartbeats 8000000 in
theorem Zwc {q1 q2:Nat} {c1 c2:Option Nat} {ls:List Ld} {ss:List Sg} {a b t c:Int} (hn:ls.length≤1048575) (hm:ss.length≤1048575) (x:Int) (y z:Int) {isL isS:Bool} :
  ZA pr ⟨[stV (slL q1 ls.length c1) a b (slS q2 ss.length c2) t c,tkV 4 x y z,.ptr (some (H.length,0)),.ptr (some (H.length+1,0)),.ptr (some (H.length+2,0)),.bool false,.ptr (some (H.length+5,0)),.bool false,.bool isL,.bool isS,.bool false,.undef,.undef,.undef,.undef,.undef,.undef,.undef,.undef,.undef,.undef,.undef,.undef],⟨H++[.cells [slL q1 ls.length c1,.int .i64 a,.int .i64 b,slS q2 ss.length c2,.int .i64 t,.int .i64 c] true,.cells [.int .i64 4,.int .i64 x,.int .i64 y,.int .i64 z] true,.cells [.slice none 0 0 none,.int .i64 0,.int .i64 0,.slice none 0 0 none,.int .i64 0,.int .i64 0] true,.cells (Zu ls) true,.cells (ZI ss) true,.cells [slL (H.length+3) (ls.length) none,.int .i64 a,.int .i64 b,slS (H.length+4) (ss.length) none,.int .i64 t,.int .i64 c] true],none⟩⟩=Z3 pr ⟨[stV (slL q1 ls.length c1) a b (slS q2 ss.length c2) t c,tkV 4 x y z,.ptr (some (H.length,0)),.ptr (some (H.length+1,0)),.ptr (some (H.length+2,0)),.bool false,.ptr (some (H.length+5,0)),.bool (decide (z=0)),.bool isL,.bool isS,.bool false,.int .i64 4,.bool false,.bool false,.undef,.bool false,.undef,.bool true,.undef,.undef,.undef,.undef,.undef],⟨H++[.cells [slL q1 ls.length c1,.int .i64 a,.int .i64 b,slS q2 ss.length c2,.int .i64 t,.int .i64 c] true,.cells [.int .i64 4,.int .i64 x,.int .i64 y,.int .i64 z] true,.cells [.slice none 0 0 none,.int .i64 0,.int .i64 0,.slice none 0 0 none,.int .i64 0,.int .i64 0] true,.cells (Zu ls) true,.cells (ZI ss) true,.cells [slL (H.length+3) (ls.length) none,.int .i64 x,.int .i64 y,slS (H.length+4) (ss.length) none,.int .i64 t,.int .i64 c] true],none⟩⟩:=by
 have hfold:=Kn (pr:=pr)
 simp only [Yw,ZdQ,ZD] at hfold
 unfold ZA Ym
 simp only [ZdQ,ZD]
 simp (config:={ maxSteps:=2000000,contextual:=true }) only [hfold,Zb,or_true,true_or,RH,eq_self,Zr,Zx,Rw,Rx,Ri,Zj,Zp,Ry,Rt,RF,not_true_eq_false,not_false_eq_true,decide_true,decide_false,go_sem,reduceIte,Ra,Rb,Rc,Rd]
set_option maxHeartbeats 8000000 in
theorem Zwd {q1 q2:Nat} {c1 c2:Option Nat} {ls:List Ld} {ss:List Sg} {a b t c:Int} (hn:ls.length≤1048575) (hm:ss.length≤1048575) (x:Int) (y z:Int) {isL isS:Bool} :
  ZA pr ⟨[stV (slL q1 ls.length c1) a b (slS q2 ss.length c2) t c,tkV 5 x y z,.ptr (some (H.length,0)),.ptr (some (H.length+1,0)),.ptr (some (H.length+2,0)),.bool false,.ptr (some (H.length+5,0)),.bool false,.bool isL,.bool isS,.bool false,.undef,.undef,.undef,.undef,.undef,.undef,.undef,.undef,.undef,.undef,.undef,.undef],⟨H++[.cells [slL q1 ls.length c1,.int .i64 a,.int .i64 b,slS q2 ss.length c2,.int .i64 t,.int .i64 c] true,.cells [.int .i64 5,.int .i64 x,.int .i64 y,.int .i64 z] true,.cells [.slice none 0 0 none,.int .i64 0,.int .i64 0,.slice none 0 0 none,.int .i64 0,.int .i64 0] true,.cells (Zu ls) true,.cells (ZI ss) true,.cells [slL (H.length+3) (ls.length) none,.int .i64 a,.int .i64 b,slS (H.length+4) (ss.length) none,.int .i64 t,.int .i64 c] true],none⟩⟩=Z3 pr ⟨[stV (slL q1 ls.length c1) a b (slS q2 ss.length c2) t c,tkV 5 x y z,.ptr (some (H.length,0)),.ptr (some (H.length+1,0)),.ptr (some (H.length+2,0)),.bool false,.ptr (some (H.length+5,0)),.bool true,.bool isL,.bool isS,.bool false,.int .i64 5,.bool false,.bool false,.undef,.bool false,.undef,.bool false,.bool true,.undef,.undef,.undef,.undef],⟨H++[.cells [slL q1 ls.length c1,.int .i64 a,.int .i64 b,slS q2 ss.length c2,.int .i64 t,.int .i64 c] true,.cells [.int .i64 5,.int .i64 x,.int .i64 y,.int .i64 z] true,.cells [.slice none 0 0 none,.int .i64 0,.int .i64 0,.slice none 0 0 none,.int .i64 0,.int .i64 0] true,.cells (Zu ls) true,.dead,.cells [slL (H.length+3) (ls.length) none,.int .i64 a,.int .i64 b,slS (H.length+7) (ss.length+1) none,.int .i64 t,.int .i64 c] true,.cells [.int .i64 x,.int .i64 y,.int .i64 z] true,.cells (ZI (ss++[(x,y,z)])) true],(Z6 none (H.length+5))⟩⟩:=by
 have happ:=fun L b q c e' (hb:L[b]?=some (.cells (ZI ss) true)) hq=>ZeV (e:=e') (L:=L) (b:=b) (q:=q) (n:=ss.length) (sz:=3) (bytes:=24) (c:=c) (cs:=ZI ss) (new:=[.int .i64 x,.int .i64 y,.int .i64 z]) hb hq (KI ss) rfl (by unfold maxBytes;omega)
 have hap2:ZI ss++[AV.int .i64 x,.int .i64 y,.int .i64 z]=ZI (ss++[(x,y,z)]):=by rw [Zdv];rfl
 have hfold:=Kn (pr:=pr)
 simp only [Yw,ZdQ,ZD] at hfold
 unfold ZA Ym
 simp only [ZdQ,ZD]
 simp (config:={ maxSteps:=2000000,contextual:=true }) only [hfold,Zb,or_true,true_or,RH,eq_self,happ,hap2,Zr,Zx,Rw,Rx,Ri,Zj,Zp,Ry,Rt,RF,not_true_eq_false,not_false_eq_true,decide_true,decide_false,go_sem,reduceIte,Ra,Rb,Rc,Rd]
set_option maxHeartbeats 8000000 in
theorem Zwe (hp:Zbc pr) {q1 q2:Nat} {c1 c2:Option Nat} {ls:List Ld} {ss:List Sg} {a b t c:Int} (hn:ls.length≤1048575) (hm:ss.length≤1048575) {x:Nat} (hi:x<ss.length) (y z:Int) {isL isS:Bool} :
  ZA pr ⟨[stV (slL q1 ls.length c1) a b (slS q2 ss.length c2) t c,tkV 6 x y z,.ptr (some (H.length,0)),.ptr (some (H.length+1,0)),.ptr (some (H.length+2,0)),.bool false,.ptr (some (H.length+5,0)),.bool false,.bool isL,.bool true,.bool false,.undef,.undef,.undef,.undef,.undef,.undef,.undef,.undef,.undef,.undef,.undef,.undef],⟨H++[.cells [slL q1 ls.length c1,.int .i64 a,.int .i64 b,slS q2 ss.length c2,.int .i64 t,.int .i64 c] true,.cells [.int .i64 6,.int .i64 x,.int .i64 y,.int .i64 z] true,.cells [.slice none 0 0 none,.int .i64 0,.int .i64 0,.slice none 0 0 none,.int .i64 0,.int .i64 0] true,.cells (Zu ls) true,.cells (ZI ss) true,.cells [slL (H.length+3) (ls.length) none,.int .i64 a,.int .i64 b,slS (H.length+4) (ss.length) none,.int .i64 t,.int .i64 c] true],none⟩⟩=Z3 pr ⟨[stV (slL q1 ls.length c1) a b (slS q2 ss.length c2) t c,tkV 6 x y z,.ptr (some (H.length,0)),.ptr (some (H.length+1,0)),.ptr (some (H.length+2,0)),.bool false,.ptr (some (H.length+5,0)),.bool (decide (y=0)&&decide (z=0)),.bool isL,.bool true,.bool false,.int .i64 6,.bool false,.bool false,.undef,.bool false,.undef,.bool false,.bool false,.bool true,.bool true,.undef,.undef],⟨H++[.cells [slL q1 ls.length c1,.int .i64 a,.int .i64 b,slS q2 ss.length c2,.int .i64 t,.int .i64 c] true,.cells [.int .i64 6,.int .i64 x,.int .i64 y,.int .i64 z] true,.cells [.slice none 0 0 none,.int .i64 0,.int .i64 0,.slice none 0 0 none,.int .i64 0,.int .i64 0] true,.cells (Zu ls) true,.dead,.cells [slL (H.length+3) (ls.length) none,.int .i64 a,.int .i64 b,slS (H.length+7) (ss.length - 1) none,.int .i64 t,.int .i64 c] true,.dead,.cells (ZI (ss.eraseIdx x)) true],(Z6 none (H.length+5))⟩⟩:=by
 have hdel:∀ L e b cap,L[b]?=some (.cells (ZI ss) true)→call T pr ZH [.slice (some (b,0)) 3 ss.length cap,.int .i64 x,.int .i64 (x+1:Nat)] ⟨L,e⟩=some (.slice (some (L.length+1,0)) 3 (ss.length - 1) none,⟨L.set b .dead++[.dead,.cells (ZI (ss.eraseIdx x)) true],e⟩):=by
  intro L e b cap hb
  rw [hp.2 L e b ss.length x cap (ZI ss) hb (KI ss) hi,Zmt]
 have hfold:=Kn (pr:=pr)
 simp only [Yw,ZdQ,ZD] at hfold
 unfold ZA Ym
 simp only [ZdQ,ZD]
 by_cases hy:y=0
 ·subst hy
  simp (config:={ maxSteps:=2000000,contextual:=true }) only [hfold,Zb,or_true,true_or,RH,eq_self,hdel,Zw (show x<9223372036854775807 by omega),Zr,Zx,Rw,Rx,Ri,Zj,Zp,Ry,Rt,RF,not_true_eq_false,not_false_eq_true,decide_true,decide_false,go_sem,reduceIte,Ra,Rb,Rc,Rd]
 ·simp (config:={ maxSteps:=2000000,contextual:=true }) only [hy,hfold,Zb,or_true,true_or,RH,eq_self,hdel,Zw (show x<9223372036854775807 by omega),Zr,Zx,Rw,Rx,Ri,Zj,Zp,Ry,Rt,RF,not_true_eq_false,not_false_eq_true,decide_true,decide_false,go_sem,reduceIte,Ra,Rb,Rc,Rd]
set_option maxHeartbeats 8000000 in
theorem Zuj {q1 q2:Nat} {c1 c2:Option Nat} {ls:List Ld} {ss:List Sg} {a b t c:Int} (hn:ls.length≤1048575) (hm:ss.length≤1048575) (x:Int) (y z:Int) {isL isS:Bool} :
  ZA pr ⟨[stV (slL q1 ls.length c1) a b (slS q2 ss.length c2) t c,tkV 6 x y z,.ptr (some (H.length,0)),.ptr (some (H.length+1,0)),.ptr (some (H.length+2,0)),.bool false,.ptr (some (H.length+5,0)),.bool false,.bool isL,.bool false,.bool false,.undef,.undef,.undef,.undef,.undef,.undef,.undef,.undef,.undef,.undef,.undef,.undef],⟨H++[.cells [slL q1 ls.length c1,.int .i64 a,.int .i64 b,slS q2 ss.length c2,.int .i64 t,.int .i64 c] true,.cells [.int .i64 6,.int .i64 x,.int .i64 y,.int .i64 z] true,.cells [.slice none 0 0 none,.int .i64 0,.int .i64 0,.slice none 0 0 none,.int .i64 0,.int .i64 0] true,.cells (Zu ls) true,.cells (ZI ss) true,.cells [slL (H.length+3) (ls.length) none,.int .i64 a,.int .i64 b,slS (H.length+4) (ss.length) none,.int .i64 t,.int .i64 c] true],none⟩⟩=Z3 pr ⟨[stV (slL q1 ls.length c1) a b (slS q2 ss.length c2) t c,tkV 6 x y z,.ptr (some (H.length,0)),.ptr (some (H.length+1,0)),.ptr (some (H.length+2,0)),.bool false,.ptr (some (H.length+5,0)),.bool false,.bool isL,.bool false,.bool false,.int .i64 6,.bool false,.bool false,.undef,.bool false,.undef,.bool false,.bool false,.bool true,.bool false,.undef,.undef],⟨H++[.cells [slL q1 ls.length c1,.int .i64 a,.int .i64 b,slS q2 ss.length c2,.int .i64 t,.int .i64 c] true,.cells [.int .i64 6,.int .i64 x,.int .i64 y,.int .i64 z] true,.cells [.slice none 0 0 none,.int .i64 0,.int .i64 0,.slice none 0 0 none,.int .i64 0,.int .i64 0] true,.cells (Zu ls) true,.cells (ZI ss) true,.cells [slL (H.length+3) (ls.length) none,.int .i64 a,.int .i64 b,slS (H.length+4) (ss.length) none,.int .i64 t,.int .i64 c] true],none⟩⟩:=by
 have hfold:=Kn (pr:=pr)
 simp only [Yw,ZdQ,ZD] at hfold
 unfold ZA Ym
 simp only [ZdQ,ZD]
 simp (config:={ maxSteps:=2000000,contextual:=true }) only [hfold,Zb,or_true,true_or,RH,eq_self,Zr,Zx,Rw,Rx,Ri,Zj,Zp,Ry,Rt,RF,not_true_eq_false,not_false_eq_true,decide_true,decide_false,go_sem,reduceIte,Ra,Rb,Rc,Rd]
set_option maxHeartbeats 8000000 in
theorem Zwf {q1 q2:Nat} {c1 c2:Option Nat} {ls:List Ld} {ss:List Sg} {a b t c:Int} (k x y z:Int) (k1:¬ k=1) (k2:¬ k=2) (k3:¬ k=3) (k4:¬ k=4) (k5:¬ k=5) (k6:¬ k=6) {isL isS:Bool} :
  ZA pr ⟨[stV (slL q1 ls.length c1) a b (slS q2 ss.length c2) t c,tkV k x y z,.ptr (some (H.length,0)),.ptr (some (H.length+1,0)),.ptr (some (H.length+2,0)),.bool false,.ptr (some (H.length+5,0)),.bool false,.bool isL,.bool isS,.bool false,.undef,.undef,.undef,.undef,.undef,.undef,.undef,.undef,.undef,.undef,.undef,.undef],⟨H++[.cells [slL q1 ls.length c1,.int .i64 a,.int .i64 b,slS q2 ss.length c2,.int .i64 t,.int .i64 c] true,.cells [.int .i64 k,.int .i64 x,.int .i64 y,.int .i64 z] true,.cells [.slice none 0 0 none,.int .i64 0,.int .i64 0,.slice none 0 0 none,.int .i64 0,.int .i64 0] true,.cells (Zu ls) true,.cells (ZI ss) true,.cells [slL (H.length+3) (ls.length) none,.int .i64 a,.int .i64 b,slS (H.length+4) (ss.length) none,.int .i64 t,.int .i64 c] true],none⟩⟩=Z3 pr ⟨[stV (slL q1 ls.length c1) a b (slS q2 ss.length c2) t c,tkV k x y z,.ptr (some (H.length,0)),.ptr (some (H.length+1,0)),.ptr (some (H.length+2,0)),.bool false,.ptr (some (H.length+5,0)),.bool false,.bool isL,.bool isS,.bool false,.int .i64 k,.bool false,.bool false,.undef,.bool false,.undef,.bool false,.bool false,.bool false,.undef,.undef,.undef],⟨H++[.cells [slL q1 ls.length c1,.int .i64 a,.int .i64 b,slS q2 ss.length c2,.int .i64 t,.int .i64 c] true,.cells [.int .i64 k,.int .i64 x,.int .i64 y,.int .i64 z] true,.cells [.slice none 0 0 none,.int .i64 0,.int .i64 0,.slice none 0 0 none,.int .i64 0,.int .i64 0] true,.cells (Zu ls) true,.cells (ZI ss) true,.cells [slL (H.length+3) (ls.length) none,.int .i64 a,.int .i64 b,slS (H.length+4) (ss.length) none,.int .i64 t,.int .i64 c] true],none⟩⟩:=by
 have hfold:=Kn (pr:=pr)
 simp only [Yw,ZdQ,ZD] at hfold
 unfold ZA Ym
 simp only [ZdQ,ZD]
 simp (config:={ maxSteps:=2000000,contextual:=true }) only [hfold,Zb,k1,k2,k3,k4,k5,k6,Zr,Zx,Rw,Rx,Ri,Zj,Zp,Ry,Rt,RF,not_true_eq_false,not_false_eq_true,decide_true,decide_false,go_sem,reduceIte,Ra,Rb,Rc,Rd]
theorem Zbd (B0 B1 X3 X4 B5:Blk) (G:List Blk) (y0 y1 y2 y3 y6:AV) (ys:List AV) (e1:Option Nat) (hc:clean H.length e1=true) :
  QN XV ⟨H,e⟩ (some (Ex.ret,⟨y0::y1::y2::y3::.ptr (some (H.length+2,0))::.bool false::y6::ys,⟨H++(B0::B1::.cells [.slice none 0 0 none,.int .i64 0,.int .i64 0,.slice none 0 0 none,.int .i64 0,.int .i64 0] true::X3::X4::B5::G),e1⟩⟩))=some (.tup [ZfM,.bool false],⟨H,e⟩):=by
 have hfN:∀ (G:List Blk) (e0 e1:Option Nat),clean H.length e1=true→finish 2 H.length e0 (.tup [ZfM,.bool false]) ⟨H++G,e1⟩=some (.tup [ZfM,.bool false],⟨H,e0⟩) :=
  fun G e0 e1 hc=>ZgB 0 0 0 0 false e0 e1 hc
 simp +contextual only [XV,hfN,hc,go_sem,reduceIte,Ra,Rb,Rc,Rd]
theorem ZhM (B0 B1 X3 X4 B5:Blk) (G:List Blk) (y0 y1 y2 y3 y6:AV) (ys:List AV) (e1:Option Nat) {j1 j2 n m:Nat} {a b t c:Int} {ls:List Ld} {ss:List Sg} (hc:clean H.length e1=true) (hn:ls.length=n) (hm:ss.length=m) (hj:j1≠j2)
  (h1:∀ B2,(B0::B1::B2::X3::X4::B5::G)[j1]?=some (.cells (Zu ls) true)) (h2:∀ B2,(B0::B1::B2::X3::X4::B5::G)[j2]?=some (.cells (ZI ss) true)) :
  QN XV ⟨H,e⟩ (some (Ex.ret,⟨y0::y1::y2::y3::.ptr (some (H.length+2,0))::.bool true::y6::ys,⟨H++(B0::B1::.cells [slL (H.length+j1) n none,.int .i64 a,.int .i64 b,slS (H.length+j2) m none,.int .i64 t,.int .i64 c] true::X3::X4::B5::G),e1⟩⟩)) =
   some (.tup [stV (slL H.length n none) a b (slS (H.length+1) m none) t c,.bool true],⟨H++[.cells (Zu ls) true,.cells (ZI ss) true],e⟩):=by
 have hf:∀ (B2:Blk),finish 2 H.length e (.tup [stV (slL (H.length+j1) n none) a b (slS (H.length+j2) m none) t c,.bool true]) ⟨H++(B0::B1::B2::X3::X4::B5::G),e1⟩ =
   some (.tup [stV (slL H.length n none) a b (slS (H.length+1) m none) t c,.bool true],⟨H++[.cells (Zu ls) true,.cells (ZI ss) true],e⟩) :=
  fun B2=>Zdo a b t c true e e1 hc (h1 B2) (h2 B2) hj (Yk _ _) (Yx _ _)
 simp +contextual only [XV,hf,go_sem,reduceIte,Ra,Rb,Rc,Rd]
theorem Zwg {q1 q2:Nat} {c1 c2:Option Nat} {ls:List Ld} {ss:List Sg} {a b t c:Int} (h1:Za H q1=some (Zu ls)) (h2:Za H q2=some (ZI ss)) (hn:ls.length≤1048575) (hm:ss.length≤1048575) (x y z:Int) (hv:Zhb ls ss a b t c=true) :
  call T pr Xb [stV (slL q1 ls.length c1) a b (slS q2 ss.length c2) t c,tkV 1 x y z] ⟨H,e⟩ =
   ZcH H e (ZhL ls ss a b t c 1 x y z) (Zfj ls 1 x y) (Xk ss 1 x y z) (Xq a 1 x) (Xq b 1 y) (Zcb ls a b t 1 x y) (wr (c+1)):=by
 rw [Zdw h1 h2 hn hm 1 x y z hv,Zdx hn hm 1 x y z]
 unfold ZcH ZhL Zcb wr
 have er:Zfj ls 1 x y=ls++[(x,y)]:=by simp [Zfj]
 have ec:Xk ss 1 x y z=ss:=by simp [Xk]
 have ea:∀ a x,Xq a 1 x=a:=fun a x=>by simp [Xq]
 rw [ZA0,er,ec,ea,ea]
 have hrl:(ls++[(x,y)]).length=ls.length+1:=by simp
 have hcl:ss.length=ss.length:=rfl
 rw [Zv9 hn hm x y z]
 cases hz:decide (z=0) with
 | false=>
  rw [RG]
  rw [KJ (B0:=.cells [slL q1 ls.length c1,.int .i64 a,.int .i64 b,slS q2 ss.length c2,.int .i64 t,.int .i64 c] true) (B1:=.cells [.int .i64 1,.int .i64 x,.int .i64 y,.int .i64 z] true) (X3:=.dead) (X4:=(.cells (ZI ss) true)) (G:=[.cells [.int .i64 x,.int .i64 y] true,.cells (Zu (ls++[(x,y)])) true]) (n:=ls.length+1) (m:=ss.length) (ls:=ls++[(x,y)]) (ss:=ss) (a:=a) (b:=b) (t:=t) (c:=c) (j1:=7) (j2:=4) hrl hcl (by omega) (by omega) (fun _ _=>rfl) (fun _ _=>rfl) rfl]
  rw [Zbd _ _ _ _ _ _ _ _ _ _ _ _ _ (by first | rfl | simp [clean,Z6])]
  rw [if_neg (by simp)]
 | true=>
  rw [RI]
  cases hg:Zhb (ls++[(x,y)]) (ss) a b t (IntKind.i64.wrap (c+1)) with
  | false=>
   rw [KJ (B0:=.cells [slL q1 ls.length c1,.int .i64 a,.int .i64 b,slS q2 ss.length c2,.int .i64 t,.int .i64 c] true) (B1:=.cells [.int .i64 1,.int .i64 x,.int .i64 y,.int .i64 z] true) (X3:=.dead) (X4:=(.cells (ZI ss) true)) (G:=[.cells [.int .i64 x,.int .i64 y] true,.cells (Zu (ls++[(x,y)])) true]) (n:=ls.length+1) (m:=ss.length) (ls:=ls++[(x,y)]) (ss:=ss) (a:=a) (b:=b) (t:=t) (c:=c) (j1:=7) (j2:=4) hrl hcl (by omega) (by omega) (fun _ _=>rfl) (fun _ _=>rfl) (by rw [hg,RJ])]
   rw [Zbd _ _ _ _ _ _ _ _ _ _ _ _ _ (by first | rfl | simp [clean,Z6])]
   rw [if_neg (by simp)]
  | true=>
   rw [ZeW (B0:=.cells [slL q1 ls.length c1,.int .i64 a,.int .i64 b,slS q2 ss.length c2,.int .i64 t,.int .i64 c] true) (B1:=.cells [.int .i64 1,.int .i64 x,.int .i64 y,.int .i64 z] true) (X3:=.dead) (X4:=(.cells (ZI ss) true)) (G:=[.cells [.int .i64 x,.int .i64 y] true,.cells (Zu (ls++[(x,y)])) true]) (n:=ls.length+1) (m:=ss.length) (ls:=ls++[(x,y)]) (ss:=ss) (a:=a) (b:=b) (t:=t) (c:=c) (j1:=7) (j2:=4) hrl hcl (by omega) (by omega) (fun _ _=>rfl) (fun _ _=>rfl) (by omega) hg]
   rw [ZhM _ _ _ _ _ _ _ _ _ _ _ _ _ (by simp [clean,Z6]) hrl hcl (by decide) (fun _=>rfl) (fun _=>rfl),hrl,hcl]
   rfl
theorem Zwh (hp:Zbc pr) {q1 q2:Nat} {c1 c2:Option Nat} {ls:List Ld} {ss:List Sg} {a b t c:Int} (h1:Za H q1=some (Zu ls)) (h2:Za H q2=some (ZI ss)) (hn:ls.length≤1048575) (hm:ss.length≤1048575) (x y z:Int) (hv:Zhb ls ss a b t c=true) :
  call T pr Xb [stV (slL q1 ls.length c1) a b (slS q2 ss.length c2) t c,tkV 2 x y z] ⟨H,e⟩ =
   ZcH H e (ZhL ls ss a b t c 2 x y z) (Zfj ls 2 x y) (Xk ss 2 x y z) (Xq a 2 x) (Xq b 2 y) (Zcb ls a b t 2 x y) (wr (c+1)):=by
 rw [Zdw h1 h2 hn hm 2 x y z hv,Zdx hn hm 2 x y z]
 unfold ZcH ZhL Zcb wr
 have er:Zfj ls 2 x y=ls.eraseIdx x.toNat:=by simp [Zfj]
 have ec:Xk ss 2 x y z=ss:=by simp [Xk]
 have ea:∀ a x,Xq a 2 x=a:=fun a x=>by simp [Xq]
 rw [ZA1,er,ec,ea,ea]
 cases hb:(decide (0≤x)&&decide (x≤(ls.length:Int) - 1)) with
 | false=>
  have hrl:ls.length=ls.length:=rfl
  have hcl:ss.length=ss.length:=rfl
  rw [Zuh (isL:=false) hn hm x y z,RG,RG,RG]
  rw [KJ (B0:=.cells [slL q1 ls.length c1,.int .i64 a,.int .i64 b,slS q2 ss.length c2,.int .i64 t,.int .i64 c] true) (B1:=.cells [.int .i64 2,.int .i64 x,.int .i64 y,.int .i64 z] true) (X3:=(.cells (Zu ls) true)) (X4:=(.cells (ZI ss) true)) (G:=[]) (n:=ls.length) (m:=ss.length) (ls:=ls) (ss:=ss) (a:=a) (b:=b) (t:=t) (c:=c) (j1:=3) (j2:=4) hrl hcl (by omega) (by omega) (fun _ _=>rfl) (fun _ _=>rfl) rfl]
  rw [Zbd _ _ _ _ _ _ _ _ _ _ _ _ _ (by first | rfl | simp [clean,Z6])]
  rw [if_neg (by simp)]
 | true=>
  have hbb:0≤x∧x≤(ls.length:Int) - 1:=by simpa using hb
  obtain ⟨i,rfl⟩:∃ i:Nat,x=i:=⟨x.toNat,by omega⟩
  have hi:i<ls.length:=by omega
  have hrl:(ls.eraseIdx i).length=ls.length - 1:=by rw [RK,if_pos hi]
  have hcl:ss.length=ss.length:=rfl
  rw [Zwa hp (isL:=false) hn hm hi y z,Int.toNat_natCast,RI]
  cases hz:(decide (y=0)&&decide (z=0)) with
  | false=>
   rw [RG]
   rw [KJ (B0:=.cells [slL q1 ls.length c1,.int .i64 a,.int .i64 b,slS q2 ss.length c2,.int .i64 t,.int .i64 c] true) (B1:=.cells [.int .i64 2,.int .i64 i,.int .i64 y,.int .i64 z] true) (X3:=.dead) (X4:=(.cells (ZI ss) true)) (G:=[.dead,.cells (Zu (ls.eraseIdx i)) true]) (n:=ls.length - 1) (m:=ss.length) (ls:=ls.eraseIdx i) (ss:=ss) (a:=a) (b:=b) (t:=t) (c:=c) (j1:=7) (j2:=4) hrl hcl (by omega) (by omega) (fun _ _=>rfl) (fun _ _=>rfl) rfl]
   rw [Zbd _ _ _ _ _ _ _ _ _ _ _ _ _ (by first | rfl | simp [clean,Z6])]
   rw [if_neg (by simp)]
  | true=>
   rw [RI]
   cases hg:Zhb (ls.eraseIdx i) (ss) a b t (IntKind.i64.wrap (c+1)) with
   | false=>
    rw [KJ (B0:=.cells [slL q1 ls.length c1,.int .i64 a,.int .i64 b,slS q2 ss.length c2,.int .i64 t,.int .i64 c] true) (B1:=.cells [.int .i64 2,.int .i64 i,.int .i64 y,.int .i64 z] true) (X3:=.dead) (X4:=(.cells (ZI ss) true)) (G:=[.dead,.cells (Zu (ls.eraseIdx i)) true]) (n:=ls.length - 1) (m:=ss.length) (ls:=ls.eraseIdx i) (ss:=ss) (a:=a) (b:=b) (t:=t) (c:=c) (j1:=7) (j2:=4) hrl hcl (by omega) (by omega) (fun _ _=>rfl) (fun _ _=>rfl) (by rw [hg,RJ])]
    rw [Zbd _ _ _ _ _ _ _ _ _ _ _ _ _ (by first | rfl | simp [clean,Z6])]
    rw [if_neg (by simp)]
   | true=>
    rw [ZeW (B0:=.cells [slL q1 ls.length c1,.int .i64 a,.int .i64 b,slS q2 ss.length c2,.int .i64 t,.int .i64 c] true) (B1:=.cells [.int .i64 2,.int .i64 i,.int .i64 y,.int .i64 z] true) (X3:=.dead) (X4:=(.cells (ZI ss) true)) (G:=[.dead,.cells (Zu (ls.eraseIdx i)) true]) (n:=ls.length - 1) (m:=ss.length) (ls:=ls.eraseIdx i) (ss:=ss) (a:=a) (b:=b) (t:=t) (c:=c) (j1:=7) (j2:=4) hrl hcl (by omega) (by omega) (fun _ _=>rfl) (fun _ _=>rfl) (by omega) hg]
    rw [ZhM _ _ _ _ _ _ _ _ _ _ _ _ _ (by simp [clean,Z6]) hrl hcl (by decide) (fun _=>rfl) (fun _=>rfl),hrl,hcl]
    rfl
theorem Zwi {q1 q2:Nat} {c1 c2:Option Nat} {ls:List Ld} {ss:List Sg} {a b t c:Int} (h1:Za H q1=some (Zu ls)) (h2:Za H q2=some (ZI ss)) (hn:ls.length≤1048575) (hm:ss.length≤1048575) (x y z:Int) (hv:Zhb ls ss a b t c=true) :
  call T pr Xb [stV (slL q1 ls.length c1) a b (slS q2 ss.length c2) t c,tkV 3 x y z] ⟨H,e⟩ =
   ZcH H e (ZhL ls ss a b t c 3 x y z) (Zfj ls 3 x y) (Xk ss 3 x y z) (Xq a 3 x) (Xq b 3 y) (Zcb ls a b t 3 x y) (wr (c+1)):=by
 rw [Zdw h1 h2 hn hm 3 x y z hv,Zdx hn hm 3 x y z]
 unfold ZcH ZhL Zcb wr
 have er:Zfj ls 3 x y=ZnP ls x.toNat y:=by simp [Zfj]
 have ec:Xk ss 3 x y z=ss:=by simp [Xk]
 have ea:∀ a x,Xq a 3 x=a:=fun a x=>by simp [Xq]
 rw [ZA2,er,ec,ea,ea]
 cases hb:(decide (0≤x)&&decide (x≤(ls.length:Int) - 1)) with
 | false=>
  have hrl:ls.length=ls.length:=rfl
  have hcl:ss.length=ss.length:=rfl
  rw [Zui (isL:=false) hn hm x y z,RG,RG]
  rw [KJ (B0:=.cells [slL q1 ls.length c1,.int .i64 a,.int .i64 b,slS q2 ss.length c2,.int .i64 t,.int .i64 c] true) (B1:=.cells [.int .i64 3,.int .i64 x,.int .i64 y,.int .i64 z] true) (X3:=(.cells (Zu ls) true)) (X4:=(.cells (ZI ss) true)) (G:=[]) (n:=ls.length) (m:=ss.length) (ls:=ls) (ss:=ss) (a:=a) (b:=b) (t:=t) (c:=c) (j1:=3) (j2:=4) hrl hcl (by omega) (by omega) (fun _ _=>rfl) (fun _ _=>rfl) rfl]
  rw [Zbd _ _ _ _ _ _ _ _ _ _ _ _ _ (by first | rfl | simp [clean,Z6])]
  rw [if_neg (by simp)]
 | true=>
  have hbb:0≤x∧x≤(ls.length:Int) - 1:=by simpa using hb
  obtain ⟨i,rfl⟩:∃ i:Nat,x=i:=⟨x.toNat,by omega⟩
  have hi:i<ls.length:=by omega
  have hrl:(ZnP ls i y).length=ls.length:=Zds ls i y
  have hcl:ss.length=ss.length:=rfl
  rw [Zwb (isL:=false) hn hm hi y z,Int.toNat_natCast,RI]
  cases hz:decide (z=0) with
  | false=>
   rw [RG]
   rw [KJ (B0:=.cells [slL q1 ls.length c1,.int .i64 a,.int .i64 b,slS q2 ss.length c2,.int .i64 t,.int .i64 c] true) (B1:=.cells [.int .i64 3,.int .i64 i,.int .i64 y,.int .i64 z] true) (X3:=(.cells (Zu (ZnP ls i y)) true)) (X4:=(.cells (ZI ss) true)) (G:=[]) (n:=ls.length) (m:=ss.length) (ls:=ZnP ls i y) (ss:=ss) (a:=a) (b:=b) (t:=t) (c:=c) (j1:=3) (j2:=4) hrl hcl (by omega) (by omega) (fun _ _=>rfl) (fun _ _=>rfl) rfl]
   rw [Zbd _ _ _ _ _ _ _ _ _ _ _ _ _ (by first | rfl | simp [clean,Z6])]
   rw [if_neg (by simp)]
  | true=>
   rw [RI]
   cases hg:Zhb (ZnP ls i y) (ss) a b t (IntKind.i64.wrap (c+1)) with
   | false=>
    rw [KJ (B0:=.cells [slL q1 ls.length c1,.int .i64 a,.int .i64 b,slS q2 ss.length c2,.int .i64 t,.int .i64 c] true) (B1:=.cells [.int .i64 3,.int .i64 i,.int .i64 y,.int .i64 z] true) (X3:=(.cells (Zu (ZnP ls i y)) true)) (X4:=(.cells (ZI ss) true)) (G:=[]) (n:=ls.length) (m:=ss.length) (ls:=ZnP ls i y) (ss:=ss) (a:=a) (b:=b) (t:=t) (c:=c) (j1:=3) (j2:=4) hrl hcl (by omega) (by omega) (fun _ _=>rfl) (fun _ _=>rfl) (by rw [hg,RJ])]
    rw [Zbd _ _ _ _ _ _ _ _ _ _ _ _ _ (by first | rfl | simp [clean,Z6])]
    rw [if_neg (by simp)]
   | true=>
    rw [ZeW (B0:=.cells [slL q1 ls.length c1,.int .i64 a,.int .i64 b,slS q2 ss.length c2,.int .i64 t,.int .i64 c] true) (B1:=.cells [.int .i64 3,.int .i64 i,.int .i64 y,.int .i64 z] true) (X3:=(.cells (Zu (ZnP ls i y)) true)) (X4:=(.cells (ZI ss) true)) (G:=[]) (n:=ls.length) (m:=ss.length) (ls:=ZnP ls i y) (ss:=ss) (a:=a) (b:=b) (t:=t) (c:=c) (j1:=3) (j2:=4) hrl hcl (by omega) (by omega) (fun _ _=>rfl) (fun _ _=>rfl) (by omega) hg]
    rw [ZhM _ _ _ _ _ _ _ _ _ _ _ _ _ (by simp [clean,Z6]) hrl hcl (by decide) (fun _=>rfl) (fun _=>rfl),hrl,hcl]
    rfl
theorem Zwj {q1 q2:Nat} {c1 c2:Option Nat} {ls:List Ld} {ss:List Sg} {a b t c:Int} (h1:Za H q1=some (Zu ls)) (h2:Za H q2=some (ZI ss)) (hn:ls.length≤1048575) (hm:ss.length≤1048575) (x y z:Int) (hv:Zhb ls ss a b t c=true) :
  call T pr Xb [stV (slL q1 ls.length c1) a b (slS q2 ss.length c2) t c,tkV 4 x y z] ⟨H,e⟩ =
   ZcH H e (ZhL ls ss a b t c 4 x y z) (Zfj ls 4 x y) (Xk ss 4 x y z) (Xq a 4 x) (Xq b 4 y) (Zcb ls a b t 4 x y) (wr (c+1)):=by
 rw [Zdw h1 h2 hn hm 4 x y z hv,Zdx hn hm 4 x y z]
 unfold ZcH ZhL Zcb wr
 have er:Zfj ls 4 x y=ls:=by simp [Zfj]
 have ec:Xk ss 4 x y z=ss:=by simp [Xk]
 have ea:∀ a x,Xq a 4 x=x:=fun a x=>by simp [Xq]
 rw [ZA3,er,ec,ea,ea]
 have hrl:ls.length=ls.length:=rfl
 have hcl:ss.length=ss.length:=rfl
 rw [Zwc hn hm x y z]
 cases hz:decide (z=0) with
 | false=>
  rw [RG]
  rw [KJ (B0:=.cells [slL q1 ls.length c1,.int .i64 a,.int .i64 b,slS q2 ss.length c2,.int .i64 t,.int .i64 c] true) (B1:=.cells [.int .i64 4,.int .i64 x,.int .i64 y,.int .i64 z] true) (X3:=(.cells (Zu ls) true)) (X4:=(.cells (ZI ss) true)) (G:=[]) (n:=ls.length) (m:=ss.length) (ls:=ls) (ss:=ss) (a:=x) (b:=y) (t:=t) (c:=c) (j1:=3) (j2:=4) hrl hcl (by omega) (by omega) (fun _ _=>rfl) (fun _ _=>rfl) rfl]
  rw [Zbd _ _ _ _ _ _ _ _ _ _ _ _ _ (by first | rfl | simp [clean,Z6])]
  rw [if_neg (by simp)]
 | true=>
  rw [RI]
  cases hg:Zhb (ls) (ss) x y t (IntKind.i64.wrap (c+1)) with
  | false=>
   rw [KJ (B0:=.cells [slL q1 ls.length c1,.int .i64 a,.int .i64 b,slS q2 ss.length c2,.int .i64 t,.int .i64 c] true) (B1:=.cells [.int .i64 4,.int .i64 x,.int .i64 y,.int .i64 z] true) (X3:=(.cells (Zu ls) true)) (X4:=(.cells (ZI ss) true)) (G:=[]) (n:=ls.length) (m:=ss.length) (ls:=ls) (ss:=ss) (a:=x) (b:=y) (t:=t) (c:=c) (j1:=3) (j2:=4) hrl hcl (by omega) (by omega) (fun _ _=>rfl) (fun _ _=>rfl) (by rw [hg,RJ])]
   rw [Zbd _ _ _ _ _ _ _ _ _ _ _ _ _ (by first | rfl | simp [clean,Z6])]
   rw [if_neg (by simp)]
  | true=>
   rw [ZeW (B0:=.cells [slL q1 ls.length c1,.int .i64 a,.int .i64 b,slS q2 ss.length c2,.int .i64 t,.int .i64 c] true) (B1:=.cells [.int .i64 4,.int .i64 x,.int .i64 y,.int .i64 z] true) (X3:=(.cells (Zu ls) true)) (X4:=(.cells (ZI ss) true)) (G:=[]) (n:=ls.length) (m:=ss.length) (ls:=ls) (ss:=ss) (a:=x) (b:=y) (t:=t) (c:=c) (j1:=3) (j2:=4) hrl hcl (by omega) (by omega) (fun _ _=>rfl) (fun _ _=>rfl) (by omega) hg]
   rw [ZhM _ _ _ _ _ _ _ _ _ _ _ _ _ (by simp [clean,Z6]) hrl hcl (by decide) (fun _=>rfl) (fun _=>rfl),hrl,hcl]
   rfl
theorem Zwk {q1 q2:Nat} {c1 c2:Option Nat} {ls:List Ld} {ss:List Sg} {a b t c:Int} (h1:Za H q1=some (Zu ls)) (h2:Za H q2=some (ZI ss)) (hn:ls.length≤1048575) (hm:ss.length≤1048575) (x y z:Int) (hv:Zhb ls ss a b t c=true) :
  call T pr Xb [stV (slL q1 ls.length c1) a b (slS q2 ss.length c2) t c,tkV 5 x y z] ⟨H,e⟩ =
   ZcH H e (ZhL ls ss a b t c 5 x y z) (Zfj ls 5 x y) (Xk ss 5 x y z) (Xq a 5 x) (Xq b 5 y) (Zcb ls a b t 5 x y) (wr (c+1)):=by
 rw [Zdw h1 h2 hn hm 5 x y z hv,Zdx hn hm 5 x y z]
 unfold ZcH ZhL Zcb wr
 have er:Zfj ls 5 x y=ls:=by simp [Zfj]
 have ec:Xk ss 5 x y z=ss++[(x,y,z)]:=by simp [Xk]
 have ea:∀ a x,Xq a 5 x=a:=fun a x=>by simp [Xq]
 rw [ZA4,er,ec,ea,ea]
 have hrl:ls.length=ls.length:=rfl
 have hcl:(ss++[(x,y,z)]).length=ss.length+1:=by simp
 rw [Zwd hn hm x y z,RI]
 cases hg:Zhb (ls) (ss++[(x,y,z)]) a b t (IntKind.i64.wrap (c+1)) with
 | false=>
  rw [KJ (B0:=.cells [slL q1 ls.length c1,.int .i64 a,.int .i64 b,slS q2 ss.length c2,.int .i64 t,.int .i64 c] true) (B1:=.cells [.int .i64 5,.int .i64 x,.int .i64 y,.int .i64 z] true) (X3:=(.cells (Zu ls) true)) (X4:=.dead) (G:=[.cells [.int .i64 x,.int .i64 y,.int .i64 z] true,.cells (ZI (ss++[(x,y,z)])) true]) (n:=ls.length) (m:=ss.length+1) (ls:=ls) (ss:=ss++[(x,y,z)]) (a:=a) (b:=b) (t:=t) (c:=c) (j1:=3) (j2:=7) hrl hcl (by omega) (by omega) (fun _ _=>rfl) (fun _ _=>rfl) (by rw [hg,RJ])]
  rw [Zbd _ _ _ _ _ _ _ _ _ _ _ _ _ (by first | rfl | simp [clean,Z6])]
  rw [if_neg (by simp)]
 | true=>
  rw [ZeW (B0:=.cells [slL q1 ls.length c1,.int .i64 a,.int .i64 b,slS q2 ss.length c2,.int .i64 t,.int .i64 c] true) (B1:=.cells [.int .i64 5,.int .i64 x,.int .i64 y,.int .i64 z] true) (X3:=(.cells (Zu ls) true)) (X4:=.dead) (G:=[.cells [.int .i64 x,.int .i64 y,.int .i64 z] true,.cells (ZI (ss++[(x,y,z)])) true]) (n:=ls.length) (m:=ss.length+1) (ls:=ls) (ss:=ss++[(x,y,z)]) (a:=a) (b:=b) (t:=t) (c:=c) (j1:=3) (j2:=7) hrl hcl (by omega) (by omega) (fun _ _=>rfl) (fun _ _=>rfl) (by omega) hg]
  rw [ZhM _ _ _ _ _ _ _ _ _ _ _ _ _ (by simp [clean,Z6]) hrl hcl (by decide) (fun _=>rfl) (fun _=>rfl),hrl,hcl]
  rfl
theorem Zwl (hp:Zbc pr) {q1 q2:Nat} {c1 c2:Option Nat} {ls:List Ld} {ss:List Sg} {a b t c:Int} (h1:Za H q1=some (Zu ls)) (h2:Za H q2=some (ZI ss)) (hn:ls.length≤1048575) (hm:ss.length≤1048575) (x y z:Int) (hv:Zhb ls ss a b t c=true) :
  call T pr Xb [stV (slL q1 ls.length c1) a b (slS q2 ss.length c2) t c,tkV 6 x y z] ⟨H,e⟩ =
   ZcH H e (ZhL ls ss a b t c 6 x y z) (Zfj ls 6 x y) (Xk ss 6 x y z) (Xq a 6 x) (Xq b 6 y) (Zcb ls a b t 6 x y) (wr (c+1)):=by
 rw [Zdw h1 h2 hn hm 6 x y z hv,Zdx hn hm 6 x y z]
 unfold ZcH ZhL Zcb wr
 have er:Zfj ls 6 x y=ls:=by simp [Zfj]
 have ec:Xk ss 6 x y z=ss.eraseIdx x.toNat:=by simp [Xk]
 have ea:∀ a x,Xq a 6 x=a:=fun a x=>by simp [Xq]
 rw [ZA5,er,ec,ea,ea]
 cases hb:(decide (0≤x)&&decide (x≤(ss.length:Int) - 1)) with
 | false=>
  have hrl:ls.length=ls.length:=rfl
  have hcl:ss.length=ss.length:=rfl
  rw [Zuj (isS:=false) hn hm x y z,RG,RG,RG]
  rw [KJ (B0:=.cells [slL q1 ls.length c1,.int .i64 a,.int .i64 b,slS q2 ss.length c2,.int .i64 t,.int .i64 c] true) (B1:=.cells [.int .i64 6,.int .i64 x,.int .i64 y,.int .i64 z] true) (X3:=(.cells (Zu ls) true)) (X4:=(.cells (ZI ss) true)) (G:=[]) (n:=ls.length) (m:=ss.length) (ls:=ls) (ss:=ss) (a:=a) (b:=b) (t:=t) (c:=c) (j1:=3) (j2:=4) hrl hcl (by omega) (by omega) (fun _ _=>rfl) (fun _ _=>rfl) rfl]
  rw [Zbd _ _ _ _ _ _ _ _ _ _ _ _ _ (by first | rfl | simp [clean,Z6])]
  rw [if_neg (by simp)]
 | true=>
  have hbb:0≤x∧x≤(ss.length:Int) - 1:=by simpa using hb
  obtain ⟨i,rfl⟩:∃ i:Nat,x=i:=⟨x.toNat,by omega⟩
  have hi:i<ss.length:=by omega
  have hrl:ls.length=ls.length:=rfl
  have hcl:(ss.eraseIdx i).length=ss.length - 1:=by rw [RK,if_pos hi]
  rw [Zwe hp (isS:=false) hn hm hi y z,Int.toNat_natCast,RI]
  cases hz:(decide (y=0)&&decide (z=0)) with
  | false=>
   rw [RG]
   rw [KJ (B0:=.cells [slL q1 ls.length c1,.int .i64 a,.int .i64 b,slS q2 ss.length c2,.int .i64 t,.int .i64 c] true) (B1:=.cells [.int .i64 6,.int .i64 i,.int .i64 y,.int .i64 z] true) (X3:=(.cells (Zu ls) true)) (X4:=.dead) (G:=[.dead,.cells (ZI (ss.eraseIdx i)) true]) (n:=ls.length) (m:=ss.length - 1) (ls:=ls) (ss:=ss.eraseIdx i) (a:=a) (b:=b) (t:=t) (c:=c) (j1:=3) (j2:=7) hrl hcl (by omega) (by omega) (fun _ _=>rfl) (fun _ _=>rfl) rfl]
   rw [Zbd _ _ _ _ _ _ _ _ _ _ _ _ _ (by first | rfl | simp [clean,Z6])]
   rw [if_neg (by simp)]
  | true=>
   rw [RI]
   cases hg:Zhb (ls) (ss.eraseIdx i) a b t (IntKind.i64.wrap (c+1)) with
   | false=>
    rw [KJ (B0:=.cells [slL q1 ls.length c1,.int .i64 a,.int .i64 b,slS q2 ss.length c2,.int .i64 t,.int .i64 c] true) (B1:=.cells [.int .i64 6,.int .i64 i,.int .i64 y,.int .i64 z] true) (X3:=(.cells (Zu ls) true)) (X4:=.dead) (G:=[.dead,.cells (ZI (ss.eraseIdx i)) true]) (n:=ls.length) (m:=ss.length - 1) (ls:=ls) (ss:=ss.eraseIdx i) (a:=a) (b:=b) (t:=t) (c:=c) (j1:=3) (j2:=7) hrl hcl (by omega) (by omega) (fun _ _=>rfl) (fun _ _=>rfl) (by rw [hg,RJ])]
    rw [Zbd _ _ _ _ _ _ _ _ _ _ _ _ _ (by first | rfl | simp [clean,Z6])]
    rw [if_neg (by simp)]
   | true=>
    rw [ZeW (B0:=.cells [slL q1 ls.length c1,.int .i64 a,.int .i64 b,slS q2 ss.length c2,.int .i64 t,.int .i64 c] true) (B1:=.cells [.int .i64 6,.int .i64 i,.int .i64 y,.int .i64 z] true) (X3:=(.cells (Zu ls) true)) (X4:=.dead) (G:=[.dead,.cells (ZI (ss.eraseIdx i)) true]) (n:=ls.length) (m:=ss.length - 1) (ls:=ls) (ss:=ss.eraseIdx i) (a:=a) (b:=b) (t:=t) (c:=c) (j1:=3) (j2:=7) hrl hcl (by omega) (by omega) (fun _ _=>rfl) (fun _ _=>rfl) (by omega) hg]
    rw [ZhM _ _ _ _ _ _ _ _ _ _ _ _ _ (by simp [clean,Z6]) hrl hcl (by decide) (fun _=>rfl) (fun _=>rfl),hrl,hcl]
    rfl
theorem Zwm {q1 q2:Nat} {c1 c2:Option Nat} {ls:List Ld} {ss:List Sg} {a b t c:Int} (h1:Za H q1=some (Zu ls)) (h2:Za H q2=some (ZI ss)) (hn:ls.length≤1048575) (hm:ss.length≤1048575) (k x y z:Int) (hv:Zhb ls ss a b t c=true) (k1:¬ k=1) (k2:¬ k=2) (k3:¬ k=3) (k4:¬ k=4) (k5:¬ k=5) (k6:¬ k=6) :
  call T pr Xb [stV (slL q1 ls.length c1) a b (slS q2 ss.length c2) t c,tkV k x y z] ⟨H,e⟩ =
   ZcH H e (ZhL ls ss a b t c k x y z) (Zfj ls k x y) (Xk ss k x y z) (Xq a k x) (Xq b k y) (Zcb ls a b t k x y) (wr (c+1)):=by
 rw [Zdw h1 h2 hn hm k x y z hv,Zdx hn hm k x y z]
 unfold ZcH ZhL Zcb wr
 have em:Zmv ls ss k x y z=false:=by simp [Zmv,k1,k2,k3,k4,k5,k6]
 rw [em,RG,Zwf k x y z k1 k2 k3 k4 k5 k6]
 have hrl:ls.length=ls.length:=rfl
 have hcl:ss.length=ss.length:=rfl
 rw [KJ (B0:=.cells [slL q1 ls.length c1,.int .i64 a,.int .i64 b,slS q2 ss.length c2,.int .i64 t,.int .i64 c] true) (B1:=.cells [.int .i64 k,.int .i64 x,.int .i64 y,.int .i64 z] true) (X3:=(.cells (Zu ls) true)) (X4:=(.cells (ZI ss) true)) (G:=[]) (n:=ls.length) (m:=ss.length) (ls:=ls) (ss:=ss) (a:=a) (b:=b) (t:=t) (c:=c) (j1:=3) (j2:=4) hrl hcl (by omega) (by omega) (fun _ _=>rfl) (fun _ _=>rfl) rfl]
 rw [Zbd _ _ _ _ _ _ _ _ _ _ _ _ _ (by first | rfl | simp [clean,Z6])]
 rw [if_neg (by simp)]
theorem Zuk (hp:Zbc pr) {q1 q2:Nat} {c1 c2:Option Nat} {ls:List Ld} {ss:List Sg} {a b t c:Int} (h1:Za H q1=some (Zu ls)) (h2:Za H q2=some (ZI ss)) (hn:ls.length≤1048575) (hm:ss.length≤1048575) (k x y z:Int) (hv:Zhb ls ss a b t c=true) :
  call T pr Xb [stV (slL q1 ls.length c1) a b (slS q2 ss.length c2) t c,tkV k x y z] ⟨H,e⟩ =
   ZcH H e (ZhL ls ss a b t c k x y z) (Zfj ls k x y) (Xk ss k x y z) (Xq a k x) (Xq b k y) (Zcb ls a b t k x y) (wr (c+1)):=by
 by_cases k1:k=1
 ·subst k1;exact Zwg h1 h2 hn hm x y z hv
 by_cases k2:k=2
 ·subst k2;exact Zwh hp h1 h2 hn hm x y z hv
 by_cases k3:k=3
 ·subst k3;exact Zwi h1 h2 hn hm x y z hv
 by_cases k4:k=4
 ·subst k4;exact Zwj h1 h2 hn hm x y z hv
 by_cases k5:k=5
 ·subst k5;exact Zwk h1 h2 hn hm x y z hv
 by_cases k6:k=6
 ·subst k6;exact Zwl hp h1 h2 hn hm x y z hv
 exact Zwm h1 h2 hn hm k x y z hv k1 k2 k3 k4 k5 k6
theorem Zyw {ls:List Ld} {ss:List Sg} {a b t c:Int} (h:Zhb ls ss a b t c=true):ls.length≤12∧ss.length≤5:=by
 unfold Zhb Y1 ZU at h
 simp only [Ru,decide_eq_true_eq] at h
 exact ⟨h.1.1,h.2.1.2⟩
end Go.Proofs.YtemcdiajejekoaaGreatDoor.Slim
namespace Go.Proofs.YtemcdiajejekoaaGreatDoor.Slim
open Go
section
variable {T : Zd0} {pr : Zq} {H : List Blk} {e : Option Nat}
def Wp (r:Option (Ex×St)) (Q:Ex→St→Prop):Prop:=∃ ex st,r=some (ex,st)∧Q ex st
def Wc (r:Option (AV×Mem)) (Q:AV→Mem→Prop):Prop:=∃ v m,r=some (v,m)∧Q v m
theorem Wp.mono {r:Option (Ex×St)} {P Q:Ex→St→Prop} (h:Wp r P) (k:∀ ex st,P ex st→Q ex st):Wp r Q:=by
 obtain ⟨ex,st,h1,h2⟩:=h
 exact ⟨ex,st,h1,k _ _ h2⟩
theorem Wc.mono {r:Option (AV×Mem)} {P Q:AV→Mem→Prop} (h:Wc r P) (k:∀ v m,P v m→Q v m):Wc r Q:=by
 obtain ⟨v,m,h1,h2⟩:=h
 exact ⟨v,m,h1,k _ _ h2⟩
theorem Wc.eq {r:Option (AV×Mem)} {v:AV} {m:Mem} (h:Wc r fun v' m'=>v'=v∧m'=m):r=some (v,m):=by
 obtain ⟨_,_,h1,rfl,rfl⟩:=h
 exact h1
theorem Wc.of_eq {r:Option (AV×Mem)} {v:AV} {m:Mem} {Q:AV→Mem→Prop} (h:r=some (v,m)) (k:Q v m):Wc r Q:=⟨v,m,h,k⟩
@[congr] theorem ZBS {r r':Option (Ex×St)} {Q:Ex→St→Prop} (h:r=r'):Wp r Q=Wp r' Q:=by rw [h]
@[congr] theorem ZBT {r r':Option (AV×Mem)} {Q:AV→Mem→Prop} (h:r=r'):Wc r Q=Wc r' Q:=by rw [h]
theorem ZfN (ex:Ex) (st:St) (Q:Ex→St→Prop):Wp (some (ex,st)) Q=Q ex st:=by
 apply propext
 constructor
 ·rintro ⟨_,_,h1,h2⟩;cases h1;exact h2
 ·exact fun h=>⟨_,_,rfl,h⟩
theorem ZhN (Q:Ex→St→Prop):Wp none Q=False:=by
 apply propext
 constructor
 ·rintro ⟨_,_,h1,_⟩;cases h1
 ·exact False.elim
theorem Zzo (c:Prop) [Decidable c] (a b:Option (Ex×St)) (Q:Ex→St→Prop):Wp (if c then a else b) Q=((c→Wp a Q)∧(¬ c→Wp b Q)):=by
 by_cases h:c <;> simp [h]
theorem ZrF (v:AV) (m:Mem) (Q:AV→Mem→Prop):Wc (some (v,m)) Q=Q v m:=by
 apply propext
 constructor
 ·rintro ⟨_,_,h1,h2⟩;cases h1;exact h2
 ·exact fun h=>⟨_,_,rfl,h⟩
theorem ZkF (Q:AV→Mem→Prop):Wc none Q=False:=by
 apply propext
 constructor
 ·rintro ⟨_,_,h1,_⟩;cases h1
 ·exact False.elim
theorem Zzp (c:Prop) [Decidable c] (a b:Option (AV×Mem)) (Q:AV→Mem→Prop):Wc (if c then a else b) Q=((c→Wc a Q)∧(¬ c→Wc b Q)):=by
 by_cases h:c <;> simp [h]
def ZA6 (f:St→Option (Ex×St)) (Q:Ex→St→Prop):Ex→St→Prop
 | .normal,st=>Wp (f st) Q
 | ex,st=>Q ex st
theorem ZkG (f:St→Option (Ex×St)) (Q:Ex→St→Prop) (st:St):ZA6 f Q .normal st=Wp (f st) Q:=Eq.trans rfl rfl
theorem Zpv (f:St→Option (Ex×St)) (Q:Ex→St→Prop) (k:Nat) (st:St):ZA6 f Q (.exit k) st=Q (.exit k) st:=Eq.trans rfl rfl
theorem Zse (f:St→Option (Ex×St)) (Q:Ex→St→Prop) (st:St):ZA6 f Q .ret st=Q .ret st:=Eq.trans rfl rfl
theorem ZhO (r:Option (Ex×St)) (f:St→Option (Ex×St)) (Q:Ex→St→Prop):Wp (Zb3 r f) Q=Wp r (ZA6 f Q):=by
 cases r with
 | none=>simp only [Zh5,ZhN]
 | some p=>
  obtain ⟨ex,st⟩:=p
  cases ex <;> simp only [Ze7,ZjJ,Zh4,ZfN,ZA6]
def Zyx (id:Nat) (Q:Ex→St→Prop):Ex→St→Prop
 | .exit k,st=>if k=id then Q .normal st else Q (.exit k) st
 | ex,st=>Q ex st
theorem ZkH (id:Nat) (Q:Ex→St→Prop) (st:St):Zyx id Q .normal st=Q .normal st:=Eq.trans rfl rfl
theorem Zsf (id:Nat) (Q:Ex→St→Prop) (st:St):Zyx id Q .ret st=Q .ret st:=Eq.trans rfl rfl
theorem Zpw (id:Nat) (Q:Ex→St→Prop) (st:St):Zyx id Q (.exit id) st=Q .normal st:=by simp [Zyx]
theorem Zpx (id k:Nat) (Q:Ex→St→Prop) (st:St):Zyx id Q (.exit k) st=if k=id then Q .normal st else Q (.exit k) st:=Eq.trans rfl rfl
theorem Zmw (id:Nat) (r:Option (Ex×St)) (Q:Ex→St→Prop):Wp (ZcV id r) Q=Wp r (Zyx id Q):=by
 cases r with
 | none=>simp only [Zh7,ZhN]
 | some p=>
  obtain ⟨ex,st⟩:=p
  cases ex with
  | normal=>simp only [Ze8,ZfN,Zyx]
  | ret=>simp only [ZjK,ZfN,Zyx]
  | exit k=>by_cases h:k=id <;> simp only [Zh6,h,if_true,if_false,ZfN,Zyx]
def opQ (tm:List AV) (outs:List (Nat×Nat)) (f:AV→Mem→Option (List AV×Mem)) (Q:Ex→St→Prop):AV→Mem→Prop:=fun v m=>Wp (ZdG tm outs (f v m)) Q
theorem Zzq (tm:List AV) (outs:List (Nat×Nat)) (f:AV→Mem→Option (List AV×Mem)) (Q:Ex→St→Prop) (v:AV) (m:Mem):opQ tm outs f Q v m=Wp (ZdG tm outs (f v m)) Q:=Eq.trans rfl rfl
theorem ZkI (tm:List AV) (outs:List (Nat×Nat)) (r:Option (AV×Mem)) (f:AV→Mem→Option (List AV×Mem)) (Q:Ex→St→Prop) :
  Wp (ZdG tm outs (QI r f)) Q=Wc r (opQ tm outs f Q):=by
 cases r with
 | none=>simp only [Zkk,ZjL,ZhN,ZkF]
 | some p=>
  obtain ⟨v,m⟩:=p
  simp only [Zkj,ZrF,opQ]
theorem Zpy (tm:List AV) (outs:List (Nat×Nat)) (p:Prop) [Decidable p] (r:Option (AV×Mem)) (m:Mem) (f:AV→Mem→Option (List AV×Mem)) (Q:Ex→St→Prop) :
  Wp (ZdG tm outs (QJ p r m f)) Q=((p→Wc r (opQ tm outs f Q))∧(¬ p→Wp (ZdG tm outs (f (.tup []) m)) Q)):=by
 by_cases h:p
 ·simp only [h,Zkl,ZkI,true_imp_iff,not_true_eq_false,false_imp_iff,and_true]
 ·simp only [h,Zim,not_false_eq_true,true_imp_iff,false_imp_iff,true_and]
def retQ (F:ZZ) (m:Mem) (Q:AV→Mem→Prop):Ex→St→Prop
 | .exit _,_=>False
 | _,st=>Wc (ZjM F m st) Q
theorem ZkJ (F:ZZ) (m:Mem) (Q:AV→Mem→Prop) (st:St):retQ F m Q .normal st=Wc (ZjM F m st) Q:=Eq.trans rfl rfl
theorem Zsg (F:ZZ) (m:Mem) (Q:AV→Mem→Prop) (st:St):retQ F m Q .ret st=Wc (ZjM F m st) Q:=Eq.trans rfl rfl
theorem Zul (F:ZZ) (m:Mem) (r:Option (Ex×St)) (Q:AV→Mem→Prop):Wc (QN F m r) Q=Wp r (retQ F m Q):=by
 cases r with
 | none=>simp only [Zh9,ZkF,ZhN]
 | some p=>
  obtain ⟨ex,st⟩:=p
  cases ex <;> simp only [Ze9,ZjN,Zh8,ZkF,ZfN,retQ]
theorem ZK {f:FuncId} {F:ZZ} (h:T f=some F) (args:List AV) (m:Mem) (Q:AV→Mem→Prop):Wc (call T pr f args m) Q=Wp (run T pr F.code ⟨entry F args,{ m with esc:=none }⟩) (retQ F m Q):=by
 rw [Zl h,Zul]
abbrev ZlS (I:St→Prop) (st:St):Prop:=I st
@[congr] theorem Zz0 {I:St→Prop} {st st':St} (h:st=st'):ZlS I st=ZlS I st':=by rw [h]
def Zyy (I:St→Prop) (Q:Ex→St→Prop):Ex→St→Prop
 | .normal,st=>ZlS I st
 | ex,st=>Q ex st
theorem Zis (I:St→Prop) (Q:Ex→St→Prop) (st:St):Zyy I Q .normal st=ZlS I st:=Eq.trans rfl rfl
theorem Zmx (I:St→Prop) (Q:Ex→St→Prop) (k:Nat) (st:St):Zyy I Q (.exit k) st=Q (.exit k) st:=Eq.trans rfl rfl
theorem Zpz (I:St→Prop) (Q:Ex→St→Prop) (st:St):Zyy I Q .ret st=Q .ret st:=Eq.trans rfl rfl
theorem XQ {b:Zg} {Q:Ex→St→Prop} (I:Nat→St→Prop) (hs:∀ k st,I k st→Wp (run T pr b st) (Zyy (fun st'=>∃ j,j<k∧I j st') Q)) :
  ∀ (n:Nat) (st:St),I n st→Wp (run T pr (.loop b) st) Q:=by
 intro n
 induction n using Nat.strongRecOn with
 | _ n ih=>
  intro st h
  rw [YA,ZhO]
  refine (hs n st h).mono fun ex st' h' => ?_
  cases ex with
  | normal=>
   obtain ⟨j,hj,hI⟩:=h'
   exact ih j hj st' hI
  | exit k=>exact h'
  | ret=>exact h'
theorem Zei (sz n o k:Nat) (c:Option Nat):AV.roots H.length (.slice (some (H.length+k,o)) sz n c)=[H.length+k]:=by simp [AV.roots]
theorem ZdL (sz n o:Nat) (c:Option Nat):AV.roots H.length (.slice (some (H.length,o)) sz n c)=[H.length]:=by simp [AV.roots]
theorem ZdM (lim sz n:Nat) (c:Option Nat):AV.roots lim (.slice none sz n c)=[]:=by simp [AV.roots]
theorem Zwn {lim b:Nat} (sz n o:Nat) (c:Option Nat) (h:b<lim):AV.roots lim (.slice (some (b,o)) sz n c)=[]:=by simp [AV.roots,h]
theorem ZgI (o k:Nat):AV.roots H.length (.ptr (some (H.length+k,o)))=[H.length+k]:=by simp [AV.roots]
theorem Zfk (o:Nat):AV.roots H.length (.ptr (some (H.length,o)))=[H.length]:=by simp [AV.roots]
theorem ZpA (lim:Nat) (k:IntKind) (x:Int):AV.roots lim (.int k x)=[]:=by simp [AV.roots]
theorem Zmy (lim:Nat) (x:Bool):AV.roots lim (.bool x)=[]:=by simp [AV.roots]
theorem ZpB (lim:Nat) (x:ByteArray):AV.roots lim (.str x)=[]:=by simp [AV.roots]
theorem ZpC (lim:Nat) (cs:List AV):AV.roots lim (.agg cs)=AV.roots.go lim cs:=by simp [AV.roots]
theorem ZpD (lim:Nat) (cs:List AV):AV.roots lim (.tup cs)=AV.roots.go lim cs:=by simp [AV.roots]
theorem Zmz (lim:Nat) (c:AV) (cs:List AV):AV.roots.go lim (c::cs)=AV.roots lim c++AV.roots.go lim cs:=by simp [AV.roots.go]
theorem ZpE (lim:Nat):AV.roots.go lim []=[]:=by simp [AV.roots.go]
theorem Zit (f:Nat→Nat) (b o sz n:Nat) (c:Option Nat):AV.rename f (.slice (some (b,o)) sz n c)=.slice (some (f b,o)) sz n c:=by simp [AV.rename]
theorem ZcI (f:Nat→Nat) (sz n:Nat) (c:Option Nat):AV.rename f (.slice none sz n c)=.slice none sz n c:=by simp [AV.rename]
theorem ZmA (f:Nat→Nat) (b o:Nat):AV.rename f (.ptr (some (b,o)))=.ptr (some (f b,o)):=by simp [AV.rename]
theorem ZmB (f:Nat→Nat) (k:IntKind) (x:Int):AV.rename f (.int k x)=.int k x:=by simp [AV.rename]
theorem ZkK (f:Nat→Nat) (x:Bool):AV.rename f (.bool x)=.bool x:=by simp [AV.rename]
theorem ZmC (f:Nat→Nat) (x:ByteArray):AV.rename f (.str x)=.str x:=by simp [AV.rename]
theorem ZmD (f:Nat→Nat) (cs:List AV):AV.rename f (.agg cs)=.agg (AV.rename.go f cs):=by simp [AV.rename]
theorem ZmE (f:Nat→Nat) (cs:List AV):AV.rename f (.tup cs)=.tup (AV.rename.go f cs):=by simp [AV.rename]
theorem ZkL (f:Nat→Nat) (c:AV) (cs:List AV):AV.rename.go f (c::cs)=AV.rename f c::AV.rename.go f cs:=by simp [AV.rename.go]
theorem ZmF (f:Nat→Nat):AV.rename.go f []=[]:=by simp [AV.rename.go]
def Zdy (L:List Blk) (rs:List Nat):List Blk:=rs.map fun b=>(L[b]?).getD .dead
theorem Ziu (L:List Blk):Zdy L []=[]:=Eq.trans rfl rfl
theorem ZgJ (L:List Blk) (b:Nat) (rs:List Nat):Zdy L (b::rs)=(L[b]?).getD .dead::Zdy L rs:=Eq.trans rfl rfl
def ZfO (lim:Nat) (L:List Blk) (rs:List Nat):Bool:=rs.all fun b=>XG lim L[b]?
theorem ZkM (lim:Nat) (L:List Blk):ZfO lim L []=true:=Eq.trans rfl rfl
theorem Ziv (lim:Nat) (L:List Blk) (b:Nat) (rs:List Nat):ZfO lim L (b::rs)=(XG lim L[b]?&&ZfO lim L rs):=Eq.trans rfl rfl
theorem ZgK (lim:Nat) (cs:List AV) (w:Bool):XG lim (some (.cells cs w))=cs.all fun c=>c.under lim:=Eq.trans rfl rfl
theorem ZgL (G:List Blk) (e0 e1:Option Nat) (v:AV):finish 2 H.length e0 v ⟨H++G,e1⟩ =
  if clean H.length e1=true∧ZfO H.length (H++G) (X6 (v.roots H.length))=true then some (v.rename (ZaT H.length (X6 (v.roots H.length))),⟨H++Zdy (H++G) (X6 (v.roots H.length)),e0⟩) else none:=by
 unfold finish Zdy ZfO
 simp
theorem Zfl (e0 e1:Option Nat) (v:AV):finish 2 H.length e0 v ⟨H,e1⟩ =
  if clean H.length e1=true∧ZfO H.length H (X6 (v.roots H.length))=true then some (v.rename (ZaT H.length (X6 (v.roots H.length))),⟨H++Zdy H (X6 (v.roots H.length)),e0⟩) else none:=by
 unfold finish Zdy ZfO
 simp
theorem Zdz (G:List Blk) (e0 e1:Option Nat) (v:AV):finish 1 H.length e0 v ⟨H++G,e1⟩=if v.under H.length=true∧clean H.length e1=true then some (v,⟨H,e0⟩) else none:=by
 unfold finish
 simp
theorem Zfm (e0 e1:Option Nat) (v:AV):finish 1 H.length e0 v ⟨H,e1⟩=if v.under H.length=true∧clean H.length e1=true then some (v,⟨H,e0⟩) else none:=by
 unfold finish
 simp
theorem ZpF:X6 []=[]:=Eq.trans rfl rfl
theorem ZpG (b:Nat):X6 [b]=[b]:=Eq.trans rfl rfl
theorem ZpH (a b:Nat):X6 [a,b]=if a=b then [a] else [a,b]:=by
 by_cases h:a=b
 ·simp [X6,h]
 ·have:¬ b=a:=fun h'=>h h'.symm
  simp [X6,h,this]
theorem ZA7 {lim b:Nat} (rs:List Nat) (h:b<lim):ZaT lim rs b=b:=by simp [ZaT,h]
theorem ZpI (k:Nat):ZaT H.length [H.length+k] (H.length+k)=H.length:=by
 have h1:¬ H.length+k<H.length:=by omega
 simp only [ZaT,h1,if_false,List.idxOf_cons_self,Nat.add_zero]
theorem ZmG:ZaT H.length [H.length] H.length=H.length:=by simp [ZaT]
theorem ZmH {a b:Nat} (h:H.length≤a):ZaT H.length [a,b] a=H.length:=by
 have h1:¬ a<H.length:=by omega
 simp [ZaT,h1]
theorem ZmI {a b:Nat} (h:H.length≤b) (hne:a≠b):ZaT H.length [a,b] b=H.length+1:=by
 have h1:¬ b<H.length:=by omega
 have h2:(a==b)=false:=by simpa using hne
 simp [ZaT,h1,h2,List.idxOf_cons]
theorem ZY {α:Type} {L:List α} {j:Nat} {b:α} (h:L[j]?=some b) (X:List α):(L++X)[j]?=some b:=by
 rw [List.getElem?_append_left (List.getElem?_eq_some_iff.mp h).1];exact h
theorem Ze {L:List Blk} {j:Nat} {cs:List AV} {w:Bool} (h:L[j]?=some (.cells cs w)):Za L j=some cs:=by
 unfold Za;rw [h]
theorem Z9 (n:Nat):clean n none=true:=Eq.trans rfl rfl
theorem Q4 (n k:Nat):clean n (some k)=decide (n≤k):=Eq.trans rfl rfl
theorem Zal (c:Prop) [Decidable c] (n:Nat) (a b:Option Nat):clean n (if c then a else b)=if c then clean n a else clean n b:=by split <;> rfl
theorem ZfP (b:Nat):Z6 none b=some b:=Eq.trans rfl rfl
theorem ZfQ (a b:Nat):Z6 (some a) b=some (min a b):=Eq.trans rfl rfl
end
theorem pp:type_of% @ZfN∧type_of% @ZhN∧type_of% @Zzo∧type_of% @ZrF∧type_of% @ZkF∧type_of% @Zzp∧type_of% @ZhO∧type_of% @ZkG∧type_of% @Zpv∧type_of% @Zse∧type_of% @Zmw∧type_of% @ZkH∧type_of% @Zsf∧type_of% @Zpw∧type_of% @Zpx∧type_of% @ZkI∧type_of% @Zzq∧type_of% @Zpy∧type_of% @ZkJ∧type_of% @Zsg∧type_of% @Zis∧type_of% @Zmx∧type_of% @Zpz:=⟨@ZfN,@ZhN,@Zzo,@ZrF,@ZkF,@Zzp,@ZhO,@ZkG,@Zpv,@Zse,@Zmw,@ZkH,@Zsf,@Zpw,@Zpx,@ZkI,@Zzq,@Zpy,@ZkJ,@Zsg,@Zis,@Zmx,@Zpz⟩
theorem ff:type_of% @Zdz∧type_of% @Zfm∧type_of% @ZgL∧type_of% @Zfl∧type_of% @Zei∧type_of% @ZdL∧type_of% @ZdM∧type_of% @ZgI∧type_of% @Zfk∧type_of% @ZpA∧type_of% @Zmy∧type_of% @ZpB∧type_of% @ZpC∧type_of% @ZpD∧type_of% @Zmz∧type_of% @ZpE∧type_of% @Zit∧type_of% @ZcI∧type_of% @ZmA∧type_of% @ZmB∧type_of% @ZkK∧type_of% @ZmC∧type_of% @ZmD∧type_of% @ZmE∧type_of% @ZkL∧type_of% @ZmF∧type_of% @Ziu∧type_of% @ZgJ∧type_of% @ZkM∧type_of% @Ziv∧type_of% @ZgK∧type_of% @ZpF∧type_of% @ZpG∧type_of% @ZpH∧type_of% @ZpI∧type_of% @ZmG∧type_of% @ZmH∧type_of% @ZmI∧type_of% @Z9∧type_of% @Q4∧type_of% @ZfP∧type_of% @ZfQ∧type_of% @Nat.add_left_cancel_iff∧type_of% @Nat.le_add_right∧type_of% @Nat.le_refl∧type_of% @decide_true:=⟨@Zdz,@Zfm,@ZgL,@Zfl,@Zei,@ZdL,@ZdM,@ZgI,@Zfk,@ZpA,@Zmy,@ZpB,@ZpC,@ZpD,@Zmz,@ZpE,@Zit,@ZcI,@ZmA,@ZmB,@ZkK,@ZmC,@ZmD,@ZmE,@ZkL,@ZmF,@Ziu,@ZgJ,@ZkM,@Ziv,@ZgK,@ZpF,@ZpG,@ZpH,@ZpI,@ZmG,@ZmH,@ZmI,@Z9,@Q4,@ZfP,@ZfQ,@Nat.add_left_cancel_iff,@Nat.le_add_right,@Nat.le_refl,@decide_true⟩
end Go.Proofs.YtemcdiajejekoaaGreatDoor.Slim
namespace Go.Proofs.YtemcdiajejekoaaGreatDoor.Slim
open Go
variable {pr : Zq} {H : List Blk} {e : Option Nat}
def Zum {α:Type} (f:α→List AV):List α→List AV
 | []=>[]
 | x::xs=>f x++Zum f xs
section
variable {α : Type} {f : α → List AV} {k : Nat}
theorem ZkN:∀ a b:List α,Zum f (a++b)=Zum f a++Zum f b
 | [],b=>rfl
 | x::a,b=>by rw [List.cons_append,Zum,Zum,ZkN a b,List.append_assoc]
theorem ZkO (hf:∀ x,(f x).length=k):∀ xs:List α,(Zum f xs).length=xs.length*k
 | []=>by simp [Zum]
 | x::xs=>by rw [Zum,List.length_append,hf,ZkO hf xs,List.length_cons,Nat.add_mul,Nat.one_mul,Nat.add_comm]
theorem Q5 (hf:∀ (x:α) (n:Nat),((f x).all fun c=>c.under n)=true) (n:Nat):∀ xs:List α,((Zum f xs).all fun c=>c.under n)=true
 | []=>rfl
 | x::xs=>by rw [Zum,List.all_append,hf,Q5 hf n xs];rfl
end
abbrev Tk:=Int×Int×Int×Int
structure Sd where
 ls:List Ld
 ss:List Sg
 a:Int
 b:Int
 t:Int
 c:Int
def Sd.ok (s:Sd):Bool:=Zhb s.ls s.ss s.a s.b s.t s.c
def Zwo (s:Sd) (m:Tk):Option Sd :=
 if ZhL s.ls s.ss s.a s.b s.t s.c m.1 m.2.1 m.2.2.1 m.2.2.2=true then
  some ⟨Zfj s.ls m.1 m.2.1 m.2.2.1,Xk s.ss m.1 m.2.1 m.2.2.1 m.2.2.2,Xq s.a m.1 m.2.1,Xq s.b m.1 m.2.2.1,Zcb s.ls s.a s.b s.t m.1 m.2.1 m.2.2.1,wr (s.c+1)⟩
 else none
theorem Zyz {s s':Sd} {m:Tk} (h:s.ok=true) (hs:Zwo s m=some s'):s'.ok=true:=by
 unfold Zwo at hs
 split at hs
 ·rename_i hd
  cases hs
  unfold ZhL at hd
  rw [Bool.and_eq_true] at hd
  have h2:=hd.2
  unfold Sd.ok Zhb J5 at *
  simp only [Bool.and_eq_true,decide_eq_true_eq] at *
  refine ⟨h2.1,h2.2.1,h2.2.2.1,h2.2.2.2.1,?_⟩
  have hw:wr (s.c+1)=s.c+1:=Yc (by omega) (by omega)
  rw [hw] at h2 ⊢
  unfold Zcb
  split
  ·omega
  ·have hw2:wr (s.t+1)=s.t+1:=Yc (by omega) (by omega)
   rw [hw2]
   omega
 ·cases hs
theorem ZyA (H:List Blk) (e:Option Nat) (s:Sd) (m:Tk):ZcH H e (ZhL s.ls s.ss s.a s.b s.t s.c m.1 m.2.1 m.2.2.1 m.2.2.2) (Zfj s.ls m.1 m.2.1 m.2.2.1) (Xk s.ss m.1 m.2.1 m.2.2.1 m.2.2.2) (Xq s.a m.1 m.2.1) (Xq s.b m.1 m.2.2.1) (Zcb s.ls s.a s.b s.t m.1 m.2.1 m.2.2.1) (wr (s.c+1)) =
  match Zwo s m with
  | some s'=>some (.tup [stV (slL H.length s'.ls.length none) s'.a s'.b (slS (H.length+1) s'.ss.length none) s'.t s'.c,.bool true],⟨H++[.cells (Zu s'.ls) true,.cells (ZI s'.ss) true],e⟩)
  | none=>some (.tup [ZfM,.bool false],⟨H,e⟩):=by
 unfold ZcH Zwo
 cases ZhL s.ls s.ss s.a s.b s.t s.c m.1 m.2.1 m.2.2.1 m.2.2.2 <;> rfl
abbrev sdC (s:Sd) (p1 p2:Nat):List AV:=[slL p1 s.ls.length none,.int .i64 s.a,.int .i64 s.b,slS p2 s.ss.length none,.int .i64 s.t,.int .i64 s.c]
end Go.Proofs.YtemcdiajejekoaaGreatDoor.Slim
