/- Parts of the proof. -/
import Derived.Test.YtemcdiajejekoaaGreatDoorSlimZr12
import Derived.Deep.RegionLaw
import Derived.WalkKit
import Derived.OwnWalk
import Derived.Lib.Walk
import Derived.Lib.SliceRun
import Derived.Lib.Slices
import Derived.Shelf.RegionOpenPlain
import Derived.Deep.LoopGhost
import Derived.Below
set_option linter.unusedSimpArgs false
set_option linter.unusedVariables false
namespace Go.Proofs.YtemcdiajejekoaaGreatDoor.Slim
open Go Go.Lib Go.RowKit
theorem Zv8 {P:Program} (w:World) (t e ty:TypeId) (z:Value) (ht:P.underlying t=some (.slice e)) (hv:∀ w,(zeroValue e).run P w=.ok z w) (h1:∀ v∈z.cells.toList,v.oneCell'=true) (b o c:Nat)
  (hc:∀ j,j<z.cells.size→(w.cell? ⟨b,o+j,none⟩).isSome=true) (hf:∀ j,j<z.cells.size→w.frozen? ⟨b,o+j,none⟩=false) :
  (Builtin.clear_ #[t] ty #[.slice (some ⟨b,o,none⟩) 1 c]).run P w=.ok (.tuple #[]) (w.setCells b o z.cells.toList):=by
 have hzc:(Builtin.zeroCells z.cells 1).toList=z.cells.toList:=by
  simp [Builtin.zeroCells]
  apply List.ext_getElem
  ·simp
  ·intro i h1 h2
   simp at h2
   simp [Nat.mod_eq_of_lt h2,getElem!_pos z.cells i h2]
 have hst:=run_storeCells_cells (P:=P) b o z.cells.toList 0 w (by simpa using hc) (by simpa using hf) h1
 simp only [Nat.add_zero] at hst
 simp [Builtin.clear_,run_underlying ht,hv,hzc,hst]
section
variable {ι : Emb} {m : Mem} {w : World}
theorem Rel.trim (R:Rel ι m w) {b:Nat} {cs:List AV} {wr:Bool} (hb:m.H[b]?=some (.cells cs wr)) (k:Nat) :
  Rel ι { m with H:=m.H.set b (.cells (cs.take k) wr) } w∧Ext ι m w ι { m with H:=m.H.set b (.cells (cs.take k) wr) } w:=by
 have hbl:b<m.H.length:=(List.getElem?_eq_some_iff.mp hb).1
 have hset:∀ (b':Nat) cs' wr',(m.H.set b (.cells (cs.take k) wr))[b']?=some (Blk.cells cs' wr')→∃ cs'',m.H[b']?=some (Blk.cells cs'' wr')∧cs'=if b=b' then cs''.take k else cs'':=by
  intro b' cs' wr' h
  rw [List.getElem?_set] at h
  split at h
  ·rename_i hbb
   subst hbb
   cases h
   exact ⟨cs,hb,by simp⟩
  ·rename_i hbb
   exact ⟨cs',h,by simp [hbb]⟩
 have horig:∀ (b':Nat) (k':Blk),(m.H.set b (.cells (cs.take k) wr))[b']?=some k'→∃ k'',m.H[b']?=some k''∧(k'.wrt→k''.wrt)∧(k'.live→k''.live):=by
  intro b' k' h
  rw [List.getElem?_set] at h
  split at h
  ·rename_i hbb
   subst hbb
   cases h
   exact ⟨_,hb,fun h=>h,fun _=>trivial⟩
  ·exact ⟨k',h,fun h=>h,fun h=>h⟩
 refine R.of0 ⟨⟨by simp [R.len],R.low,fun b' cs' wr' h => ?_,fun b' es h => ?_,fun b1 b2 k1 k2 c d c' d' hne h1 hw h2 hl h3 h4 => ?_⟩,⟨Emb.le_refl _,Nat.le_refl _,Nat.le_refl _,YP.refl _,fun r hr => ?_,fun _ _ _=>rfl,rfl,rfl,rfl⟩⟩
 ·obtain ⟨cs'',h1,rfl⟩:=hset _ _ _ h
  obtain ⟨c,d,h2,hC⟩:=R.at' b' cs'' wr' h1
  refine ⟨c,d,h2,?_⟩
  split
  ·obtain ⟨us,h3,h4⟩:=hC.vals
   refine ⟨⟨us.take k,h3.take k,fun j v hj=>h4 j v ?_⟩,?_,hC.free⟩
   ·rw [List.getElem?_take] at hj
    split at hj
    ·exact hj
    ·cases hj
   ·have:=all_sub hC.cell 0 k
    rwa [List.drop_zero] at this
  ·exact hC
 ·rw [List.getElem?_set] at h
  split at h
  ·cases h
  ·exact R.mp b' es h
 ·obtain ⟨e1,g1,g1',_⟩:=horig _ _ h1
  obtain ⟨e2,g2,_,g2'⟩:=horig _ _ h2
  exact R.sep b1 b2 e1 e2 c d c' d' hne g1 (g1' hw) g2 (g2' hl) h3 h4
 ·obtain ⟨b',k',d',h1,hw,h2⟩:=hr
  obtain ⟨e1,g1,g1',_⟩:=horig _ _ h1
  exact .inl ⟨b',e1,d',g1,g1' hw,h2⟩
theorem ZEx {P:Program} (R:Rel ι m w) {b n sz i:Nat} {cap:Option Nat} {cs:List AV} {v:Value} (hb:m.H[b]?=some (.cells cs true)) (hcs:cs.length=n*sz) (hi:i<n) (hv:V ι w (.slice (some (b,0)) sz n cap) v) :
  ∃ (c x k:Nat) (news:List Value),v=.slice (some ⟨c,x,none⟩) n k∧n≤k∧news.length=(n - (i+1))*sz ∧
   (∀ t u,news[t]?=some u→w.drew.cell? ⟨c,x+(i+1)*sz+t,none⟩=some u)∧(∀ u∈news,u.oneCell'=true) ∧
   (∀ t,t<(n - (i+1))*sz→(w.drew.cell? ⟨c,x+i*sz+t,none⟩).isSome=true∧w.drew.frozen? ⟨c,x+i*sz+t,none⟩=false) ∧
   (∀ t,t<sz→((w.drew.setCells c (x+i*sz) news).cell? ⟨c,x+(i+(n - (i+1)))*sz+t,none⟩).isSome=true∧(w.drew.setCells c (x+i*sz) news).frozen? ⟨c,x+(i+(n - (i+1)))*sz+t,none⟩=false) ∧
   ∃ ι',V ι' ((w.drew.setCells c (x+i*sz) news).setCells c (x+(i+(n - (i+1)))*sz) (List.replicate sz (.int .i64 0))) (.slice (some (m.H.length+1,0)) sz (n - 1) none) (.slice (some ⟨c,x,none⟩) (i+(n - (i+1))) k) ∧
    Rel ι' ⟨m.H.set b .dead++[.dead,.cells (cs.take (i*sz)++cs.drop ((i+1)*sz)) true],m.esc⟩ ((w.drew.setCells c (x+i*sz) news).setCells c (x+(i+(n - (i+1)))*sz) (List.replicate sz (.int .i64 0))) ∧
    Ext ι m w ι' ⟨m.H.set b .dead++[.dead,.cells (cs.take (i*sz)++cs.drop ((i+1)*sz)) true],m.esc⟩ ((w.drew.setCells c (x+i*sz) news).setCells c (x+(i+(n - (i+1)))*sz) (List.replicate sz (.int .i64 0))):=by
 obtain ⟨c,d,x,k,e,M,g1,rfl,g3,g4,g5,g6,g7⟩:=hv
 obtain ⟨c',d',g1',hC⟩:=R.at' b cs true hb
 rw [g1] at g1'
 cases g1'
 have hx:x=d:=by rcases g4 with h | ⟨h,_⟩ <;> omega
 subst hx
 obtain ⟨us,hu,hcell⟩:=hC.vals
 obtain ⟨e',M',g5',hfree⟩:=hC.free rfl
 rw [g5] at g5'
 cases g5'
 have hul:us.length=n*sz:=hu.length.trans hcs
 have hkM:x+k*sz≤M:=by rcases g6 with h | h <;> omega
 have hnk:n*sz≤k*sz:=Nat.mul_le_mul_right _ g3
 have e1:(i+1)*sz+(n - (i+1))*sz=n*sz:=by rw [←Nat.add_mul];congr 1;omega
 have e2:(i+1)*sz=i*sz+sz:=by rw [Nat.add_mul,Nat.one_mul]
 have e3:(i+(n - (i+1)))*sz=i*sz+(n - (i+1))*sz:=Nat.add_mul _ _ _
 have hbl:b<m.H.length:=(List.getElem?_eq_some_iff.mp hb).1
 have R0:=R.drew
 have hu0:VL ι w.drew cs us:=VL.mono (w:=w) (w':=w.drew) (Emb.le_refl _) (fun _ _ h=>h) _ _ hu
 have hM:w.drew.shape? c=some (e,M):=g5
 obtain ⟨_,r1,r2⟩:=Rel.inplace (P:=P) (b:=b) (old:=cs) (cs:=cs.take (i*sz)) (new:=cs.drop ((i+1)*sz)) (us:=us.take (i*sz)) (vs:=us.drop ((i+1)*sz)) R0 hb g1 hM (hu0.take _)
  (fun j v hj=>by
   rw [List.getElem?_take] at hj
   split at hj
   ·exact hcell j v hj
   ·cases hj) (by have:=all_sub hC.cell 0 (i*sz);rwa [List.drop_zero] at this)
  (hu0.drop _) (by have:=all_sub hC.cell ((i+1)*sz) cs.length;rwa [List.take_of_length_le (by simp)] at this) (by simp;omega)
 have htl:(us.take (i*sz)).length=i*sz:=by rw [List.length_take];omega
 rw [htl] at r1 r2
 have hH1:(m.H.set b .dead++[Blk.cells (cs.take (i*sz)++cs.drop ((i+1)*sz)) true])[m.H.length]?=some (.cells (cs.take (i*sz)++cs.drop ((i+1)*sz)) true):=by
  rw [List.getElem?_append_right (by simp)];simp
 have hι1:(ι++[some (c,x)])[m.H.length]?=some (some (c,x)):=by rw [←R.len];exact Zap _ _
 obtain ⟨c',d',q1,hC1⟩:=r1.at' m.H.length _ true hH1
 rw [hι1] at q1
 cases q1
 obtain ⟨us1,hu1,hcell1⟩:=hC1.vals
 obtain ⟨e',M',g5',hfree1⟩:=hC1.free rfl
 have hM1:=r2.shapes _ _ hM
 rw [hM1] at g5'
 cases g5'
 have hal:(cs.take (i*sz)++cs.drop ((i+1)*sz)).length=(i+(n - (i+1)))*sz:=by
  rw [List.length_append,List.length_take,List.length_drop];omega
 have hu1l:us1.length=(i+(n - (i+1)))*sz:=hu1.length.trans hal
 obtain ⟨_,r3,r4⟩:=Rel.inplace (P:=P) (b:=m.H.length) (old:=cs.take (i*sz)++cs.drop ((i+1)*sz)) (cs:=cs.take (i*sz)++cs.drop ((i+1)*sz)) (new:=List.replicate sz (AV.int .i64 0)) (us:=us1) (vs:=List.replicate sz (.int .i64 0)) r1 hH1 hι1 hM1 hu1 hcell1 hC1.cell
  (VL.replicate (c:=.int .i64 0) (y:=.int .i64 0) rfl sz) (by simp [AV.isCell]) (by right;simp;omega)
 rw [hu1l] at r3 r4
 have hH2:(m.H.set b .dead++[Blk.cells (cs.take (i*sz)++cs.drop ((i+1)*sz)) true]).set m.H.length .dead++[Blk.cells (cs.take (i*sz)++cs.drop ((i+1)*sz)++List.replicate sz (AV.int .i64 0)) true] =
   m.H.set b .dead++[.dead,.cells (cs.take (i*sz)++cs.drop ((i+1)*sz)++List.replicate sz (AV.int .i64 0)) true]:=by
  rw [List.set_append_right _ _ (by simp)]
  simp
 simp only [hH2] at r3 r4
 obtain ⟨r5,r6⟩:=r3.trim (b:=m.H.length+1) (cs:=cs.take (i*sz)++cs.drop ((i+1)*sz)++List.replicate sz (AV.int .i64 0)) (wr:=true) (by
  show (m.H.set b .dead++[.dead,_])[m.H.length+1]?=_
  rw [List.getElem?_append_right (by simp)];simp) ((i+(n - (i+1)))*sz)
 have hH3:(m.H.set b .dead++[.dead,Blk.cells (cs.take (i*sz)++cs.drop ((i+1)*sz)++List.replicate sz (AV.int .i64 0)) true]).set (m.H.length+1) (.cells ((cs.take (i*sz)++cs.drop ((i+1)*sz)++List.replicate sz (AV.int .i64 0)).take ((i+(n - (i+1)))*sz)) true) =
   m.H.set b .dead++[.dead,.cells (cs.take (i*sz)++cs.drop ((i+1)*sz)) true]:=by
  rw [List.set_append_right _ _ (by simp),List.take_left' hal]
  simp
 simp only [hH3] at r5 r6
 refine ⟨c,x,k,us.drop ((i+1)*sz),rfl,g3,by rw [List.length_drop];omega,fun t u ht => ?_,fun u hu' => ?_,fun t ht => ?_,fun t ht => ?_,_,?_,r5,((Ext.drew ι m w).trans r2).trans (r4.trans r6)⟩
 ·rw [List.getElem?_drop] at ht
  have:=hcell _ _ ht
  rw [←Nat.add_assoc] at this
  exact this
 ·exact ZnU hu hC.cell u (List.mem_of_mem_drop hu')
 ·obtain ⟨y,hy⟩:=ZlR hM (show x+i*sz+t<M by omega)
  exact ⟨by rw [hy];rfl,hfree _ (by omega)⟩
 ·obtain ⟨y,hy⟩:=ZlR hM1 (show x+(i+(n - (i+1)))*sz+t<M by omega)
  exact ⟨by rw [hy];rfl,hfree1 _ (by omega)⟩
 ·refine ⟨c,x,x,k,e,M,?_,?_,by omega,.inl rfl,r6.shapes _ _ (r4.shapes _ _ hM1),.inr hkM,fun q hq=>by cases hq⟩
  ·rw [show m.H.length+1=(ι++[some (c,x)]).length by simp [R.len]]
   exact Zap _ _
  ·rw [show i+(n - (i+1))=n - 1 by omega]
end
end Go.Proofs.YtemcdiajejekoaaGreatDoor.Slim
namespace Go.Proofs.YtemcdiajejekoaaGreatDoor.Slim
open Go
def ZtI (sz:Nat) (args:List AV) (m:Mem):Option (AV×Mem):=match args with
 | [.slice (some (b,0)) sz' n cap,.int .i64 i,.int .i64 j]=>(match m.H[b]? with
  | some (.cells cs true)=>if sz'=sz∧cs.length=n*sz∧0≤i∧i<(n:Int)∧j=i+1 then
    some (.slice (some (m.H.length+1,0)) sz (n - 1) none,⟨m.H.set b .dead++[.dead,.cells (cs.take (i.toNat*sz)++cs.drop ((i.toNat+1)*sz)) true],m.esc⟩) else none
  | _=>none)
 | _=>none
theorem Zml {sz:Nat} {args:List AV} {m m':Mem} {v:AV} (h:ZtI sz args m=some (v,m')):∃ (b n i:Nat) (cap:Option Nat) (cs:List AV),args=[.slice (some (b,0)) sz n cap,.int .i64 i,.int .i64 (i+1:Nat)] ∧
  m.H[b]?=some (.cells cs true)∧cs.length=n*sz∧i<n∧v=.slice (some (m.H.length+1,0)) sz (n - 1) none∧m'=⟨m.H.set b .dead++[.dead,.cells (cs.take (i*sz)++cs.drop ((i+1)*sz)) true],m.esc⟩:=by
 unfold ZtI at h
 split at h
 ·rename_i b sz' n cap i j
  split at h
  ·rename_i cs hb
   split at h
   ·rename_i hc
    obtain ⟨rfl,h1,h2,h3,rfl⟩:=hc
    cases h
    obtain ⟨k,rfl⟩:∃ k:Nat,i=k:=⟨i.toNat,by omega⟩
    exact ⟨b,n,k,cap,cs,by simp,hb,h1,by omega,rfl,by simp⟩
   ·cases h
  ·cases h
 ·cases h
theorem Zz7 {sz:Nat} {L:List Blk} {e:Option Nat} {b n i:Nat} {cap:Option Nat} {cs:List AV} (h1:L[b]?=some (.cells cs true)) (h2:cs.length=n*sz) (h3:i<n) :
  ZtI sz [.slice (some (b,0)) sz n cap,.int .i64 i,.int .i64 (i+1:Nat)] ⟨L,e⟩=some (.slice (some (L.length+1,0)) sz (n - 1) none,⟨L.set b .dead++[.dead,.cells (cs.take (i*sz)++cs.drop ((i+1)*sz)) true],e⟩):=by
 unfold ZtI
 simp only [h1]
 rw [if_pos ⟨trivial,h2,by omega,by omega,by omega⟩]
 simp
theorem Zr0 {sz:Nat} {args:List AV} {m m':Mem} {v:AV} (h:ZtI sz args m=some (v,m')):Grow m m':=by
 obtain ⟨b,n,i,cap,cs,rfl,hb,hcs,hi,rfl,rfl⟩:=Zml h
 have hbl:b<m.H.length:=(List.getElem?_eq_some_iff.mp hb).1
 have key:∀ (x:Nat) cs' wr',(m.H.set b .dead++[.dead,Blk.cells (cs.take (i*sz)++cs.drop ((i+1)*sz)) true])[x]?=some (.cells cs' wr')→(x<m.H.length∧m.H[x]?=some (.cells cs' wr'))∨(m.H.length≤x∧wr'=true):=by
  intro x cs' wr' hx
  rcases Nat.lt_or_ge x m.H.length with hl | hl
  ·rw [List.getElem?_append_left (by simpa using hl),List.getElem?_set] at hx
   split at hx
   ·cases hx
   ·exact .inl ⟨hl,hx⟩
  ·rw [List.getElem?_append_right (by simpa using hl)] at hx
   refine .inr ⟨hl,?_⟩
   match hq:x - (m.H.set b .dead).length,hx with
   | 0,hx=>simp at hx
   | 1,hx=>simp at hx;exact hx.2
   | q+2,hx=>simp at hx
 refine ⟨by simp,fun _ h=>h,fun x hx _ => ?_,fun x cs' hx => ?_⟩
 ·intro cs' wr' hc
  rcases key x cs' wr' hc with ⟨_,h2⟩|⟨h1,_⟩
  ·exact ⟨cs',wr',h2,fun c hc=>.inl hc⟩
  ·omega
 ·rcases key x cs' false hx with ⟨_,h2⟩|⟨_,h2⟩
  ·exact h2
  ·cases h2
def Zds (pr:Zt):Prop:=(∀ (L:List Blk) (e:Option Nat) (b n i:Nat) (cap:Option Nat) (cs:List AV),L[b]?=some (.cells cs true)→cs.length=n*2→i<n→call T pr ZO [.slice (some (b,0)) 2 n cap,.int .i64 i,.int .i64 (i+1:Nat)] ⟨L,e⟩=some (.slice (some (L.length+1,0)) 2 (n - 1) none,⟨L.set b .dead++[.dead,.cells (cs.take (i*2)++cs.drop ((i+1)*2)) true],e⟩))∧(∀ (L:List Blk) (e:Option Nat) (b n i:Nat) (cap:Option Nat) (cs:List AV),L[b]?=some (.cells cs true)→cs.length=n*3→i<n→call T pr ZM [.slice (some (b,0)) 3 n cap,.int .i64 i,.int .i64 (i+1:Nat)] ⟨L,e⟩=some (.slice (some (L.length+1,0)) 3 (n - 1) none,⟨L.set b .dead++[.dead,.cells (cs.take (i*3)++cs.drop ((i+1)*3)) true],e⟩))
end Go.Proofs.YtemcdiajejekoaaGreatDoor.Slim
namespace Go.Proofs.YtemcdiajejekoaaGreatDoor.Slim
open Go
open Nat renaming reduceAdd → Ra, reduceLeDiff → Rb, reduceLT → Rc, reduceEqDiff → Rd
open Nat renaming le_add_right → RF, add_assoc → RD, add_lt_add_iff_left → RE, lt_irrefl → Rh, le_refl → Rq
open Int renaming reduceEq → RQ
open Bool renaming false_and → RR, true_and → RT, and_false → RU
open Option renaming some.injEq → RS
open List renaming length_eraseIdx → RV
variable {pr : Zt} {H : List Blk} {e : Option Nat}
def Zlh (sz:Nat) (v h:AV):Option AV:=match v with
 | .slice p sz' n cap=>(match natOf h with
  | some h=>QO sz p sz' n cap 0 h none
  | none=>none)
 | _=>none
def ZbN (sz:Nat) (v l:AV):Option AV:=match v with
 | .slice p sz' n cap=>(match natOf l with
  | some l=>QO sz p sz' n cap l n none
  | none=>none)
 | _=>none
section
variable {C : FuncId → List AV → Mem → Option (AV × Mem)} {g : X → AV} {m : Mem}
theorem Zj4 (sz:Nat) (x h:X):aop C g m (.sliceSl sz x none (some h) none)=K7 m (Zlh sz (g x) (g h)):=by
 rw [ZI rfl]
 simp only [JO,Zlh,ZeN,Zoc]
 generalize g x=v
 generalize natOf (g h)=o
 cases v <;> cases o <;> simp
theorem Zbw (sz:Nat) (x l:X):aop C g m (.sliceSl sz x (some l) none none)=K7 m (ZbN sz (g x) (g l)):=by
 rw [ZI rfl]
 simp only [JO,ZbN,ZeN,Zoc]
 generalize g x=v
 generalize natOf (g l)=o
 cases v <;> cases o <;> simp
end
theorem Zj5 (sz b o n h:Nat) (cap:Option Nat) (hh:h≤n):Zlh sz (.slice (some (b,o)) sz n cap) (.int .i64 h)=some (.slice (some (b,o)) sz h cap):=by
 unfold Zlh natOf QO
 simp [hh]
theorem Zdt (sz b o n l:Nat) (hl:l≤n):ZbN sz (.slice (some (b,o)) sz n none) (.int .i64 l)=some (.slice (some (b,o+l*sz)) sz (n - l) none):=by
 unfold ZbN natOf QO
 simp [hl]
theorem Zv9:∀ (ls:List Ld) (i:Nat),(Zn ls).take (i*2)=Zn (ls.take i)
 | ls,0=>by simp [Zn]
 | [],i+1=>by simp [Zn]
 | l::ls,i+1=>by
  rw [show (i+1)*2=i*2+1+1 by omega]
  simp [Zn,Zv9 ls i]
theorem Zwa:∀ (ls:List Ld) (i:Nat),(Zn ls).drop (i*2)=Zn (ls.drop i)
 | ls,0=>by simp
 | [],i+1=>by simp [Zn]
 | l::ls,i+1=>by
  rw [show (i+1)*2=i*2+1+1 by omega]
  simp [Zn,Zwa ls i]
theorem Zwb:∀ (ls:List Sg) (i:Nat),(Zw ls).take (i*3)=Zw (ls.take i)
 | ls,0=>by simp [Zw]
 | [],i+1=>by simp [Zw]
 | l::ls,i+1=>by
  rw [show (i+1)*3=i*3+1+1+1 by omega]
  simp [Zw,Zwb ls i]
theorem Zwc:∀ (ls:List Sg) (i:Nat),(Zw ls).drop (i*3)=Zw (ls.drop i)
 | ls,0=>by simp
 | [],i+1=>by simp [Zw]
 | l::ls,i+1=>by
  rw [show (i+1)*3=i*3+1+1+1 by omega]
  simp [Zw,Zwc ls i]
theorem ZgA:∀ a b:List Sg,Zw (a++b)=Zw a++Zw b
 | [],b=>rfl
 | l::a,b=>by simp [Zw,ZgA a b]
theorem Zr1 (ls:List Ld) (i:Nat):(Zn ls).take (i*2)++(Zn ls).drop ((i+1)*2)=Zn (ls.eraseIdx i):=by
 rw [Zv9,Zwa,List.eraseIdx_eq_take_drop_succ,Zdn]
theorem Zr2 (ls:List Sg) (i:Nat):(Zw ls).take (i*3)++(Zw ls).drop ((i+1)*3)=Zw (ls.eraseIdx i):=by
 rw [Zwb,Zwc,List.eraseIdx_eq_take_drop_succ,ZgA]
theorem Zr3 {L:List Blk} {b n sz bytes i:Nat} {cs:List AV} (hb:L[b]?=some (.cells cs true)) (hcs:cs.length=n*sz) (hi:i<n) (hm:n*bytes≤maxBytes) :
  Zaa L e false sz bytes (.slice (some (b,0)) sz i none) (.slice (some (b,(i+1)*sz)) sz (n - (i+1)) none)=some (.slice (some (L.length,0)) sz (n - 1) none,⟨L.set b .dead++[.cells (cs.take (i*sz)++cs.drop ((i+1)*sz)) true],e⟩):=by
 have e1:(i+1)*sz+(n - (i+1))*sz=n*sz:=by rw [←Nat.add_mul];congr 1;omega
 have e2:(i+1)*sz=i*sz+sz:=by rw [Nat.add_mul,Nat.one_mul]
 have hs:Y7 false L (.slice (some (b,(i+1)*sz)) sz (n - (i+1)) none)=some (n - (i+1),cs.drop ((i+1)*sz)):=by
  unfold Y7
  have hc:Zb L b=some cs:=by unfold Zb;rw [hb]
  simp only [Bool.false_eq_true,if_false,hc]
  rw [if_pos (by omega),List.take_of_length_le (by rw [List.length_drop];omega)]
 have e3:i+(n - (i+1))=n - 1:=by omega
 unfold Zaa
 simp only [hb,hs]
 rw [if_pos ⟨trivial,by rw [e3];exact Nat.le_trans (Nat.mul_le_mul_right _ (by omega)) hm,by rw [List.length_drop];omega,by omega⟩]
 rw [if_neg (by simp),if_pos trivial,e3,List.drop_zero]
theorem ZiL {L:List Blk} {b q n sz bytes:Nat} {cs new:List AV} {c:Option Nat} (hb:L[b]?=some (.cells cs true)) (hq:Zb L q=some new) (hcs:cs.length=n*sz) (hnew:new.length=sz) (hm:(n+1)*bytes≤maxBytes) :
  Zaa L e false sz bytes (.slice (some (b,0)) sz n none) (.slice (some (q,0)) sz 1 c)=some (.slice (some (L.length,0)) sz (n+1) none,⟨L.set b .dead++[.cells (cs++new) true],e⟩):=by
 have hs:=Zek L 1 sz c new q hq (by omega)
 unfold Zaa
 simp only [hb,hs]
 rw [if_pos ⟨trivial,hm,by omega,by omega⟩,if_neg (by simp),if_pos trivial,List.drop_zero,←hcs,List.take_length]
abbrev tkV (k x y z:Int):AV:=.agg [.int .i64 k,.int .i64 x,.int .i64 y,.int .i64 z]
def Zr4 (ls:List Ld) (ss:List Sg) (k x y z:Int):Bool :=
 if k=1∨k=4 then decide (z=0)
 else if k=2 then ((decide (0≤x)&&decide (x≤(ls.length:Int) - 1))&&decide (y=0))&&decide (z=0)
 else if k=3 then (decide (0≤x)&&decide (x≤(ls.length:Int) - 1))&&decide (z=0)
 else if k=6 then ((decide (0≤x)&&decide (x≤(ss.length:Int) - 1))&&decide (y=0))&&decide (z=0)
 else decide (k=5)
def Zj6 (ls:List Ld) (k x y:Int):List Ld :=
 if k=1 then ls++[(x,y)] else if k=2 then ls.eraseIdx x.toNat else if k=3 then ZtH ls x.toNat y else ls
def XI (ss:List Sg) (k x y z:Int):List Sg :=
 if k=5 then ss++[(x,y,z)] else if k=6 then ss.eraseIdx x.toNat else ss
def Jr (a k x:Int):Int:=if k=4 then x else a
theorem ZCo {p1 p2:Option (Nat×Nat)} {s1 s2:Nat} {c1 c2:Option Nat} {ls:List Ld} {ss:List Sg} (hn:ls.length≤1048576) (hm:ss.length≤1048576) (a b t c k x y z:Int) :
  call T pr Zio [stV (.slice p1 s1 ls.length c1) a b (.slice p2 s2 ss.length c2) t c,tkV k x y z] ⟨H,e⟩=some (.bool (Zr4 ls ss k x y z),⟨H,e⟩):=by
 have hw1:IntKind.i64.wrap ((ls.length:Int) - 1)=(ls.length:Int) - 1:=ZN (by omega) (by omega)
 have hw2:IntKind.i64.wrap ((ss.length:Int) - 1)=(ss.length:Int) - 1:=ZN (by omega) (by omega)
 rw [Zh ZBi]
 unfold Zr4
 by_cases h1:k=1
 ·subst h1
  simp +contextual only [K1,Zbp,decide_true,true_or,go_sem,reduceIte,Ra,Rb,Rc,Rd]
 by_cases h4:k=4
 ·subst h4
  simp +contextual only [K1,Zbp,h1,decide_true,decide_false,or_true,go_sem,reduceIte,Ra,Rb,Rc,Rd]
 by_cases h2:k=2
 ·subst h2
  cases hb:(decide (0≤x)&&decide (x≤(ls.length:Int) - 1)) <;> cases hy:decide (y=0) <;>
   simp +contextual only [K1,Zbp,Ye,hw1,hb,hy,h1,h4,decide_true,decide_false,or_self,go_sem,reduceIte,Ra,Rb,Rc,Rd]
 by_cases h3:k=3
 ·subst h3
  cases hb:(decide (0≤x)&&decide (x≤(ls.length:Int) - 1)) <;>
   simp +contextual only [K1,Zbp,Ye,hw1,hb,h1,h2,h4,decide_true,decide_false,or_self,go_sem,reduceIte,Ra,Rb,Rc,Rd]
 by_cases h6:k=6
 ·subst h6
  cases hb:(decide (0≤x)&&decide (x≤(ss.length:Int) - 1)) <;> cases hy:decide (y=0) <;>
   simp +contextual only [K1,Zbp,Ye,hw2,hb,hy,h1,h2,h3,h4,decide_true,decide_false,or_self,go_sem,reduceIte,Ra,Rb,Rc,Rd]
 simp +contextual only [K1,Zbp,h1,h2,h3,h4,h6,decide_false,or_self,go_sem,reduceIte,Ra,Rb,Rc,Rd]
theorem Zzl {q1 q2:Nat} {c1 c2:Option Nat} {ls:List Ld} {ss:List Sg} (h1:Zb H q1=some (Zn ls)) (h2:Zb H q2=some (Zw ss)) (hn:ls.length≤1048575) (hm:ss.length≤1048575) (a b t c k x y z:Int) (hk:Zr4 ls ss k x y z=true) :
  call T pr ZfR [stV (slL q1 ls.length c1) a b (slS q2 ss.length c2) t c,tkV k x y z] ⟨H,e⟩ =
   some (stV (slL H.length (Zj6 ls k x y).length none) (Jr a k x) (Jr b k y) (slS (H.length+1) (XI ss k x y z).length none) t c,⟨H++[.cells (Zn (Zj6 ls k x y)) true,.cells (Zw (XI ss k x y z)) true],e⟩):=by
 have hown:=fun G=>ZiK (pr:=pr) (e:=none) (c1:=c1) (c2:=c2) (Za h1 G) (Za h2 G) (by omega) (by omega) a b t c
 rw [Zh Zyc]
 unfold Zr4 at hk
 unfold Zj6 XI Jr
 by_cases k1:k=1
 ·subst k1
  have happ:=fun L b q c e' (hb:L[b]?=some (.cells (Zn ls) true)) hq=>ZiL (e:=e') (L:=L) (b:=b) (q:=q) (n:=ls.length) (sz:=2) (bytes:=16) (c:=c) (cs:=Zn ls) (new:=[.int .i64 x,.int .i64 y]) hb hq (YG ls) rfl (by unfold maxBytes;omega)
  have hap2:Zn ls++[AV.int .i64 x,.int .i64 y]=Zn (ls++[(x,y)]):=by rw [Zdn];rfl
  have hf:∀ (B0 B1 B2 B3 B5 B6:Blk) (e0 e1:Option Nat),clean H.length e1=true→finish 2 H.length e0 (stV (slL (H.length+7) (ls.length+1) none) a b (slS (H.length+4) ss.length none) t c) ⟨H++[B0,B1,B2,B3,.cells (Zw ss) true,B5,B6,.cells (Zn (ls++[(x,y)])) true],e1⟩ =
    some (stV (slL H.length (ls.length+1) none) a b (slS (H.length+1) ss.length none) t c,⟨H++[.cells (Zn (ls++[(x,y)])) true,.cells (Zw ss) true],e0⟩) :=
   fun B0 B1 B2 B3 B5 B6 e0 e1 hc=>Jb a b t c e0 e1 hc rfl rfl (by decide) (ZS _ _) (Z0 _ _)
  simp +contextual only [JZ,Q7,Zc,hown,happ,hap2,hf,Zv,RD,RE,Rh,decide_true,decide_false,Zq,Zm,RF,Rq,RQ,go_sem,reduceIte,Ra,Rb,Rc,Rd]
 by_cases k2:k=2
 ·subst k2
  simp only [show ¬ ((2:Int)=1) by omega,show ¬ ((2:Int)=4) by omega,or_self,if_false,if_true,Bool.and_eq_true,decide_eq_true_eq] at hk
  obtain ⟨i,rfl⟩:∃ i:Nat,x=i:=⟨x.toNat,by omega⟩
  have hi:i<ls.length:=by omega
  have hi1:i≤ls.length:=by omega
  have hi2:i+1≤ls.length:=by omega
  have happ:=fun L b e' (hb:L[b]?=some (.cells (Zn ls) true))=>Zr3 (e:=e') (L:=L) (b:=b) (n:=ls.length) (sz:=2) (bytes:=16) (i:=i) (cs:=Zn ls) hb (YG ls) hi (by unfold maxBytes;omega)
  have hel:(ls.eraseIdx i).length=ls.length - 1:=by rw [RV,if_pos hi]
  have hf:∀ (B0 B1 B2 B3 B5:Blk) (e0 e1:Option Nat),clean H.length e1=true→finish 2 H.length e0 (stV (slL (H.length+6) (ls.length - 1) none) a b (slS (H.length+4) ss.length none) t c) ⟨H++[B0,B1,B2,B3,.cells (Zw ss) true,B5,.cells (Zn (ls.eraseIdx i)) true],e1⟩ =
    some (stV (slL H.length (ls.length - 1) none) a b (slS (H.length+1) ss.length none) t c,⟨H++[.cells (Zn (ls.eraseIdx i)) true,.cells (Zw ss) true],e0⟩) :=
   fun B0 B1 B2 B3 B5 e0 e1 hc=>Jb a b t c e0 e1 hc rfl rfl (by decide) (ZS _ _) (Z0 _ _)
  simp +contextual only [JZ,Q7,Zc,Zj4,Zbw,Zj5,Zdt,hi1,hi2,hown,happ,Zr1,hel,hf,Zi (show i<9223372036854775807 by omega),Zv,RD,RE,Rh,decide_true,decide_false,Zq,Zm,RF,Rq,RQ,go_sem,reduceIte,Ra,Rb,Rc,Rd]
 by_cases k3:k=3
 ·subst k3
  simp only [show ¬ ((3:Int)=1) by omega,show ¬ ((3:Int)=2) by omega,show ¬ ((3:Int)=4) by omega,or_self,if_false,if_true,Bool.and_eq_true,decide_eq_true_eq] at hk
  obtain ⟨i,rfl⟩:∃ i:Nat,x=i:=⟨x.toNat,by omega⟩
  have hi:i<ls.length:=by omega
  have hle:i*2+1≤(Zn ls).length:=by rw [YG];omega
  have hle2:i*2+2≤(Zn ls).length:=by rw [YG];omega
  have hf:∀ (B0 B1 B2 B5:Blk) (e0 e1:Option Nat),clean H.length e1=true→finish 2 H.length e0 (stV (slL (H.length+3) ls.length none) a b (slS (H.length+4) ss.length none) t c) ⟨H++[B0,B1,B2,.cells (Zn (ZtH ls i y)) true,.cells (Zw ss) true,B5],e1⟩ =
    some (stV (slL H.length ls.length none) a b (slS (H.length+1) ss.length none) t c,⟨H++[.cells (Zn (ZtH ls i y)) true,.cells (Zw ss) true],e0⟩) :=
   fun B0 B1 B2 B5 e0 e1 hc=>Jb a b t c e0 e1 hc rfl rfl (by decide) (ZS _ _) (Z0 _ _)
  simp +contextual only [JZ,Q7,Zc,hown,hi,hle,hle2,Zlg y hi,Zgz,hf,Zv,RD,RE,Rh,decide_true,decide_false,Zq,Zm,RF,Rq,RQ,go_sem,reduceIte,Ra,Rb,Rc,Rd]
 by_cases k4:k=4
 ·subst k4
  have hf:∀ (B0 B1 B2 B5:Blk) (e0 e1:Option Nat),clean H.length e1=true→finish 2 H.length e0 (stV (slL (H.length+3) ls.length none) x y (slS (H.length+4) ss.length none) t c) ⟨H++[B0,B1,B2,.cells (Zn ls) true,.cells (Zw ss) true,B5],e1⟩ =
    some (stV (slL H.length ls.length none) x y (slS (H.length+1) ss.length none) t c,⟨H++[.cells (Zn ls) true,.cells (Zw ss) true],e0⟩) :=
   fun B0 B1 B2 B5 e0 e1 hc=>Jb x y t c e0 e1 hc rfl rfl (by decide) (ZS _ _) (Z0 _ _)
  simp +contextual only [JZ,Q7,Zc,hown,hf,Zv,RD,RE,Rh,decide_true,decide_false,Zq,Zm,RF,Rq,RQ,go_sem,reduceIte,Ra,Rb,Rc,Rd]
 by_cases k5:k=5
 ·subst k5
  have happ:=fun L b q c e' (hb:L[b]?=some (.cells (Zw ss) true)) hq=>ZiL (e:=e') (L:=L) (b:=b) (q:=q) (n:=ss.length) (sz:=3) (bytes:=24) (c:=c) (cs:=Zw ss) (new:=[.int .i64 x,.int .i64 y,.int .i64 z]) hb hq (KN ss) rfl (by unfold maxBytes;omega)
  have hap2:Zw ss++[AV.int .i64 x,.int .i64 y,.int .i64 z]=Zw (ss++[(x,y,z)]):=by rw [ZgA];rfl
  have hf:∀ (B0 B1 B2 B4 B5 B6:Blk) (e0 e1:Option Nat),clean H.length e1=true→finish 2 H.length e0 (stV (slL (H.length+3) ls.length none) a b (slS (H.length+7) (ss.length+1) none) t c) ⟨H++[B0,B1,B2,.cells (Zn ls) true,B4,B5,B6,.cells (Zw (ss++[(x,y,z)])) true],e1⟩ =
    some (stV (slL H.length ls.length none) a b (slS (H.length+1) (ss.length+1) none) t c,⟨H++[.cells (Zn ls) true,.cells (Zw (ss++[(x,y,z)])) true],e0⟩) :=
   fun B0 B1 B2 B4 B5 B6 e0 e1 hc=>Jb a b t c e0 e1 hc rfl rfl (by decide) (ZS _ _) (Z0 _ _)
  simp +contextual only [JZ,Q7,Zc,hown,happ,hap2,hf,Zv,RD,RE,Rh,decide_true,decide_false,Zq,Zm,RF,Rq,RQ,go_sem,reduceIte,Ra,Rb,Rc,Rd]
 by_cases k6:k=6
 ·subst k6
  simp only [show ¬ ((6:Int)=1) by omega,show ¬ ((6:Int)=2) by omega,show ¬ ((6:Int)=3) by omega,show ¬ ((6:Int)=4) by omega,or_self,if_false,if_true,Bool.and_eq_true,decide_eq_true_eq] at hk
  obtain ⟨i,rfl⟩:∃ i:Nat,x=i:=⟨x.toNat,by omega⟩
  have hi:i<ss.length:=by omega
  have hi1:i≤ss.length:=by omega
  have hi2:i+1≤ss.length:=by omega
  have happ:=fun L b e' (hb:L[b]?=some (.cells (Zw ss) true))=>Zr3 (e:=e') (L:=L) (b:=b) (n:=ss.length) (sz:=3) (bytes:=24) (i:=i) (cs:=Zw ss) hb (KN ss) hi (by unfold maxBytes;omega)
  have hel:(ss.eraseIdx i).length=ss.length - 1:=by rw [RV,if_pos hi]
  have hf:∀ (B0 B1 B2 B4 B5:Blk) (e0 e1:Option Nat),clean H.length e1=true→finish 2 H.length e0 (stV (slL (H.length+3) ls.length none) a b (slS (H.length+6) (ss.length - 1) none) t c) ⟨H++[B0,B1,B2,.cells (Zn ls) true,B4,B5,.cells (Zw (ss.eraseIdx i)) true],e1⟩ =
    some (stV (slL H.length ls.length none) a b (slS (H.length+1) (ss.length - 1) none) t c,⟨H++[.cells (Zn ls) true,.cells (Zw (ss.eraseIdx i)) true],e0⟩) :=
   fun B0 B1 B2 B4 B5 e0 e1 hc=>Jb a b t c e0 e1 hc rfl rfl (by decide) (ZS _ _) (Z0 _ _)
  simp +contextual only [JZ,Q7,Zc,Zj4,Zbw,Zj5,Zdt,hi1,hi2,hown,happ,Zr2,hel,hf,Zi (show i<9223372036854775807 by omega),Zv,RD,RE,Rh,decide_true,decide_false,Zq,Zm,RF,Rq,RQ,go_sem,reduceIte,Ra,Rb,Rc,Rd]
 simp [k1,k2,k3,k4,k5,k6] at hk
def ZnH (ls:List Ld) (ss:List Sg) (a b t c:Int):Bool:=Yu ls&&(ZA ss&&JN a b t c)
theorem Zmm {ls:List Ld} {ss:List Sg} {n m:Nat} (hn:ls.length=n) (hm:ss.length=m) (hm2:m≤1048576) (a b t c:Int) {L:List Blk} {q1 q2:Nat} {c1 c2:Option Nat} (h1:Zb L q1=some (Zn ls)) (h2:Zb L q2=some (Zw ss)) :
  call T pr YQ [stV (slL q1 n c1) a b (slS q2 m c2) t c] ⟨L,e⟩=some (.bool (ZnH ls ss a b t c),⟨L,e⟩):=by
 subst hn hm
 exact Zdq (fun G=>Ka (Za h1 G)) (fun G=>Jq (Za h2 G) (by omega)) a b t c
theorem ZHY {ls:List Ld} {ss:List Sg} {n m:Nat} (hn:ls.length=n) (hm:ss.length=m) (hm2:m≤1048576) (a b t c:Int) {L:List Blk} {q1 q2:Nat} {c1 c2:Option Nat} (h1:Zb L q1=some (Zn ls)) (h2:Zb L q2=some (Zw ss)) :
  call T pr Xb [stV (slL q1 n c1) a b (slS q2 m c2) t c] ⟨L,e⟩=some (.bool (ZnH ls ss a b t c),⟨L,e⟩):=by
 subst hn hm
 exact Zdr (fun G=>KM (Za h1 G)) (fun G=>KO (Za h2 G) (by omega)) a b t c
theorem ZCp {ls:List Ld} {n:Nat} (hn:ls.length=n) (hn2:n≤1048576) (a b:Int) {L:List Blk} {q1:Nat} {c1:Option Nat} (h1:Zb L q1=some (Zn ls)) :
  call T pr Zbg [slL q1 n c1,.int .i64 a,.int .i64 b] ⟨L,e⟩=some (.int .i64 (Zdp ls a b),⟨L,e⟩):=by
 subst hn
 exact ZpA h1 (by omega) a b
theorem ZEy {ls:List Ld} {n:Nat} (hn:ls.length=n) (hn2:n≤1048576) (a b:Int) {L:List Blk} {q1:Nat} {c1:Option Nat} (h1:Zb L q1=some (Zn ls)) :
  call T pr Zbf [slL q1 n c1,.int .i64 a,.int .i64 b] ⟨L,e⟩=some (.int .i64 (Zdp ls a b),⟨L,e⟩):=by
 subst hn
 exact Zmg h1 (by omega) a b
abbrev Zmn:AV:=stV (.slice none 0 0 none) 0 0 (.slice none 0 0 none) 0 0
def Zli (ls:List Ld) (ss:List Sg) (a b t c k x y z:Int):Bool:=Zr4 ls ss k x y z&&ZnH (Zj6 ls k x y) (XI ss k x y z) (Jr a k x) (Jr b k y) t (wr (c+1))
def Zfd (ls:List Ld) (a b t k x y:Int):Int:=if decide (Zdp (Zj6 ls k x y) (Jr a k x) (Jr b k y)=0)=true then t else wr (t+1)
def ZgB (H:List Blk) (e:Option Nat) (ok:Bool) (ls:List Ld) (ss:List Sg) (a b t c:Int):Option (AV×Mem) :=
 if ok=true then some (.tup [stV (slL H.length ls.length none) a b (slS (H.length+1) ss.length none) t c,.bool true],⟨H++[.cells (Zn ls) true,.cells (Zw ss) true],e⟩)
 else some (.tup [Zmn,.bool false],⟨H,e⟩)
theorem Zzm (ls:List Ld) (k x y:Int):(Zj6 ls k x y).length≤ls.length+1:=by
 unfold Zj6
 split
 ·simp
 ·split
  ·have:=List.length_eraseIdx_le ls x.toNat;omega
  ·split
   ·rw [Zgz];omega
   ·omega
theorem ZtJ (ss:List Sg) (k x y z:Int):(XI ss k x y z).length≤ss.length+1:=by
 unfold XI
 split
 ·simp
 ·split
  ·have:=List.length_eraseIdx_le ss x.toNat;omega
  ·omega
theorem ZEz {q1 q2:Nat} {c1 c2:Option Nat} {ls:List Ld} {ss:List Sg} (h1:Zb H q1=some (Zn ls)) (h2:Zb H q2=some (Zw ss)) (hn:ls.length≤1048575) (hm:ss.length≤1048575) (a b t c k x y z:Int) :
  call T pr Zhh [stV (slL q1 ls.length c1) a b (slS q2 ss.length c2) t c,tkV k x y z] ⟨H,e⟩ =
   ZgB H e (Zli ls ss a b t c k x y z) (Zj6 ls k x y) (XI ss k x y z) (Jr a k x) (Jr b k y) (Zfd ls a b t k x y) (wr (c+1)):=by
 have hfN:∀ (G:List Blk) (e0 e1:Option Nat),clean H.length e1=true→finish 2 H.length e0 (.tup [Zmn,.bool false]) ⟨H++G,e1⟩=some (.tup [Zmn,.bool false],⟨H,e0⟩) :=
  fun G e0 e1 hc=>Zlb 0 0 0 0 false e0 e1 hc
 have hmay:=fun G=>ZCo (pr:=pr) (H:=H++G) (e:=none) (p1:=some (q1,0)) (p2:=some (q2,0)) (s1:=2) (s2:=3) (c1:=c1) (c2:=c2) (ls:=ls) (ss:=ss) (by omega) (by omega) a b t c k x y z
 rw [Zh ZDH]
 unfold ZgB Zli Zfd
 cases hk:Zr4 ls ss k x y z with
 | false=>
  rw [hk] at hmay
  simp +contextual only [Zda,Zhp,Zc,hmay,hfN,Zz,Zq,Zm,RF,decide_true,go_sem,reduceIte,Ra,Rb,Rc,Rd]
 | true=>
  rw [hk] at hmay
  have hmk:=fun G=>Zzl (pr:=pr) (H:=H++G) (e:=none) (c1:=c1) (c2:=c2) (Za h1 G) (Za h2 G) hn hm a b t c k x y z hk
  have hr1:=Zzm ls k x y
  have hc1:=ZtJ ss k x y z
  generalize Zj6 ls k x y=ls' at hmk hr1 ⊢
  generalize XI ss k x y z=ss' at hmk hc1 ⊢
  generalize Jr a k x=a' at hmk ⊢
  generalize Jr b k y=b' at hmk ⊢
  have hgood:=fun L q1 q2 c1 c2 h1 h2=>ZHY (pr:=pr) (e:=none) (L:=L) (q1:=q1) (q2:=q2) (c1:=c1) (c2:=c2) (ls:=ls') (ss:=ss') rfl rfl (by omega) a' b' t (wr (c+1)) h1 h2
  have hside:=fun L q1 c1 h1=>ZEy (pr:=pr) (e:=none) (L:=L) (q1:=q1) (c1:=c1) (ls:=ls') rfl (by omega) a' b' h1
  have hf:∀ (B0 B1 B2 B5:Blk) (t' c':Int) (e0 e1:Option Nat),clean H.length e1=true→finish 2 H.length e0 (.tup [stV (slL (H.length+3) ls'.length none) a' b' (slS (H.length+4) ss'.length none) t' c',.bool true]) ⟨H++[B0,B1,B2,.cells (Zn ls') true,.cells (Zw ss') true,B5],e1⟩ =
    some (.tup [stV (slL H.length ls'.length none) a' b' (slS (H.length+1) ss'.length none) t' c',.bool true],⟨H++[.cells (Zn ls') true,.cells (Zw ss') true],e0⟩) :=
   fun B0 B1 B2 B5 t' c' e0 e1 hc=>Zla a' b' t' c' true e0 e1 hc rfl rfl (by decide) (ZS _ _) (Z0 _ _)
  unfold wr at *
  cases hg:ZnH ls' ss' a' b' t (IntKind.i64.wrap (c+1)) with
  | false=>
   rw [hg] at hgood
   simp +contextual only [Zda,Zhp,Zc,hmay,hmk,hgood,hfN,Zv,Zz,RD,RE,Rh,decide_false,Zq,Zm,RF,Rq,decide_true,go_sem,reduceIte,Ra,Rb,Rc,Rd]
  | true=>
   rw [hg] at hgood
   by_cases ht:Zdp ls' a' b'=0
   ·rw [ht] at hside
    simp +contextual only [Zda,Zhp,Zc,hmay,hmk,hgood,hside,ht,hf,Zv,Zz,RD,RE,Rh,not_true_eq_false,decide_false,Zq,Zm,RF,Rq,decide_true,go_sem,reduceIte,Ra,Rb,Rc,Rd]
   ·simp +contextual only [Zda,Zhp,Zc,hmay,hmk,hgood,hside,ht,hf,Zv,Zz,RD,RE,Rh,not_false_eq_true,decide_false,Zq,Zm,RF,Rq,decide_true,go_sem,reduceIte,Ra,Rb,Rc,Rd]
def Zg7:Zg→Zg
 | .seq _ b=>b
 | c=>c
def YI:Zg:=Zg7 (Zg7 (Zg7 (Zg7 (Zg7 ZH))))
noncomputable def Ya (pr:Zt):St→Option (Ex×St):=run T pr YI
theorem Zac {y0 y1 y2 y3 y8 y9 y10 y11 y12 y13 y14 y15 y16 y17 y18 y19 y20 y21 y22:AV} {B0 B1 X3 X4:Blk} {G:List Blk} {j1 j2 n m:Nat} {a b t c:Int} {ls:List Ld} {ss:List Sg} {e:Option Nat} (hn:ls.length=n) (hm:ss.length=m) (hn2:n≤1048576) (hm2:m≤1048576) (h1:∀ B2 B5,(B0::B1::B2::X3::X4::B5::G)[j1]?=some (.cells (Zn ls) true)) (h2:∀ B2 B5,(B0::B1::B2::X3::X4::B5::G)[j2]?=some (.cells (Zw ss) true)) {ok:Bool} (hno:(ok&&ZnH ls ss a b t (IntKind.i64.wrap (c+1)))=false) :
  Ya pr ⟨[y0,y1,y2,y3,.ptr (some (H.length+2,0)),.bool false,.ptr (some (H.length+5,0)),.bool ok,y8,y9,y10,y11,y12,y13,y14,y15,y16,y17,y18,y19,y20,y21,y22],⟨H++(B0::B1::.cells [.slice none 0 0 none,.int .i64 0,.int .i64 0,.slice none 0 0 none,.int .i64 0,.int .i64 0] true::X3::X4::.cells [slL (H.length+j1) n none,.int .i64 a,.int .i64 b,slS (H.length+j2) m none,.int .i64 t,.int .i64 c] true::G),e⟩⟩ =
   some (Ex.ret,⟨[y0,y1,y2,y3,.ptr (some (H.length+2,0)),.bool false,.ptr (some (H.length+5,0)),.bool ok,y8,y9,y10,y11,y12,y13,y14,y15,y16,y17,y18,y19,y20,.bool true,y22],⟨H++(B0::B1::.cells [.slice none 0 0 none,.int .i64 0,.int .i64 0,.slice none 0 0 none,.int .i64 0,.int .i64 0] true::X3::X4::.cells [slL (H.length+j1) n none,.int .i64 a,.int .i64 b,slS (H.length+j2) m none,.int .i64 t,.int .i64 (IntKind.i64.wrap (c+1))] true::G),e⟩⟩):=by
 have hc1:∀ B2 B5,Zb (H++(B0::B1::B2::X3::X4::B5::G)) (H.length+j1)=some (Zn ls):=fun B2 B5=>by rw [KL];exact Zgy (h1 B2 B5)
 have hc2:∀ B2 B5,Zb (H++(B0::B1::B2::X3::X4::B5::G)) (H.length+j2)=some (Zw ss):=fun B2 B5=>by rw [KL];exact Zgy (h2 B2 B5)
 have hist:=fun B2 B5 e=>Zmm (pr:=pr) (e:=e) (c1:=none) (c2:=none) hn hm hm2 a b t (IntKind.i64.wrap (c+1)) (hc1 B2 B5) (hc2 B2 B5)
 unfold Ya YI
 simp only [Zg7,ZH]
 cases ok with
 | false=>simp +contextual only [Zc,Zv,Zz,RD,RE,Rh,Zq,Zm,RF,Rq,RQ,not_true_eq_false,not_false_eq_true,decide_true,decide_false,go_sem,reduceIte,Ra,Rb,Rc,Rd]
 | true=>
  rw [RT] at hno
  rw [hno] at hist
  simp +contextual only [Zc,hist,Zv,Zz,RD,RE,Rh,Zq,Zm,RF,Rq,RQ,not_true_eq_false,not_false_eq_true,decide_true,decide_false,go_sem,reduceIte,Ra,Rb,Rc,Rd]
theorem ZiM {y0 y1 y2 y3 y8 y9 y10 y11 y12 y13 y14 y15 y16 y17 y18 y19 y20 y21 y22:AV} {B0 B1 X3 X4:Blk} {G:List Blk} {j1 j2 n m:Nat} {a b t c:Int} {ls:List Ld} {ss:List Sg} {e:Option Nat} (hn:ls.length=n) (hm:ss.length=m) (hn2:n≤1048576) (hm2:m≤1048576) (h1:∀ B2 B5,(B0::B1::B2::X3::X4::B5::G)[j1]?=some (.cells (Zn ls) true)) (h2:∀ B2 B5,(B0::B1::B2::X3::X4::B5::G)[j2]?=some (.cells (Zw ss) true)) (h3:3≤j1) (hyes:ZnH ls ss a b t (IntKind.i64.wrap (c+1))=true) :
  Ya pr ⟨[y0,y1,y2,y3,.ptr (some (H.length+2,0)),.bool false,.ptr (some (H.length+5,0)),.bool true,y8,y9,y10,y11,y12,y13,y14,y15,y16,y17,y18,y19,y20,y21,y22],⟨H++(B0::B1::.cells [.slice none 0 0 none,.int .i64 0,.int .i64 0,.slice none 0 0 none,.int .i64 0,.int .i64 0] true::X3::X4::.cells [slL (H.length+j1) n none,.int .i64 a,.int .i64 b,slS (H.length+j2) m none,.int .i64 t,.int .i64 c] true::G),e⟩⟩ =
   some (Ex.ret,⟨[y0,y1,y2,y3,.ptr (some (H.length+2,0)),.bool true,.ptr (some (H.length+5,0)),.bool true,y8,y9,y10,y11,y12,y13,y14,y15,y16,y17,y18,y19,y20,.bool false,.bool (!decide (Zdp ls a b=0))],⟨H++(B0::B1::.cells [slL (H.length+j1) n none,.int .i64 a,.int .i64 b,slS (H.length+j2) m none,.int .i64 (if decide (Zdp ls a b=0)=true then t else IntKind.i64.wrap (t+1)),.int .i64 (IntKind.i64.wrap (c+1))] true::X3::X4::.cells [slL (H.length+j1) n none,.int .i64 a,.int .i64 b,slS (H.length+j2) m none,.int .i64 (if decide (Zdp ls a b=0)=true then t else IntKind.i64.wrap (t+1)),.int .i64 (IntKind.i64.wrap (c+1))] true::G),Z8 e (H.length+2)⟩⟩):=by
 have hc1:∀ B2 B5,Zb (H++(B0::B1::B2::X3::X4::B5::G)) (H.length+j1)=some (Zn ls):=fun B2 B5=>by rw [KL];exact Zgy (h1 B2 B5)
 have hc2:∀ B2 B5,Zb (H++(B0::B1::B2::X3::X4::B5::G)) (H.length+j2)=some (Zw ss):=fun B2 B5=>by rw [KL];exact Zgy (h2 B2 B5)
 have hist:=fun B2 B5 e=>Zmm (pr:=pr) (e:=e) (c1:=none) (c2:=none) hn hm hm2 a b t (IntKind.i64.wrap (c+1)) (hc1 B2 B5) (hc2 B2 B5)
 have hside:=fun B2 B5 e=>ZCp (pr:=pr) (e:=e) (c1:=none) hn hn2 a b (hc1 B2 B5)
 have hlt:¬ (j1<2+1):=by omega
 unfold Ya YI
 simp only [Zg7,ZH]
 rw [hyes] at hist
 by_cases ht:Zdp ls a b=0
 ·rw [ht] at hside
  simp +contextual only [Zc,hist,hside,ht,hlt,Zv,Zz,RD,RE,Rh,Zq,Zm,RF,Rq,RQ,not_true_eq_false,not_false_eq_true,decide_true,decide_false,go_sem,reduceIte,Ra,Rb,Rc,Rd]
 ·simp +contextual only [Zc,hist,hside,ht,hlt,Zv,Zz,RD,RE,Rh,Zq,Zm,RF,Rq,RQ,not_true_eq_false,not_false_eq_true,decide_true,decide_false,go_sem,reduceIte,Ra,Rb,Rc,Rd]
def Zeo:Zg:=Zg7 (Zg7 (Zg7 ZH))
def Yr:Zg:=Zg7 (Zg7 (Zg7 (Zg7 ZH)))
noncomputable def ZcJ (pr:Zt):St→Option (Ex×St):=run T pr Zeo
noncomputable def ZE (pr:Zt):St→Option (Ex×St):=run T pr Yr
theorem QN:run T pr YI=Ya pr:=rfl
theorem ZCq:run T pr Zeo=ZcJ pr:=rfl
theorem ZCr:run T pr Yr=ZE pr:=rfl
theorem ZI4 (ls:List Ld) (ss:List Sg) (x y z:Int):Zr4 ls ss 1 x y z=decide (z=0):=by simp [Zr4]
theorem ZI5 (ls:List Ld) (ss:List Sg) (x y z:Int):Zr4 ls ss 2 x y z=(((decide (0≤x)&&decide (x≤(ls.length:Int) - 1))&&decide (y=0))&&decide (z=0)):=by simp [Zr4]
theorem ZI6 (ls:List Ld) (ss:List Sg) (x y z:Int):Zr4 ls ss 3 x y z=((decide (0≤x)&&decide (x≤(ls.length:Int) - 1))&&decide (z=0)):=by simp [Zr4]
theorem ZI7 (ls:List Ld) (ss:List Sg) (x y z:Int):Zr4 ls ss 4 x y z=decide (z=0):=by simp [Zr4]
theorem ZI8 (ls:List Ld) (ss:List Sg) (x y z:Int):Zr4 ls ss 5 x y z=true:=by simp [Zr4]
theorem ZI9 (ls:List Ld) (ss:List Sg) (x y z:Int):Zr4 ls ss 6 x y z=(((decide (0≤x)&&decide (x≤(ss.length:Int) - 1))&&decide (y=0))&&decide (z=0)):=by simp [Zr4]
set_option maxHeartbeats 8000000 in
theorem ZgC {q1 q2:Nat} {c1 c2:Option Nat} {ls:List Ld} {ss:List Sg} {a b t c:Int} (h1:Zb H q1=some (Zn ls)) (h2:Zb H q2=some (Zw ss)) (hn:ls.length≤1048575) (hm:ss.length≤1048575) (k x y z:Int) (hv:ZnH ls ss a b t c=true) :
  call T pr Xv [stV (slL q1 ls.length c1) a b (slS q2 ss.length c2) t c,tkV k x y z] ⟨H,e⟩=Za9 Jy ⟨H,e⟩ (ZcJ pr ⟨[stV (slL q1 ls.length c1) a b (slS q2 ss.length c2) t c,tkV k x y z,.ptr (some (H.length,0)),.ptr (some (H.length+1,0)),.ptr (some (H.length+2,0)),.bool false,.ptr (some (H.length+5,0)),.bool false,.undef,.undef,.bool false,.undef,.undef,.undef,.undef,.undef,.undef,.undef,.undef,.undef,.undef,.undef,.undef],⟨H++[.cells [slL q1 ls.length c1,.int .i64 a,.int .i64 b,slS q2 ss.length c2,.int .i64 t,.int .i64 c] true,.cells [.int .i64 k,.int .i64 x,.int .i64 y,.int .i64 z] true,.cells [.slice none 0 0 none,.int .i64 0,.int .i64 0,.slice none 0 0 none,.int .i64 0,.int .i64 0] true,.cells (Zn ls) true,.cells (Zw ss) true,.cells [slL (H.length+3) (ls.length) none,.int .i64 a,.int .i64 b,slS (H.length+4) (ss.length) none,.int .i64 t,.int .i64 c] true],none⟩⟩):=by
 have hvalid:=fun G=>Zmm (pr:=pr) (e:=none) (c1:=c1) (c2:=c2) (ls:=ls) (ss:=ss) rfl rfl (by omega) a b t c (Za h1 G) (Za h2 G)
 rw [hv] at hvalid
 have hcopy:=fun G=>Zgx (pr:=pr) (e:=none) (c1:=c1) (c2:=c2) (Za h1 G) (Za h2 G) (by omega) (by omega) a b t c
 have hfold:=ZCq (pr:=pr)
 simp only [Zeo,Zg7,ZH] at hfold
 rw [Zh ZBa]
 generalize hA:Za9 Jy=EC
 simp (config:={ maxSteps:=2000000,contextual:=true }) only [Jy] at hA
 simp (config:={ maxSteps:=2000000,contextual:=true }) only [Jy,ZH,hA,hfold,hvalid,hcopy,Zv,Zz,RD,RE,Rh,Zq,Zm,RF,Rq,RQ,not_true_eq_false,not_false_eq_true,decide_true,decide_false,go_sem,reduceIte,Ra,Rb,Rc,Rd]
set_option maxHeartbeats 8000000 in
theorem ZgD {q1 q2:Nat} {c1 c2:Option Nat} {ls:List Ld} {ss:List Sg} {a b t c:Int} (hn:ls.length≤1048575) (hm:ss.length≤1048575) (k x y z:Int) :
  ZcJ pr ⟨[stV (slL q1 ls.length c1) a b (slS q2 ss.length c2) t c,tkV k x y z,.ptr (some (H.length,0)),.ptr (some (H.length+1,0)),.ptr (some (H.length+2,0)),.bool false,.ptr (some (H.length+5,0)),.bool false,.undef,.undef,.bool false,.undef,.undef,.undef,.undef,.undef,.undef,.undef,.undef,.undef,.undef,.undef,.undef],⟨H++[.cells [slL q1 ls.length c1,.int .i64 a,.int .i64 b,slS q2 ss.length c2,.int .i64 t,.int .i64 c] true,.cells [.int .i64 k,.int .i64 x,.int .i64 y,.int .i64 z] true,.cells [.slice none 0 0 none,.int .i64 0,.int .i64 0,.slice none 0 0 none,.int .i64 0,.int .i64 0] true,.cells (Zn ls) true,.cells (Zw ss) true,.cells [slL (H.length+3) (ls.length) none,.int .i64 a,.int .i64 b,slS (H.length+4) (ss.length) none,.int .i64 t,.int .i64 c] true],none⟩⟩=ZE pr ⟨[stV (slL q1 ls.length c1) a b (slS q2 ss.length c2) t c,tkV k x y z,.ptr (some (H.length,0)),.ptr (some (H.length+1,0)),.ptr (some (H.length+2,0)),.bool false,.ptr (some (H.length+5,0)),.bool false,.bool (decide (0≤x)&&decide (x≤(ls.length:Int) - 1)),.bool (decide (0≤x)&&decide (x≤(ss.length:Int) - 1)),.bool false,.undef,.undef,.undef,.undef,.undef,.undef,.undef,.undef,.undef,.undef,.undef,.undef],⟨H++[.cells [slL q1 ls.length c1,.int .i64 a,.int .i64 b,slS q2 ss.length c2,.int .i64 t,.int .i64 c] true,.cells [.int .i64 k,.int .i64 x,.int .i64 y,.int .i64 z] true,.cells [.slice none 0 0 none,.int .i64 0,.int .i64 0,.slice none 0 0 none,.int .i64 0,.int .i64 0] true,.cells (Zn ls) true,.cells (Zw ss) true,.cells [slL (H.length+3) (ls.length) none,.int .i64 a,.int .i64 b,slS (H.length+4) (ss.length) none,.int .i64 t,.int .i64 c] true],none⟩⟩:=by
 have hw1:IntKind.i64.wrap ((ls.length:Int) - 1)=(ls.length:Int) - 1:=ZN (by omega) (by omega)
 have hw2:IntKind.i64.wrap ((ss.length:Int) - 1)=(ss.length:Int) - 1:=ZN (by omega) (by omega)
 have hfold:=ZCr (pr:=pr)
 simp only [Yr,Zg7,ZH] at hfold
 unfold ZcJ Zeo
 simp only [Zg7,ZH]
 simp (config:={ maxSteps:=2000000,contextual:=true }) only [hfold,Yd,hw1,hw2,Zv,Zz,RD,RE,Rh,Zq,Zm,RF,Rq,RQ,not_true_eq_false,not_false_eq_true,decide_true,decide_false,go_sem,reduceIte,Ra,Rb,Rc,Rd]
set_option maxHeartbeats 8000000 in
theorem ZEA {q1 q2:Nat} {c1 c2:Option Nat} {ls:List Ld} {ss:List Sg} {a b t c:Int} (hn:ls.length≤1048575) (hm:ss.length≤1048575) (x:Int) (y z:Int) {isL isS:Bool} :
  ZE pr ⟨[stV (slL q1 ls.length c1) a b (slS q2 ss.length c2) t c,tkV 1 x y z,.ptr (some (H.length,0)),.ptr (some (H.length+1,0)),.ptr (some (H.length+2,0)),.bool false,.ptr (some (H.length+5,0)),.bool false,.bool isL,.bool isS,.bool false,.undef,.undef,.undef,.undef,.undef,.undef,.undef,.undef,.undef,.undef,.undef,.undef],⟨H++[.cells [slL q1 ls.length c1,.int .i64 a,.int .i64 b,slS q2 ss.length c2,.int .i64 t,.int .i64 c] true,.cells [.int .i64 1,.int .i64 x,.int .i64 y,.int .i64 z] true,.cells [.slice none 0 0 none,.int .i64 0,.int .i64 0,.slice none 0 0 none,.int .i64 0,.int .i64 0] true,.cells (Zn ls) true,.cells (Zw ss) true,.cells [slL (H.length+3) (ls.length) none,.int .i64 a,.int .i64 b,slS (H.length+4) (ss.length) none,.int .i64 t,.int .i64 c] true],none⟩⟩=Ya pr ⟨[stV (slL q1 ls.length c1) a b (slS q2 ss.length c2) t c,tkV 1 x y z,.ptr (some (H.length,0)),.ptr (some (H.length+1,0)),.ptr (some (H.length+2,0)),.bool false,.ptr (some (H.length+5,0)),.bool (decide (z=0)),.bool isL,.bool isS,.bool false,.int .i64 1,.bool true,.undef,.undef,.undef,.undef,.undef,.undef,.undef,.undef,.undef,.undef],⟨H++[.cells [slL q1 ls.length c1,.int .i64 a,.int .i64 b,slS q2 ss.length c2,.int .i64 t,.int .i64 c] true,.cells [.int .i64 1,.int .i64 x,.int .i64 y,.int .i64 z] true,.cells [.slice none 0 0 none,.int .i64 0,.int .i64 0,.slice none 0 0 none,.int .i64 0,.int .i64 0] true,.dead,.cells (Zw ss) true,.cells [slL (H.length+7) (ls.length+1) none,.int .i64 a,.int .i64 b,slS (H.length+4) (ss.length) none,.int .i64 t,.int .i64 c] true,.cells [.int .i64 x,.int .i64 y] true,.cells (Zn (ls++[(x,y)])) true],(Z8 none (H.length+5))⟩⟩:=by
 have happ:=fun L b q c e' (hb:L[b]?=some (.cells (Zn ls) true)) hq=>ZiL (e:=e') (L:=L) (b:=b) (q:=q) (n:=ls.length) (sz:=2) (bytes:=16) (c:=c) (cs:=Zn ls) (new:=[.int .i64 x,.int .i64 y]) hb hq (YG ls) rfl (by unfold maxBytes;omega)
 have hap2:Zn ls++[AV.int .i64 x,.int .i64 y]=Zn (ls++[(x,y)]):=by rw [Zdn];rfl
 have hfold:=QN (pr:=pr)
 simp only [YI,Zg7,ZH] at hfold
 unfold ZE Yr
 simp only [Zg7,ZH]
 simp (config:={ maxSteps:=2000000,contextual:=true }) only [hfold,Zc,or_true,true_or,RS,eq_self,happ,hap2,Zv,Zz,RD,RE,Rh,Zq,Zm,RF,Rq,RQ,not_true_eq_false,not_false_eq_true,decide_true,decide_false,go_sem,reduceIte,Ra,Rb,Rc,Rd]
set_option maxHeartbeats 8000000 in
theorem ZEB (hp:Zds pr) {q1 q2:Nat} {c1 c2:Option Nat} {ls:List Ld} {ss:List Sg} {a b t c:Int} (hn:ls.length≤1048575) (hm:ss.length≤1048575) {x:Nat} (hi:x<ls.length) (y z:Int) {isL isS:Bool} :
  ZE pr ⟨[stV (slL q1 ls.length c1) a b (slS q2 ss.length c2) t c,tkV 2 x y z,.ptr (some (H.length,0)),.ptr (some (H.length+1,0)),.ptr (some (H.length+2,0)),.bool false,.ptr (some (H.length+5,0)),.bool false,.bool true,.bool isS,.bool false,.undef,.undef,.undef,.undef,.undef,.undef,.undef,.undef,.undef,.undef,.undef,.undef],⟨H++[.cells [slL q1 ls.length c1,.int .i64 a,.int .i64 b,slS q2 ss.length c2,.int .i64 t,.int .i64 c] true,.cells [.int .i64 2,.int .i64 x,.int .i64 y,.int .i64 z] true,.cells [.slice none 0 0 none,.int .i64 0,.int .i64 0,.slice none 0 0 none,.int .i64 0,.int .i64 0] true,.cells (Zn ls) true,.cells (Zw ss) true,.cells [slL (H.length+3) (ls.length) none,.int .i64 a,.int .i64 b,slS (H.length+4) (ss.length) none,.int .i64 t,.int .i64 c] true],none⟩⟩=Ya pr ⟨[stV (slL q1 ls.length c1) a b (slS q2 ss.length c2) t c,tkV 2 x y z,.ptr (some (H.length,0)),.ptr (some (H.length+1,0)),.ptr (some (H.length+2,0)),.bool false,.ptr (some (H.length+5,0)),.bool (decide (y=0)&&decide (z=0)),.bool true,.bool isS,.bool false,.int .i64 2,.bool false,.bool true,.bool true,.undef,.undef,.undef,.undef,.undef,.undef,.undef,.undef],⟨H++[.cells [slL q1 ls.length c1,.int .i64 a,.int .i64 b,slS q2 ss.length c2,.int .i64 t,.int .i64 c] true,.cells [.int .i64 2,.int .i64 x,.int .i64 y,.int .i64 z] true,.cells [.slice none 0 0 none,.int .i64 0,.int .i64 0,.slice none 0 0 none,.int .i64 0,.int .i64 0] true,.dead,.cells (Zw ss) true,.cells [slL (H.length+7) (ls.length - 1) none,.int .i64 a,.int .i64 b,slS (H.length+4) (ss.length) none,.int .i64 t,.int .i64 c] true,.dead,.cells (Zn (ls.eraseIdx x)) true],(Z8 none (H.length+5))⟩⟩:=by
 have hdel:∀ L e b cap,L[b]?=some (.cells (Zn ls) true)→call T pr ZO [.slice (some (b,0)) 2 ls.length cap,.int .i64 x,.int .i64 (x+1:Nat)] ⟨L,e⟩=some (.slice (some (L.length+1,0)) 2 (ls.length - 1) none,⟨L.set b .dead++[.dead,.cells (Zn (ls.eraseIdx x)) true],e⟩):=by
  intro L e b cap hb
  rw [hp.1 L e b ls.length x cap (Zn ls) hb (YG ls) hi,Zr1]
 have hfold:=QN (pr:=pr)
 simp only [YI,Zg7,ZH] at hfold
 unfold ZE Yr
 simp only [Zg7,ZH]
 by_cases hy:y=0
 ·subst hy
  simp (config:={ maxSteps:=2000000,contextual:=true }) only [hfold,Zc,or_true,true_or,RS,eq_self,hdel,Zi (show x<9223372036854775807 by omega),Zv,Zz,RD,RE,Rh,Zq,Zm,RF,Rq,RQ,not_true_eq_false,not_false_eq_true,decide_true,decide_false,go_sem,reduceIte,Ra,Rb,Rc,Rd]
 ·simp (config:={ maxSteps:=2000000,contextual:=true }) only [hy,hfold,Zc,or_true,true_or,RS,eq_self,hdel,Zi (show x<9223372036854775807 by omega),Zv,Zz,RD,RE,Rh,Zq,Zm,RF,Rq,RQ,not_true_eq_false,not_false_eq_true,decide_true,decide_false,go_sem,reduceIte,Ra,Rb,Rc,Rd]
set_option maxHeartbeats 8000000 in
theorem ZCs {q1 q2:Nat} {c1 c2:Option Nat} {ls:List Ld} {ss:List Sg} {a b t c:Int} (hn:ls.length≤1048575) (hm:ss.length≤1048575) (x:Int) (y z:Int) {isL isS:Bool} :
  ZE pr ⟨[stV (slL q1 ls.length c1) a b (slS q2 ss.length c2) t c,tkV 2 x y z,.ptr (some (H.length,0)),.ptr (some (H.length+1,0)),.ptr (some (H.length+2,0)),.bool false,.ptr (some (H.length+5,0)),.bool false,.bool false,.bool isS,.bool false,.undef,.undef,.undef,.undef,.undef,.undef,.undef,.undef,.undef,.undef,.undef,.undef],⟨H++[.cells [slL q1 ls.length c1,.int .i64 a,.int .i64 b,slS q2 ss.length c2,.int .i64 t,.int .i64 c] true,.cells [.int .i64 2,.int .i64 x,.int .i64 y,.int .i64 z] true,.cells [.slice none 0 0 none,.int .i64 0,.int .i64 0,.slice none 0 0 none,.int .i64 0,.int .i64 0] true,.cells (Zn ls) true,.cells (Zw ss) true,.cells [slL (H.length+3) (ls.length) none,.int .i64 a,.int .i64 b,slS (H.length+4) (ss.length) none,.int .i64 t,.int .i64 c] true],none⟩⟩=Ya pr ⟨[stV (slL q1 ls.length c1) a b (slS q2 ss.length c2) t c,tkV 2 x y z,.ptr (some (H.length,0)),.ptr (some (H.length+1,0)),.ptr (some (H.length+2,0)),.bool false,.ptr (some (H.length+5,0)),.bool false,.bool false,.bool isS,.bool false,.int .i64 2,.bool false,.bool true,.bool false,.undef,.undef,.undef,.undef,.undef,.undef,.undef,.undef],⟨H++[.cells [slL q1 ls.length c1,.int .i64 a,.int .i64 b,slS q2 ss.length c2,.int .i64 t,.int .i64 c] true,.cells [.int .i64 2,.int .i64 x,.int .i64 y,.int .i64 z] true,.cells [.slice none 0 0 none,.int .i64 0,.int .i64 0,.slice none 0 0 none,.int .i64 0,.int .i64 0] true,.cells (Zn ls) true,.cells (Zw ss) true,.cells [slL (H.length+3) (ls.length) none,.int .i64 a,.int .i64 b,slS (H.length+4) (ss.length) none,.int .i64 t,.int .i64 c] true],none⟩⟩:=by
 have hfold:=QN (pr:=pr)
 simp only [YI,Zg7,ZH] at hfold
 unfold ZE Yr
 simp only [Zg7,ZH]
 simp (config:={ maxSteps:=2000000,contextual:=true }) only [hfold,Zc,or_true,true_or,RS,eq_self,Zv,Zz,RD,RE,Rh,Zq,Zm,RF,Rq,RQ,not_true_eq_false,not_false_eq_true,decide_true,decide_false,go_sem,reduceIte,Ra,Rb,Rc,Rd]
set_option maxHeartbeats 8000000 in
theorem ZEC {q1 q2:Nat} {c1 c2:Option Nat} {ls:List Ld} {ss:List Sg} {a b t c:Int} (hn:ls.length≤1048575) (hm:ss.length≤1048575) {x:Nat} (hi:x<ls.length) (y z:Int) {isL isS:Bool} :
  ZE pr ⟨[stV (slL q1 ls.length c1) a b (slS q2 ss.length c2) t c,tkV 3 x y z,.ptr (some (H.length,0)),.ptr (some (H.length+1,0)),.ptr (some (H.length+2,0)),.bool false,.ptr (some (H.length+5,0)),.bool false,.bool true,.bool isS,.bool false,.undef,.undef,.undef,.undef,.undef,.undef,.undef,.undef,.undef,.undef,.undef,.undef],⟨H++[.cells [slL q1 ls.length c1,.int .i64 a,.int .i64 b,slS q2 ss.length c2,.int .i64 t,.int .i64 c] true,.cells [.int .i64 3,.int .i64 x,.int .i64 y,.int .i64 z] true,.cells [.slice none 0 0 none,.int .i64 0,.int .i64 0,.slice none 0 0 none,.int .i64 0,.int .i64 0] true,.cells (Zn ls) true,.cells (Zw ss) true,.cells [slL (H.length+3) (ls.length) none,.int .i64 a,.int .i64 b,slS (H.length+4) (ss.length) none,.int .i64 t,.int .i64 c] true],none⟩⟩=Ya pr ⟨[stV (slL q1 ls.length c1) a b (slS q2 ss.length c2) t c,tkV 3 x y z,.ptr (some (H.length,0)),.ptr (some (H.length+1,0)),.ptr (some (H.length+2,0)),.bool false,.ptr (some (H.length+5,0)),.bool (decide (z=0)),.bool true,.bool isS,.bool false,.int .i64 3,.bool false,.bool false,.undef,.bool true,.bool true,.undef,.undef,.undef,.undef,.undef,.undef],⟨H++[.cells [slL q1 ls.length c1,.int .i64 a,.int .i64 b,slS q2 ss.length c2,.int .i64 t,.int .i64 c] true,.cells [.int .i64 3,.int .i64 x,.int .i64 y,.int .i64 z] true,.cells [.slice none 0 0 none,.int .i64 0,.int .i64 0,.slice none 0 0 none,.int .i64 0,.int .i64 0] true,.cells (Zn (ZtH ls x y)) true,.cells (Zw ss) true,.cells [slL (H.length+3) (ls.length) none,.int .i64 a,.int .i64 b,slS (H.length+4) (ss.length) none,.int .i64 t,.int .i64 c] true],none⟩⟩:=by
 have hle:x*2+1≤(Zn ls).length:=by rw [YG];omega
 have hle2:x*2+2≤(Zn ls).length:=by rw [YG];omega
 have hfold:=QN (pr:=pr)
 simp only [YI,Zg7,ZH] at hfold
 unfold ZE Yr
 simp only [Zg7,ZH]
 simp (config:={ maxSteps:=2000000,contextual:=true }) only [hfold,Zc,or_true,true_or,RS,eq_self,hi,hle,hle2,Zlg y hi,Zv,Zz,RD,RE,Rh,Zq,Zm,RF,Rq,RQ,not_true_eq_false,not_false_eq_true,decide_true,decide_false,go_sem,reduceIte,Ra,Rb,Rc,Rd]
set_option maxHeartbeats 8000000 in
theorem ZCt {q1 q2:Nat} {c1 c2:Option Nat} {ls:List Ld} {ss:List Sg} {a b t c:Int} (hn:ls.length≤1048575) (hm:ss.length≤1048575) (x:Int) (y z:Int) {isL isS:Bool} :
  ZE pr ⟨[stV (slL q1 ls.length c1) a b (slS q2 ss.length c2) t c,tkV 3 x y z,.ptr (some (H.length,0)),.ptr (some (H.length+1,0)),.ptr (some (H.length+2,0)),.bool false,.ptr (some (H.length+5,0)),.bool false,.bool false,.bool isS,.bool false,.undef,.undef,.undef,.undef,.undef,.undef,.undef,.undef,.undef,.undef,.undef,.undef],⟨H++[.cells [slL q1 ls.length c1,.int .i64 a,.int .i64 b,slS q2 ss.length c2,.int .i64 t,.int .i64 c] true,.cells [.int .i64 3,.int .i64 x,.int .i64 y,.int .i64 z] true,.cells [.slice none 0 0 none,.int .i64 0,.int .i64 0,.slice none 0 0 none,.int .i64 0,.int .i64 0] true,.cells (Zn ls) true,.cells (Zw ss) true,.cells [slL (H.length+3) (ls.length) none,.int .i64 a,.int .i64 b,slS (H.length+4) (ss.length) none,.int .i64 t,.int .i64 c] true],none⟩⟩=Ya pr ⟨[stV (slL q1 ls.length c1) a b (slS q2 ss.length c2) t c,tkV 3 x y z,.ptr (some (H.length,0)),.ptr (some (H.length+1,0)),.ptr (some (H.length+2,0)),.bool false,.ptr (some (H.length+5,0)),.bool false,.bool false,.bool isS,.bool false,.int .i64 3,.bool false,.bool false,.undef,.bool true,.bool false,.undef,.undef,.undef,.undef,.undef,.undef],⟨H++[.cells [slL q1 ls.length c1,.int .i64 a,.int .i64 b,slS q2 ss.length c2,.int .i64 t,.int .i64 c] true,.cells [.int .i64 3,.int .i64 x,.int .i64 y,.int .i64 z] true,.cells [.slice none 0 0 none,.int .i64 0,.int .i64 0,.slice none 0 0 none,.int .i64 0,.int .i64 0] true,.cells (Zn ls) true,.cells (Zw ss) true,.cells [slL (H.length+3) (ls.length) none,.int .i64 a,.int .i64 b,slS (H.length+4) (ss.length) none,.int .i64 t,.int .i64 c] true],none⟩⟩:=by
 have hfold:=QN (pr:=pr)
 simp only [YI,Zg7,ZH] at hfold
 unfold ZE Yr
 simp only [Zg7,ZH]
 simp (config:={ maxSteps:=2000000,contextual:=true }) only [hfold,Zc,or_true,true_or,RS,eq_self,Zv,Zz,RD,RE,Rh,Zq,Zm,RF,Rq,RQ,not_true_eq_false,not_false_eq_true,decide_true,decide_false,go_sem,reduceIte,Ra,Rb,Rc,Rd]
set_option maxHeartbeats 8000000 in
theorem ZED {q1 q2:Nat} {c1 c2:Option Nat} {ls:List Ld} {ss:List Sg} {a b t c:Int} (hn:ls.length≤1048575) (hm:ss.length≤1048575) (x:Int) (y z:Int) {isL isS:Bool} :
  ZE pr ⟨[stV (slL q1 ls.length c1) a b (slS q2 ss.length c2) t c,tkV 4 x y z,.ptr (some (H.length,0)),.ptr (some (H.length+1,0)),.ptr (some (H.length+2,0)),.bool false,.ptr (some (H.length+5,0)),.bool false,.bool isL,.bool isS,.bool false,.undef,.undef,.undef,.undef,.undef,.undef,.undef,.undef,.undef,.undef,.undef,.undef],⟨H++[.cells [slL q1 ls.length c1,.int .i64 a,.int .i64 b,slS q2 ss.length c2,.int .i64 t,.int .i64 c] true,.cells [.int .i64 4,.int .i64 x,.int .i64 y,.int .i64 z] true,.cells [.slice none 0 0 none,.int .i64 0,.int .i64 0,.slice none 0 0 none,.int .i64 0,.int .i64 0] true,.cells (Zn ls) true,.cells (Zw ss) true,.cells [slL (H.length+3) (ls.length) none,.int .i64 a,.int .i64 b,slS (H.length+4) (ss.length) none,.int .i64 t,.int .i64 c] true],none⟩⟩=Ya pr ⟨[stV (slL q1 ls.length c1) a b (slS q2 ss.length c2) t c,tkV 4 x y z,.ptr (some (H.length,0)),.ptr (some (H.length+1,0)),.ptr (some (H.length+2,0)),.bool false,.ptr (some (H.length+5,0)),.bool (decide (z=0)),.bool isL,.bool isS,.bool false,.int .i64 4,.bool false,.bool false,.undef,.bool false,.undef,.bool true,.undef,.undef,.undef,.undef,.undef],⟨H++[.cells [slL q1 ls.length c1,.int .i64 a,.int .i64 b,slS q2 ss.length c2,.int .i64 t,.int .i64 c] true,.cells [.int .i64 4,.int .i64 x,.int .i64 y,.int .i64 z] true,.cells [.slice none 0 0 none,.int .i64 0,.int .i64 0,.slice none 0 0 none,.int .i64 0,.int .i64 0] true,.cells (Zn ls) true,.cells (Zw ss) true,.cells [slL (H.length+3) (ls.length) none,.int .i64 x,.int .i64 y,slS (H.length+4) (ss.length) none,.int .i64 t,.int .i64 c] true],none⟩⟩:=by
 have hfold:=QN (pr:=pr)
 simp only [YI,Zg7,ZH] at hfold
 unfold ZE Yr
 simp only [Zg7,ZH]
 simp (config:={ maxSteps:=2000000,contextual:=true }) only [hfold,Zc,or_true,true_or,RS,eq_self,Zv,Zz,RD,RE,Rh,Zq,Zm,RF,Rq,RQ,not_true_eq_false,not_false_eq_true,decide_true,decide_false,go_sem,reduceIte,Ra,Rb,Rc,Rd]
set_option maxHeartbeats 8000000 in
theorem ZEE {q1 q2:Nat} {c1 c2:Option Nat} {ls:List Ld} {ss:List Sg} {a b t c:Int} (hn:ls.length≤1048575) (hm:ss.length≤1048575) (x:Int) (y z:Int) {isL isS:Bool} :
  ZE pr ⟨[stV (slL q1 ls.length c1) a b (slS q2 ss.length c2) t c,tkV 5 x y z,.ptr (some (H.length,0)),.ptr (some (H.length+1,0)),.ptr (some (H.length+2,0)),.bool false,.ptr (some (H.length+5,0)),.bool false,.bool isL,.bool isS,.bool false,.undef,.undef,.undef,.undef,.undef,.undef,.undef,.undef,.undef,.undef,.undef,.undef],⟨H++[.cells [slL q1 ls.length c1,.int .i64 a,.int .i64 b,slS q2 ss.length c2,.int .i64 t,.int .i64 c] true,.cells [.int .i64 5,.int .i64 x,.int .i64 y,.int .i64 z] true,.cells [.slice none 0 0 none,.int .i64 0,.int .i64 0,.slice none 0 0 none,.int .i64 0,.int .i64 0] true,.cells (Zn ls) true,.cells (Zw ss) true,.cells [slL (H.length+3) (ls.length) none,.int .i64 a,.int .i64 b,slS (H.length+4) (ss.length) none,.int .i64 t,.int .i64 c] true],none⟩⟩=Ya pr ⟨[stV (slL q1 ls.length c1) a b (slS q2 ss.length c2) t c,tkV 5 x y z,.ptr (some (H.length,0)),.ptr (some (H.length+1,0)),.ptr (some (H.length+2,0)),.bool false,.ptr (some (H.length+5,0)),.bool true,.bool isL,.bool isS,.bool false,.int .i64 5,.bool false,.bool false,.undef,.bool false,.undef,.bool false,.bool true,.undef,.undef,.undef,.undef],⟨H++[.cells [slL q1 ls.length c1,.int .i64 a,.int .i64 b,slS q2 ss.length c2,.int .i64 t,.int .i64 c] true,.cells [.int .i64 5,.int .i64 x,.int .i64 y,.int .i64 z] true,.cells [.slice none 0 0 none,.int .i64 0,.int .i64 0,.slice none 0 0 none,.int .i64 0,.int .i64 0] true,.cells (Zn ls) true,.dead,.cells [slL (H.length+3) (ls.length) none,.int .i64 a,.int .i64 b,slS (H.length+7) (ss.length+1) none,.int .i64 t,.int .i64 c] true,.cells [.int .i64 x,.int .i64 y,.int .i64 z] true,.cells (Zw (ss++[(x,y,z)])) true],(Z8 none (H.length+5))⟩⟩:=by
 have happ:=fun L b q c e' (hb:L[b]?=some (.cells (Zw ss) true)) hq=>ZiL (e:=e') (L:=L) (b:=b) (q:=q) (n:=ss.length) (sz:=3) (bytes:=24) (c:=c) (cs:=Zw ss) (new:=[.int .i64 x,.int .i64 y,.int .i64 z]) hb hq (KN ss) rfl (by unfold maxBytes;omega)
 have hap2:Zw ss++[AV.int .i64 x,.int .i64 y,.int .i64 z]=Zw (ss++[(x,y,z)]):=by rw [ZgA];rfl
 have hfold:=QN (pr:=pr)
 simp only [YI,Zg7,ZH] at hfold
 unfold ZE Yr
 simp only [Zg7,ZH]
 simp (config:={ maxSteps:=2000000,contextual:=true }) only [hfold,Zc,or_true,true_or,RS,eq_self,happ,hap2,Zv,Zz,RD,RE,Rh,Zq,Zm,RF,Rq,RQ,not_true_eq_false,not_false_eq_true,decide_true,decide_false,go_sem,reduceIte,Ra,Rb,Rc,Rd]
set_option maxHeartbeats 8000000 in
theorem ZEF (hp:Zds pr) {q1 q2:Nat} {c1 c2:Option Nat} {ls:List Ld} {ss:List Sg} {a b t c:Int} (hn:ls.length≤1048575) (hm:ss.length≤1048575) {x:Nat} (hi:x<ss.length) (y z:Int) {isL isS:Bool} :
  ZE pr ⟨[stV (slL q1 ls.length c1) a b (slS q2 ss.length c2) t c,tkV 6 x y z,.ptr (some (H.length,0)),.ptr (some (H.length+1,0)),.ptr (some (H.length+2,0)),.bool false,.ptr (some (H.length+5,0)),.bool false,.bool isL,.bool true,.bool false,.undef,.undef,.undef,.undef,.undef,.undef,.undef,.undef,.undef,.undef,.undef,.undef],⟨H++[.cells [slL q1 ls.length c1,.int .i64 a,.int .i64 b,slS q2 ss.length c2,.int .i64 t,.int .i64 c] true,.cells [.int .i64 6,.int .i64 x,.int .i64 y,.int .i64 z] true,.cells [.slice none 0 0 none,.int .i64 0,.int .i64 0,.slice none 0 0 none,.int .i64 0,.int .i64 0] true,.cells (Zn ls) true,.cells (Zw ss) true,.cells [slL (H.length+3) (ls.length) none,.int .i64 a,.int .i64 b,slS (H.length+4) (ss.length) none,.int .i64 t,.int .i64 c] true],none⟩⟩=Ya pr ⟨[stV (slL q1 ls.length c1) a b (slS q2 ss.length c2) t c,tkV 6 x y z,.ptr (some (H.length,0)),.ptr (some (H.length+1,0)),.ptr (some (H.length+2,0)),.bool false,.ptr (some (H.length+5,0)),.bool (decide (y=0)&&decide (z=0)),.bool isL,.bool true,.bool false,.int .i64 6,.bool false,.bool false,.undef,.bool false,.undef,.bool false,.bool false,.bool true,.bool true,.undef,.undef],⟨H++[.cells [slL q1 ls.length c1,.int .i64 a,.int .i64 b,slS q2 ss.length c2,.int .i64 t,.int .i64 c] true,.cells [.int .i64 6,.int .i64 x,.int .i64 y,.int .i64 z] true,.cells [.slice none 0 0 none,.int .i64 0,.int .i64 0,.slice none 0 0 none,.int .i64 0,.int .i64 0] true,.cells (Zn ls) true,.dead,.cells [slL (H.length+3) (ls.length) none,.int .i64 a,.int .i64 b,slS (H.length+7) (ss.length - 1) none,.int .i64 t,.int .i64 c] true,.dead,.cells (Zw (ss.eraseIdx x)) true],(Z8 none (H.length+5))⟩⟩:=by
 have hdel:∀ L e b cap,L[b]?=some (.cells (Zw ss) true)→call T pr ZM [.slice (some (b,0)) 3 ss.length cap,.int .i64 x,.int .i64 (x+1:Nat)] ⟨L,e⟩=some (.slice (some (L.length+1,0)) 3 (ss.length - 1) none,⟨L.set b .dead++[.dead,.cells (Zw (ss.eraseIdx x)) true],e⟩):=by
  intro L e b cap hb
  rw [hp.2 L e b ss.length x cap (Zw ss) hb (KN ss) hi,Zr2]
 have hfold:=QN (pr:=pr)
 simp only [YI,Zg7,ZH] at hfold
 unfold ZE Yr
 simp only [Zg7,ZH]
 by_cases hy:y=0
 ·subst hy
  simp (config:={ maxSteps:=2000000,contextual:=true }) only [hfold,Zc,or_true,true_or,RS,eq_self,hdel,Zi (show x<9223372036854775807 by omega),Zv,Zz,RD,RE,Rh,Zq,Zm,RF,Rq,RQ,not_true_eq_false,not_false_eq_true,decide_true,decide_false,go_sem,reduceIte,Ra,Rb,Rc,Rd]
 ·simp (config:={ maxSteps:=2000000,contextual:=true }) only [hy,hfold,Zc,or_true,true_or,RS,eq_self,hdel,Zi (show x<9223372036854775807 by omega),Zv,Zz,RD,RE,Rh,Zq,Zm,RF,Rq,RQ,not_true_eq_false,not_false_eq_true,decide_true,decide_false,go_sem,reduceIte,Ra,Rb,Rc,Rd]
set_option maxHeartbeats 8000000 in
theorem ZCu {q1 q2:Nat} {c1 c2:Option Nat} {ls:List Ld} {ss:List Sg} {a b t c:Int} (hn:ls.length≤1048575) (hm:ss.length≤1048575) (x:Int) (y z:Int) {isL isS:Bool} :
  ZE pr ⟨[stV (slL q1 ls.length c1) a b (slS q2 ss.length c2) t c,tkV 6 x y z,.ptr (some (H.length,0)),.ptr (some (H.length+1,0)),.ptr (some (H.length+2,0)),.bool false,.ptr (some (H.length+5,0)),.bool false,.bool isL,.bool false,.bool false,.undef,.undef,.undef,.undef,.undef,.undef,.undef,.undef,.undef,.undef,.undef,.undef],⟨H++[.cells [slL q1 ls.length c1,.int .i64 a,.int .i64 b,slS q2 ss.length c2,.int .i64 t,.int .i64 c] true,.cells [.int .i64 6,.int .i64 x,.int .i64 y,.int .i64 z] true,.cells [.slice none 0 0 none,.int .i64 0,.int .i64 0,.slice none 0 0 none,.int .i64 0,.int .i64 0] true,.cells (Zn ls) true,.cells (Zw ss) true,.cells [slL (H.length+3) (ls.length) none,.int .i64 a,.int .i64 b,slS (H.length+4) (ss.length) none,.int .i64 t,.int .i64 c] true],none⟩⟩=Ya pr ⟨[stV (slL q1 ls.length c1) a b (slS q2 ss.length c2) t c,tkV 6 x y z,.ptr (some (H.length,0)),.ptr (some (H.length+1,0)),.ptr (some (H.length+2,0)),.bool false,.ptr (some (H.length+5,0)),.bool false,.bool isL,.bool false,.bool false,.int .i64 6,.bool false,.bool false,.undef,.bool false,.undef,.bool false,.bool false,.bool true,.bool false,.undef,.undef],⟨H++[.cells [slL q1 ls.length c1,.int .i64 a,.int .i64 b,slS q2 ss.length c2,.int .i64 t,.int .i64 c] true,.cells [.int .i64 6,.int .i64 x,.int .i64 y,.int .i64 z] true,.cells [.slice none 0 0 none,.int .i64 0,.int .i64 0,.slice none 0 0 none,.int .i64 0,.int .i64 0] true,.cells (Zn ls) true,.cells (Zw ss) true,.cells [slL (H.length+3) (ls.length) none,.int .i64 a,.int .i64 b,slS (H.length+4) (ss.length) none,.int .i64 t,.int .i64 c] true],none⟩⟩:=by
 have hfold:=QN (pr:=pr)
 simp only [YI,Zg7,ZH] at hfold
 unfold ZE Yr
 simp only [Zg7,ZH]
 simp (config:={ maxSteps:=2000000,contextual:=true }) only [hfold,Zc,or_true,true_or,RS,eq_self,Zv,Zz,RD,RE,Rh,Zq,Zm,RF,Rq,RQ,not_true_eq_false,not_false_eq_true,decide_true,decide_false,go_sem,reduceIte,Ra,Rb,Rc,Rd]
set_option maxHeartbeats 8000000 in
theorem ZEG {q1 q2:Nat} {c1 c2:Option Nat} {ls:List Ld} {ss:List Sg} {a b t c:Int} (k x y z:Int) (k1:¬ k=1) (k2:¬ k=2) (k3:¬ k=3) (k4:¬ k=4) (k5:¬ k=5) (k6:¬ k=6) {isL isS:Bool} :
  ZE pr ⟨[stV (slL q1 ls.length c1) a b (slS q2 ss.length c2) t c,tkV k x y z,.ptr (some (H.length,0)),.ptr (some (H.length+1,0)),.ptr (some (H.length+2,0)),.bool false,.ptr (some (H.length+5,0)),.bool false,.bool isL,.bool isS,.bool false,.undef,.undef,.undef,.undef,.undef,.undef,.undef,.undef,.undef,.undef,.undef,.undef],⟨H++[.cells [slL q1 ls.length c1,.int .i64 a,.int .i64 b,slS q2 ss.length c2,.int .i64 t,.int .i64 c] true,.cells [.int .i64 k,.int .i64 x,.int .i64 y,.int .i64 z] true,.cells [.slice none 0 0 none,.int .i64 0,.int .i64 0,.slice none 0 0 none,.int .i64 0,.int .i64 0] true,.cells (Zn ls) true,.cells (Zw ss) true,.cells [slL (H.length+3) (ls.length) none,.int .i64 a,.int .i64 b,slS (H.length+4) (ss.length) none,.int .i64 t,.int .i64 c] true],none⟩⟩=Ya pr ⟨[stV (slL q1 ls.length c1) a b (slS q2 ss.length c2) t c,tkV k x y z,.ptr (some (H.length,0)),.ptr (some (H.length+1,0)),.ptr (some (H.length+2,0)),.bool false,.ptr (some (H.length+5,0)),.bool false,.bool isL,.bool isS,.bool false,.int .i64 k,.bool false,.bool false,.undef,.bool false,.undef,.bool false,.bool false,.bool false,.undef,.undef,.undef],⟨H++[.cells [slL q1 ls.length c1,.int .i64 a,.int .i64 b,slS q2 ss.length c2,.int .i64 t,.int .i64 c] true,.cells [.int .i64 k,.int .i64 x,.int .i64 y,.int .i64 z] true,.cells [.slice none 0 0 none,.int .i64 0,.int .i64 0,.slice none 0 0 none,.int .i64 0,.int .i64 0] true,.cells (Zn ls) true,.cells (Zw ss) true,.cells [slL (H.length+3) (ls.length) none,.int .i64 a,.int .i64 b,slS (H.length+4) (ss.length) none,.int .i64 t,.int .i64 c] true],none⟩⟩:=by
 have hfold:=QN (pr:=pr)
 simp only [YI,Zg7,ZH] at hfold
 unfold ZE Yr
 simp only [Zg7,ZH]
 simp (config:={ maxSteps:=2000000,contextual:=true }) only [hfold,Zc,k1,k2,k3,k4,k5,k6,Zv,Zz,RD,RE,Rh,Zq,Zm,RF,Rq,RQ,not_true_eq_false,not_false_eq_true,decide_true,decide_false,go_sem,reduceIte,Ra,Rb,Rc,Rd]
theorem Zdu (B0 B1 X3 X4 B5:Blk) (G:List Blk) (y0 y1 y2 y3 y6:AV) (ys:List AV) (e1:Option Nat) (hc:clean H.length e1=true) :
  Za9 Jy ⟨H,e⟩ (some (Ex.ret,⟨y0::y1::y2::y3::.ptr (some (H.length+2,0))::.bool false::y6::ys,⟨H++(B0::B1::.cells [.slice none 0 0 none,.int .i64 0,.int .i64 0,.slice none 0 0 none,.int .i64 0,.int .i64 0] true::X3::X4::B5::G),e1⟩⟩))=some (.tup [Zmn,.bool false],⟨H,e⟩):=by
 have hfN:∀ (G:List Blk) (e0 e1:Option Nat),clean H.length e1=true→finish 2 H.length e0 (.tup [Zmn,.bool false]) ⟨H++G,e1⟩=some (.tup [Zmn,.bool false],⟨H,e0⟩) :=
  fun G e0 e1 hc=>Zlb 0 0 0 0 false e0 e1 hc
 simp +contextual only [Jy,hfN,hc,go_sem,reduceIte,Ra,Rb,Rc,Rd]
theorem Zmo (B0 B1 X3 X4 B5:Blk) (G:List Blk) (y0 y1 y2 y3 y6:AV) (ys:List AV) (e1:Option Nat) {j1 j2 n m:Nat} {a b t c:Int} {ls:List Ld} {ss:List Sg} (hc:clean H.length e1=true) (hn:ls.length=n) (hm:ss.length=m) (hj:j1≠j2)
  (h1:∀ B2,(B0::B1::B2::X3::X4::B5::G)[j1]?=some (.cells (Zn ls) true)) (h2:∀ B2,(B0::B1::B2::X3::X4::B5::G)[j2]?=some (.cells (Zw ss) true)) :
  Za9 Jy ⟨H,e⟩ (some (Ex.ret,⟨y0::y1::y2::y3::.ptr (some (H.length+2,0))::.bool true::y6::ys,⟨H++(B0::B1::.cells [slL (H.length+j1) n none,.int .i64 a,.int .i64 b,slS (H.length+j2) m none,.int .i64 t,.int .i64 c] true::X3::X4::B5::G),e1⟩⟩)) =
   some (.tup [stV (slL H.length n none) a b (slS (H.length+1) m none) t c,.bool true],⟨H++[.cells (Zn ls) true,.cells (Zw ss) true],e⟩):=by
 have hf:∀ (B2:Blk),finish 2 H.length e (.tup [stV (slL (H.length+j1) n none) a b (slS (H.length+j2) m none) t c,.bool true]) ⟨H++(B0::B1::B2::X3::X4::B5::G),e1⟩ =
   some (.tup [stV (slL H.length n none) a b (slS (H.length+1) m none) t c,.bool true],⟨H++[.cells (Zn ls) true,.cells (Zw ss) true],e⟩) :=
  fun B2=>Zla a b t c true e e1 hc (h1 B2) (h2 B2) hj (ZS _ _) (Z0 _ _)
 simp +contextual only [Jy,hf,go_sem,reduceIte,Ra,Rb,Rc,Rd]
theorem ZEH {q1 q2:Nat} {c1 c2:Option Nat} {ls:List Ld} {ss:List Sg} {a b t c:Int} (h1:Zb H q1=some (Zn ls)) (h2:Zb H q2=some (Zw ss)) (hn:ls.length≤1048575) (hm:ss.length≤1048575) (x y z:Int) (hv:ZnH ls ss a b t c=true) :
  call T pr Xv [stV (slL q1 ls.length c1) a b (slS q2 ss.length c2) t c,tkV 1 x y z] ⟨H,e⟩ =
   ZgB H e (Zli ls ss a b t c 1 x y z) (Zj6 ls 1 x y) (XI ss 1 x y z) (Jr a 1 x) (Jr b 1 y) (Zfd ls a b t 1 x y) (wr (c+1)):=by
 rw [ZgC h1 h2 hn hm 1 x y z hv,ZgD hn hm 1 x y z]
 unfold ZgB Zli Zfd wr
 have er:Zj6 ls 1 x y=ls++[(x,y)]:=by simp [Zj6]
 have ec:XI ss 1 x y z=ss:=by simp [XI]
 have ea:∀ a x,Jr a 1 x=a:=fun a x=>by simp [Jr]
 rw [ZI4,er,ec,ea,ea]
 have hrl:(ls++[(x,y)]).length=ls.length+1:=by simp
 have hcl:ss.length=ss.length:=rfl
 rw [ZEA hn hm x y z]
 cases hz:decide (z=0) with
 | false=>
  rw [RR]
  rw [Zac (B0:=.cells [slL q1 ls.length c1,.int .i64 a,.int .i64 b,slS q2 ss.length c2,.int .i64 t,.int .i64 c] true) (B1:=.cells [.int .i64 1,.int .i64 x,.int .i64 y,.int .i64 z] true) (X3:=.dead) (X4:=(.cells (Zw ss) true)) (G:=[.cells [.int .i64 x,.int .i64 y] true,.cells (Zn (ls++[(x,y)])) true]) (n:=ls.length+1) (m:=ss.length) (ls:=ls++[(x,y)]) (ss:=ss) (a:=a) (b:=b) (t:=t) (c:=c) (j1:=7) (j2:=4) hrl hcl (by omega) (by omega) (fun _ _=>rfl) (fun _ _=>rfl) rfl]
  rw [Zdu _ _ _ _ _ _ _ _ _ _ _ _ _ (by first | rfl | simp [clean,Z8])]
  rw [if_neg (by simp)]
 | true=>
  rw [RT]
  cases hg:ZnH (ls++[(x,y)]) (ss) a b t (IntKind.i64.wrap (c+1)) with
  | false=>
   rw [Zac (B0:=.cells [slL q1 ls.length c1,.int .i64 a,.int .i64 b,slS q2 ss.length c2,.int .i64 t,.int .i64 c] true) (B1:=.cells [.int .i64 1,.int .i64 x,.int .i64 y,.int .i64 z] true) (X3:=.dead) (X4:=(.cells (Zw ss) true)) (G:=[.cells [.int .i64 x,.int .i64 y] true,.cells (Zn (ls++[(x,y)])) true]) (n:=ls.length+1) (m:=ss.length) (ls:=ls++[(x,y)]) (ss:=ss) (a:=a) (b:=b) (t:=t) (c:=c) (j1:=7) (j2:=4) hrl hcl (by omega) (by omega) (fun _ _=>rfl) (fun _ _=>rfl) (by rw [hg,RU])]
   rw [Zdu _ _ _ _ _ _ _ _ _ _ _ _ _ (by first | rfl | simp [clean,Z8])]
   rw [if_neg (by simp)]
  | true=>
   rw [ZiM (B0:=.cells [slL q1 ls.length c1,.int .i64 a,.int .i64 b,slS q2 ss.length c2,.int .i64 t,.int .i64 c] true) (B1:=.cells [.int .i64 1,.int .i64 x,.int .i64 y,.int .i64 z] true) (X3:=.dead) (X4:=(.cells (Zw ss) true)) (G:=[.cells [.int .i64 x,.int .i64 y] true,.cells (Zn (ls++[(x,y)])) true]) (n:=ls.length+1) (m:=ss.length) (ls:=ls++[(x,y)]) (ss:=ss) (a:=a) (b:=b) (t:=t) (c:=c) (j1:=7) (j2:=4) hrl hcl (by omega) (by omega) (fun _ _=>rfl) (fun _ _=>rfl) (by omega) hg]
   rw [Zmo _ _ _ _ _ _ _ _ _ _ _ _ _ (by simp [clean,Z8]) hrl hcl (by decide) (fun _=>rfl) (fun _=>rfl),hrl,hcl]
   rfl
theorem ZEI (hp:Zds pr) {q1 q2:Nat} {c1 c2:Option Nat} {ls:List Ld} {ss:List Sg} {a b t c:Int} (h1:Zb H q1=some (Zn ls)) (h2:Zb H q2=some (Zw ss)) (hn:ls.length≤1048575) (hm:ss.length≤1048575) (x y z:Int) (hv:ZnH ls ss a b t c=true) :
  call T pr Xv [stV (slL q1 ls.length c1) a b (slS q2 ss.length c2) t c,tkV 2 x y z] ⟨H,e⟩ =
   ZgB H e (Zli ls ss a b t c 2 x y z) (Zj6 ls 2 x y) (XI ss 2 x y z) (Jr a 2 x) (Jr b 2 y) (Zfd ls a b t 2 x y) (wr (c+1)):=by
 rw [ZgC h1 h2 hn hm 2 x y z hv,ZgD hn hm 2 x y z]
 unfold ZgB Zli Zfd wr
 have er:Zj6 ls 2 x y=ls.eraseIdx x.toNat:=by simp [Zj6]
 have ec:XI ss 2 x y z=ss:=by simp [XI]
 have ea:∀ a x,Jr a 2 x=a:=fun a x=>by simp [Jr]
 rw [ZI5,er,ec,ea,ea]
 cases hb:(decide (0≤x)&&decide (x≤(ls.length:Int) - 1)) with
 | false=>
  have hrl:ls.length=ls.length:=rfl
  have hcl:ss.length=ss.length:=rfl
  rw [ZCs (isL:=false) hn hm x y z,RR,RR,RR]
  rw [Zac (B0:=.cells [slL q1 ls.length c1,.int .i64 a,.int .i64 b,slS q2 ss.length c2,.int .i64 t,.int .i64 c] true) (B1:=.cells [.int .i64 2,.int .i64 x,.int .i64 y,.int .i64 z] true) (X3:=(.cells (Zn ls) true)) (X4:=(.cells (Zw ss) true)) (G:=[]) (n:=ls.length) (m:=ss.length) (ls:=ls) (ss:=ss) (a:=a) (b:=b) (t:=t) (c:=c) (j1:=3) (j2:=4) hrl hcl (by omega) (by omega) (fun _ _=>rfl) (fun _ _=>rfl) rfl]
  rw [Zdu _ _ _ _ _ _ _ _ _ _ _ _ _ (by first | rfl | simp [clean,Z8])]
  rw [if_neg (by simp)]
 | true=>
  have hbb:0≤x∧x≤(ls.length:Int) - 1:=by simpa using hb
  obtain ⟨i,rfl⟩:∃ i:Nat,x=i:=⟨x.toNat,by omega⟩
  have hi:i<ls.length:=by omega
  have hrl:(ls.eraseIdx i).length=ls.length - 1:=by rw [RV,if_pos hi]
  have hcl:ss.length=ss.length:=rfl
  rw [ZEB hp (isL:=false) hn hm hi y z,Int.toNat_natCast,RT]
  cases hz:(decide (y=0)&&decide (z=0)) with
  | false=>
   rw [RR]
   rw [Zac (B0:=.cells [slL q1 ls.length c1,.int .i64 a,.int .i64 b,slS q2 ss.length c2,.int .i64 t,.int .i64 c] true) (B1:=.cells [.int .i64 2,.int .i64 i,.int .i64 y,.int .i64 z] true) (X3:=.dead) (X4:=(.cells (Zw ss) true)) (G:=[.dead,.cells (Zn (ls.eraseIdx i)) true]) (n:=ls.length - 1) (m:=ss.length) (ls:=ls.eraseIdx i) (ss:=ss) (a:=a) (b:=b) (t:=t) (c:=c) (j1:=7) (j2:=4) hrl hcl (by omega) (by omega) (fun _ _=>rfl) (fun _ _=>rfl) rfl]
   rw [Zdu _ _ _ _ _ _ _ _ _ _ _ _ _ (by first | rfl | simp [clean,Z8])]
   rw [if_neg (by simp)]
  | true=>
   rw [RT]
   cases hg:ZnH (ls.eraseIdx i) (ss) a b t (IntKind.i64.wrap (c+1)) with
   | false=>
    rw [Zac (B0:=.cells [slL q1 ls.length c1,.int .i64 a,.int .i64 b,slS q2 ss.length c2,.int .i64 t,.int .i64 c] true) (B1:=.cells [.int .i64 2,.int .i64 i,.int .i64 y,.int .i64 z] true) (X3:=.dead) (X4:=(.cells (Zw ss) true)) (G:=[.dead,.cells (Zn (ls.eraseIdx i)) true]) (n:=ls.length - 1) (m:=ss.length) (ls:=ls.eraseIdx i) (ss:=ss) (a:=a) (b:=b) (t:=t) (c:=c) (j1:=7) (j2:=4) hrl hcl (by omega) (by omega) (fun _ _=>rfl) (fun _ _=>rfl) (by rw [hg,RU])]
    rw [Zdu _ _ _ _ _ _ _ _ _ _ _ _ _ (by first | rfl | simp [clean,Z8])]
    rw [if_neg (by simp)]
   | true=>
    rw [ZiM (B0:=.cells [slL q1 ls.length c1,.int .i64 a,.int .i64 b,slS q2 ss.length c2,.int .i64 t,.int .i64 c] true) (B1:=.cells [.int .i64 2,.int .i64 i,.int .i64 y,.int .i64 z] true) (X3:=.dead) (X4:=(.cells (Zw ss) true)) (G:=[.dead,.cells (Zn (ls.eraseIdx i)) true]) (n:=ls.length - 1) (m:=ss.length) (ls:=ls.eraseIdx i) (ss:=ss) (a:=a) (b:=b) (t:=t) (c:=c) (j1:=7) (j2:=4) hrl hcl (by omega) (by omega) (fun _ _=>rfl) (fun _ _=>rfl) (by omega) hg]
    rw [Zmo _ _ _ _ _ _ _ _ _ _ _ _ _ (by simp [clean,Z8]) hrl hcl (by decide) (fun _=>rfl) (fun _=>rfl),hrl,hcl]
    rfl
theorem ZEJ {q1 q2:Nat} {c1 c2:Option Nat} {ls:List Ld} {ss:List Sg} {a b t c:Int} (h1:Zb H q1=some (Zn ls)) (h2:Zb H q2=some (Zw ss)) (hn:ls.length≤1048575) (hm:ss.length≤1048575) (x y z:Int) (hv:ZnH ls ss a b t c=true) :
  call T pr Xv [stV (slL q1 ls.length c1) a b (slS q2 ss.length c2) t c,tkV 3 x y z] ⟨H,e⟩ =
   ZgB H e (Zli ls ss a b t c 3 x y z) (Zj6 ls 3 x y) (XI ss 3 x y z) (Jr a 3 x) (Jr b 3 y) (Zfd ls a b t 3 x y) (wr (c+1)):=by
 rw [ZgC h1 h2 hn hm 3 x y z hv,ZgD hn hm 3 x y z]
 unfold ZgB Zli Zfd wr
 have er:Zj6 ls 3 x y=ZtH ls x.toNat y:=by simp [Zj6]
 have ec:XI ss 3 x y z=ss:=by simp [XI]
 have ea:∀ a x,Jr a 3 x=a:=fun a x=>by simp [Jr]
 rw [ZI6,er,ec,ea,ea]
 cases hb:(decide (0≤x)&&decide (x≤(ls.length:Int) - 1)) with
 | false=>
  have hrl:ls.length=ls.length:=rfl
  have hcl:ss.length=ss.length:=rfl
  rw [ZCt (isL:=false) hn hm x y z,RR,RR]
  rw [Zac (B0:=.cells [slL q1 ls.length c1,.int .i64 a,.int .i64 b,slS q2 ss.length c2,.int .i64 t,.int .i64 c] true) (B1:=.cells [.int .i64 3,.int .i64 x,.int .i64 y,.int .i64 z] true) (X3:=(.cells (Zn ls) true)) (X4:=(.cells (Zw ss) true)) (G:=[]) (n:=ls.length) (m:=ss.length) (ls:=ls) (ss:=ss) (a:=a) (b:=b) (t:=t) (c:=c) (j1:=3) (j2:=4) hrl hcl (by omega) (by omega) (fun _ _=>rfl) (fun _ _=>rfl) rfl]
  rw [Zdu _ _ _ _ _ _ _ _ _ _ _ _ _ (by first | rfl | simp [clean,Z8])]
  rw [if_neg (by simp)]
 | true=>
  have hbb:0≤x∧x≤(ls.length:Int) - 1:=by simpa using hb
  obtain ⟨i,rfl⟩:∃ i:Nat,x=i:=⟨x.toNat,by omega⟩
  have hi:i<ls.length:=by omega
  have hrl:(ZtH ls i y).length=ls.length:=Zgz ls i y
  have hcl:ss.length=ss.length:=rfl
  rw [ZEC (isL:=false) hn hm hi y z,Int.toNat_natCast,RT]
  cases hz:decide (z=0) with
  | false=>
   rw [RR]
   rw [Zac (B0:=.cells [slL q1 ls.length c1,.int .i64 a,.int .i64 b,slS q2 ss.length c2,.int .i64 t,.int .i64 c] true) (B1:=.cells [.int .i64 3,.int .i64 i,.int .i64 y,.int .i64 z] true) (X3:=(.cells (Zn (ZtH ls i y)) true)) (X4:=(.cells (Zw ss) true)) (G:=[]) (n:=ls.length) (m:=ss.length) (ls:=ZtH ls i y) (ss:=ss) (a:=a) (b:=b) (t:=t) (c:=c) (j1:=3) (j2:=4) hrl hcl (by omega) (by omega) (fun _ _=>rfl) (fun _ _=>rfl) rfl]
   rw [Zdu _ _ _ _ _ _ _ _ _ _ _ _ _ (by first | rfl | simp [clean,Z8])]
   rw [if_neg (by simp)]
  | true=>
   rw [RT]
   cases hg:ZnH (ZtH ls i y) (ss) a b t (IntKind.i64.wrap (c+1)) with
   | false=>
    rw [Zac (B0:=.cells [slL q1 ls.length c1,.int .i64 a,.int .i64 b,slS q2 ss.length c2,.int .i64 t,.int .i64 c] true) (B1:=.cells [.int .i64 3,.int .i64 i,.int .i64 y,.int .i64 z] true) (X3:=(.cells (Zn (ZtH ls i y)) true)) (X4:=(.cells (Zw ss) true)) (G:=[]) (n:=ls.length) (m:=ss.length) (ls:=ZtH ls i y) (ss:=ss) (a:=a) (b:=b) (t:=t) (c:=c) (j1:=3) (j2:=4) hrl hcl (by omega) (by omega) (fun _ _=>rfl) (fun _ _=>rfl) (by rw [hg,RU])]
    rw [Zdu _ _ _ _ _ _ _ _ _ _ _ _ _ (by first | rfl | simp [clean,Z8])]
    rw [if_neg (by simp)]
   | true=>
    rw [ZiM (B0:=.cells [slL q1 ls.length c1,.int .i64 a,.int .i64 b,slS q2 ss.length c2,.int .i64 t,.int .i64 c] true) (B1:=.cells [.int .i64 3,.int .i64 i,.int .i64 y,.int .i64 z] true) (X3:=(.cells (Zn (ZtH ls i y)) true)) (X4:=(.cells (Zw ss) true)) (G:=[]) (n:=ls.length) (m:=ss.length) (ls:=ZtH ls i y) (ss:=ss) (a:=a) (b:=b) (t:=t) (c:=c) (j1:=3) (j2:=4) hrl hcl (by omega) (by omega) (fun _ _=>rfl) (fun _ _=>rfl) (by omega) hg]
    rw [Zmo _ _ _ _ _ _ _ _ _ _ _ _ _ (by simp [clean,Z8]) hrl hcl (by decide) (fun _=>rfl) (fun _=>rfl),hrl,hcl]
    rfl
theorem ZEK {q1 q2:Nat} {c1 c2:Option Nat} {ls:List Ld} {ss:List Sg} {a b t c:Int} (h1:Zb H q1=some (Zn ls)) (h2:Zb H q2=some (Zw ss)) (hn:ls.length≤1048575) (hm:ss.length≤1048575) (x y z:Int) (hv:ZnH ls ss a b t c=true) :
  call T pr Xv [stV (slL q1 ls.length c1) a b (slS q2 ss.length c2) t c,tkV 4 x y z] ⟨H,e⟩ =
   ZgB H e (Zli ls ss a b t c 4 x y z) (Zj6 ls 4 x y) (XI ss 4 x y z) (Jr a 4 x) (Jr b 4 y) (Zfd ls a b t 4 x y) (wr (c+1)):=by
 rw [ZgC h1 h2 hn hm 4 x y z hv,ZgD hn hm 4 x y z]
 unfold ZgB Zli Zfd wr
 have er:Zj6 ls 4 x y=ls:=by simp [Zj6]
 have ec:XI ss 4 x y z=ss:=by simp [XI]
 have ea:∀ a x,Jr a 4 x=x:=fun a x=>by simp [Jr]
 rw [ZI7,er,ec,ea,ea]
 have hrl:ls.length=ls.length:=rfl
 have hcl:ss.length=ss.length:=rfl
 rw [ZED hn hm x y z]
 cases hz:decide (z=0) with
 | false=>
  rw [RR]
  rw [Zac (B0:=.cells [slL q1 ls.length c1,.int .i64 a,.int .i64 b,slS q2 ss.length c2,.int .i64 t,.int .i64 c] true) (B1:=.cells [.int .i64 4,.int .i64 x,.int .i64 y,.int .i64 z] true) (X3:=(.cells (Zn ls) true)) (X4:=(.cells (Zw ss) true)) (G:=[]) (n:=ls.length) (m:=ss.length) (ls:=ls) (ss:=ss) (a:=x) (b:=y) (t:=t) (c:=c) (j1:=3) (j2:=4) hrl hcl (by omega) (by omega) (fun _ _=>rfl) (fun _ _=>rfl) rfl]
  rw [Zdu _ _ _ _ _ _ _ _ _ _ _ _ _ (by first | rfl | simp [clean,Z8])]
  rw [if_neg (by simp)]
 | true=>
  rw [RT]
  cases hg:ZnH (ls) (ss) x y t (IntKind.i64.wrap (c+1)) with
  | false=>
   rw [Zac (B0:=.cells [slL q1 ls.length c1,.int .i64 a,.int .i64 b,slS q2 ss.length c2,.int .i64 t,.int .i64 c] true) (B1:=.cells [.int .i64 4,.int .i64 x,.int .i64 y,.int .i64 z] true) (X3:=(.cells (Zn ls) true)) (X4:=(.cells (Zw ss) true)) (G:=[]) (n:=ls.length) (m:=ss.length) (ls:=ls) (ss:=ss) (a:=x) (b:=y) (t:=t) (c:=c) (j1:=3) (j2:=4) hrl hcl (by omega) (by omega) (fun _ _=>rfl) (fun _ _=>rfl) (by rw [hg,RU])]
   rw [Zdu _ _ _ _ _ _ _ _ _ _ _ _ _ (by first | rfl | simp [clean,Z8])]
   rw [if_neg (by simp)]
  | true=>
   rw [ZiM (B0:=.cells [slL q1 ls.length c1,.int .i64 a,.int .i64 b,slS q2 ss.length c2,.int .i64 t,.int .i64 c] true) (B1:=.cells [.int .i64 4,.int .i64 x,.int .i64 y,.int .i64 z] true) (X3:=(.cells (Zn ls) true)) (X4:=(.cells (Zw ss) true)) (G:=[]) (n:=ls.length) (m:=ss.length) (ls:=ls) (ss:=ss) (a:=x) (b:=y) (t:=t) (c:=c) (j1:=3) (j2:=4) hrl hcl (by omega) (by omega) (fun _ _=>rfl) (fun _ _=>rfl) (by omega) hg]
   rw [Zmo _ _ _ _ _ _ _ _ _ _ _ _ _ (by simp [clean,Z8]) hrl hcl (by decide) (fun _=>rfl) (fun _=>rfl),hrl,hcl]
   rfl
theorem ZEL {q1 q2:Nat} {c1 c2:Option Nat} {ls:List Ld} {ss:List Sg} {a b t c:Int} (h1:Zb H q1=some (Zn ls)) (h2:Zb H q2=some (Zw ss)) (hn:ls.length≤1048575) (hm:ss.length≤1048575) (x y z:Int) (hv:ZnH ls ss a b t c=true) :
  call T pr Xv [stV (slL q1 ls.length c1) a b (slS q2 ss.length c2) t c,tkV 5 x y z] ⟨H,e⟩ =
   ZgB H e (Zli ls ss a b t c 5 x y z) (Zj6 ls 5 x y) (XI ss 5 x y z) (Jr a 5 x) (Jr b 5 y) (Zfd ls a b t 5 x y) (wr (c+1)):=by
 rw [ZgC h1 h2 hn hm 5 x y z hv,ZgD hn hm 5 x y z]
 unfold ZgB Zli Zfd wr
 have er:Zj6 ls 5 x y=ls:=by simp [Zj6]
 have ec:XI ss 5 x y z=ss++[(x,y,z)]:=by simp [XI]
 have ea:∀ a x,Jr a 5 x=a:=fun a x=>by simp [Jr]
 rw [ZI8,er,ec,ea,ea]
 have hrl:ls.length=ls.length:=rfl
 have hcl:(ss++[(x,y,z)]).length=ss.length+1:=by simp
 rw [ZEE hn hm x y z,RT]
 cases hg:ZnH (ls) (ss++[(x,y,z)]) a b t (IntKind.i64.wrap (c+1)) with
 | false=>
  rw [Zac (B0:=.cells [slL q1 ls.length c1,.int .i64 a,.int .i64 b,slS q2 ss.length c2,.int .i64 t,.int .i64 c] true) (B1:=.cells [.int .i64 5,.int .i64 x,.int .i64 y,.int .i64 z] true) (X3:=(.cells (Zn ls) true)) (X4:=.dead) (G:=[.cells [.int .i64 x,.int .i64 y,.int .i64 z] true,.cells (Zw (ss++[(x,y,z)])) true]) (n:=ls.length) (m:=ss.length+1) (ls:=ls) (ss:=ss++[(x,y,z)]) (a:=a) (b:=b) (t:=t) (c:=c) (j1:=3) (j2:=7) hrl hcl (by omega) (by omega) (fun _ _=>rfl) (fun _ _=>rfl) (by rw [hg,RU])]
  rw [Zdu _ _ _ _ _ _ _ _ _ _ _ _ _ (by first | rfl | simp [clean,Z8])]
  rw [if_neg (by simp)]
 | true=>
  rw [ZiM (B0:=.cells [slL q1 ls.length c1,.int .i64 a,.int .i64 b,slS q2 ss.length c2,.int .i64 t,.int .i64 c] true) (B1:=.cells [.int .i64 5,.int .i64 x,.int .i64 y,.int .i64 z] true) (X3:=(.cells (Zn ls) true)) (X4:=.dead) (G:=[.cells [.int .i64 x,.int .i64 y,.int .i64 z] true,.cells (Zw (ss++[(x,y,z)])) true]) (n:=ls.length) (m:=ss.length+1) (ls:=ls) (ss:=ss++[(x,y,z)]) (a:=a) (b:=b) (t:=t) (c:=c) (j1:=3) (j2:=7) hrl hcl (by omega) (by omega) (fun _ _=>rfl) (fun _ _=>rfl) (by omega) hg]
  rw [Zmo _ _ _ _ _ _ _ _ _ _ _ _ _ (by simp [clean,Z8]) hrl hcl (by decide) (fun _=>rfl) (fun _=>rfl),hrl,hcl]
  rfl
theorem ZEM (hp:Zds pr) {q1 q2:Nat} {c1 c2:Option Nat} {ls:List Ld} {ss:List Sg} {a b t c:Int} (h1:Zb H q1=some (Zn ls)) (h2:Zb H q2=some (Zw ss)) (hn:ls.length≤1048575) (hm:ss.length≤1048575) (x y z:Int) (hv:ZnH ls ss a b t c=true) :
  call T pr Xv [stV (slL q1 ls.length c1) a b (slS q2 ss.length c2) t c,tkV 6 x y z] ⟨H,e⟩ =
   ZgB H e (Zli ls ss a b t c 6 x y z) (Zj6 ls 6 x y) (XI ss 6 x y z) (Jr a 6 x) (Jr b 6 y) (Zfd ls a b t 6 x y) (wr (c+1)):=by
 rw [ZgC h1 h2 hn hm 6 x y z hv,ZgD hn hm 6 x y z]
 unfold ZgB Zli Zfd wr
 have er:Zj6 ls 6 x y=ls:=by simp [Zj6]
 have ec:XI ss 6 x y z=ss.eraseIdx x.toNat:=by simp [XI]
 have ea:∀ a x,Jr a 6 x=a:=fun a x=>by simp [Jr]
 rw [ZI9,er,ec,ea,ea]
 cases hb:(decide (0≤x)&&decide (x≤(ss.length:Int) - 1)) with
 | false=>
  have hrl:ls.length=ls.length:=rfl
  have hcl:ss.length=ss.length:=rfl
  rw [ZCu (isS:=false) hn hm x y z,RR,RR,RR]
  rw [Zac (B0:=.cells [slL q1 ls.length c1,.int .i64 a,.int .i64 b,slS q2 ss.length c2,.int .i64 t,.int .i64 c] true) (B1:=.cells [.int .i64 6,.int .i64 x,.int .i64 y,.int .i64 z] true) (X3:=(.cells (Zn ls) true)) (X4:=(.cells (Zw ss) true)) (G:=[]) (n:=ls.length) (m:=ss.length) (ls:=ls) (ss:=ss) (a:=a) (b:=b) (t:=t) (c:=c) (j1:=3) (j2:=4) hrl hcl (by omega) (by omega) (fun _ _=>rfl) (fun _ _=>rfl) rfl]
  rw [Zdu _ _ _ _ _ _ _ _ _ _ _ _ _ (by first | rfl | simp [clean,Z8])]
  rw [if_neg (by simp)]
 | true=>
  have hbb:0≤x∧x≤(ss.length:Int) - 1:=by simpa using hb
  obtain ⟨i,rfl⟩:∃ i:Nat,x=i:=⟨x.toNat,by omega⟩
  have hi:i<ss.length:=by omega
  have hrl:ls.length=ls.length:=rfl
  have hcl:(ss.eraseIdx i).length=ss.length - 1:=by rw [RV,if_pos hi]
  rw [ZEF hp (isS:=false) hn hm hi y z,Int.toNat_natCast,RT]
  cases hz:(decide (y=0)&&decide (z=0)) with
  | false=>
   rw [RR]
   rw [Zac (B0:=.cells [slL q1 ls.length c1,.int .i64 a,.int .i64 b,slS q2 ss.length c2,.int .i64 t,.int .i64 c] true) (B1:=.cells [.int .i64 6,.int .i64 i,.int .i64 y,.int .i64 z] true) (X3:=(.cells (Zn ls) true)) (X4:=.dead) (G:=[.dead,.cells (Zw (ss.eraseIdx i)) true]) (n:=ls.length) (m:=ss.length - 1) (ls:=ls) (ss:=ss.eraseIdx i) (a:=a) (b:=b) (t:=t) (c:=c) (j1:=3) (j2:=7) hrl hcl (by omega) (by omega) (fun _ _=>rfl) (fun _ _=>rfl) rfl]
   rw [Zdu _ _ _ _ _ _ _ _ _ _ _ _ _ (by first | rfl | simp [clean,Z8])]
   rw [if_neg (by simp)]
  | true=>
   rw [RT]
   cases hg:ZnH (ls) (ss.eraseIdx i) a b t (IntKind.i64.wrap (c+1)) with
   | false=>
    rw [Zac (B0:=.cells [slL q1 ls.length c1,.int .i64 a,.int .i64 b,slS q2 ss.length c2,.int .i64 t,.int .i64 c] true) (B1:=.cells [.int .i64 6,.int .i64 i,.int .i64 y,.int .i64 z] true) (X3:=(.cells (Zn ls) true)) (X4:=.dead) (G:=[.dead,.cells (Zw (ss.eraseIdx i)) true]) (n:=ls.length) (m:=ss.length - 1) (ls:=ls) (ss:=ss.eraseIdx i) (a:=a) (b:=b) (t:=t) (c:=c) (j1:=3) (j2:=7) hrl hcl (by omega) (by omega) (fun _ _=>rfl) (fun _ _=>rfl) (by rw [hg,RU])]
    rw [Zdu _ _ _ _ _ _ _ _ _ _ _ _ _ (by first | rfl | simp [clean,Z8])]
    rw [if_neg (by simp)]
   | true=>
    rw [ZiM (B0:=.cells [slL q1 ls.length c1,.int .i64 a,.int .i64 b,slS q2 ss.length c2,.int .i64 t,.int .i64 c] true) (B1:=.cells [.int .i64 6,.int .i64 i,.int .i64 y,.int .i64 z] true) (X3:=(.cells (Zn ls) true)) (X4:=.dead) (G:=[.dead,.cells (Zw (ss.eraseIdx i)) true]) (n:=ls.length) (m:=ss.length - 1) (ls:=ls) (ss:=ss.eraseIdx i) (a:=a) (b:=b) (t:=t) (c:=c) (j1:=3) (j2:=7) hrl hcl (by omega) (by omega) (fun _ _=>rfl) (fun _ _=>rfl) (by omega) hg]
    rw [Zmo _ _ _ _ _ _ _ _ _ _ _ _ _ (by simp [clean,Z8]) hrl hcl (by decide) (fun _=>rfl) (fun _=>rfl),hrl,hcl]
    rfl
theorem ZEN {q1 q2:Nat} {c1 c2:Option Nat} {ls:List Ld} {ss:List Sg} {a b t c:Int} (h1:Zb H q1=some (Zn ls)) (h2:Zb H q2=some (Zw ss)) (hn:ls.length≤1048575) (hm:ss.length≤1048575) (k x y z:Int) (hv:ZnH ls ss a b t c=true) (k1:¬ k=1) (k2:¬ k=2) (k3:¬ k=3) (k4:¬ k=4) (k5:¬ k=5) (k6:¬ k=6) :
  call T pr Xv [stV (slL q1 ls.length c1) a b (slS q2 ss.length c2) t c,tkV k x y z] ⟨H,e⟩ =
   ZgB H e (Zli ls ss a b t c k x y z) (Zj6 ls k x y) (XI ss k x y z) (Jr a k x) (Jr b k y) (Zfd ls a b t k x y) (wr (c+1)):=by
 rw [ZgC h1 h2 hn hm k x y z hv,ZgD hn hm k x y z]
 unfold ZgB Zli Zfd wr
 have em:Zr4 ls ss k x y z=false:=by simp [Zr4,k1,k2,k3,k4,k5,k6]
 rw [em,RR,ZEG k x y z k1 k2 k3 k4 k5 k6]
 have hrl:ls.length=ls.length:=rfl
 have hcl:ss.length=ss.length:=rfl
 rw [Zac (B0:=.cells [slL q1 ls.length c1,.int .i64 a,.int .i64 b,slS q2 ss.length c2,.int .i64 t,.int .i64 c] true) (B1:=.cells [.int .i64 k,.int .i64 x,.int .i64 y,.int .i64 z] true) (X3:=(.cells (Zn ls) true)) (X4:=(.cells (Zw ss) true)) (G:=[]) (n:=ls.length) (m:=ss.length) (ls:=ls) (ss:=ss) (a:=a) (b:=b) (t:=t) (c:=c) (j1:=3) (j2:=4) hrl hcl (by omega) (by omega) (fun _ _=>rfl) (fun _ _=>rfl) rfl]
 rw [Zdu _ _ _ _ _ _ _ _ _ _ _ _ _ (by first | rfl | simp [clean,Z8])]
 rw [if_neg (by simp)]
theorem ZCv (hp:Zds pr) {q1 q2:Nat} {c1 c2:Option Nat} {ls:List Ld} {ss:List Sg} {a b t c:Int} (h1:Zb H q1=some (Zn ls)) (h2:Zb H q2=some (Zw ss)) (hn:ls.length≤1048575) (hm:ss.length≤1048575) (k x y z:Int) (hv:ZnH ls ss a b t c=true) :
  call T pr Xv [stV (slL q1 ls.length c1) a b (slS q2 ss.length c2) t c,tkV k x y z] ⟨H,e⟩ =
   ZgB H e (Zli ls ss a b t c k x y z) (Zj6 ls k x y) (XI ss k x y z) (Jr a k x) (Jr b k y) (Zfd ls a b t k x y) (wr (c+1)):=by
 by_cases k1:k=1
 ·subst k1;exact ZEH h1 h2 hn hm x y z hv
 by_cases k2:k=2
 ·subst k2;exact ZEI hp h1 h2 hn hm x y z hv
 by_cases k3:k=3
 ·subst k3;exact ZEJ h1 h2 hn hm x y z hv
 by_cases k4:k=4
 ·subst k4;exact ZEK h1 h2 hn hm x y z hv
 by_cases k5:k=5
 ·subst k5;exact ZEL h1 h2 hn hm x y z hv
 by_cases k6:k=6
 ·subst k6;exact ZEM hp h1 h2 hn hm x y z hv
 exact ZEN h1 h2 hn hm k x y z hv k1 k2 k3 k4 k5 k6
variable {pr : Zt} {H : List Blk} {e : Option Nat}
end Go.Proofs.YtemcdiajejekoaaGreatDoor.Slim
namespace Go.Proofs.YtemcdiajejekoaaGreatDoor.Slim
open Go
section
variable {T : Zhf} {pr : Zt} {H : List Blk} {e : Option Nat}
def Wp (r:Option (Ex×St)) (Q:Ex→St→Prop):Prop:=∃ ex st,r=some (ex,st)∧Q ex st
def Wc (r:Option (AV×Mem)) (Q:AV→Mem→Prop):Prop:=∃ v m,r=some (v,m)∧Q v m
theorem Wp.mono {r:Option (Ex×St)} {P Q:Ex→St→Prop} (h:Wp r P) (k:∀ ex st,P ex st→Q ex st):Wp r Q:=by
 obtain ⟨ex,st,h1,h2⟩:=h
 exact ⟨ex,st,h1,k _ _ h2⟩
theorem Wc.mono {r:Option (AV×Mem)} {P Q:AV→Mem→Prop} (h:Wc r P) (k:∀ v m,P v m→Q v m):Wc r Q:=by
 obtain ⟨v,m,h1,h2⟩:=h
 exact ⟨v,m,h1,k _ _ h2⟩
theorem Wc.eq {r:Option (AV×Mem)} {v:AV} {m:Mem} (h:Wc r fun v' m'=>v'=v∧m'=m):r=some (v,m):=by
 obtain ⟨_,_,h1,rfl,rfl⟩:=h
 exact h1
theorem Wc.of_eq {r:Option (AV×Mem)} {v:AV} {m:Mem} {Q:AV→Mem→Prop} (h:r=some (v,m)) (k:Q v m):Wc r Q:=⟨v,m,h,k⟩
@[congr] theorem ZJW {r r':Option (Ex×St)} {Q:Ex→St→Prop} (h:r=r'):Wp r Q=Wp r' Q:=by rw [h]
@[congr] theorem ZJX {r r':Option (AV×Mem)} {Q:AV→Mem→Prop} (h:r=r'):Wc r Q=Wc r' Q:=by rw [h]
theorem Zj7 (ex:Ex) (st:St) (Q:Ex→St→Prop):Wp (some (ex,st)) Q=Q ex st:=by
 apply propext
 constructor
 ·rintro ⟨_,_,h1,h2⟩;cases h1;exact h2
 ·exact fun h=>⟨_,_,rfl,h⟩
theorem Zmp (Q:Ex→St→Prop):Wp none Q=False:=by
 apply propext
 constructor
 ·rintro ⟨_,_,h1,_⟩;cases h1
 ·exact False.elim
theorem ZHq (c:Prop) [Decidable c] (a b:Option (Ex×St)) (Q:Ex→St→Prop):Wp (if c then a else b) Q=((c→Wp a Q)∧(¬ c→Wp b Q)):=by
 by_cases h:c <;> simp [h]
theorem Zzn (v:AV) (m:Mem) (Q:AV→Mem→Prop):Wc (some (v,m)) Q=Q v m:=by
 apply propext
 constructor
 ·rintro ⟨_,_,h1,h2⟩;cases h1;exact h2
 ·exact fun h=>⟨_,_,rfl,h⟩
theorem ZpF (Q:AV→Mem→Prop):Wc none Q=False:=by
 apply propext
 constructor
 ·rintro ⟨_,_,h1,_⟩;cases h1
 ·exact False.elim
theorem ZHr (c:Prop) [Decidable c] (a b:Option (AV×Mem)) (Q:AV→Mem→Prop):Wc (if c then a else b) Q=((c→Wc a Q)∧(¬ c→Wc b Q)):=by
 by_cases h:c <;> simp [h]
def ZJa (f:St→Option (Ex×St)) (Q:Ex→St→Prop):Ex→St→Prop
 | .normal,st=>Wp (f st) Q
 | ex,st=>Q ex st
theorem ZpG (f:St→Option (Ex×St)) (Q:Ex→St→Prop) (st:St):ZJa f Q .normal st=Wp (f st) Q:=Eq.trans rfl rfl
theorem Zwd (f:St→Option (Ex×St)) (Q:Ex→St→Prop) (k:Nat) (st:St):ZJa f Q (.exit k) st=Q (.exit k) st:=Eq.trans rfl rfl
theorem Zz8 (f:St→Option (Ex×St)) (Q:Ex→St→Prop) (st:St):ZJa f Q .ret st=Q .ret st:=Eq.trans rfl rfl
theorem Zmq (r:Option (Ex×St)) (f:St→Option (Ex×St)) (Q:Ex→St→Prop):Wp (ZeC r f) Q=Wp r (ZJa f Q):=by
 cases r with
 | none=>simp only [ZmL,Zmp]
 | some p=>
  obtain ⟨ex,st⟩:=p
  cases ex <;> simp only [Zi9,Zoz,ZmK,Zj7,ZJa]
def ZGH (id:Nat) (Q:Ex→St→Prop):Ex→St→Prop
 | .exit k,st=>if k=id then Q .normal st else Q (.exit k) st
 | ex,st=>Q ex st
theorem ZpH (id:Nat) (Q:Ex→St→Prop) (st:St):ZGH id Q .normal st=Q .normal st:=Eq.trans rfl rfl
theorem Zz9 (id:Nat) (Q:Ex→St→Prop) (st:St):ZGH id Q .ret st=Q .ret st:=Eq.trans rfl rfl
theorem Zwe (id:Nat) (Q:Ex→St→Prop) (st:St):ZGH id Q (.exit id) st=Q .normal st:=by simp [ZGH]
theorem Zwf (id k:Nat) (Q:Ex→St→Prop) (st:St):ZGH id Q (.exit k) st=if k=id then Q .normal st else Q (.exit k) st:=Eq.trans rfl rfl
theorem Zr5 (id:Nat) (r:Option (Ex×St)) (Q:Ex→St→Prop):Wp (Zfy id r) Q=Wp r (ZGH id Q):=by
 cases r with
 | none=>simp only [ZmN,Zmp]
 | some p=>
  obtain ⟨ex,st⟩:=p
  cases ex with
  | normal=>simp only [Zja,Zj7,ZGH]
  | ret=>simp only [ZoA,Zj7,ZGH]
  | exit k=>by_cases h:k=id <;> simp only [ZmM,h,if_true,if_false,Zj7,ZGH]
def opQ (tm:List AV) (outs:List (Nat×Nat)) (f:AV→Mem→Option (List AV×Mem)) (Q:Ex→St→Prop):AV→Mem→Prop:=fun v m=>Wp (ZgU tm outs (f v m)) Q
theorem ZHs (tm:List AV) (outs:List (Nat×Nat)) (f:AV→Mem→Option (List AV×Mem)) (Q:Ex→St→Prop) (v:AV) (m:Mem):opQ tm outs f Q v m=Wp (ZgU tm outs (f v m)) Q:=Eq.trans rfl rfl
theorem ZpI (tm:List AV) (outs:List (Nat×Nat)) (r:Option (AV×Mem)) (f:AV→Mem→Option (List AV×Mem)) (Q:Ex→St→Prop) :
  Wp (ZgU tm outs (Za3 r f)) Q=Wc r (opQ tm outs f Q):=by
 cases r with
 | none=>simp only [Zps,ZoB,Zmp,ZpF]
 | some p=>
  obtain ⟨v,m⟩:=p
  simp only [Zpr,Zzn,opQ]
theorem Zwg (tm:List AV) (outs:List (Nat×Nat)) (p:Prop) [Decidable p] (r:Option (AV×Mem)) (m:Mem) (f:AV→Mem→Option (List AV×Mem)) (Q:Ex→St→Prop) :
  Wp (ZgU tm outs (Za4 p r m f)) Q=((p→Wc r (opQ tm outs f Q))∧(¬ p→Wp (ZgU tm outs (f (.tup []) m)) Q)):=by
 by_cases h:p
 ·simp only [h,Zpt,ZpI,true_imp_iff,not_true_eq_false,false_imp_iff,and_true]
 ·simp only [h,Zm9,not_false_eq_true,true_imp_iff,false_imp_iff,true_and]
def retQ (F:ZK) (m:Mem) (Q:AV→Mem→Prop):Ex→St→Prop
 | .exit _,_=>False
 | _,st=>Wc (ZoC F m st) Q
theorem ZpJ (F:ZK) (m:Mem) (Q:AV→Mem→Prop) (st:St):retQ F m Q .normal st=Wc (ZoC F m st) Q:=Eq.trans rfl rfl
theorem ZAa (F:ZK) (m:Mem) (Q:AV→Mem→Prop) (st:St):retQ F m Q .ret st=Wc (ZoC F m st) Q:=Eq.trans rfl rfl
theorem ZCw (F:ZK) (m:Mem) (r:Option (Ex×St)) (Q:AV→Mem→Prop):Wc (Za9 F m r) Q=Wp r (retQ F m Q):=by
 cases r with
 | none=>simp only [ZmP,ZpF,Zmp]
 | some p=>
  obtain ⟨ex,st⟩:=p
  cases ex <;> simp only [Zjb,ZoD,ZmO,ZpF,Zj7,retQ]
theorem Zr {f:FuncId} {F:ZK} (h:T f=some F) (args:List AV) (m:Mem) (Q:AV→Mem→Prop):Wc (call T pr f args m) Q=Wp (run T pr F.code ⟨entry F args,{ m with esc:=none }⟩) (retQ F m Q):=by
 rw [Zh h,ZCw]
abbrev Zra (I:St→Prop) (st:St):Prop:=I st
@[congr] theorem ZHZ {I:St→Prop} {st st':St} (h:st=st'):Zra I st=Zra I st':=by rw [h]
def ZGI (I:St→Prop) (Q:Ex→St→Prop):Ex→St→Prop
 | .normal,st=>Zra I st
 | ex,st=>Q ex st
theorem Znh (I:St→Prop) (Q:Ex→St→Prop) (st:St):ZGI I Q .normal st=Zra I st:=Eq.trans rfl rfl
theorem Zr6 (I:St→Prop) (Q:Ex→St→Prop) (k:Nat) (st:St):ZGI I Q (.exit k) st=Q (.exit k) st:=Eq.trans rfl rfl
theorem Zwh (I:St→Prop) (Q:Ex→St→Prop) (st:St):ZGI I Q .ret st=Q .ret st:=Eq.trans rfl rfl
theorem ZL {b:Zg} {Q:Ex→St→Prop} (I:Nat→St→Prop) (hs:∀ k st,I k st→Wp (run T pr b st) (ZGI (fun st'=>∃ j,j<k∧I j st') Q)) :
  ∀ (n:Nat) (st:St),I n st→Wp (run T pr (.loop b) st) Q:=by
 intro n
 induction n using Nat.strongRecOn with
 | _ n ih=>
  intro st h
  rw [ZG,Zmq]
  refine (hs n st h).mono fun ex st' h' => ?_
  cases ex with
  | normal=>
   obtain ⟨j,hj,hI⟩:=h'
   exact ih j hj st' hI
  | exit k=>exact h'
  | ret=>exact h'
theorem ZhP (sz n o k:Nat) (c:Option Nat):AV.roots H.length (.slice (some (H.length+k,o)) sz n c)=[H.length+k]:=by simp [AV.roots]
theorem ZgZ (sz n o:Nat) (c:Option Nat):AV.roots H.length (.slice (some (H.length,o)) sz n c)=[H.length]:=by simp [AV.roots]
theorem Zg0 (lim sz n:Nat) (c:Option Nat):AV.roots lim (.slice none sz n c)=[]:=by simp [AV.roots]
theorem ZEO {lim b:Nat} (sz n o:Nat) (c:Option Nat) (h:b<lim):AV.roots lim (.slice (some (b,o)) sz n c)=[]:=by simp [AV.roots,h]
theorem Zlj (o k:Nat):AV.roots H.length (.ptr (some (H.length+k,o)))=[H.length+k]:=by simp [AV.roots]
theorem Zjq (o:Nat):AV.roots H.length (.ptr (some (H.length,o)))=[H.length]:=by simp [AV.roots]
theorem Zwi (lim:Nat) (k:IntKind) (x:Int):AV.roots lim (.int k x)=[]:=by simp [AV.roots]
theorem Zr7 (lim:Nat) (x:Bool):AV.roots lim (.bool x)=[]:=by simp [AV.roots]
theorem Zwj (lim:Nat) (x:ByteArray):AV.roots lim (.str x)=[]:=by simp [AV.roots]
theorem Zwk (lim:Nat) (cs:List AV):AV.roots lim (.agg cs)=AV.roots.go lim cs:=by simp [AV.roots]
theorem Zwl (lim:Nat) (cs:List AV):AV.roots lim (.tup cs)=AV.roots.go lim cs:=by simp [AV.roots]
theorem Zr8 (lim:Nat) (c:AV) (cs:List AV):AV.roots.go lim (c::cs)=AV.roots lim c++AV.roots.go lim cs:=by simp [AV.roots.go]
theorem Zwm (lim:Nat):AV.roots.go lim []=[]:=by simp [AV.roots.go]
theorem Zni (f:Nat→Nat) (b o sz n:Nat) (c:Option Nat):AV.rename f (.slice (some (b,o)) sz n c)=.slice (some (f b,o)) sz n c:=by simp [AV.rename]
theorem Zfe (f:Nat→Nat) (sz n:Nat) (c:Option Nat):AV.rename f (.slice none sz n c)=.slice none sz n c:=by simp [AV.rename]
theorem Zr9 (f:Nat→Nat) (b o:Nat):AV.rename f (.ptr (some (b,o)))=.ptr (some (f b,o)):=by simp [AV.rename]
theorem Zsa (f:Nat→Nat) (k:IntKind) (x:Int):AV.rename f (.int k x)=.int k x:=by simp [AV.rename]
theorem ZpK (f:Nat→Nat) (x:Bool):AV.rename f (.bool x)=.bool x:=by simp [AV.rename]
theorem Zsb (f:Nat→Nat) (x:ByteArray):AV.rename f (.str x)=.str x:=by simp [AV.rename]
theorem Zsc (f:Nat→Nat) (cs:List AV):AV.rename f (.agg cs)=.agg (AV.rename.go f cs):=by simp [AV.rename]
theorem Zsd (f:Nat→Nat) (cs:List AV):AV.rename f (.tup cs)=.tup (AV.rename.go f cs):=by simp [AV.rename]
theorem ZpL (f:Nat→Nat) (c:AV) (cs:List AV):AV.rename.go f (c::cs)=AV.rename f c::AV.rename.go f cs:=by simp [AV.rename.go]
theorem Zse (f:Nat→Nat):AV.rename.go f []=[]:=by simp [AV.rename.go]
def ZgE (L:List Blk) (rs:List Nat):List Blk:=rs.map fun b=>(L[b]?).getD .dead
theorem Znj (L:List Blk):ZgE L []=[]:=Eq.trans rfl rfl
theorem Zlk (L:List Blk) (b:Nat) (rs:List Nat):ZgE L (b::rs)=(L[b]?).getD .dead::ZgE L rs:=Eq.trans rfl rfl
def Zj8 (lim:Nat) (L:List Blk) (rs:List Nat):Bool:=rs.all fun b=>Xa lim L[b]?
theorem ZpM (lim:Nat) (L:List Blk):Zj8 lim L []=true:=Eq.trans rfl rfl
theorem Znk (lim:Nat) (L:List Blk) (b:Nat) (rs:List Nat):Zj8 lim L (b::rs)=(Xa lim L[b]?&&Zj8 lim L rs):=Eq.trans rfl rfl
theorem Zll (lim:Nat) (cs:List AV) (w:Bool):Xa lim (some (.cells cs w))=cs.all fun c=>c.under lim:=Eq.trans rfl rfl
theorem Zlm (G:List Blk) (e0 e1:Option Nat) (v:AV):finish 2 H.length e0 v ⟨H++G,e1⟩ =
  if clean H.length e1=true∧Zj8 H.length (H++G) (XL (v.roots H.length))=true then some (v.rename (ZbP H.length (XL (v.roots H.length))),⟨H++ZgE (H++G) (XL (v.roots H.length)),e0⟩) else none:=by
 unfold finish ZgE Zj8
 simp
theorem Zjr (e0 e1:Option Nat) (v:AV):finish 2 H.length e0 v ⟨H,e1⟩ =
  if clean H.length e1=true∧Zj8 H.length H (XL (v.roots H.length))=true then some (v.rename (ZbP H.length (XL (v.roots H.length))),⟨H++ZgE H (XL (v.roots H.length)),e0⟩) else none:=by
 unfold finish ZgE Zj8
 simp
theorem ZgF (G:List Blk) (e0 e1:Option Nat) (v:AV):finish 1 H.length e0 v ⟨H++G,e1⟩=if v.under H.length=true∧clean H.length e1=true then some (v,⟨H,e0⟩) else none:=by
 unfold finish
 simp
theorem Zjs (e0 e1:Option Nat) (v:AV):finish 1 H.length e0 v ⟨H,e1⟩=if v.under H.length=true∧clean H.length e1=true then some (v,⟨H,e0⟩) else none:=by
 unfold finish
 simp
theorem Zwn:XL []=[]:=Eq.trans rfl rfl
theorem Zwo (b:Nat):XL [b]=[b]:=Eq.trans rfl rfl
theorem Zwp (a b:Nat):XL [a,b]=if a=b then [a] else [a,b]:=by
 by_cases h:a=b
 ·simp [XL,h]
 ·have:¬ b=a:=fun h'=>h h'.symm
  simp [XL,h,this]
theorem ZJb {lim b:Nat} (rs:List Nat) (h:b<lim):ZbP lim rs b=b:=by simp [ZbP,h]
theorem Zwq (k:Nat):ZbP H.length [H.length+k] (H.length+k)=H.length:=by
 have h1:¬ H.length+k<H.length:=by omega
 simp only [ZbP,h1,if_false,List.idxOf_cons_self,Nat.add_zero]
theorem Zsf:ZbP H.length [H.length] H.length=H.length:=by simp [ZbP]
theorem Zsg {a b:Nat} (h:H.length≤a):ZbP H.length [a,b] a=H.length:=by
 have h1:¬ a<H.length:=by omega
 simp [ZbP,h1]
theorem Zsh {a b:Nat} (h:H.length≤b) (hne:a≠b):ZbP H.length [a,b] b=H.length+1:=by
 have h1:¬ b<H.length:=by omega
 have h2:(a==b)=false:=by simpa using hne
 simp [ZbP,h1,h2,List.idxOf_cons]
theorem ZY {α:Type} {L:List α} {j:Nat} {b:α} (h:L[j]?=some b) (X:List α):(L++X)[j]?=some b:=by
 rw [List.getElem?_append_left (List.getElem?_eq_some_iff.mp h).1];exact h
theorem Ze {L:List Blk} {j:Nat} {cs:List AV} {w:Bool} (h:L[j]?=some (.cells cs w)):Zb L j=some cs:=by
 unfold Zb;rw [h]
theorem ZpN (n:Nat):clean n none=true:=Eq.trans rfl rfl
theorem XT (n k:Nat):clean n (some k)=decide (n≤k):=Eq.trans rfl rfl
theorem ZJc (c:Prop) [Decidable c] (n:Nat) (a b:Option Nat):clean n (if c then a else b)=if c then clean n a else clean n b:=by split <;> rfl
theorem Zj9 (b:Nat):Z8 none b=some b:=Eq.trans rfl rfl
theorem Zka (a b:Nat):Z8 (some a) b=some (min a b):=Eq.trans rfl rfl
end
theorem pp:type_of% @Zj7∧type_of% @Zmp∧type_of% @ZHq∧type_of% @Zzn∧type_of% @ZpF∧type_of% @ZHr∧type_of% @Zmq∧type_of% @ZpG∧type_of% @Zwd∧type_of% @Zz8∧type_of% @Zr5∧type_of% @ZpH∧type_of% @Zz9∧type_of% @Zwe∧type_of% @Zwf∧type_of% @ZpI∧type_of% @ZHs∧type_of% @Zwg∧type_of% @ZpJ∧type_of% @ZAa∧type_of% @Znh∧type_of% @Zr6∧type_of% @Zwh:=⟨@Zj7,@Zmp,@ZHq,@Zzn,@ZpF,@ZHr,@Zmq,@ZpG,@Zwd,@Zz8,@Zr5,@ZpH,@Zz9,@Zwe,@Zwf,@ZpI,@ZHs,@Zwg,@ZpJ,@ZAa,@Znh,@Zr6,@Zwh⟩
theorem ff:type_of% @ZgF∧type_of% @Zjs∧type_of% @Zlm∧type_of% @Zjr∧type_of% @ZhP∧type_of% @ZgZ∧type_of% @Zg0∧type_of% @Zlj∧type_of% @Zjq∧type_of% @Zwi∧type_of% @Zr7∧type_of% @Zwj∧type_of% @Zwk∧type_of% @Zwl∧type_of% @Zr8∧type_of% @Zwm∧type_of% @Zni∧type_of% @Zfe∧type_of% @Zr9∧type_of% @Zsa∧type_of% @ZpK∧type_of% @Zsb∧type_of% @Zsc∧type_of% @Zsd∧type_of% @ZpL∧type_of% @Zse∧type_of% @Znj∧type_of% @Zlk∧type_of% @ZpM∧type_of% @Znk∧type_of% @Zll∧type_of% @Zwn∧type_of% @Zwo∧type_of% @Zwp∧type_of% @Zwq∧type_of% @Zsf∧type_of% @Zsg∧type_of% @Zsh∧type_of% @ZpN∧type_of% @XT∧type_of% @Zj9∧type_of% @Zka∧type_of% @Nat.add_left_cancel_iff∧type_of% @Nat.le_add_right∧type_of% @Nat.le_refl∧type_of% @decide_true:=⟨@ZgF,@Zjs,@Zlm,@Zjr,@ZhP,@ZgZ,@Zg0,@Zlj,@Zjq,@Zwi,@Zr7,@Zwj,@Zwk,@Zwl,@Zr8,@Zwm,@Zni,@Zfe,@Zr9,@Zsa,@ZpK,@Zsb,@Zsc,@Zsd,@ZpL,@Zse,@Znj,@Zlk,@ZpM,@Znk,@Zll,@Zwn,@Zwo,@Zwp,@Zwq,@Zsf,@Zsg,@Zsh,@ZpN,@XT,@Zj9,@Zka,@Nat.add_left_cancel_iff,@Nat.le_add_right,@Nat.le_refl,@decide_true⟩
end Go.Proofs.YtemcdiajejekoaaGreatDoor.Slim
namespace Go.Proofs.YtemcdiajejekoaaGreatDoor.Slim
open Go
variable {pr : Zt} {H : List Blk} {e : Option Nat}
def Zmr {α:Type} (f:α→List AV):List α→List AV
 | []=>[]
 | x::xs=>f x++Zmr f xs
section
variable {α : Type} {f : α → List AV} {k : Nat}
theorem Zkb:∀ a b:List α,Zmr f (a++b)=Zmr f a++Zmr f b
 | [],b=>rfl
 | x::a,b=>by rw [List.cons_append,Zmr,Zmr,Zkb a b,List.append_assoc]
theorem ZgG (hf:∀ x,(f x).length=k):∀ xs:List α,(Zmr f xs).length=xs.length*k
 | []=>by simp [Zmr]
 | x::xs=>by rw [Zmr,List.length_append,hf,ZgG hf xs,List.length_cons,Nat.add_mul,Nat.one_mul,Nat.add_comm]
theorem Zwr (hf:∀ x,(f x).length=k):∀ (xs:List α) (i:Nat),(Zmr f xs).drop (i*k)=Zmr f (xs.drop i)
 | xs,0=>by rw [Nat.zero_mul,List.drop_zero,List.drop_zero]
 | [],i+1=>by simp [Zmr]
 | x::xs,i+1=>by
  rw [Zmr,Nat.add_mul,Nat.one_mul,Nat.add_comm,←hf x,List.drop_length_add_append,hf x,List.drop_succ_cons,Zwr hf xs i]
theorem ZEP (hf:∀ x,(f x).length=k) {xs:List α} {i:Nat} {x:α} (h:xs[i]?=some x):∃ ys,(Zmr f xs).drop (i*k)=f x++ys∧i*k+k≤(Zmr f xs).length:=by
 have hi:=(List.getElem?_eq_some_iff.mp h).1
 refine ⟨Zmr f (xs.drop (i+1)),?_,?_⟩
 ·rw [Zwr hf,List.drop_eq_getElem_cons hi,Zmr]
  rw [List.getElem?_eq_getElem hi] at h
  rw [Option.some.inj h]
 ·rw [ZgG hf]
  have:(i+1)*k≤xs.length*k:=Nat.mul_le_mul_right _ hi
  rw [Nat.add_mul,Nat.one_mul] at this
  exact this
theorem ZEQ (hf:∀ x,(f x).length=k) {xs:List α} {i:Nat} {x:α} (h:xs[i]?=some x):Zcn true (Zmr f xs) (i*k) k=some (.agg (f x)):=by
 obtain ⟨ys,h1,h2⟩:=ZEP hf h
 rw [Zk7,if_pos h2,h1,←hf x,List.take_left']
 rfl
theorem Zsi (hf:∀ x,(f x).length=k) {xs:List α} {i j:Nat} {x:α} {c:AV} (sz:Nat) (h:xs[i]?=some x) (hc:(f x)[j]?=some c):Zcn false (Zmr f xs) (i*k+j) sz=some c:=by
 obtain ⟨ys,h1,h2⟩:=ZEP hf h
 rw [ZcT]
 have:(Zmr f xs)[i*k+j]?=((Zmr f xs).drop (i*k))[j]?:=by rw [List.getElem?_drop]
 rw [this,h1,List.getElem?_append_left (List.getElem?_eq_some_iff.mp hc).1,hc]
theorem ZCx (hf:∀ x,(f x).length=k) {xs:List α} {i:Nat} {x:α} {c:AV} (sz:Nat) (h:xs[i]?=some x) (hc:(f x)[0]?=some c):Zcn false (Zmr f xs) (i*k) sz=some c:=Zsi (j:=0) hf sz h hc
theorem Zws {cs:List AV} {o:Nat} (v:AV) (h:o<cs.length):Z3 cs o [v]=cs.set o v:=by
 unfold Z3
 rw [List.set_eq_take_append_cons_drop,if_pos h]
 simp
theorem Y9 (hf:∀ (x:α) (n:Nat),((f x).all fun c=>c.under n)=true) (n:Nat):∀ xs:List α,((Zmr f xs).all fun c=>c.under n)=true
 | []=>rfl
 | x::xs=>by rw [Zmr,List.all_append,hf,Y9 hf n xs];rfl
end
abbrev Tk:=Int×Int×Int×Int
structure Sd where
 ls:List Ld
 ss:List Sg
 a:Int
 b:Int
 t:Int
 c:Int
def Sd.ok (s:Sd):Bool:=ZnH s.ls s.ss s.a s.b s.t s.c
def ZH0 (s:Sd) (m:Tk):Option Sd :=
 if Zli s.ls s.ss s.a s.b s.t s.c m.1 m.2.1 m.2.2.1 m.2.2.2=true then
  some ⟨Zj6 s.ls m.1 m.2.1 m.2.2.1,XI s.ss m.1 m.2.1 m.2.2.1 m.2.2.2,Jr s.a m.1 m.2.1,Jr s.b m.1 m.2.2.1,Zfd s.ls s.a s.b s.t m.1 m.2.1 m.2.2.1,wr (s.c+1)⟩
 else none
theorem ZGJ {s s':Sd} {m:Tk} (h:s.ok=true) (hs:ZH0 s m=some s'):s'.ok=true:=by
 unfold ZH0 at hs
 split at hs
 ·rename_i hd
  cases hs
  unfold Zli at hd
  rw [Bool.and_eq_true] at hd
  have h2:=hd.2
  unfold Sd.ok ZnH JN at *
  simp only [Bool.and_eq_true,decide_eq_true_eq] at *
  refine ⟨h2.1,h2.2.1,h2.2.2.1,h2.2.2.2.1,?_⟩
  have hw:wr (s.c+1)=s.c+1:=ZN (by omega) (by omega)
  rw [hw] at h2 ⊢
  unfold Zfd
  split
  ·omega
  ·have hw2:wr (s.t+1)=s.t+1:=ZN (by omega) (by omega)
   rw [hw2]
   omega
 ·cases hs
end Go.Proofs.YtemcdiajejekoaaGreatDoor.Slim
