/- Parts of the proof. -/
import Derived.Test.YtemcdiajejekoaaGreatDoorSlimZ12
import Derived.Deep.RegionLaw
import Derived.WalkKit
import Derived.OwnWalk
import Derived.Lib.Walk
import Derived.Lib.SliceRun
import Derived.Lib.Slices
import Derived.Shelf.RegionOpenPlain
import Derived.Deep.LoopGhost
import Derived.Below
set_option linter.unusedSimpArgs false
set_option linter.unusedVariables false
namespace Go.Proofs.YtemcdiajejekoaaGreatDoor.Slim
open Go Go.Lib Go.RowKit
theorem ZwF {P:Program} (w:World) (t e ty:TypeId) (z:Value) (ht:P.underlying t=some (.slice e)) (hv:∀ w,(zeroValue e).run P w=.ok z w) (h1:∀ v∈z.cells.toList,v.oneCell'=true) (b o c:Nat)
  (hc:∀ j,j<z.cells.size→(w.cell? ⟨b,o+j,none⟩).isSome=true) (hf:∀ j,j<z.cells.size→w.frozen? ⟨b,o+j,none⟩=false) :
  (Builtin.clear_ #[t] ty #[.slice (some ⟨b,o,none⟩) 1 c]).run P w=.ok (.tuple #[]) (w.setCells b o z.cells.toList):=by
 have hzc:(Builtin.zeroCells z.cells 1).toList=z.cells.toList:=by
  simp [Builtin.zeroCells]
  apply List.ext_getElem
  ·simp
  ·intro i h1 h2
   simp at h2
   simp [Nat.mod_eq_of_lt h2,getElem!_pos z.cells i h2]
 have hst:=run_storeCells_cells (P:=P) b o z.cells.toList 0 w (by simpa using hc) (by simpa using hf) h1
 simp only [Nat.add_zero] at hst
 simp [Builtin.clear_,run_underlying ht,hv,hzc,hst]
section
variable {ι : Emb} {m : Mem} {w : World}
theorem Rel.trim (R:Rel ι m w) {b:Nat} {cs:List AV} {wr:Bool} (hb:m.H[b]?=some (.cells cs wr)) (k:Nat) :
  Rel ι { m with H:=m.H.set b (.cells (cs.take k) wr) } w∧Ext ι m w ι { m with H:=m.H.set b (.cells (cs.take k) wr) } w:=by
 have hbl:b<m.H.length:=(List.getElem?_eq_some_iff.mp hb).1
 have hset:∀ (b':Nat) cs' wr',(m.H.set b (.cells (cs.take k) wr))[b']?=some (Blk.cells cs' wr')→∃ cs'',m.H[b']?=some (Blk.cells cs'' wr')∧cs'=if b=b' then cs''.take k else cs'':=by
  intro b' cs' wr' h
  rw [List.getElem?_set] at h
  split at h
  ·rename_i hbb
   subst hbb
   cases h
   exact ⟨cs,hb,by simp⟩
  ·rename_i hbb
   exact ⟨cs',h,by simp [hbb]⟩
 have horig:∀ (b':Nat) (k':Blk),(m.H.set b (.cells (cs.take k) wr))[b']?=some k'→∃ k'',m.H[b']?=some k''∧(k'.wrt→k''.wrt)∧(k'.live→k''.live):=by
  intro b' k' h
  rw [List.getElem?_set] at h
  split at h
  ·rename_i hbb
   subst hbb
   cases h
   exact ⟨_,hb,fun h=>h,fun _=>trivial⟩
  ·exact ⟨k',h,fun h=>h,fun h=>h⟩
 refine R.of0 ⟨⟨by simp [R.len],R.low,fun b' cs' wr' h => ?_,fun b' es h => ?_,fun b1 b2 k1 k2 c d c' d' hne h1 hw h2 hl h3 h4 => ?_⟩,⟨Emb.le_refl _,Nat.le_refl _,Nat.le_refl _,YM.refl _,fun r hr => ?_,fun _ _ _=>rfl,rfl,rfl,rfl⟩⟩
 ·obtain ⟨cs'',h1,rfl⟩:=hset _ _ _ h
  obtain ⟨c,d,h2,hC⟩:=R.at' b' cs'' wr' h1
  refine ⟨c,d,h2,?_⟩
  split
  ·obtain ⟨us,h3,h4⟩:=hC.vals
   refine ⟨⟨us.take k,h3.take k,fun j v hj=>h4 j v ?_⟩,?_,hC.free⟩
   ·rw [List.getElem?_take] at hj
    split at hj
    ·exact hj
    ·cases hj
   ·have:=all_sub hC.cell 0 k
    rwa [List.drop_zero] at this
  ·exact hC
 ·rw [List.getElem?_set] at h
  split at h
  ·cases h
  ·exact R.mp b' es h
 ·obtain ⟨e1,g1,g1',_⟩:=horig _ _ h1
  obtain ⟨e2,g2,_,g2'⟩:=horig _ _ h2
  exact R.sep b1 b2 e1 e2 c d c' d' hne g1 (g1' hw) g2 (g2' hl) h3 h4
 ·obtain ⟨b',k',d',h1,hw,h2⟩:=hr
  obtain ⟨e1,g1,g1',_⟩:=horig _ _ h1
  exact .inl ⟨b',e1,d',g1,g1' hw,h2⟩
theorem ZFb {P:Program} (R:Rel ι m w) {b n sz i:Nat} {cap:Option Nat} {cs:List AV} {v:Value} (hb:m.H[b]?=some (.cells cs true)) (hcs:cs.length=n*sz) (hi:i<n) (hv:V ι w (.slice (some (b,0)) sz n cap) v) :
  ∃ (c x k:Nat) (news:List Value),v=.slice (some ⟨c,x,none⟩) n k∧n≤k∧news.length=(n - (i+1))*sz ∧
   (∀ t u,news[t]?=some u→w.drew.cell? ⟨c,x+(i+1)*sz+t,none⟩=some u)∧(∀ u∈news,u.oneCell'=true) ∧
   (∀ t,t<(n - (i+1))*sz→(w.drew.cell? ⟨c,x+i*sz+t,none⟩).isSome=true∧w.drew.frozen? ⟨c,x+i*sz+t,none⟩=false) ∧
   (∀ t,t<sz→((w.drew.setCells c (x+i*sz) news).cell? ⟨c,x+(i+(n - (i+1)))*sz+t,none⟩).isSome=true∧(w.drew.setCells c (x+i*sz) news).frozen? ⟨c,x+(i+(n - (i+1)))*sz+t,none⟩=false) ∧
   ∃ ι',V ι' ((w.drew.setCells c (x+i*sz) news).setCells c (x+(i+(n - (i+1)))*sz) (List.replicate sz (.int .i64 0))) (.slice (some (m.H.length+1,0)) sz (n - 1) none) (.slice (some ⟨c,x,none⟩) (i+(n - (i+1))) k) ∧
    Rel ι' ⟨m.H.set b .dead++[.dead,.cells (cs.take (i*sz)++cs.drop ((i+1)*sz)) true],m.esc⟩ ((w.drew.setCells c (x+i*sz) news).setCells c (x+(i+(n - (i+1)))*sz) (List.replicate sz (.int .i64 0))) ∧
    Ext ι m w ι' ⟨m.H.set b .dead++[.dead,.cells (cs.take (i*sz)++cs.drop ((i+1)*sz)) true],m.esc⟩ ((w.drew.setCells c (x+i*sz) news).setCells c (x+(i+(n - (i+1)))*sz) (List.replicate sz (.int .i64 0))):=by
 obtain ⟨c,d,x,k,e,M,g1,rfl,g3,g4,g5,g6,g7⟩:=hv
 obtain ⟨c',d',g1',hC⟩:=R.at' b cs true hb
 rw [g1] at g1'
 cases g1'
 have hx:x=d:=by rcases g4 with h | ⟨h,_⟩ <;> omega
 subst hx
 obtain ⟨us,hu,hcell⟩:=hC.vals
 obtain ⟨e',M',g5',hfree⟩:=hC.free rfl
 rw [g5] at g5'
 cases g5'
 have hul:us.length=n*sz:=hu.length.trans hcs
 have hkM:x+k*sz≤M:=by rcases g6 with h | h <;> omega
 have hnk:n*sz≤k*sz:=Nat.mul_le_mul_right _ g3
 have e1:(i+1)*sz+(n - (i+1))*sz=n*sz:=by rw [←Nat.add_mul];congr 1;omega
 have e2:(i+1)*sz=i*sz+sz:=by rw [Nat.add_mul,Nat.one_mul]
 have e3:(i+(n - (i+1)))*sz=i*sz+(n - (i+1))*sz:=Nat.add_mul _ _ _
 have hbl:b<m.H.length:=(List.getElem?_eq_some_iff.mp hb).1
 have R0:=R.drew
 have hu0:VL ι w.drew cs us:=VL.mono (w:=w) (w':=w.drew) (Emb.le_refl _) (fun _ _ h=>h) _ _ hu
 have hM:w.drew.shape? c=some (e,M):=g5
 obtain ⟨_,r1,r2⟩:=Rel.inplace (P:=P) (b:=b) (old:=cs) (cs:=cs.take (i*sz)) (new:=cs.drop ((i+1)*sz)) (us:=us.take (i*sz)) (vs:=us.drop ((i+1)*sz)) R0 hb g1 hM (hu0.take _)
  (fun j v hj=>by
   rw [List.getElem?_take] at hj
   split at hj
   ·exact hcell j v hj
   ·cases hj) (by have:=all_sub hC.cell 0 (i*sz);rwa [List.drop_zero] at this)
  (hu0.drop _) (by have:=all_sub hC.cell ((i+1)*sz) cs.length;rwa [List.take_of_length_le (by simp)] at this) (by simp;omega)
 have htl:(us.take (i*sz)).length=i*sz:=by rw [List.length_take];omega
 rw [htl] at r1 r2
 have hH1:(m.H.set b .dead++[Blk.cells (cs.take (i*sz)++cs.drop ((i+1)*sz)) true])[m.H.length]?=some (.cells (cs.take (i*sz)++cs.drop ((i+1)*sz)) true):=by
  rw [List.getElem?_append_right (by simp)];simp
 have hι1:(ι++[some (c,x)])[m.H.length]?=some (some (c,x)):=by rw [←R.len];exact Zan _ _
 obtain ⟨c',d',q1,hC1⟩:=r1.at' m.H.length _ true hH1
 rw [hι1] at q1
 cases q1
 obtain ⟨us1,hu1,hcell1⟩:=hC1.vals
 obtain ⟨e',M',g5',hfree1⟩:=hC1.free rfl
 have hM1:=r2.shapes _ _ hM
 rw [hM1] at g5'
 cases g5'
 have hal:(cs.take (i*sz)++cs.drop ((i+1)*sz)).length=(i+(n - (i+1)))*sz:=by
  rw [List.length_append,List.length_take,List.length_drop];omega
 have hu1l:us1.length=(i+(n - (i+1)))*sz:=hu1.length.trans hal
 obtain ⟨_,r3,r4⟩:=Rel.inplace (P:=P) (b:=m.H.length) (old:=cs.take (i*sz)++cs.drop ((i+1)*sz)) (cs:=cs.take (i*sz)++cs.drop ((i+1)*sz)) (new:=List.replicate sz (AV.int .i64 0)) (us:=us1) (vs:=List.replicate sz (.int .i64 0)) r1 hH1 hι1 hM1 hu1 hcell1 hC1.cell
  (VL.replicate (c:=.int .i64 0) (y:=.int .i64 0) rfl sz) (by simp [AV.isCell]) (by right;simp;omega)
 rw [hu1l] at r3 r4
 have hH2:(m.H.set b .dead++[Blk.cells (cs.take (i*sz)++cs.drop ((i+1)*sz)) true]).set m.H.length .dead++[Blk.cells (cs.take (i*sz)++cs.drop ((i+1)*sz)++List.replicate sz (AV.int .i64 0)) true] =
   m.H.set b .dead++[.dead,.cells (cs.take (i*sz)++cs.drop ((i+1)*sz)++List.replicate sz (AV.int .i64 0)) true]:=by
  rw [List.set_append_right _ _ (by simp)]
  simp
 simp only [hH2] at r3 r4
 obtain ⟨r5,r6⟩:=r3.trim (b:=m.H.length+1) (cs:=cs.take (i*sz)++cs.drop ((i+1)*sz)++List.replicate sz (AV.int .i64 0)) (wr:=true) (by
  show (m.H.set b .dead++[.dead,_])[m.H.length+1]?=_
  rw [List.getElem?_append_right (by simp)];simp) ((i+(n - (i+1)))*sz)
 have hH3:(m.H.set b .dead++[.dead,Blk.cells (cs.take (i*sz)++cs.drop ((i+1)*sz)++List.replicate sz (AV.int .i64 0)) true]).set (m.H.length+1) (.cells ((cs.take (i*sz)++cs.drop ((i+1)*sz)++List.replicate sz (AV.int .i64 0)).take ((i+(n - (i+1)))*sz)) true) =
   m.H.set b .dead++[.dead,.cells (cs.take (i*sz)++cs.drop ((i+1)*sz)) true]:=by
  rw [List.set_append_right _ _ (by simp),List.take_left' hal]
  simp
 simp only [hH3] at r5 r6
 refine ⟨c,x,k,us.drop ((i+1)*sz),rfl,g3,by rw [List.length_drop];omega,fun t u ht => ?_,fun u hu' => ?_,fun t ht => ?_,fun t ht => ?_,_,?_,r5,((Ext.drew ι m w).trans r2).trans (r4.trans r6)⟩
 ·rw [List.getElem?_drop] at ht
  have:=hcell _ _ ht
  rw [←Nat.add_assoc] at this
  exact this
 ·exact Zn8 hu hC.cell u (List.mem_of_mem_drop hu')
 ·obtain ⟨y,hy⟩:=Zl5 hM (show x+i*sz+t<M by omega)
  exact ⟨by rw [hy];rfl,hfree _ (by omega)⟩
 ·obtain ⟨y,hy⟩:=Zl5 hM1 (show x+(i+(n - (i+1)))*sz+t<M by omega)
  exact ⟨by rw [hy];rfl,hfree1 _ (by omega)⟩
 ·refine ⟨c,x,x,k,e,M,?_,?_,by omega,.inl rfl,r6.shapes _ _ (r4.shapes _ _ hM1),.inr hkM,fun q hq=>by cases hq⟩
  ·rw [show m.H.length+1=(ι++[some (c,x)]).length by simp [R.len]]
   exact Zan _ _
  ·rw [show i+(n - (i+1))=n - 1 by omega]
end
end Go.Proofs.YtemcdiajejekoaaGreatDoor.Slim
namespace Go.Proofs.YtemcdiajejekoaaGreatDoor.Slim
open Go
def Zue (sz:Nat) (args:List AV) (m:Mem):Option (AV×Mem):=match args with
 | [.slice (some (b,0)) sz' n cap,.int .i64 i,.int .i64 j]=>(match m.H[b]? with
  | some (.cells cs true)=>if sz'=sz∧cs.length=n*sz∧0≤i∧i<(n:Int)∧j=i+1 then
    some (.slice (some (m.H.length+1,0)) sz (n - 1) none,⟨m.H.set b .dead++[.dead,.cells (cs.take (i.toNat*sz)++cs.drop ((i.toNat+1)*sz)) true],m.esc⟩) else none
  | _=>none)
 | _=>none
theorem Zmx {sz:Nat} {args:List AV} {m m':Mem} {v:AV} (h:Zue sz args m=some (v,m')):∃ (b n i:Nat) (cap:Option Nat) (cs:List AV),args=[.slice (some (b,0)) sz n cap,.int .i64 i,.int .i64 (i+1:Nat)] ∧
  m.H[b]?=some (.cells cs true)∧cs.length=n*sz∧i<n∧v=.slice (some (m.H.length+1,0)) sz (n - 1) none∧m'=⟨m.H.set b .dead++[.dead,.cells (cs.take (i*sz)++cs.drop ((i+1)*sz)) true],m.esc⟩:=by
 unfold Zue at h
 split at h
 ·rename_i b sz' n cap i j
  split at h
  ·rename_i cs hb
   split at h
   ·rename_i hc
    obtain ⟨rfl,h1,h2,h3,rfl⟩:=hc
    cases h
    obtain ⟨k,rfl⟩:∃ k:Nat,i=k:=⟨i.toNat,by omega⟩
    exact ⟨b,n,k,cap,cs,by simp,hb,h1,by omega,rfl,by simp⟩
   ·cases h
  ·cases h
 ·cases h
theorem ZAG {sz:Nat} {L:List Blk} {e:Option Nat} {b n i:Nat} {cap:Option Nat} {cs:List AV} (h1:L[b]?=some (.cells cs true)) (h2:cs.length=n*sz) (h3:i<n) :
  Zue sz [.slice (some (b,0)) sz n cap,.int .i64 i,.int .i64 (i+1:Nat)] ⟨L,e⟩=some (.slice (some (L.length+1,0)) sz (n - 1) none,⟨L.set b .dead++[.dead,.cells (cs.take (i*sz)++cs.drop ((i+1)*sz)) true],e⟩):=by
 unfold Zue
 simp only [h1]
 rw [if_pos ⟨trivial,h2,by omega,by omega,by omega⟩]
 simp
theorem Zso {sz:Nat} {args:List AV} {m m':Mem} {v:AV} (h:Zue sz args m=some (v,m')):Grow m m':=by
 obtain ⟨b,n,i,cap,cs,rfl,hb,hcs,hi,rfl,rfl⟩:=Zmx h
 have hbl:b<m.H.length:=(List.getElem?_eq_some_iff.mp hb).1
 have key:∀ (x:Nat) cs' wr',(m.H.set b .dead++[.dead,Blk.cells (cs.take (i*sz)++cs.drop ((i+1)*sz)) true])[x]?=some (.cells cs' wr')→(x<m.H.length∧m.H[x]?=some (.cells cs' wr'))∨(m.H.length≤x∧wr'=true):=by
  intro x cs' wr' hx
  rcases Nat.lt_or_ge x m.H.length with hl | hl
  ·rw [List.getElem?_append_left (by simpa using hl),List.getElem?_set] at hx
   split at hx
   ·cases hx
   ·exact .inl ⟨hl,hx⟩
  ·rw [List.getElem?_append_right (by simpa using hl)] at hx
   refine .inr ⟨hl,?_⟩
   match hq:x - (m.H.set b .dead).length,hx with
   | 0,hx=>simp at hx
   | 1,hx=>simp at hx;exact hx.2
   | q+2,hx=>simp at hx
 refine ⟨by simp,fun _ h=>h,fun x hx _ => ?_,fun x cs' hx => ?_⟩
 ·intro cs' wr' hc
  rcases key x cs' wr' hc with ⟨_,h2⟩|⟨h1,_⟩
  ·exact ⟨cs',wr',h2,fun c hc=>.inl hc⟩
  ·omega
 ·rcases key x cs' false hx with ⟨_,h2⟩|⟨_,h2⟩
  ·exact h2
  ·cases h2
def Zdy (pr:Zy):Prop:=(∀ (L:List Blk) (e:Option Nat) (b n i:Nat) (cap:Option Nat) (cs:List AV),L[b]?=some (.cells cs true)→cs.length=n*2→i<n→call T pr ZO [.slice (some (b,0)) 2 n cap,.int .i64 i,.int .i64 (i+1:Nat)] ⟨L,e⟩=some (.slice (some (L.length+1,0)) 2 (n - 1) none,⟨L.set b .dead++[.dead,.cells (cs.take (i*2)++cs.drop ((i+1)*2)) true],e⟩))∧(∀ (L:List Blk) (e:Option Nat) (b n i:Nat) (cap:Option Nat) (cs:List AV),L[b]?=some (.cells cs true)→cs.length=n*3→i<n→call T pr ZK [.slice (some (b,0)) 3 n cap,.int .i64 i,.int .i64 (i+1:Nat)] ⟨L,e⟩=some (.slice (some (L.length+1,0)) 3 (n - 1) none,⟨L.set b .dead++[.dead,.cells (cs.take (i*3)++cs.drop ((i+1)*3)) true],e⟩))
end Go.Proofs.YtemcdiajejekoaaGreatDoor.Slim
namespace Go.Proofs.YtemcdiajejekoaaGreatDoor.Slim
open Go
open Nat renaming reduceAdd → Ra, reduceLeDiff → Rb, reduceLT → Rc, reduceEqDiff → Rd
open Nat renaming le_add_right → RR, add_assoc → RS, add_lt_add_iff_left → RQ, lt_irrefl → Rh, le_refl → Rz
open Int renaming reduceEq → RT
open Bool renaming false_and → RU, true_and → RW, and_false → RX
open Option renaming some.injEq → RV
open List renaming length_eraseIdx → RY
variable {pr : Zy} {H : List Blk} {e : Option Nat}
def Zlx (sz:Nat) (v h:AV):Option AV:=match v with
 | .slice p sz' n cap=>(match natOf h with
  | some h=>QK sz p sz' n cap 0 h none
  | none=>none)
 | _=>none
def ZbR (sz:Nat) (v l:AV):Option AV:=match v with
 | .slice p sz' n cap=>(match natOf l with
  | some l=>QK sz p sz' n cap l n none
  | none=>none)
 | _=>none
section
variable {C : FuncId → List AV → Mem → Option (AV × Mem)} {g : X → AV} {m : Mem}
theorem Zkf (sz:Nat) (x h:X):aop C g m (.sliceSl sz x none (some h) none)=K2 m (Zlx sz (g x) (g h)):=by
 rw [ZG rfl]
 simp only [JM,Zlx,ZeS,Zor]
 generalize g x=v
 generalize natOf (g h)=o
 cases v <;> cases o <;> simp
theorem Zby (sz:Nat) (x l:X):aop C g m (.sliceSl sz x (some l) none none)=K2 m (ZbR sz (g x) (g l)):=by
 rw [ZG rfl]
 simp only [JM,ZbR,ZeS,Zor]
 generalize g x=v
 generalize natOf (g l)=o
 cases v <;> cases o <;> simp
end
theorem Zkg (sz b o n h:Nat) (cap:Option Nat) (hh:h≤n):Zlx sz (.slice (some (b,o)) sz n cap) (.int .i64 h)=some (.slice (some (b,o)) sz h cap):=by
 unfold Zlx natOf QK
 simp [hh]
theorem Zdz (sz b o n l:Nat) (hl:l≤n):ZbR sz (.slice (some (b,o)) sz n none) (.int .i64 l)=some (.slice (some (b,o+l*sz)) sz (n - l) none):=by
 unfold ZbR natOf QK
 simp [hl]
theorem ZwG:∀ (ls:List Ld) (i:Nat),(Zm ls).take (i*2)=Zm (ls.take i)
 | ls,0=>by simp [Zm]
 | [],i+1=>by simp [Zm]
 | l::ls,i+1=>by
  rw [show (i+1)*2=i*2+1+1 by omega]
  simp [Zm,ZwG ls i]
theorem ZwH:∀ (ls:List Ld) (i:Nat),(Zm ls).drop (i*2)=Zm (ls.drop i)
 | ls,0=>by simp
 | [],i+1=>by simp [Zm]
 | l::ls,i+1=>by
  rw [show (i+1)*2=i*2+1+1 by omega]
  simp [Zm,ZwH ls i]
theorem ZwI:∀ (ls:List Sg) (i:Nat),(Zr ls).take (i*3)=Zr (ls.take i)
 | ls,0=>by simp [Zr]
 | [],i+1=>by simp [Zr]
 | l::ls,i+1=>by
  rw [show (i+1)*3=i*3+1+1+1 by omega]
  simp [Zr,ZwI ls i]
theorem ZwJ:∀ (ls:List Sg) (i:Nat),(Zr ls).drop (i*3)=Zr (ls.drop i)
 | ls,0=>by simp
 | [],i+1=>by simp [Zr]
 | l::ls,i+1=>by
  rw [show (i+1)*3=i*3+1+1+1 by omega]
  simp [Zr,ZwJ ls i]
theorem ZgG:∀ a b:List Sg,Zr (a++b)=Zr a++Zr b
 | [],b=>rfl
 | l::a,b=>by simp [Zr,ZgG a b]
theorem Zsp (ls:List Ld) (i:Nat):(Zm ls).take (i*2)++(Zm ls).drop ((i+1)*2)=Zm (ls.eraseIdx i):=by
 rw [ZwG,ZwH,List.eraseIdx_eq_take_drop_succ,Zdv]
theorem Zsq (ls:List Sg) (i:Nat):(Zr ls).take (i*3)++(Zr ls).drop ((i+1)*3)=Zr (ls.eraseIdx i):=by
 rw [ZwI,ZwJ,List.eraseIdx_eq_take_drop_succ,ZgG]
theorem Zsr {L:List Blk} {b n sz bytes i:Nat} {cs:List AV} (hb:L[b]?=some (.cells cs true)) (hcs:cs.length=n*sz) (hi:i<n) (hm:n*bytes≤maxBytes) :
  Q5 L e false sz bytes (.slice (some (b,0)) sz i none) (.slice (some (b,(i+1)*sz)) sz (n - (i+1)) none)=some (.slice (some (L.length,0)) sz (n - 1) none,⟨L.set b .dead++[.cells (cs.take (i*sz)++cs.drop ((i+1)*sz)) true],e⟩):=by
 have e1:(i+1)*sz+(n - (i+1))*sz=n*sz:=by rw [←Nat.add_mul];congr 1;omega
 have e2:(i+1)*sz=i*sz+sz:=by rw [Nat.add_mul,Nat.one_mul]
 have hs:Y2 false L (.slice (some (b,(i+1)*sz)) sz (n - (i+1)) none)=some (n - (i+1),cs.drop ((i+1)*sz)):=by
  unfold Y2
  have hc:Zb L b=some cs:=by unfold Zb;rw [hb]
  simp only [Bool.false_eq_true,if_false,hc]
  rw [if_pos (by omega),List.take_of_length_le (by rw [List.length_drop];omega)]
 have e3:i+(n - (i+1))=n - 1:=by omega
 unfold Q5
 simp only [hb,hs]
 rw [if_pos ⟨trivial,by rw [e3];exact Nat.le_trans (Nat.mul_le_mul_right _ (by omega)) hm,by rw [List.length_drop];omega,by omega⟩]
 rw [if_neg (by simp),if_pos trivial,e3,List.drop_zero]
theorem ZiT {L:List Blk} {b q n sz bytes:Nat} {cs new:List AV} {c:Option Nat} (hb:L[b]?=some (.cells cs true)) (hq:Zb L q=some new) (hcs:cs.length=n*sz) (hnew:new.length=sz) (hm:(n+1)*bytes≤maxBytes) :
  Q5 L e false sz bytes (.slice (some (b,0)) sz n none) (.slice (some (q,0)) sz 1 c)=some (.slice (some (L.length,0)) sz (n+1) none,⟨L.set b .dead++[.cells (cs++new) true],e⟩):=by
 have hs:=Zer L 1 sz c new q hq (by omega)
 unfold Q5
 simp only [hb,hs]
 rw [if_pos ⟨trivial,hm,by omega,by omega⟩,if_neg (by simp),if_pos trivial,List.drop_zero,←hcs,List.take_length]
abbrev tkV (k x y z:Int):AV:=.agg [.int .i64 k,.int .i64 x,.int .i64 y,.int .i64 z]
def Zss (ls:List Ld) (ss:List Sg) (k x y z:Int):Bool :=
 if k=1∨k=4 then decide (z=0)
 else if k=2 then ((decide (0≤x)&&decide (x≤(ls.length:Int) - 1))&&decide (y=0))&&decide (z=0)
 else if k=3 then (decide (0≤x)&&decide (x≤(ls.length:Int) - 1))&&decide (z=0)
 else if k=6 then ((decide (0≤x)&&decide (x≤(ss.length:Int) - 1))&&decide (y=0))&&decide (z=0)
 else decide (k=5)
def Zkv (ls:List Ld) (k x y:Int):List Ld :=
 if k=1 then ls++[(x,y)] else if k=2 then ls.eraseIdx x.toNat else if k=3 then Zud ls x.toNat y else ls
def X8 (ss:List Sg) (k x y z:Int):List Sg :=
 if k=5 then ss++[(x,y,z)] else if k=6 then ss.eraseIdx x.toNat else ss
def JD (a k x:Int):Int:=if k=4 then x else a
theorem ZC2 {p1 p2:Option (Nat×Nat)} {s1 s2:Nat} {c1 c2:Option Nat} {ls:List Ld} {ss:List Sg} (hn:ls.length≤1048576) (hm:ss.length≤1048576) (a b t c k x y z:Int) :
  call T pr Zix [stV (.slice p1 s1 ls.length c1) a b (.slice p2 s2 ss.length c2) t c,tkV k x y z] ⟨H,e⟩=some (.bool (Zss ls ss k x y z),⟨H,e⟩):=by
 have hw1:IntKind.i64.wrap ((ls.length:Int) - 1)=(ls.length:Int) - 1:=ZP (by omega) (by omega)
 have hw2:IntKind.i64.wrap ((ss.length:Int) - 1)=(ss.length:Int) - 1:=ZP (by omega) (by omega)
 rw [Zi ZBS]
 unfold Zss
 by_cases h1:k=1
 ·subst h1
  simp +contextual only [KW,Zbr,decide_true,true_or,go_sem,reduceIte,Ra,Rb,Rc,Rd]
 by_cases h4:k=4
 ·subst h4
  simp +contextual only [KW,Zbr,h1,decide_true,decide_false,or_true,go_sem,reduceIte,Ra,Rb,Rc,Rd]
 by_cases h2:k=2
 ·subst h2
  cases hb:(decide (0≤x)&&decide (x≤(ls.length:Int) - 1)) <;> cases hy:decide (y=0) <;>
   simp +contextual only [KW,Zbr,Ye,hw1,hb,hy,h1,h4,decide_true,decide_false,or_self,go_sem,reduceIte,Ra,Rb,Rc,Rd]
 by_cases h3:k=3
 ·subst h3
  cases hb:(decide (0≤x)&&decide (x≤(ls.length:Int) - 1)) <;>
   simp +contextual only [KW,Zbr,Ye,hw1,hb,h1,h2,h4,decide_true,decide_false,or_self,go_sem,reduceIte,Ra,Rb,Rc,Rd]
 by_cases h6:k=6
 ·subst h6
  cases hb:(decide (0≤x)&&decide (x≤(ss.length:Int) - 1)) <;> cases hy:decide (y=0) <;>
   simp +contextual only [KW,Zbr,Ye,hw2,hb,hy,h1,h2,h3,h4,decide_true,decide_false,or_self,go_sem,reduceIte,Ra,Rb,Rc,Rd]
 simp +contextual only [KW,Zbr,h1,h2,h3,h4,h6,decide_false,or_self,go_sem,reduceIte,Ra,Rb,Rc,Rd]
theorem ZzR {q1 q2:Nat} {c1 c2:Option Nat} {ls:List Ld} {ss:List Sg} (h1:Zb H q1=some (Zm ls)) (h2:Zb H q2=some (Zr ss)) (hn:ls.length≤1048575) (hm:ss.length≤1048575) (a b t c k x y z:Int) (hk:Zss ls ss k x y z=true) :
  call T pr ZfY [stV (slL q1 ls.length c1) a b (slS q2 ss.length c2) t c,tkV k x y z] ⟨H,e⟩ =
   some (stV (slL H.length (Zkv ls k x y).length none) (JD a k x) (JD b k y) (slS (H.length+1) (X8 ss k x y z).length none) t c,⟨H++[.cells (Zm (Zkv ls k x y)) true,.cells (Zr (X8 ss k x y z)) true],e⟩):=by
 have hown:=fun G=>Zmw (pr:=pr) (e:=none) (c1:=c1) (c2:=c2) (Za h1 G) (Za h2 G) (by omega) (by omega) a b t c
 rw [Zi ZyG]
 unfold Zss at hk
 unfold Zkv X8 JD
 by_cases k1:k=1
 ·subst k1
  have happ:=fun L b q c e' (hb:L[b]?=some (.cells (Zm ls) true)) hq=>ZiT (e:=e') (L:=L) (b:=b) (q:=q) (n:=ls.length) (sz:=2) (bytes:=16) (c:=c) (cs:=Zm ls) (new:=[.int .i64 x,.int .i64 y]) hb hq (Z9 ls) rfl (by unfold maxBytes;omega)
  have hap2:Zm ls++[AV.int .i64 x,.int .i64 y]=Zm (ls++[(x,y)]):=by rw [Zdv];rfl
  have hf:∀ (B0 B1 B2 B3 B5 B6:Blk) (e0 e1:Option Nat),clean H.length e1=true→finish 2 H.length e0 (stV (slL (H.length+7) (ls.length+1) none) a b (slS (H.length+4) ss.length none) t c) ⟨H++[B0,B1,B2,B3,.cells (Zr ss) true,B5,B6,.cells (Zm (ls++[(x,y)])) true],e1⟩ =
    some (stV (slL H.length (ls.length+1) none) a b (slS (H.length+1) ss.length none) t c,⟨H++[.cells (Zm (ls++[(x,y)])) true,.cells (Zr ss) true],e0⟩) :=
   fun B0 B1 B2 B3 B5 B6 e0 e1 hc=>X7 a b t c e0 e1 hc rfl rfl (by decide) (ZU _ _) (Z6 _ _)
  simp +contextual only [JZ,Q2,Zc,hown,happ,hap2,hf,Zv,RS,RQ,Rh,decide_true,decide_false,Zq,Zo,RR,Rz,RT,go_sem,reduceIte,Ra,Rb,Rc,Rd]
 by_cases k2:k=2
 ·subst k2
  simp only [show ¬ ((2:Int)=1) by omega,show ¬ ((2:Int)=4) by omega,or_self,if_false,if_true,Bool.and_eq_true,decide_eq_true_eq] at hk
  obtain ⟨i,rfl⟩:∃ i:Nat,x=i:=⟨x.toNat,by omega⟩
  have hi:i<ls.length:=by omega
  have hi1:i≤ls.length:=by omega
  have hi2:i+1≤ls.length:=by omega
  have happ:=fun L b e' (hb:L[b]?=some (.cells (Zm ls) true))=>Zsr (e:=e') (L:=L) (b:=b) (n:=ls.length) (sz:=2) (bytes:=16) (i:=i) (cs:=Zm ls) hb (Z9 ls) hi (by unfold maxBytes;omega)
  have hel:(ls.eraseIdx i).length=ls.length - 1:=by rw [RY,if_pos hi]
  have hf:∀ (B0 B1 B2 B3 B5:Blk) (e0 e1:Option Nat),clean H.length e1=true→finish 2 H.length e0 (stV (slL (H.length+6) (ls.length - 1) none) a b (slS (H.length+4) ss.length none) t c) ⟨H++[B0,B1,B2,B3,.cells (Zr ss) true,B5,.cells (Zm (ls.eraseIdx i)) true],e1⟩ =
    some (stV (slL H.length (ls.length - 1) none) a b (slS (H.length+1) ss.length none) t c,⟨H++[.cells (Zm (ls.eraseIdx i)) true,.cells (Zr ss) true],e0⟩) :=
   fun B0 B1 B2 B3 B5 e0 e1 hc=>X7 a b t c e0 e1 hc rfl rfl (by decide) (ZU _ _) (Z6 _ _)
  simp +contextual only [JZ,Q2,Zc,Zkf,Zby,Zkg,Zdz,hi1,hi2,hown,happ,Zsp,hel,hf,Zh (show i<9223372036854775807 by omega),Zv,RS,RQ,Rh,decide_true,decide_false,Zq,Zo,RR,Rz,RT,go_sem,reduceIte,Ra,Rb,Rc,Rd]
 by_cases k3:k=3
 ·subst k3
  simp only [show ¬ ((3:Int)=1) by omega,show ¬ ((3:Int)=2) by omega,show ¬ ((3:Int)=4) by omega,or_self,if_false,if_true,Bool.and_eq_true,decide_eq_true_eq] at hk
  obtain ⟨i,rfl⟩:∃ i:Nat,x=i:=⟨x.toNat,by omega⟩
  have hi:i<ls.length:=by omega
  have hle:i*2+1≤(Zm ls).length:=by rw [Z9];omega
  have hle2:i*2+2≤(Zm ls).length:=by rw [Z9];omega
  have hf:∀ (B0 B1 B2 B5:Blk) (e0 e1:Option Nat),clean H.length e1=true→finish 2 H.length e0 (stV (slL (H.length+3) ls.length none) a b (slS (H.length+4) ss.length none) t c) ⟨H++[B0,B1,B2,.cells (Zm (Zud ls i y)) true,.cells (Zr ss) true,B5],e1⟩ =
    some (stV (slL H.length ls.length none) a b (slS (H.length+1) ss.length none) t c,⟨H++[.cells (Zm (Zud ls i y)) true,.cells (Zr ss) true],e0⟩) :=
   fun B0 B1 B2 B5 e0 e1 hc=>X7 a b t c e0 e1 hc rfl rfl (by decide) (ZU _ _) (Z6 _ _)
  simp +contextual only [JZ,Q2,Zc,hown,hi,hle,hle2,Zlw y hi,ZgF,hf,Zv,RS,RQ,Rh,decide_true,decide_false,Zq,Zo,RR,Rz,RT,go_sem,reduceIte,Ra,Rb,Rc,Rd]
 by_cases k4:k=4
 ·subst k4
  have hf:∀ (B0 B1 B2 B5:Blk) (e0 e1:Option Nat),clean H.length e1=true→finish 2 H.length e0 (stV (slL (H.length+3) ls.length none) x y (slS (H.length+4) ss.length none) t c) ⟨H++[B0,B1,B2,.cells (Zm ls) true,.cells (Zr ss) true,B5],e1⟩ =
    some (stV (slL H.length ls.length none) x y (slS (H.length+1) ss.length none) t c,⟨H++[.cells (Zm ls) true,.cells (Zr ss) true],e0⟩) :=
   fun B0 B1 B2 B5 e0 e1 hc=>X7 x y t c e0 e1 hc rfl rfl (by decide) (ZU _ _) (Z6 _ _)
  simp +contextual only [JZ,Q2,Zc,hown,hf,Zv,RS,RQ,Rh,decide_true,decide_false,Zq,Zo,RR,Rz,RT,go_sem,reduceIte,Ra,Rb,Rc,Rd]
 by_cases k5:k=5
 ·subst k5
  have happ:=fun L b q c e' (hb:L[b]?=some (.cells (Zr ss) true)) hq=>ZiT (e:=e') (L:=L) (b:=b) (q:=q) (n:=ss.length) (sz:=3) (bytes:=24) (c:=c) (cs:=Zr ss) (new:=[.int .i64 x,.int .i64 y,.int .i64 z]) hb hq (YS ss) rfl (by unfold maxBytes;omega)
  have hap2:Zr ss++[AV.int .i64 x,.int .i64 y,.int .i64 z]=Zr (ss++[(x,y,z)]):=by rw [ZgG];rfl
  have hf:∀ (B0 B1 B2 B4 B5 B6:Blk) (e0 e1:Option Nat),clean H.length e1=true→finish 2 H.length e0 (stV (slL (H.length+3) ls.length none) a b (slS (H.length+7) (ss.length+1) none) t c) ⟨H++[B0,B1,B2,.cells (Zm ls) true,B4,B5,B6,.cells (Zr (ss++[(x,y,z)])) true],e1⟩ =
    some (stV (slL H.length ls.length none) a b (slS (H.length+1) (ss.length+1) none) t c,⟨H++[.cells (Zm ls) true,.cells (Zr (ss++[(x,y,z)])) true],e0⟩) :=
   fun B0 B1 B2 B4 B5 B6 e0 e1 hc=>X7 a b t c e0 e1 hc rfl rfl (by decide) (ZU _ _) (Z6 _ _)
  simp +contextual only [JZ,Q2,Zc,hown,happ,hap2,hf,Zv,RS,RQ,Rh,decide_true,decide_false,Zq,Zo,RR,Rz,RT,go_sem,reduceIte,Ra,Rb,Rc,Rd]
 by_cases k6:k=6
 ·subst k6
  simp only [show ¬ ((6:Int)=1) by omega,show ¬ ((6:Int)=2) by omega,show ¬ ((6:Int)=3) by omega,show ¬ ((6:Int)=4) by omega,or_self,if_false,if_true,Bool.and_eq_true,decide_eq_true_eq] at hk
  obtain ⟨i,rfl⟩:∃ i:Nat,x=i:=⟨x.toNat,by omega⟩
  have hi:i<ss.length:=by omega
  have hi1:i≤ss.length:=by omega
  have hi2:i+1≤ss.length:=by omega
  have happ:=fun L b e' (hb:L[b]?=some (.cells (Zr ss) true))=>Zsr (e:=e') (L:=L) (b:=b) (n:=ss.length) (sz:=3) (bytes:=24) (i:=i) (cs:=Zr ss) hb (YS ss) hi (by unfold maxBytes;omega)
  have hel:(ss.eraseIdx i).length=ss.length - 1:=by rw [RY,if_pos hi]
  have hf:∀ (B0 B1 B2 B4 B5:Blk) (e0 e1:Option Nat),clean H.length e1=true→finish 2 H.length e0 (stV (slL (H.length+3) ls.length none) a b (slS (H.length+6) (ss.length - 1) none) t c) ⟨H++[B0,B1,B2,.cells (Zm ls) true,B4,B5,.cells (Zr (ss.eraseIdx i)) true],e1⟩ =
    some (stV (slL H.length ls.length none) a b (slS (H.length+1) (ss.length - 1) none) t c,⟨H++[.cells (Zm ls) true,.cells (Zr (ss.eraseIdx i)) true],e0⟩) :=
   fun B0 B1 B2 B4 B5 e0 e1 hc=>X7 a b t c e0 e1 hc rfl rfl (by decide) (ZU _ _) (Z6 _ _)
  simp +contextual only [JZ,Q2,Zc,Zkf,Zby,Zkg,Zdz,hi1,hi2,hown,happ,Zsq,hel,hf,Zh (show i<9223372036854775807 by omega),Zv,RS,RQ,Rh,decide_true,decide_false,Zq,Zo,RR,Rz,RT,go_sem,reduceIte,Ra,Rb,Rc,Rd]
 simp [k1,k2,k3,k4,k5,k6] at hk
def Zog (ls:List Ld) (ss:List Sg) (a b t c:Int):Bool:=YZ ls&&(ZJ ss&&Zcb a b t c)
theorem Zmy {ls:List Ld} {ss:List Sg} {n m:Nat} (hn:ls.length=n) (hm:ss.length=m) (hm2:m≤1048576) (a b t c:Int) {L:List Blk} {q1 q2:Nat} {c1 c2:Option Nat} (h1:Zb L q1=some (Zm ls)) (h2:Zb L q2=some (Zr ss)) :
  call T pr Je [stV (slL q1 n c1) a b (slS q2 m c2) t c] ⟨L,e⟩=some (.bool (Zog ls ss a b t c),⟨L,e⟩):=by
 subst hn hm
 exact Zkb (fun G=>QG (Za h1 G)) (fun G=>KH (Za h2 G) (by omega)) a b t c
theorem ZIv {ls:List Ld} {ss:List Sg} {n m:Nat} (hn:ls.length=n) (hm:ss.length=m) (hm2:m≤1048576) (a b t c:Int) {L:List Blk} {q1 q2:Nat} {c1 c2:Option Nat} (h1:Zb L q1=some (Zm ls)) (h2:Zb L q2=some (Zr ss)) :
  call T pr JQ [stV (slL q1 n c1) a b (slS q2 m c2) t c] ⟨L,e⟩=some (.bool (Zog ls ss a b t c),⟨L,e⟩):=by
 subst hn hm
 exact Zkc (fun G=>ZaR (Za h1 G)) (fun G=>Zca (Za h2 G) (by omega)) a b t c
theorem ZC3 {ls:List Ld} {n:Nat} (hn:ls.length=n) (hn2:n≤1048576) (a b:Int) {L:List Blk} {q1:Nat} {c1:Option Nat} (h1:Zb L q1=some (Zm ls)) :
  call T pr Zbi [slL q1 n c1,.int .i64 a,.int .i64 b] ⟨L,e⟩=some (.int .i64 (Zdx ls a b),⟨L,e⟩):=by
 subst hn
 exact ZpQ h1 (by omega) a b
theorem ZFc {ls:List Ld} {n:Nat} (hn:ls.length=n) (hn2:n≤1048576) (a b:Int) {L:List Blk} {q1:Nat} {c1:Option Nat} (h1:Zb L q1=some (Zm ls)) :
  call T pr Zbh [slL q1 n c1,.int .i64 a,.int .i64 b] ⟨L,e⟩=some (.int .i64 (Zdx ls a b),⟨L,e⟩):=by
 subst hn
 exact Zmu h1 (by omega) a b
abbrev Zmz:AV:=stV (.slice none 0 0 none) 0 0 (.slice none 0 0 none) 0 0
def ZmA (ls:List Ld) (ss:List Sg) (a b t c k x y z:Int):Bool:=Zss ls ss k x y z&&Zog (Zkv ls k x y) (X8 ss k x y z) (JD a k x) (JD b k y) t (wr (c+1))
def Zhc (ls:List Ld) (a b t k x y:Int):Int:=if decide (Zdx (Zkv ls k x y) (JD a k x) (JD b k y)=0)=true then t else wr (t+1)
def ZgH (H:List Blk) (e:Option Nat) (ok:Bool) (ls:List Ld) (ss:List Sg) (a b t c:Int):Option (AV×Mem) :=
 if ok=true then some (.tup [stV (slL H.length ls.length none) a b (slS (H.length+1) ss.length none) t c,.bool true],⟨H++[.cells (Zm ls) true,.cells (Zr ss) true],e⟩)
 else some (.tup [Zmz,.bool false],⟨H,e⟩)
theorem ZzS (ls:List Ld) (k x y:Int):(Zkv ls k x y).length≤ls.length+1:=by
 unfold Zkv
 split
 ·simp
 ·split
  ·have:=List.length_eraseIdx_le ls x.toNat;omega
  ·split
   ·rw [ZgF];omega
   ·omega
theorem Zuf (ss:List Sg) (k x y z:Int):(X8 ss k x y z).length≤ss.length+1:=by
 unfold X8
 split
 ·simp
 ·split
  ·have:=List.length_eraseIdx_le ss x.toNat;omega
  ·omega
theorem ZFd {q1 q2:Nat} {c1 c2:Option Nat} {ls:List Ld} {ss:List Sg} (h1:Zb H q1=some (Zm ls)) (h2:Zb H q2=some (Zr ss)) (hn:ls.length≤1048575) (hm:ss.length≤1048575) (a b t c k x y z:Int) :
  call T pr Zho [stV (slL q1 ls.length c1) a b (slS q2 ss.length c2) t c,tkV k x y z] ⟨H,e⟩ =
   ZgH H e (ZmA ls ss a b t c k x y z) (Zkv ls k x y) (X8 ss k x y z) (JD a k x) (JD b k y) (Zhc ls a b t k x y) (wr (c+1)):=by
 have hfN:∀ (G:List Blk) (e0 e1:Option Nat),clean H.length e1=true→finish 2 H.length e0 (.tup [Zmz,.bool false]) ⟨H++G,e1⟩=some (.tup [Zmz,.bool false],⟨H,e0⟩) :=
  fun G e0 e1 hc=>Zlq 0 0 0 0 false e0 e1 hc
 have hmay:=fun G=>ZC2 (pr:=pr) (H:=H++G) (e:=none) (p1:=some (q1,0)) (p2:=some (q2,0)) (s1:=2) (s2:=3) (c1:=c1) (c2:=c2) (ls:=ls) (ss:=ss) (by omega) (by omega) a b t c k x y z
 rw [Zi ZEl]
 unfold ZgH ZmA Zhc
 cases hk:Zss ls ss k x y z with
 | false=>
  rw [hk] at hmay
  simp +contextual only [Zdi,Zhz,Zc,hmay,hfN,ZA,Zq,Zo,RR,decide_true,go_sem,reduceIte,Ra,Rb,Rc,Rd]
 | true=>
  rw [hk] at hmay
  have hmk:=fun G=>ZzR (pr:=pr) (H:=H++G) (e:=none) (c1:=c1) (c2:=c2) (Za h1 G) (Za h2 G) hn hm a b t c k x y z hk
  have hr1:=ZzS ls k x y
  have hc1:=Zuf ss k x y z
  generalize Zkv ls k x y=ls' at hmk hr1 ⊢
  generalize X8 ss k x y z=ss' at hmk hc1 ⊢
  generalize JD a k x=a' at hmk ⊢
  generalize JD b k y=b' at hmk ⊢
  have hgood:=fun L q1 q2 c1 c2 h1 h2=>ZIv (pr:=pr) (e:=none) (L:=L) (q1:=q1) (q2:=q2) (c1:=c1) (c2:=c2) (ls:=ls') (ss:=ss') rfl rfl (by omega) a' b' t (wr (c+1)) h1 h2
  have hside:=fun L q1 c1 h1=>ZFc (pr:=pr) (e:=none) (L:=L) (q1:=q1) (c1:=c1) (ls:=ls') rfl (by omega) a' b' h1
  have hf:∀ (B0 B1 B2 B5:Blk) (t' c':Int) (e0 e1:Option Nat),clean H.length e1=true→finish 2 H.length e0 (.tup [stV (slL (H.length+3) ls'.length none) a' b' (slS (H.length+4) ss'.length none) t' c',.bool true]) ⟨H++[B0,B1,B2,.cells (Zm ls') true,.cells (Zr ss') true,B5],e1⟩ =
    some (.tup [stV (slL H.length ls'.length none) a' b' (slS (H.length+1) ss'.length none) t' c',.bool true],⟨H++[.cells (Zm ls') true,.cells (Zr ss') true],e0⟩) :=
   fun B0 B1 B2 B5 t' c' e0 e1 hc=>Zlp a' b' t' c' true e0 e1 hc rfl rfl (by decide) (ZU _ _) (Z6 _ _)
  unfold wr at *
  cases hg:Zog ls' ss' a' b' t (IntKind.i64.wrap (c+1)) with
  | false=>
   rw [hg] at hgood
   simp +contextual only [Zdi,Zhz,Zc,hmay,hmk,hgood,hfN,Zv,ZA,RS,RQ,Rh,decide_false,Zq,Zo,RR,Rz,decide_true,go_sem,reduceIte,Ra,Rb,Rc,Rd]
  | true=>
   rw [hg] at hgood
   by_cases ht:Zdx ls' a' b'=0
   ·rw [ht] at hside
    simp +contextual only [Zdi,Zhz,Zc,hmay,hmk,hgood,hside,ht,hf,Zv,ZA,RS,RQ,Rh,not_true_eq_false,decide_false,Zq,Zo,RR,Rz,decide_true,go_sem,reduceIte,Ra,Rb,Rc,Rd]
   ·simp +contextual only [Zdi,Zhz,Zc,hmay,hmk,hgood,hside,ht,hf,Zv,ZA,RS,RQ,Rh,not_false_eq_true,decide_false,Zq,Zo,RR,Rz,decide_true,go_sem,reduceIte,Ra,Rb,Rc,Rd]
def Zhd:Zf→Zf
 | .seq _ b=>b
 | c=>c
def YG:Zf:=Zhd (Zhd (Zhd (Zhd (Zhd ZF))))
noncomputable def Ya (pr:Zy):St→Option (Ex×St):=run T pr YG
theorem Q8 {y0 y1 y2 y3 y8 y9 y10 y11 y12 y13 y14 y15 y16 y17 y18 y19 y20 y21 y22:AV} {B0 B1 X3 X4:Blk} {G:List Blk} {j1 j2 n m:Nat} {a b t c:Int} {ls:List Ld} {ss:List Sg} {e:Option Nat} (hn:ls.length=n) (hm:ss.length=m) (hn2:n≤1048576) (hm2:m≤1048576) (h1:∀ B2 B5,(B0::B1::B2::X3::X4::B5::G)[j1]?=some (.cells (Zm ls) true)) (h2:∀ B2 B5,(B0::B1::B2::X3::X4::B5::G)[j2]?=some (.cells (Zr ss) true)) {ok:Bool} (hno:(ok&&Zog ls ss a b t (IntKind.i64.wrap (c+1)))=false) :
  Ya pr ⟨[y0,y1,y2,y3,.ptr (some (H.length+2,0)),.bool false,.ptr (some (H.length+5,0)),.bool ok,y8,y9,y10,y11,y12,y13,y14,y15,y16,y17,y18,y19,y20,y21,y22],⟨H++(B0::B1::.cells [.slice none 0 0 none,.int .i64 0,.int .i64 0,.slice none 0 0 none,.int .i64 0,.int .i64 0] true::X3::X4::.cells [slL (H.length+j1) n none,.int .i64 a,.int .i64 b,slS (H.length+j2) m none,.int .i64 t,.int .i64 c] true::G),e⟩⟩ =
   some (Ex.ret,⟨[y0,y1,y2,y3,.ptr (some (H.length+2,0)),.bool false,.ptr (some (H.length+5,0)),.bool ok,y8,y9,y10,y11,y12,y13,y14,y15,y16,y17,y18,y19,y20,.bool true,y22],⟨H++(B0::B1::.cells [.slice none 0 0 none,.int .i64 0,.int .i64 0,.slice none 0 0 none,.int .i64 0,.int .i64 0] true::X3::X4::.cells [slL (H.length+j1) n none,.int .i64 a,.int .i64 b,slS (H.length+j2) m none,.int .i64 t,.int .i64 (IntKind.i64.wrap (c+1))] true::G),e⟩⟩):=by
 have hc1:∀ B2 B5,Zb (H++(B0::B1::B2::X3::X4::B5::G)) (H.length+j1)=some (Zm ls):=fun B2 B5=>by rw [KG];exact ZgE (h1 B2 B5)
 have hc2:∀ B2 B5,Zb (H++(B0::B1::B2::X3::X4::B5::G)) (H.length+j2)=some (Zr ss):=fun B2 B5=>by rw [KG];exact ZgE (h2 B2 B5)
 have hist:=fun B2 B5 e=>Zmy (pr:=pr) (e:=e) (c1:=none) (c2:=none) hn hm hm2 a b t (IntKind.i64.wrap (c+1)) (hc1 B2 B5) (hc2 B2 B5)
 unfold Ya YG
 simp only [Zhd,ZF]
 cases ok with
 | false=>simp +contextual only [Zc,Zv,ZA,RS,RQ,Rh,Zq,Zo,RR,Rz,RT,not_true_eq_false,not_false_eq_true,decide_true,decide_false,go_sem,reduceIte,Ra,Rb,Rc,Rd]
 | true=>
  rw [RW] at hno
  rw [hno] at hist
  simp +contextual only [Zc,hist,Zv,ZA,RS,RQ,Rh,Zq,Zo,RR,Rz,RT,not_true_eq_false,not_false_eq_true,decide_true,decide_false,go_sem,reduceIte,Ra,Rb,Rc,Rd]
theorem ZiU {y0 y1 y2 y3 y8 y9 y10 y11 y12 y13 y14 y15 y16 y17 y18 y19 y20 y21 y22:AV} {B0 B1 X3 X4:Blk} {G:List Blk} {j1 j2 n m:Nat} {a b t c:Int} {ls:List Ld} {ss:List Sg} {e:Option Nat} (hn:ls.length=n) (hm:ss.length=m) (hn2:n≤1048576) (hm2:m≤1048576) (h1:∀ B2 B5,(B0::B1::B2::X3::X4::B5::G)[j1]?=some (.cells (Zm ls) true)) (h2:∀ B2 B5,(B0::B1::B2::X3::X4::B5::G)[j2]?=some (.cells (Zr ss) true)) (h3:3≤j1) (hyes:Zog ls ss a b t (IntKind.i64.wrap (c+1))=true) :
  Ya pr ⟨[y0,y1,y2,y3,.ptr (some (H.length+2,0)),.bool false,.ptr (some (H.length+5,0)),.bool true,y8,y9,y10,y11,y12,y13,y14,y15,y16,y17,y18,y19,y20,y21,y22],⟨H++(B0::B1::.cells [.slice none 0 0 none,.int .i64 0,.int .i64 0,.slice none 0 0 none,.int .i64 0,.int .i64 0] true::X3::X4::.cells [slL (H.length+j1) n none,.int .i64 a,.int .i64 b,slS (H.length+j2) m none,.int .i64 t,.int .i64 c] true::G),e⟩⟩ =
   some (Ex.ret,⟨[y0,y1,y2,y3,.ptr (some (H.length+2,0)),.bool true,.ptr (some (H.length+5,0)),.bool true,y8,y9,y10,y11,y12,y13,y14,y15,y16,y17,y18,y19,y20,.bool false,.bool (!decide (Zdx ls a b=0))],⟨H++(B0::B1::.cells [slL (H.length+j1) n none,.int .i64 a,.int .i64 b,slS (H.length+j2) m none,.int .i64 (if decide (Zdx ls a b=0)=true then t else IntKind.i64.wrap (t+1)),.int .i64 (IntKind.i64.wrap (c+1))] true::X3::X4::.cells [slL (H.length+j1) n none,.int .i64 a,.int .i64 b,slS (H.length+j2) m none,.int .i64 (if decide (Zdx ls a b=0)=true then t else IntKind.i64.wrap (t+1)),.int .i64 (IntKind.i64.wrap (c+1))] true::G),Z7 e (H.length+2)⟩⟩):=by
 have hc1:∀ B2 B5,Zb (H++(B0::B1::B2::X3::X4::B5::G)) (H.length+j1)=some (Zm ls):=fun B2 B5=>by rw [KG];exact ZgE (h1 B2 B5)
 have hc2:∀ B2 B5,Zb (H++(B0::B1::B2::X3::X4::B5::G)) (H.length+j2)=some (Zr ss):=fun B2 B5=>by rw [KG];exact ZgE (h2 B2 B5)
 have hist:=fun B2 B5 e=>Zmy (pr:=pr) (e:=e) (c1:=none) (c2:=none) hn hm hm2 a b t (IntKind.i64.wrap (c+1)) (hc1 B2 B5) (hc2 B2 B5)
 have hside:=fun B2 B5 e=>ZC3 (pr:=pr) (e:=e) (c1:=none) hn hn2 a b (hc1 B2 B5)
 have hlt:¬ (j1<2+1):=by omega
 unfold Ya YG
 simp only [Zhd,ZF]
 rw [hyes] at hist
 by_cases ht:Zdx ls a b=0
 ·rw [ht] at hside
  simp +contextual only [Zc,hist,hside,ht,hlt,Zv,ZA,RS,RQ,Rh,Zq,Zo,RR,Rz,RT,not_true_eq_false,not_false_eq_true,decide_true,decide_false,go_sem,reduceIte,Ra,Rb,Rc,Rd]
 ·simp +contextual only [Zc,hist,hside,ht,hlt,Zv,ZA,RS,RQ,Rh,Zq,Zo,RR,Rz,RT,not_true_eq_false,not_false_eq_true,decide_true,decide_false,go_sem,reduceIte,Ra,Rb,Rc,Rd]
def Zew:Zf:=Zhd (Zhd (Zhd ZF))
def Ys:Zf:=Zhd (Zhd (Zhd (Zhd ZF)))
noncomputable def ZcT (pr:Zy):St→Option (Ex×St):=run T pr Zew
noncomputable def ZD (pr:Zy):St→Option (Ex×St):=run T pr Ys
theorem QI:run T pr YG=Ya pr:=rfl
theorem ZC4:run T pr Zew=ZcT pr:=rfl
theorem ZC5:run T pr Ys=ZD pr:=rfl
theorem ZJz (ls:List Ld) (ss:List Sg) (x y z:Int):Zss ls ss 1 x y z=decide (z=0):=by simp [Zss]
theorem ZJA (ls:List Ld) (ss:List Sg) (x y z:Int):Zss ls ss 2 x y z=(((decide (0≤x)&&decide (x≤(ls.length:Int) - 1))&&decide (y=0))&&decide (z=0)):=by simp [Zss]
theorem ZJB (ls:List Ld) (ss:List Sg) (x y z:Int):Zss ls ss 3 x y z=((decide (0≤x)&&decide (x≤(ls.length:Int) - 1))&&decide (z=0)):=by simp [Zss]
theorem ZJC (ls:List Ld) (ss:List Sg) (x y z:Int):Zss ls ss 4 x y z=decide (z=0):=by simp [Zss]
theorem ZJD (ls:List Ld) (ss:List Sg) (x y z:Int):Zss ls ss 5 x y z=true:=by simp [Zss]
theorem ZJE (ls:List Ld) (ss:List Sg) (x y z:Int):Zss ls ss 6 x y z=(((decide (0≤x)&&decide (x≤(ss.length:Int) - 1))&&decide (y=0))&&decide (z=0)):=by simp [Zss]
set_option maxHeartbeats 8000000 in
theorem ZgI {q1 q2:Nat} {c1 c2:Option Nat} {ls:List Ld} {ss:List Sg} {a b t c:Int} (h1:Zb H q1=some (Zm ls)) (h2:Zb H q2=some (Zr ss)) (hn:ls.length≤1048575) (hm:ss.length≤1048575) (k x y z:Int) (hv:Zog ls ss a b t c=true) :
  call T pr Xr [stV (slL q1 ls.length c1) a b (slS q2 ss.length c2) t c,tkV k x y z] ⟨H,e⟩=Zbd Jw ⟨H,e⟩ (ZcT pr ⟨[stV (slL q1 ls.length c1) a b (slS q2 ss.length c2) t c,tkV k x y z,.ptr (some (H.length,0)),.ptr (some (H.length+1,0)),.ptr (some (H.length+2,0)),.bool false,.ptr (some (H.length+5,0)),.bool false,.undef,.undef,.bool false,.undef,.undef,.undef,.undef,.undef,.undef,.undef,.undef,.undef,.undef,.undef,.undef],⟨H++[.cells [slL q1 ls.length c1,.int .i64 a,.int .i64 b,slS q2 ss.length c2,.int .i64 t,.int .i64 c] true,.cells [.int .i64 k,.int .i64 x,.int .i64 y,.int .i64 z] true,.cells [.slice none 0 0 none,.int .i64 0,.int .i64 0,.slice none 0 0 none,.int .i64 0,.int .i64 0] true,.cells (Zm ls) true,.cells (Zr ss) true,.cells [slL (H.length+3) (ls.length) none,.int .i64 a,.int .i64 b,slS (H.length+4) (ss.length) none,.int .i64 t,.int .i64 c] true],none⟩⟩):=by
 have hvalid:=fun G=>Zmy (pr:=pr) (e:=none) (c1:=c1) (c2:=c2) (ls:=ls) (ss:=ss) rfl rfl (by omega) a b t c (Za h1 G) (Za h2 G)
 rw [hv] at hvalid
 have hcopy:=fun G=>Zlu (pr:=pr) (e:=none) (c1:=c1) (c2:=c2) (Za h1 G) (Za h2 G) (by omega) (by omega) a b t c
 have hfold:=ZC4 (pr:=pr)
 simp only [Zew,Zhd,ZF] at hfold
 rw [Zi ZBK]
 generalize hA:Zbd Jw=EC
 simp (config:={ maxSteps:=2000000,contextual:=true }) only [Jw] at hA
 simp (config:={ maxSteps:=2000000,contextual:=true }) only [Jw,ZF,hA,hfold,hvalid,hcopy,Zv,ZA,RS,RQ,Rh,Zq,Zo,RR,Rz,RT,not_true_eq_false,not_false_eq_true,decide_true,decide_false,go_sem,reduceIte,Ra,Rb,Rc,Rd]
set_option maxHeartbeats 8000000 in
theorem ZgJ {q1 q2:Nat} {c1 c2:Option Nat} {ls:List Ld} {ss:List Sg} {a b t c:Int} (hn:ls.length≤1048575) (hm:ss.length≤1048575) (k x y z:Int) :
  ZcT pr ⟨[stV (slL q1 ls.length c1) a b (slS q2 ss.length c2) t c,tkV k x y z,.ptr (some (H.length,0)),.ptr (some (H.length+1,0)),.ptr (some (H.length+2,0)),.bool false,.ptr (some (H.length+5,0)),.bool false,.undef,.undef,.bool false,.undef,.undef,.undef,.undef,.undef,.undef,.undef,.undef,.undef,.undef,.undef,.undef],⟨H++[.cells [slL q1 ls.length c1,.int .i64 a,.int .i64 b,slS q2 ss.length c2,.int .i64 t,.int .i64 c] true,.cells [.int .i64 k,.int .i64 x,.int .i64 y,.int .i64 z] true,.cells [.slice none 0 0 none,.int .i64 0,.int .i64 0,.slice none 0 0 none,.int .i64 0,.int .i64 0] true,.cells (Zm ls) true,.cells (Zr ss) true,.cells [slL (H.length+3) (ls.length) none,.int .i64 a,.int .i64 b,slS (H.length+4) (ss.length) none,.int .i64 t,.int .i64 c] true],none⟩⟩=ZD pr ⟨[stV (slL q1 ls.length c1) a b (slS q2 ss.length c2) t c,tkV k x y z,.ptr (some (H.length,0)),.ptr (some (H.length+1,0)),.ptr (some (H.length+2,0)),.bool false,.ptr (some (H.length+5,0)),.bool false,.bool (decide (0≤x)&&decide (x≤(ls.length:Int) - 1)),.bool (decide (0≤x)&&decide (x≤(ss.length:Int) - 1)),.bool false,.undef,.undef,.undef,.undef,.undef,.undef,.undef,.undef,.undef,.undef,.undef,.undef],⟨H++[.cells [slL q1 ls.length c1,.int .i64 a,.int .i64 b,slS q2 ss.length c2,.int .i64 t,.int .i64 c] true,.cells [.int .i64 k,.int .i64 x,.int .i64 y,.int .i64 z] true,.cells [.slice none 0 0 none,.int .i64 0,.int .i64 0,.slice none 0 0 none,.int .i64 0,.int .i64 0] true,.cells (Zm ls) true,.cells (Zr ss) true,.cells [slL (H.length+3) (ls.length) none,.int .i64 a,.int .i64 b,slS (H.length+4) (ss.length) none,.int .i64 t,.int .i64 c] true],none⟩⟩:=by
 have hw1:IntKind.i64.wrap ((ls.length:Int) - 1)=(ls.length:Int) - 1:=ZP (by omega) (by omega)
 have hw2:IntKind.i64.wrap ((ss.length:Int) - 1)=(ss.length:Int) - 1:=ZP (by omega) (by omega)
 have hfold:=ZC5 (pr:=pr)
 simp only [Ys,Zhd,ZF] at hfold
 unfold ZcT Zew
 simp only [Zhd,ZF]
 simp (config:={ maxSteps:=2000000,contextual:=true }) only [hfold,Yd,hw1,hw2,Zv,ZA,RS,RQ,Rh,Zq,Zo,RR,Rz,RT,not_true_eq_false,not_false_eq_true,decide_true,decide_false,go_sem,reduceIte,Ra,Rb,Rc,Rd]
set_option maxHeartbeats 8000000 in
theorem ZFe {q1 q2:Nat} {c1 c2:Option Nat} {ls:List Ld} {ss:List Sg} {a b t c:Int} (hn:ls.length≤1048575) (hm:ss.length≤1048575) (x:Int) (y z:Int) {isL isS:Bool} :
  ZD pr ⟨[stV (slL q1 ls.length c1) a b (slS q2 ss.length c2) t c,tkV 1 x y z,.ptr (some (H.length,0)),.ptr (some (H.length+1,0)),.ptr (some (H.length+2,0)),.bool false,.ptr (some (H.length+5,0)),.bool false,.bool isL,.bool isS,.bool false,.undef,.undef,.undef,.undef,.undef,.undef,.undef,.undef,.undef,.undef,.undef,.undef],⟨H++[.cells [slL q1 ls.length c1,.int .i64 a,.int .i64 b,slS q2 ss.length c2,.int .i64 t,.int .i64 c] true,.cells [.int .i64 1,.int .i64 x,.int .i64 y,.int .i64 z] true,.cells [.slice none 0 0 none,.int .i64 0,.int .i64 0,.slice none 0 0 none,.int .i64 0,.int .i64 0] true,.cells (Zm ls) true,.cells (Zr ss) true,.cells [slL (H.length+3) (ls.length) none,.int .i64 a,.int .i64 b,slS (H.length+4) (ss.length) none,.int .i64 t,.int .i64 c] true],none⟩⟩=Ya pr ⟨[stV (slL q1 ls.length c1) a b (slS q2 ss.length c2) t c,tkV 1 x y z,.ptr (some (H.length,0)),.ptr (some (H.length+1,0)),.ptr (some (H.length+2,0)),.bool false,.ptr (some (H.length+5,0)),.bool (decide (z=0)),.bool isL,.bool isS,.bool false,.int .i64 1,.bool true,.undef,.undef,.undef,.undef,.undef,.undef,.undef,.undef,.undef,.undef],⟨H++[.cells [slL q1 ls.length c1,.int .i64 a,.int .i64 b,slS q2 ss.length c2,.int .i64 t,.int .i64 c] true,.cells [.int .i64 1,.int .i64 x,.int .i64 y,.int .i64 z] true,.cells [.slice none 0 0 none,.int .i64 0,.int .i64 0,.slice none 0 0 none,.int .i64 0,.int .i64 0] true,.dead,.cells (Zr ss) true,.cells [slL (H.length+7) (ls.length+1) none,.int .i64 a,.int .i64 b,slS (H.length+4) (ss.length) none,.int .i64 t,.int .i64 c] true,.cells [.int .i64 x,.int .i64 y] true,.cells (Zm (ls++[(x,y)])) true],(Z7 none (H.length+5))⟩⟩:=by
 have happ:=fun L b q c e' (hb:L[b]?=some (.cells (Zm ls) true)) hq=>ZiT (e:=e') (L:=L) (b:=b) (q:=q) (n:=ls.length) (sz:=2) (bytes:=16) (c:=c) (cs:=Zm ls) (new:=[.int .i64 x,.int .i64 y]) hb hq (Z9 ls) rfl (by unfold maxBytes;omega)
 have hap2:Zm ls++[AV.int .i64 x,.int .i64 y]=Zm (ls++[(x,y)]):=by rw [Zdv];rfl
 have hfold:=QI (pr:=pr)
 simp only [YG,Zhd,ZF] at hfold
 unfold ZD Ys
 simp only [Zhd,ZF]
 simp (config:={ maxSteps:=2000000,contextual:=true }) only [hfold,Zc,or_true,true_or,RV,eq_self,happ,hap2,Zv,ZA,RS,RQ,Rh,Zq,Zo,RR,Rz,RT,not_true_eq_false,not_false_eq_true,decide_true,decide_false,go_sem,reduceIte,Ra,Rb,Rc,Rd]
set_option maxHeartbeats 8000000 in
theorem ZFf (hp:Zdy pr) {q1 q2:Nat} {c1 c2:Option Nat} {ls:List Ld} {ss:List Sg} {a b t c:Int} (hn:ls.length≤1048575) (hm:ss.length≤1048575) {x:Nat} (hi:x<ls.length) (y z:Int) {isL isS:Bool} :
  ZD pr ⟨[stV (slL q1 ls.length c1) a b (slS q2 ss.length c2) t c,tkV 2 x y z,.ptr (some (H.length,0)),.ptr (some (H.length+1,0)),.ptr (some (H.length+2,0)),.bool false,.ptr (some (H.length+5,0)),.bool false,.bool true,.bool isS,.bool false,.undef,.undef,.undef,.undef,.undef,.undef,.undef,.undef,.undef,.undef,.undef,.undef],⟨H++[.cells [slL q1 ls.length c1,.int .i64 a,.int .i64 b,slS q2 ss.length c2,.int .i64 t,.int .i64 c] true,.cells [.int .i64 2,.int .i64 x,.int .i64 y,.int .i64 z] true,.cells [.slice none 0 0 none,.int .i64 0,.int .i64 0,.slice none 0 0 none,.int .i64 0,.int .i64 0] true,.cells (Zm ls) true,.cells (Zr ss) true,.cells [slL (H.length+3) (ls.length) none,.int .i64 a,.int .i64 b,slS (H.length+4) (ss.length) none,.int .i64 t,.int .i64 c] true],none⟩⟩=Ya pr ⟨[stV (slL q1 ls.length c1) a b (slS q2 ss.length c2) t c,tkV 2 x y z,.ptr (some (H.length,0)),.ptr (some (H.length+1,0)),.ptr (some (H.length+2,0)),.bool false,.ptr (some (H.length+5,0)),.bool (decide (y=0)&&decide (z=0)),.bool true,.bool isS,.bool false,.int .i64 2,.bool false,.bool true,.bool true,.undef,.undef,.undef,.undef,.undef,.undef,.undef,.undef],⟨H++[.cells [slL q1 ls.length c1,.int .i64 a,.int .i64 b,slS q2 ss.length c2,.int .i64 t,.int .i64 c] true,.cells [.int .i64 2,.int .i64 x,.int .i64 y,.int .i64 z] true,.cells [.slice none 0 0 none,.int .i64 0,.int .i64 0,.slice none 0 0 none,.int .i64 0,.int .i64 0] true,.dead,.cells (Zr ss) true,.cells [slL (H.length+7) (ls.length - 1) none,.int .i64 a,.int .i64 b,slS (H.length+4) (ss.length) none,.int .i64 t,.int .i64 c] true,.dead,.cells (Zm (ls.eraseIdx x)) true],(Z7 none (H.length+5))⟩⟩:=by
 have hdel:∀ L e b cap,L[b]?=some (.cells (Zm ls) true)→call T pr ZO [.slice (some (b,0)) 2 ls.length cap,.int .i64 x,.int .i64 (x+1:Nat)] ⟨L,e⟩=some (.slice (some (L.length+1,0)) 2 (ls.length - 1) none,⟨L.set b .dead++[.dead,.cells (Zm (ls.eraseIdx x)) true],e⟩):=by
  intro L e b cap hb
  rw [hp.1 L e b ls.length x cap (Zm ls) hb (Z9 ls) hi,Zsp]
 have hfold:=QI (pr:=pr)
 simp only [YG,Zhd,ZF] at hfold
 unfold ZD Ys
 simp only [Zhd,ZF]
 by_cases hy:y=0
 ·subst hy
  simp (config:={ maxSteps:=2000000,contextual:=true }) only [hfold,Zc,or_true,true_or,RV,eq_self,hdel,Zh (show x<9223372036854775807 by omega),Zv,ZA,RS,RQ,Rh,Zq,Zo,RR,Rz,RT,not_true_eq_false,not_false_eq_true,decide_true,decide_false,go_sem,reduceIte,Ra,Rb,Rc,Rd]
 ·simp (config:={ maxSteps:=2000000,contextual:=true }) only [hy,hfold,Zc,or_true,true_or,RV,eq_self,hdel,Zh (show x<9223372036854775807 by omega),Zv,ZA,RS,RQ,Rh,Zq,Zo,RR,Rz,RT,not_true_eq_false,not_false_eq_true,decide_true,decide_false,go_sem,reduceIte,Ra,Rb,Rc,Rd]
set_option maxHeartbeats 8000000 in
theorem ZC6 {q1 q2:Nat} {c1 c2:Option Nat} {ls:List Ld} {ss:List Sg} {a b t c:Int} (hn:ls.length≤1048575) (hm:ss.length≤1048575) (x:Int) (y z:Int) {isL isS:Bool} :
  ZD pr ⟨[stV (slL q1 ls.length c1) a b (slS q2 ss.length c2) t c,tkV 2 x y z,.ptr (some (H.length,0)),.ptr (some (H.length+1,0)),.ptr (some (H.length+2,0)),.bool false,.ptr (some (H.length+5,0)),.bool false,.bool false,.bool isS,.bool false,.undef,.undef,.undef,.undef,.undef,.undef,.undef,.undef,.undef,.undef,.undef,.undef],⟨H++[.cells [slL q1 ls.length c1,.int .i64 a,.int .i64 b,slS q2 ss.length c2,.int .i64 t,.int .i64 c] true,.cells [.int .i64 2,.int .i64 x,.int .i64 y,.int .i64 z] true,.cells [.slice none 0 0 none,.int .i64 0,.int .i64 0,.slice none 0 0 none,.int .i64 0,.int .i64 0] true,.cells (Zm ls) true,.cells (Zr ss) true,.cells [slL (H.length+3) (ls.length) none,.int .i64 a,.int .i64 b,slS (H.length+4) (ss.length) none,.int .i64 t,.int .i64 c] true],none⟩⟩=Ya pr ⟨[stV (slL q1 ls.length c1) a b (slS q2 ss.length c2) t c,tkV 2 x y z,.ptr (some (H.length,0)),.ptr (some (H.length+1,0)),.ptr (some (H.length+2,0)),.bool false,.ptr (some (H.length+5,0)),.bool false,.bool false,.bool isS,.bool false,.int .i64 2,.bool false,.bool true,.bool false,.undef,.undef,.undef,.undef,.undef,.undef,.undef,.undef],⟨H++[.cells [slL q1 ls.length c1,.int .i64 a,.int .i64 b,slS q2 ss.length c2,.int .i64 t,.int .i64 c] true,.cells [.int .i64 2,.int .i64 x,.int .i64 y,.int .i64 z] true,.cells [.slice none 0 0 none,.int .i64 0,.int .i64 0,.slice none 0 0 none,.int .i64 0,.int .i64 0] true,.cells (Zm ls) true,.cells (Zr ss) true,.cells [slL (H.length+3) (ls.length) none,.int .i64 a,.int .i64 b,slS (H.length+4) (ss.length) none,.int .i64 t,.int .i64 c] true],none⟩⟩:=by
 have hfold:=QI (pr:=pr)
 simp only [YG,Zhd,ZF] at hfold
 unfold ZD Ys
 simp only [Zhd,ZF]
 simp (config:={ maxSteps:=2000000,contextual:=true }) only [hfold,Zc,or_true,true_or,RV,eq_self,Zv,ZA,RS,RQ,Rh,Zq,Zo,RR,Rz,RT,not_true_eq_false,not_false_eq_true,decide_true,decide_false,go_sem,reduceIte,Ra,Rb,Rc,Rd]
set_option maxHeartbeats 8000000 in
theorem ZFg {q1 q2:Nat} {c1 c2:Option Nat} {ls:List Ld} {ss:List Sg} {a b t c:Int} (hn:ls.length≤1048575) (hm:ss.length≤1048575) {x:Nat} (hi:x<ls.length) (y z:Int) {isL isS:Bool} :
  ZD pr ⟨[stV (slL q1 ls.length c1) a b (slS q2 ss.length c2) t c,tkV 3 x y z,.ptr (some (H.length,0)),.ptr (some (H.length+1,0)),.ptr (some (H.length+2,0)),.bool false,.ptr (some (H.length+5,0)),.bool false,.bool true,.bool isS,.bool false,.undef,.undef,.undef,.undef,.undef,.undef,.undef,.undef,.undef,.undef,.undef,.undef],⟨H++[.cells [slL q1 ls.length c1,.int .i64 a,.int .i64 b,slS q2 ss.length c2,.int .i64 t,.int .i64 c] true,.cells [.int .i64 3,.int .i64 x,.int .i64 y,.int .i64 z] true,.cells [.slice none 0 0 none,.int .i64 0,.int .i64 0,.slice none 0 0 none,.int .i64 0,.int .i64 0] true,.cells (Zm ls) true,.cells (Zr ss) true,.cells [slL (H.length+3) (ls.length) none,.int .i64 a,.int .i64 b,slS (H.length+4) (ss.length) none,.int .i64 t,.int .i64 c] true],none⟩⟩=Ya pr ⟨[stV (slL q1 ls.length c1) a b (slS q2 ss.length c2) t c,tkV 3 x y z,.ptr (some (H.length,0)),.ptr (some (H.length+1,0)),.ptr (some (H.length+2,0)),.bool false,.ptr (some (H.length+5,0)),.bool (decide (z=0)),.bool true,.bool isS,.bool false,.int .i64 3,.bool false,.bool false,.undef,.bool true,.bool true,.undef,.undef,.undef,.undef,.undef,.undef],⟨H++[.cells [slL q1 ls.length c1,.int .i64 a,.int .i64 b,slS q2 ss.length c2,.int .i64 t,.int .i64 c] true,.cells [.int .i64 3,.int .i64 x,.int .i64 y,.int .i64 z] true,.cells [.slice none 0 0 none,.int .i64 0,.int .i64 0,.slice none 0 0 none,.int .i64 0,.int .i64 0] true,.cells (Zm (Zud ls x y)) true,.cells (Zr ss) true,.cells [slL (H.length+3) (ls.length) none,.int .i64 a,.int .i64 b,slS (H.length+4) (ss.length) none,.int .i64 t,.int .i64 c] true],none⟩⟩:=by
 have hle:x*2+1≤(Zm ls).length:=by rw [Z9];omega
 have hle2:x*2+2≤(Zm ls).length:=by rw [Z9];omega
 have hfold:=QI (pr:=pr)
 simp only [YG,Zhd,ZF] at hfold
 unfold ZD Ys
 simp only [Zhd,ZF]
 simp (config:={ maxSteps:=2000000,contextual:=true }) only [hfold,Zc,or_true,true_or,RV,eq_self,hi,hle,hle2,Zlw y hi,Zv,ZA,RS,RQ,Rh,Zq,Zo,RR,Rz,RT,not_true_eq_false,not_false_eq_true,decide_true,decide_false,go_sem,reduceIte,Ra,Rb,Rc,Rd]
set_option maxHeartbeats 8000000 in
theorem ZC7 {q1 q2:Nat} {c1 c2:Option Nat} {ls:List Ld} {ss:List Sg} {a b t c:Int} (hn:ls.length≤1048575) (hm:ss.length≤1048575) (x:Int) (y z:Int) {isL isS:Bool} :
  ZD pr ⟨[stV (slL q1 ls.length c1) a b (slS q2 ss.length c2) t c,tkV 3 x y z,.ptr (some (H.length,0)),.ptr (some (H.length+1,0)),.ptr (some (H.length+2,0)),.bool false,.ptr (some (H.length+5,0)),.bool false,.bool false,.bool isS,.bool false,.undef,.undef,.undef,.undef,.undef,.undef,.undef,.undef,.undef,.undef,.undef,.undef],⟨H++[.cells [slL q1 ls.length c1,.int .i64 a,.int .i64 b,slS q2 ss.length c2,.int .i64 t,.int .i64 c] true,.cells [.int .i64 3,.int .i64 x,.int .i64 y,.int .i64 z] true,.cells [.slice none 0 0 none,.int .i64 0,.int .i64 0,.slice none 0 0 none,.int .i64 0,.int .i64 0] true,.cells (Zm ls) true,.cells (Zr ss) true,.cells [slL (H.length+3) (ls.length) none,.int .i64 a,.int .i64 b,slS (H.length+4) (ss.length) none,.int .i64 t,.int .i64 c] true],none⟩⟩=Ya pr ⟨[stV (slL q1 ls.length c1) a b (slS q2 ss.length c2) t c,tkV 3 x y z,.ptr (some (H.length,0)),.ptr (some (H.length+1,0)),.ptr (some (H.length+2,0)),.bool false,.ptr (some (H.length+5,0)),.bool false,.bool false,.bool isS,.bool false,.int .i64 3,.bool false,.bool false,.undef,.bool true,.bool false,.undef,.undef,.undef,.undef,.undef,.undef],⟨H++[.cells [slL q1 ls.length c1,.int .i64 a,.int .i64 b,slS q2 ss.length c2,.int .i64 t,.int .i64 c] true,.cells [.int .i64 3,.int .i64 x,.int .i64 y,.int .i64 z] true,.cells [.slice none 0 0 none,.int .i64 0,.int .i64 0,.slice none 0 0 none,.int .i64 0,.int .i64 0] true,.cells (Zm ls) true,.cells (Zr ss) true,.cells [slL (H.length+3) (ls.length) none,.int .i64 a,.int .i64 b,slS (H.length+4) (ss.length) none,.int .i64 t,.int .i64 c] true],none⟩⟩:=by
 have hfold:=QI (pr:=pr)
 simp only [YG,Zhd,ZF] at hfold
 unfold ZD Ys
 simp only [Zhd,ZF]
 simp (config:={ maxSteps:=2000000,contextual:=true }) only [hfold,Zc,or_true,true_or,RV,eq_self,Zv,ZA,RS,RQ,Rh,Zq,Zo,RR,Rz,RT,not_true_eq_false,not_false_eq_true,decide_true,decide_false,go_sem,reduceIte,Ra,Rb,Rc,Rd]
set_option maxHeartbeats 8000000 in
theorem ZFh {q1 q2:Nat} {c1 c2:Option Nat} {ls:List Ld} {ss:List Sg} {a b t c:Int} (hn:ls.length≤1048575) (hm:ss.length≤1048575) (x:Int) (y z:Int) {isL isS:Bool} :
  ZD pr ⟨[stV (slL q1 ls.length c1) a b (slS q2 ss.length c2) t c,tkV 4 x y z,.ptr (some (H.length,0)),.ptr (some (H.length+1,0)),.ptr (some (H.length+2,0)),.bool false,.ptr (some (H.length+5,0)),.bool false,.bool isL,.bool isS,.bool false,.undef,.undef,.undef,.undef,.undef,.undef,.undef,.undef,.undef,.undef,.undef,.undef],⟨H++[.cells [slL q1 ls.length c1,.int .i64 a,.int .i64 b,slS q2 ss.length c2,.int .i64 t,.int .i64 c] true,.cells [.int .i64 4,.int .i64 x,.int .i64 y,.int .i64 z] true,.cells [.slice none 0 0 none,.int .i64 0,.int .i64 0,.slice none 0 0 none,.int .i64 0,.int .i64 0] true,.cells (Zm ls) true,.cells (Zr ss) true,.cells [slL (H.length+3) (ls.length) none,.int .i64 a,.int .i64 b,slS (H.length+4) (ss.length) none,.int .i64 t,.int .i64 c] true],none⟩⟩=Ya pr ⟨[stV (slL q1 ls.length c1) a b (slS q2 ss.length c2) t c,tkV 4 x y z,.ptr (some (H.length,0)),.ptr (some (H.length+1,0)),.ptr (some (H.length+2,0)),.bool false,.ptr (some (H.length+5,0)),.bool (decide (z=0)),.bool isL,.bool isS,.bool false,.int .i64 4,.bool false,.bool false,.undef,.bool false,.undef,.bool true,.undef,.undef,.undef,.undef,.undef],⟨H++[.cells [slL q1 ls.length c1,.int .i64 a,.int .i64 b,slS q2 ss.length c2,.int .i64 t,.int .i64 c] true,.cells [.int .i64 4,.int .i64 x,.int .i64 y,.int .i64 z] true,.cells [.slice none 0 0 none,.int .i64 0,.int .i64 0,.slice none 0 0 none,.int .i64 0,.int .i64 0] true,.cells (Zm ls) true,.cells (Zr ss) true,.cells [slL (H.length+3) (ls.length) none,.int .i64 x,.int .i64 y,slS (H.length+4) (ss.length) none,.int .i64 t,.int .i64 c] true],none⟩⟩:=by
 have hfold:=QI (pr:=pr)
 simp only [YG,Zhd,ZF] at hfold
 unfold ZD Ys
 simp only [Zhd,ZF]
 simp (config:={ maxSteps:=2000000,contextual:=true }) only [hfold,Zc,or_true,true_or,RV,eq_self,Zv,ZA,RS,RQ,Rh,Zq,Zo,RR,Rz,RT,not_true_eq_false,not_false_eq_true,decide_true,decide_false,go_sem,reduceIte,Ra,Rb,Rc,Rd]
set_option maxHeartbeats 8000000 in
theorem ZFi {q1 q2:Nat} {c1 c2:Option Nat} {ls:List Ld} {ss:List Sg} {a b t c:Int} (hn:ls.length≤1048575) (hm:ss.length≤1048575) (x:Int) (y z:Int) {isL isS:Bool} :
  ZD pr ⟨[stV (slL q1 ls.length c1) a b (slS q2 ss.length c2) t c,tkV 5 x y z,.ptr (some (H.length,0)),.ptr (some (H.length+1,0)),.ptr (some (H.length+2,0)),.bool false,.ptr (some (H.length+5,0)),.bool false,.bool isL,.bool isS,.bool false,.undef,.undef,.undef,.undef,.undef,.undef,.undef,.undef,.undef,.undef,.undef,.undef],⟨H++[.cells [slL q1 ls.length c1,.int .i64 a,.int .i64 b,slS q2 ss.length c2,.int .i64 t,.int .i64 c] true,.cells [.int .i64 5,.int .i64 x,.int .i64 y,.int .i64 z] true,.cells [.slice none 0 0 none,.int .i64 0,.int .i64 0,.slice none 0 0 none,.int .i64 0,.int .i64 0] true,.cells (Zm ls) true,.cells (Zr ss) true,.cells [slL (H.length+3) (ls.length) none,.int .i64 a,.int .i64 b,slS (H.length+4) (ss.length) none,.int .i64 t,.int .i64 c] true],none⟩⟩=Ya pr ⟨[stV (slL q1 ls.length c1) a b (slS q2 ss.length c2) t c,tkV 5 x y z,.ptr (some (H.length,0)),.ptr (some (H.length+1,0)),.ptr (some (H.length+2,0)),.bool false,.ptr (some (H.length+5,0)),.bool true,.bool isL,.bool isS,.bool false,.int .i64 5,.bool false,.bool false,.undef,.bool false,.undef,.bool false,.bool true,.undef,.undef,.undef,.undef],⟨H++[.cells [slL q1 ls.length c1,.int .i64 a,.int .i64 b,slS q2 ss.length c2,.int .i64 t,.int .i64 c] true,.cells [.int .i64 5,.int .i64 x,.int .i64 y,.int .i64 z] true,.cells [.slice none 0 0 none,.int .i64 0,.int .i64 0,.slice none 0 0 none,.int .i64 0,.int .i64 0] true,.cells (Zm ls) true,.dead,.cells [slL (H.length+3) (ls.length) none,.int .i64 a,.int .i64 b,slS (H.length+7) (ss.length+1) none,.int .i64 t,.int .i64 c] true,.cells [.int .i64 x,.int .i64 y,.int .i64 z] true,.cells (Zr (ss++[(x,y,z)])) true],(Z7 none (H.length+5))⟩⟩:=by
 have happ:=fun L b q c e' (hb:L[b]?=some (.cells (Zr ss) true)) hq=>ZiT (e:=e') (L:=L) (b:=b) (q:=q) (n:=ss.length) (sz:=3) (bytes:=24) (c:=c) (cs:=Zr ss) (new:=[.int .i64 x,.int .i64 y,.int .i64 z]) hb hq (YS ss) rfl (by unfold maxBytes;omega)
 have hap2:Zr ss++[AV.int .i64 x,.int .i64 y,.int .i64 z]=Zr (ss++[(x,y,z)]):=by rw [ZgG];rfl
 have hfold:=QI (pr:=pr)
 simp only [YG,Zhd,ZF] at hfold
 unfold ZD Ys
 simp only [Zhd,ZF]
 simp (config:={ maxSteps:=2000000,contextual:=true }) only [hfold,Zc,or_true,true_or,RV,eq_self,happ,hap2,Zv,ZA,RS,RQ,Rh,Zq,Zo,RR,Rz,RT,not_true_eq_false,not_false_eq_true,decide_true,decide_false,go_sem,reduceIte,Ra,Rb,Rc,Rd]
set_option maxHeartbeats 8000000 in
theorem ZFj (hp:Zdy pr) {q1 q2:Nat} {c1 c2:Option Nat} {ls:List Ld} {ss:List Sg} {a b t c:Int} (hn:ls.length≤1048575) (hm:ss.length≤1048575) {x:Nat} (hi:x<ss.length) (y z:Int) {isL isS:Bool} :
  ZD pr ⟨[stV (slL q1 ls.length c1) a b (slS q2 ss.length c2) t c,tkV 6 x y z,.ptr (some (H.length,0)),.ptr (some (H.length+1,0)),.ptr (some (H.length+2,0)),.bool false,.ptr (some (H.length+5,0)),.bool false,.bool isL,.bool true,.bool false,.undef,.undef,.undef,.undef,.undef,.undef,.undef,.undef,.undef,.undef,.undef,.undef],⟨H++[.cells [slL q1 ls.length c1,.int .i64 a,.int .i64 b,slS q2 ss.length c2,.int .i64 t,.int .i64 c] true,.cells [.int .i64 6,.int .i64 x,.int .i64 y,.int .i64 z] true,.cells [.slice none 0 0 none,.int .i64 0,.int .i64 0,.slice none 0 0 none,.int .i64 0,.int .i64 0] true,.cells (Zm ls) true,.cells (Zr ss) true,.cells [slL (H.length+3) (ls.length) none,.int .i64 a,.int .i64 b,slS (H.length+4) (ss.length) none,.int .i64 t,.int .i64 c] true],none⟩⟩=Ya pr ⟨[stV (slL q1 ls.length c1) a b (slS q2 ss.length c2) t c,tkV 6 x y z,.ptr (some (H.length,0)),.ptr (some (H.length+1,0)),.ptr (some (H.length+2,0)),.bool false,.ptr (some (H.length+5,0)),.bool (decide (y=0)&&decide (z=0)),.bool isL,.bool true,.bool false,.int .i64 6,.bool false,.bool false,.undef,.bool false,.undef,.bool false,.bool false,.bool true,.bool true,.undef,.undef],⟨H++[.cells [slL q1 ls.length c1,.int .i64 a,.int .i64 b,slS q2 ss.length c2,.int .i64 t,.int .i64 c] true,.cells [.int .i64 6,.int .i64 x,.int .i64 y,.int .i64 z] true,.cells [.slice none 0 0 none,.int .i64 0,.int .i64 0,.slice none 0 0 none,.int .i64 0,.int .i64 0] true,.cells (Zm ls) true,.dead,.cells [slL (H.length+3) (ls.length) none,.int .i64 a,.int .i64 b,slS (H.length+7) (ss.length - 1) none,.int .i64 t,.int .i64 c] true,.dead,.cells (Zr (ss.eraseIdx x)) true],(Z7 none (H.length+5))⟩⟩:=by
 have hdel:∀ L e b cap,L[b]?=some (.cells (Zr ss) true)→call T pr ZK [.slice (some (b,0)) 3 ss.length cap,.int .i64 x,.int .i64 (x+1:Nat)] ⟨L,e⟩=some (.slice (some (L.length+1,0)) 3 (ss.length - 1) none,⟨L.set b .dead++[.dead,.cells (Zr (ss.eraseIdx x)) true],e⟩):=by
  intro L e b cap hb
  rw [hp.2 L e b ss.length x cap (Zr ss) hb (YS ss) hi,Zsq]
 have hfold:=QI (pr:=pr)
 simp only [YG,Zhd,ZF] at hfold
 unfold ZD Ys
 simp only [Zhd,ZF]
 by_cases hy:y=0
 ·subst hy
  simp (config:={ maxSteps:=2000000,contextual:=true }) only [hfold,Zc,or_true,true_or,RV,eq_self,hdel,Zh (show x<9223372036854775807 by omega),Zv,ZA,RS,RQ,Rh,Zq,Zo,RR,Rz,RT,not_true_eq_false,not_false_eq_true,decide_true,decide_false,go_sem,reduceIte,Ra,Rb,Rc,Rd]
 ·simp (config:={ maxSteps:=2000000,contextual:=true }) only [hy,hfold,Zc,or_true,true_or,RV,eq_self,hdel,Zh (show x<9223372036854775807 by omega),Zv,ZA,RS,RQ,Rh,Zq,Zo,RR,Rz,RT,not_true_eq_false,not_false_eq_true,decide_true,decide_false,go_sem,reduceIte,Ra,Rb,Rc,Rd]
set_option maxHeartbeats 8000000 in
theorem ZC8 {q1 q2:Nat} {c1 c2:Option Nat} {ls:List Ld} {ss:List Sg} {a b t c:Int} (hn:ls.length≤1048575) (hm:ss.length≤1048575) (x:Int) (y z:Int) {isL isS:Bool} :
  ZD pr ⟨[stV (slL q1 ls.length c1) a b (slS q2 ss.length c2) t c,tkV 6 x y z,.ptr (some (H.length,0)),.ptr (some (H.length+1,0)),.ptr (some (H.length+2,0)),.bool false,.ptr (some (H.length+5,0)),.bool false,.bool isL,.bool false,.bool false,.undef,.undef,.undef,.undef,.undef,.undef,.undef,.undef,.undef,.undef,.undef,.undef],⟨H++[.cells [slL q1 ls.length c1,.int .i64 a,.int .i64 b,slS q2 ss.length c2,.int .i64 t,.int .i64 c] true,.cells [.int .i64 6,.int .i64 x,.int .i64 y,.int .i64 z] true,.cells [.slice none 0 0 none,.int .i64 0,.int .i64 0,.slice none 0 0 none,.int .i64 0,.int .i64 0] true,.cells (Zm ls) true,.cells (Zr ss) true,.cells [slL (H.length+3) (ls.length) none,.int .i64 a,.int .i64 b,slS (H.length+4) (ss.length) none,.int .i64 t,.int .i64 c] true],none⟩⟩=Ya pr ⟨[stV (slL q1 ls.length c1) a b (slS q2 ss.length c2) t c,tkV 6 x y z,.ptr (some (H.length,0)),.ptr (some (H.length+1,0)),.ptr (some (H.length+2,0)),.bool false,.ptr (some (H.length+5,0)),.bool false,.bool isL,.bool false,.bool false,.int .i64 6,.bool false,.bool false,.undef,.bool false,.undef,.bool false,.bool false,.bool true,.bool false,.undef,.undef],⟨H++[.cells [slL q1 ls.length c1,.int .i64 a,.int .i64 b,slS q2 ss.length c2,.int .i64 t,.int .i64 c] true,.cells [.int .i64 6,.int .i64 x,.int .i64 y,.int .i64 z] true,.cells [.slice none 0 0 none,.int .i64 0,.int .i64 0,.slice none 0 0 none,.int .i64 0,.int .i64 0] true,.cells (Zm ls) true,.cells (Zr ss) true,.cells [slL (H.length+3) (ls.length) none,.int .i64 a,.int .i64 b,slS (H.length+4) (ss.length) none,.int .i64 t,.int .i64 c] true],none⟩⟩:=by
 have hfold:=QI (pr:=pr)
 simp only [YG,Zhd,ZF] at hfold
 unfold ZD Ys
 simp only [Zhd,ZF]
 simp (config:={ maxSteps:=2000000,contextual:=true }) only [hfold,Zc,or_true,true_or,RV,eq_self,Zv,ZA,RS,RQ,Rh,Zq,Zo,RR,Rz,RT,not_true_eq_false,not_false_eq_true,decide_true,decide_false,go_sem,reduceIte,Ra,Rb,Rc,Rd]
set_option maxHeartbeats 8000000 in
theorem ZFk {q1 q2:Nat} {c1 c2:Option Nat} {ls:List Ld} {ss:List Sg} {a b t c:Int} (k x y z:Int) (k1:¬ k=1) (k2:¬ k=2) (k3:¬ k=3) (k4:¬ k=4) (k5:¬ k=5) (k6:¬ k=6) {isL isS:Bool} :
  ZD pr ⟨[stV (slL q1 ls.length c1) a b (slS q2 ss.length c2) t c,tkV k x y z,.ptr (some (H.length,0)),.ptr (some (H.length+1,0)),.ptr (some (H.length+2,0)),.bool false,.ptr (some (H.length+5,0)),.bool false,.bool isL,.bool isS,.bool false,.undef,.undef,.undef,.undef,.undef,.undef,.undef,.undef,.undef,.undef,.undef,.undef],⟨H++[.cells [slL q1 ls.length c1,.int .i64 a,.int .i64 b,slS q2 ss.length c2,.int .i64 t,.int .i64 c] true,.cells [.int .i64 k,.int .i64 x,.int .i64 y,.int .i64 z] true,.cells [.slice none 0 0 none,.int .i64 0,.int .i64 0,.slice none 0 0 none,.int .i64 0,.int .i64 0] true,.cells (Zm ls) true,.cells (Zr ss) true,.cells [slL (H.length+3) (ls.length) none,.int .i64 a,.int .i64 b,slS (H.length+4) (ss.length) none,.int .i64 t,.int .i64 c] true],none⟩⟩=Ya pr ⟨[stV (slL q1 ls.length c1) a b (slS q2 ss.length c2) t c,tkV k x y z,.ptr (some (H.length,0)),.ptr (some (H.length+1,0)),.ptr (some (H.length+2,0)),.bool false,.ptr (some (H.length+5,0)),.bool false,.bool isL,.bool isS,.bool false,.int .i64 k,.bool false,.bool false,.undef,.bool false,.undef,.bool false,.bool false,.bool false,.undef,.undef,.undef],⟨H++[.cells [slL q1 ls.length c1,.int .i64 a,.int .i64 b,slS q2 ss.length c2,.int .i64 t,.int .i64 c] true,.cells [.int .i64 k,.int .i64 x,.int .i64 y,.int .i64 z] true,.cells [.slice none 0 0 none,.int .i64 0,.int .i64 0,.slice none 0 0 none,.int .i64 0,.int .i64 0] true,.cells (Zm ls) true,.cells (Zr ss) true,.cells [slL (H.length+3) (ls.length) none,.int .i64 a,.int .i64 b,slS (H.length+4) (ss.length) none,.int .i64 t,.int .i64 c] true],none⟩⟩:=by
 have hfold:=QI (pr:=pr)
 simp only [YG,Zhd,ZF] at hfold
 unfold ZD Ys
 simp only [Zhd,ZF]
 simp (config:={ maxSteps:=2000000,contextual:=true }) only [hfold,Zc,k1,k2,k3,k4,k5,k6,Zv,ZA,RS,RQ,Rh,Zq,Zo,RR,Rz,RT,not_true_eq_false,not_false_eq_true,decide_true,decide_false,go_sem,reduceIte,Ra,Rb,Rc,Rd]
theorem ZdA (B0 B1 X3 X4 B5:Blk) (G:List Blk) (y0 y1 y2 y3 y6:AV) (ys:List AV) (e1:Option Nat) (hc:clean H.length e1=true) :
  Zbd Jw ⟨H,e⟩ (some (Ex.ret,⟨y0::y1::y2::y3::.ptr (some (H.length+2,0))::.bool false::y6::ys,⟨H++(B0::B1::.cells [.slice none 0 0 none,.int .i64 0,.int .i64 0,.slice none 0 0 none,.int .i64 0,.int .i64 0] true::X3::X4::B5::G),e1⟩⟩))=some (.tup [Zmz,.bool false],⟨H,e⟩):=by
 have hfN:∀ (G:List Blk) (e0 e1:Option Nat),clean H.length e1=true→finish 2 H.length e0 (.tup [Zmz,.bool false]) ⟨H++G,e1⟩=some (.tup [Zmz,.bool false],⟨H,e0⟩) :=
  fun G e0 e1 hc=>Zlq 0 0 0 0 false e0 e1 hc
 simp +contextual only [Jw,hfN,hc,go_sem,reduceIte,Ra,Rb,Rc,Rd]
theorem ZmB (B0 B1 X3 X4 B5:Blk) (G:List Blk) (y0 y1 y2 y3 y6:AV) (ys:List AV) (e1:Option Nat) {j1 j2 n m:Nat} {a b t c:Int} {ls:List Ld} {ss:List Sg} (hc:clean H.length e1=true) (hn:ls.length=n) (hm:ss.length=m) (hj:j1≠j2)
  (h1:∀ B2,(B0::B1::B2::X3::X4::B5::G)[j1]?=some (.cells (Zm ls) true)) (h2:∀ B2,(B0::B1::B2::X3::X4::B5::G)[j2]?=some (.cells (Zr ss) true)) :
  Zbd Jw ⟨H,e⟩ (some (Ex.ret,⟨y0::y1::y2::y3::.ptr (some (H.length+2,0))::.bool true::y6::ys,⟨H++(B0::B1::.cells [slL (H.length+j1) n none,.int .i64 a,.int .i64 b,slS (H.length+j2) m none,.int .i64 t,.int .i64 c] true::X3::X4::B5::G),e1⟩⟩)) =
   some (.tup [stV (slL H.length n none) a b (slS (H.length+1) m none) t c,.bool true],⟨H++[.cells (Zm ls) true,.cells (Zr ss) true],e⟩):=by
 have hf:∀ (B2:Blk),finish 2 H.length e (.tup [stV (slL (H.length+j1) n none) a b (slS (H.length+j2) m none) t c,.bool true]) ⟨H++(B0::B1::B2::X3::X4::B5::G),e1⟩ =
   some (.tup [stV (slL H.length n none) a b (slS (H.length+1) m none) t c,.bool true],⟨H++[.cells (Zm ls) true,.cells (Zr ss) true],e⟩) :=
  fun B2=>Zlp a b t c true e e1 hc (h1 B2) (h2 B2) hj (ZU _ _) (Z6 _ _)
 simp +contextual only [Jw,hf,go_sem,reduceIte,Ra,Rb,Rc,Rd]
theorem ZFl {q1 q2:Nat} {c1 c2:Option Nat} {ls:List Ld} {ss:List Sg} {a b t c:Int} (h1:Zb H q1=some (Zm ls)) (h2:Zb H q2=some (Zr ss)) (hn:ls.length≤1048575) (hm:ss.length≤1048575) (x y z:Int) (hv:Zog ls ss a b t c=true) :
  call T pr Xr [stV (slL q1 ls.length c1) a b (slS q2 ss.length c2) t c,tkV 1 x y z] ⟨H,e⟩ =
   ZgH H e (ZmA ls ss a b t c 1 x y z) (Zkv ls 1 x y) (X8 ss 1 x y z) (JD a 1 x) (JD b 1 y) (Zhc ls a b t 1 x y) (wr (c+1)):=by
 rw [ZgI h1 h2 hn hm 1 x y z hv,ZgJ hn hm 1 x y z]
 unfold ZgH ZmA Zhc wr
 have er:Zkv ls 1 x y=ls++[(x,y)]:=by simp [Zkv]
 have ec:X8 ss 1 x y z=ss:=by simp [X8]
 have ea:∀ a x,JD a 1 x=a:=fun a x=>by simp [JD]
 rw [ZJz,er,ec,ea,ea]
 have hrl:(ls++[(x,y)]).length=ls.length+1:=by simp
 have hcl:ss.length=ss.length:=rfl
 rw [ZFe hn hm x y z]
 cases hz:decide (z=0) with
 | false=>
  rw [RU]
  rw [Q8 (B0:=.cells [slL q1 ls.length c1,.int .i64 a,.int .i64 b,slS q2 ss.length c2,.int .i64 t,.int .i64 c] true) (B1:=.cells [.int .i64 1,.int .i64 x,.int .i64 y,.int .i64 z] true) (X3:=.dead) (X4:=(.cells (Zr ss) true)) (G:=[.cells [.int .i64 x,.int .i64 y] true,.cells (Zm (ls++[(x,y)])) true]) (n:=ls.length+1) (m:=ss.length) (ls:=ls++[(x,y)]) (ss:=ss) (a:=a) (b:=b) (t:=t) (c:=c) (j1:=7) (j2:=4) hrl hcl (by omega) (by omega) (fun _ _=>rfl) (fun _ _=>rfl) rfl]
  rw [ZdA _ _ _ _ _ _ _ _ _ _ _ _ _ (by first | rfl | simp [clean,Z7])]
  rw [if_neg (by simp)]
 | true=>
  rw [RW]
  cases hg:Zog (ls++[(x,y)]) (ss) a b t (IntKind.i64.wrap (c+1)) with
  | false=>
   rw [Q8 (B0:=.cells [slL q1 ls.length c1,.int .i64 a,.int .i64 b,slS q2 ss.length c2,.int .i64 t,.int .i64 c] true) (B1:=.cells [.int .i64 1,.int .i64 x,.int .i64 y,.int .i64 z] true) (X3:=.dead) (X4:=(.cells (Zr ss) true)) (G:=[.cells [.int .i64 x,.int .i64 y] true,.cells (Zm (ls++[(x,y)])) true]) (n:=ls.length+1) (m:=ss.length) (ls:=ls++[(x,y)]) (ss:=ss) (a:=a) (b:=b) (t:=t) (c:=c) (j1:=7) (j2:=4) hrl hcl (by omega) (by omega) (fun _ _=>rfl) (fun _ _=>rfl) (by rw [hg,RX])]
   rw [ZdA _ _ _ _ _ _ _ _ _ _ _ _ _ (by first | rfl | simp [clean,Z7])]
   rw [if_neg (by simp)]
  | true=>
   rw [ZiU (B0:=.cells [slL q1 ls.length c1,.int .i64 a,.int .i64 b,slS q2 ss.length c2,.int .i64 t,.int .i64 c] true) (B1:=.cells [.int .i64 1,.int .i64 x,.int .i64 y,.int .i64 z] true) (X3:=.dead) (X4:=(.cells (Zr ss) true)) (G:=[.cells [.int .i64 x,.int .i64 y] true,.cells (Zm (ls++[(x,y)])) true]) (n:=ls.length+1) (m:=ss.length) (ls:=ls++[(x,y)]) (ss:=ss) (a:=a) (b:=b) (t:=t) (c:=c) (j1:=7) (j2:=4) hrl hcl (by omega) (by omega) (fun _ _=>rfl) (fun _ _=>rfl) (by omega) hg]
   rw [ZmB _ _ _ _ _ _ _ _ _ _ _ _ _ (by simp [clean,Z7]) hrl hcl (by decide) (fun _=>rfl) (fun _=>rfl),hrl,hcl]
   rfl
theorem ZFm (hp:Zdy pr) {q1 q2:Nat} {c1 c2:Option Nat} {ls:List Ld} {ss:List Sg} {a b t c:Int} (h1:Zb H q1=some (Zm ls)) (h2:Zb H q2=some (Zr ss)) (hn:ls.length≤1048575) (hm:ss.length≤1048575) (x y z:Int) (hv:Zog ls ss a b t c=true) :
  call T pr Xr [stV (slL q1 ls.length c1) a b (slS q2 ss.length c2) t c,tkV 2 x y z] ⟨H,e⟩ =
   ZgH H e (ZmA ls ss a b t c 2 x y z) (Zkv ls 2 x y) (X8 ss 2 x y z) (JD a 2 x) (JD b 2 y) (Zhc ls a b t 2 x y) (wr (c+1)):=by
 rw [ZgI h1 h2 hn hm 2 x y z hv,ZgJ hn hm 2 x y z]
 unfold ZgH ZmA Zhc wr
 have er:Zkv ls 2 x y=ls.eraseIdx x.toNat:=by simp [Zkv]
 have ec:X8 ss 2 x y z=ss:=by simp [X8]
 have ea:∀ a x,JD a 2 x=a:=fun a x=>by simp [JD]
 rw [ZJA,er,ec,ea,ea]
 cases hb:(decide (0≤x)&&decide (x≤(ls.length:Int) - 1)) with
 | false=>
  have hrl:ls.length=ls.length:=rfl
  have hcl:ss.length=ss.length:=rfl
  rw [ZC6 (isL:=false) hn hm x y z,RU,RU,RU]
  rw [Q8 (B0:=.cells [slL q1 ls.length c1,.int .i64 a,.int .i64 b,slS q2 ss.length c2,.int .i64 t,.int .i64 c] true) (B1:=.cells [.int .i64 2,.int .i64 x,.int .i64 y,.int .i64 z] true) (X3:=(.cells (Zm ls) true)) (X4:=(.cells (Zr ss) true)) (G:=[]) (n:=ls.length) (m:=ss.length) (ls:=ls) (ss:=ss) (a:=a) (b:=b) (t:=t) (c:=c) (j1:=3) (j2:=4) hrl hcl (by omega) (by omega) (fun _ _=>rfl) (fun _ _=>rfl) rfl]
  rw [ZdA _ _ _ _ _ _ _ _ _ _ _ _ _ (by first | rfl | simp [clean,Z7])]
  rw [if_neg (by simp)]
 | true=>
  have hbb:0≤x∧x≤(ls.length:Int) - 1:=by simpa using hb
  obtain ⟨i,rfl⟩:∃ i:Nat,x=i:=⟨x.toNat,by omega⟩
  have hi:i<ls.length:=by omega
  have hrl:(ls.eraseIdx i).length=ls.length - 1:=by rw [RY,if_pos hi]
  have hcl:ss.length=ss.length:=rfl
  rw [ZFf hp (isL:=false) hn hm hi y z,Int.toNat_natCast,RW]
  cases hz:(decide (y=0)&&decide (z=0)) with
  | false=>
   rw [RU]
   rw [Q8 (B0:=.cells [slL q1 ls.length c1,.int .i64 a,.int .i64 b,slS q2 ss.length c2,.int .i64 t,.int .i64 c] true) (B1:=.cells [.int .i64 2,.int .i64 i,.int .i64 y,.int .i64 z] true) (X3:=.dead) (X4:=(.cells (Zr ss) true)) (G:=[.dead,.cells (Zm (ls.eraseIdx i)) true]) (n:=ls.length - 1) (m:=ss.length) (ls:=ls.eraseIdx i) (ss:=ss) (a:=a) (b:=b) (t:=t) (c:=c) (j1:=7) (j2:=4) hrl hcl (by omega) (by omega) (fun _ _=>rfl) (fun _ _=>rfl) rfl]
   rw [ZdA _ _ _ _ _ _ _ _ _ _ _ _ _ (by first | rfl | simp [clean,Z7])]
   rw [if_neg (by simp)]
  | true=>
   rw [RW]
   cases hg:Zog (ls.eraseIdx i) (ss) a b t (IntKind.i64.wrap (c+1)) with
   | false=>
    rw [Q8 (B0:=.cells [slL q1 ls.length c1,.int .i64 a,.int .i64 b,slS q2 ss.length c2,.int .i64 t,.int .i64 c] true) (B1:=.cells [.int .i64 2,.int .i64 i,.int .i64 y,.int .i64 z] true) (X3:=.dead) (X4:=(.cells (Zr ss) true)) (G:=[.dead,.cells (Zm (ls.eraseIdx i)) true]) (n:=ls.length - 1) (m:=ss.length) (ls:=ls.eraseIdx i) (ss:=ss) (a:=a) (b:=b) (t:=t) (c:=c) (j1:=7) (j2:=4) hrl hcl (by omega) (by omega) (fun _ _=>rfl) (fun _ _=>rfl) (by rw [hg,RX])]
    rw [ZdA _ _ _ _ _ _ _ _ _ _ _ _ _ (by first | rfl | simp [clean,Z7])]
    rw [if_neg (by simp)]
   | true=>
    rw [ZiU (B0:=.cells [slL q1 ls.length c1,.int .i64 a,.int .i64 b,slS q2 ss.length c2,.int .i64 t,.int .i64 c] true) (B1:=.cells [.int .i64 2,.int .i64 i,.int .i64 y,.int .i64 z] true) (X3:=.dead) (X4:=(.cells (Zr ss) true)) (G:=[.dead,.cells (Zm (ls.eraseIdx i)) true]) (n:=ls.length - 1) (m:=ss.length) (ls:=ls.eraseIdx i) (ss:=ss) (a:=a) (b:=b) (t:=t) (c:=c) (j1:=7) (j2:=4) hrl hcl (by omega) (by omega) (fun _ _=>rfl) (fun _ _=>rfl) (by omega) hg]
    rw [ZmB _ _ _ _ _ _ _ _ _ _ _ _ _ (by simp [clean,Z7]) hrl hcl (by decide) (fun _=>rfl) (fun _=>rfl),hrl,hcl]
    rfl
theorem ZFn {q1 q2:Nat} {c1 c2:Option Nat} {ls:List Ld} {ss:List Sg} {a b t c:Int} (h1:Zb H q1=some (Zm ls)) (h2:Zb H q2=some (Zr ss)) (hn:ls.length≤1048575) (hm:ss.length≤1048575) (x y z:Int) (hv:Zog ls ss a b t c=true) :
  call T pr Xr [stV (slL q1 ls.length c1) a b (slS q2 ss.length c2) t c,tkV 3 x y z] ⟨H,e⟩ =
   ZgH H e (ZmA ls ss a b t c 3 x y z) (Zkv ls 3 x y) (X8 ss 3 x y z) (JD a 3 x) (JD b 3 y) (Zhc ls a b t 3 x y) (wr (c+1)):=by
 rw [ZgI h1 h2 hn hm 3 x y z hv,ZgJ hn hm 3 x y z]
 unfold ZgH ZmA Zhc wr
 have er:Zkv ls 3 x y=Zud ls x.toNat y:=by simp [Zkv]
 have ec:X8 ss 3 x y z=ss:=by simp [X8]
 have ea:∀ a x,JD a 3 x=a:=fun a x=>by simp [JD]
 rw [ZJB,er,ec,ea,ea]
 cases hb:(decide (0≤x)&&decide (x≤(ls.length:Int) - 1)) with
 | false=>
  have hrl:ls.length=ls.length:=rfl
  have hcl:ss.length=ss.length:=rfl
  rw [ZC7 (isL:=false) hn hm x y z,RU,RU]
  rw [Q8 (B0:=.cells [slL q1 ls.length c1,.int .i64 a,.int .i64 b,slS q2 ss.length c2,.int .i64 t,.int .i64 c] true) (B1:=.cells [.int .i64 3,.int .i64 x,.int .i64 y,.int .i64 z] true) (X3:=(.cells (Zm ls) true)) (X4:=(.cells (Zr ss) true)) (G:=[]) (n:=ls.length) (m:=ss.length) (ls:=ls) (ss:=ss) (a:=a) (b:=b) (t:=t) (c:=c) (j1:=3) (j2:=4) hrl hcl (by omega) (by omega) (fun _ _=>rfl) (fun _ _=>rfl) rfl]
  rw [ZdA _ _ _ _ _ _ _ _ _ _ _ _ _ (by first | rfl | simp [clean,Z7])]
  rw [if_neg (by simp)]
 | true=>
  have hbb:0≤x∧x≤(ls.length:Int) - 1:=by simpa using hb
  obtain ⟨i,rfl⟩:∃ i:Nat,x=i:=⟨x.toNat,by omega⟩
  have hi:i<ls.length:=by omega
  have hrl:(Zud ls i y).length=ls.length:=ZgF ls i y
  have hcl:ss.length=ss.length:=rfl
  rw [ZFg (isL:=false) hn hm hi y z,Int.toNat_natCast,RW]
  cases hz:decide (z=0) with
  | false=>
   rw [RU]
   rw [Q8 (B0:=.cells [slL q1 ls.length c1,.int .i64 a,.int .i64 b,slS q2 ss.length c2,.int .i64 t,.int .i64 c] true) (B1:=.cells [.int .i64 3,.int .i64 i,.int .i64 y,.int .i64 z] true) (X3:=(.cells (Zm (Zud ls i y)) true)) (X4:=(.cells (Zr ss) true)) (G:=[]) (n:=ls.length) (m:=ss.length) (ls:=Zud ls i y) (ss:=ss) (a:=a) (b:=b) (t:=t) (c:=c) (j1:=3) (j2:=4) hrl hcl (by omega) (by omega) (fun _ _=>rfl) (fun _ _=>rfl) rfl]
   rw [ZdA _ _ _ _ _ _ _ _ _ _ _ _ _ (by first | rfl | simp [clean,Z7])]
   rw [if_neg (by simp)]
  | true=>
   rw [RW]
   cases hg:Zog (Zud ls i y) (ss) a b t (IntKind.i64.wrap (c+1)) with
   | false=>
    rw [Q8 (B0:=.cells [slL q1 ls.length c1,.int .i64 a,.int .i64 b,slS q2 ss.length c2,.int .i64 t,.int .i64 c] true) (B1:=.cells [.int .i64 3,.int .i64 i,.int .i64 y,.int .i64 z] true) (X3:=(.cells (Zm (Zud ls i y)) true)) (X4:=(.cells (Zr ss) true)) (G:=[]) (n:=ls.length) (m:=ss.length) (ls:=Zud ls i y) (ss:=ss) (a:=a) (b:=b) (t:=t) (c:=c) (j1:=3) (j2:=4) hrl hcl (by omega) (by omega) (fun _ _=>rfl) (fun _ _=>rfl) (by rw [hg,RX])]
    rw [ZdA _ _ _ _ _ _ _ _ _ _ _ _ _ (by first | rfl | simp [clean,Z7])]
    rw [if_neg (by simp)]
   | true=>
    rw [ZiU (B0:=.cells [slL q1 ls.length c1,.int .i64 a,.int .i64 b,slS q2 ss.length c2,.int .i64 t,.int .i64 c] true) (B1:=.cells [.int .i64 3,.int .i64 i,.int .i64 y,.int .i64 z] true) (X3:=(.cells (Zm (Zud ls i y)) true)) (X4:=(.cells (Zr ss) true)) (G:=[]) (n:=ls.length) (m:=ss.length) (ls:=Zud ls i y) (ss:=ss) (a:=a) (b:=b) (t:=t) (c:=c) (j1:=3) (j2:=4) hrl hcl (by omega) (by omega) (fun _ _=>rfl) (fun _ _=>rfl) (by omega) hg]
    rw [ZmB _ _ _ _ _ _ _ _ _ _ _ _ _ (by simp [clean,Z7]) hrl hcl (by decide) (fun _=>rfl) (fun _=>rfl),hrl,hcl]
    rfl
theorem ZFo {q1 q2:Nat} {c1 c2:Option Nat} {ls:List Ld} {ss:List Sg} {a b t c:Int} (h1:Zb H q1=some (Zm ls)) (h2:Zb H q2=some (Zr ss)) (hn:ls.length≤1048575) (hm:ss.length≤1048575) (x y z:Int) (hv:Zog ls ss a b t c=true) :
  call T pr Xr [stV (slL q1 ls.length c1) a b (slS q2 ss.length c2) t c,tkV 4 x y z] ⟨H,e⟩ =
   ZgH H e (ZmA ls ss a b t c 4 x y z) (Zkv ls 4 x y) (X8 ss 4 x y z) (JD a 4 x) (JD b 4 y) (Zhc ls a b t 4 x y) (wr (c+1)):=by
 rw [ZgI h1 h2 hn hm 4 x y z hv,ZgJ hn hm 4 x y z]
 unfold ZgH ZmA Zhc wr
 have er:Zkv ls 4 x y=ls:=by simp [Zkv]
 have ec:X8 ss 4 x y z=ss:=by simp [X8]
 have ea:∀ a x,JD a 4 x=x:=fun a x=>by simp [JD]
 rw [ZJC,er,ec,ea,ea]
 have hrl:ls.length=ls.length:=rfl
 have hcl:ss.length=ss.length:=rfl
 rw [ZFh hn hm x y z]
 cases hz:decide (z=0) with
 | false=>
  rw [RU]
  rw [Q8 (B0:=.cells [slL q1 ls.length c1,.int .i64 a,.int .i64 b,slS q2 ss.length c2,.int .i64 t,.int .i64 c] true) (B1:=.cells [.int .i64 4,.int .i64 x,.int .i64 y,.int .i64 z] true) (X3:=(.cells (Zm ls) true)) (X4:=(.cells (Zr ss) true)) (G:=[]) (n:=ls.length) (m:=ss.length) (ls:=ls) (ss:=ss) (a:=x) (b:=y) (t:=t) (c:=c) (j1:=3) (j2:=4) hrl hcl (by omega) (by omega) (fun _ _=>rfl) (fun _ _=>rfl) rfl]
  rw [ZdA _ _ _ _ _ _ _ _ _ _ _ _ _ (by first | rfl | simp [clean,Z7])]
  rw [if_neg (by simp)]
 | true=>
  rw [RW]
  cases hg:Zog (ls) (ss) x y t (IntKind.i64.wrap (c+1)) with
  | false=>
   rw [Q8 (B0:=.cells [slL q1 ls.length c1,.int .i64 a,.int .i64 b,slS q2 ss.length c2,.int .i64 t,.int .i64 c] true) (B1:=.cells [.int .i64 4,.int .i64 x,.int .i64 y,.int .i64 z] true) (X3:=(.cells (Zm ls) true)) (X4:=(.cells (Zr ss) true)) (G:=[]) (n:=ls.length) (m:=ss.length) (ls:=ls) (ss:=ss) (a:=x) (b:=y) (t:=t) (c:=c) (j1:=3) (j2:=4) hrl hcl (by omega) (by omega) (fun _ _=>rfl) (fun _ _=>rfl) (by rw [hg,RX])]
   rw [ZdA _ _ _ _ _ _ _ _ _ _ _ _ _ (by first | rfl | simp [clean,Z7])]
   rw [if_neg (by simp)]
  | true=>
   rw [ZiU (B0:=.cells [slL q1 ls.length c1,.int .i64 a,.int .i64 b,slS q2 ss.length c2,.int .i64 t,.int .i64 c] true) (B1:=.cells [.int .i64 4,.int .i64 x,.int .i64 y,.int .i64 z] true) (X3:=(.cells (Zm ls) true)) (X4:=(.cells (Zr ss) true)) (G:=[]) (n:=ls.length) (m:=ss.length) (ls:=ls) (ss:=ss) (a:=x) (b:=y) (t:=t) (c:=c) (j1:=3) (j2:=4) hrl hcl (by omega) (by omega) (fun _ _=>rfl) (fun _ _=>rfl) (by omega) hg]
   rw [ZmB _ _ _ _ _ _ _ _ _ _ _ _ _ (by simp [clean,Z7]) hrl hcl (by decide) (fun _=>rfl) (fun _=>rfl),hrl,hcl]
   rfl
theorem ZFp {q1 q2:Nat} {c1 c2:Option Nat} {ls:List Ld} {ss:List Sg} {a b t c:Int} (h1:Zb H q1=some (Zm ls)) (h2:Zb H q2=some (Zr ss)) (hn:ls.length≤1048575) (hm:ss.length≤1048575) (x y z:Int) (hv:Zog ls ss a b t c=true) :
  call T pr Xr [stV (slL q1 ls.length c1) a b (slS q2 ss.length c2) t c,tkV 5 x y z] ⟨H,e⟩ =
   ZgH H e (ZmA ls ss a b t c 5 x y z) (Zkv ls 5 x y) (X8 ss 5 x y z) (JD a 5 x) (JD b 5 y) (Zhc ls a b t 5 x y) (wr (c+1)):=by
 rw [ZgI h1 h2 hn hm 5 x y z hv,ZgJ hn hm 5 x y z]
 unfold ZgH ZmA Zhc wr
 have er:Zkv ls 5 x y=ls:=by simp [Zkv]
 have ec:X8 ss 5 x y z=ss++[(x,y,z)]:=by simp [X8]
 have ea:∀ a x,JD a 5 x=a:=fun a x=>by simp [JD]
 rw [ZJD,er,ec,ea,ea]
 have hrl:ls.length=ls.length:=rfl
 have hcl:(ss++[(x,y,z)]).length=ss.length+1:=by simp
 rw [ZFi hn hm x y z,RW]
 cases hg:Zog (ls) (ss++[(x,y,z)]) a b t (IntKind.i64.wrap (c+1)) with
 | false=>
  rw [Q8 (B0:=.cells [slL q1 ls.length c1,.int .i64 a,.int .i64 b,slS q2 ss.length c2,.int .i64 t,.int .i64 c] true) (B1:=.cells [.int .i64 5,.int .i64 x,.int .i64 y,.int .i64 z] true) (X3:=(.cells (Zm ls) true)) (X4:=.dead) (G:=[.cells [.int .i64 x,.int .i64 y,.int .i64 z] true,.cells (Zr (ss++[(x,y,z)])) true]) (n:=ls.length) (m:=ss.length+1) (ls:=ls) (ss:=ss++[(x,y,z)]) (a:=a) (b:=b) (t:=t) (c:=c) (j1:=3) (j2:=7) hrl hcl (by omega) (by omega) (fun _ _=>rfl) (fun _ _=>rfl) (by rw [hg,RX])]
  rw [ZdA _ _ _ _ _ _ _ _ _ _ _ _ _ (by first | rfl | simp [clean,Z7])]
  rw [if_neg (by simp)]
 | true=>
  rw [ZiU (B0:=.cells [slL q1 ls.length c1,.int .i64 a,.int .i64 b,slS q2 ss.length c2,.int .i64 t,.int .i64 c] true) (B1:=.cells [.int .i64 5,.int .i64 x,.int .i64 y,.int .i64 z] true) (X3:=(.cells (Zm ls) true)) (X4:=.dead) (G:=[.cells [.int .i64 x,.int .i64 y,.int .i64 z] true,.cells (Zr (ss++[(x,y,z)])) true]) (n:=ls.length) (m:=ss.length+1) (ls:=ls) (ss:=ss++[(x,y,z)]) (a:=a) (b:=b) (t:=t) (c:=c) (j1:=3) (j2:=7) hrl hcl (by omega) (by omega) (fun _ _=>rfl) (fun _ _=>rfl) (by omega) hg]
  rw [ZmB _ _ _ _ _ _ _ _ _ _ _ _ _ (by simp [clean,Z7]) hrl hcl (by decide) (fun _=>rfl) (fun _=>rfl),hrl,hcl]
  rfl
theorem ZFq (hp:Zdy pr) {q1 q2:Nat} {c1 c2:Option Nat} {ls:List Ld} {ss:List Sg} {a b t c:Int} (h1:Zb H q1=some (Zm ls)) (h2:Zb H q2=some (Zr ss)) (hn:ls.length≤1048575) (hm:ss.length≤1048575) (x y z:Int) (hv:Zog ls ss a b t c=true) :
  call T pr Xr [stV (slL q1 ls.length c1) a b (slS q2 ss.length c2) t c,tkV 6 x y z] ⟨H,e⟩ =
   ZgH H e (ZmA ls ss a b t c 6 x y z) (Zkv ls 6 x y) (X8 ss 6 x y z) (JD a 6 x) (JD b 6 y) (Zhc ls a b t 6 x y) (wr (c+1)):=by
 rw [ZgI h1 h2 hn hm 6 x y z hv,ZgJ hn hm 6 x y z]
 unfold ZgH ZmA Zhc wr
 have er:Zkv ls 6 x y=ls:=by simp [Zkv]
 have ec:X8 ss 6 x y z=ss.eraseIdx x.toNat:=by simp [X8]
 have ea:∀ a x,JD a 6 x=a:=fun a x=>by simp [JD]
 rw [ZJE,er,ec,ea,ea]
 cases hb:(decide (0≤x)&&decide (x≤(ss.length:Int) - 1)) with
 | false=>
  have hrl:ls.length=ls.length:=rfl
  have hcl:ss.length=ss.length:=rfl
  rw [ZC8 (isS:=false) hn hm x y z,RU,RU,RU]
  rw [Q8 (B0:=.cells [slL q1 ls.length c1,.int .i64 a,.int .i64 b,slS q2 ss.length c2,.int .i64 t,.int .i64 c] true) (B1:=.cells [.int .i64 6,.int .i64 x,.int .i64 y,.int .i64 z] true) (X3:=(.cells (Zm ls) true)) (X4:=(.cells (Zr ss) true)) (G:=[]) (n:=ls.length) (m:=ss.length) (ls:=ls) (ss:=ss) (a:=a) (b:=b) (t:=t) (c:=c) (j1:=3) (j2:=4) hrl hcl (by omega) (by omega) (fun _ _=>rfl) (fun _ _=>rfl) rfl]
  rw [ZdA _ _ _ _ _ _ _ _ _ _ _ _ _ (by first | rfl | simp [clean,Z7])]
  rw [if_neg (by simp)]
 | true=>
  have hbb:0≤x∧x≤(ss.length:Int) - 1:=by simpa using hb
  obtain ⟨i,rfl⟩:∃ i:Nat,x=i:=⟨x.toNat,by omega⟩
  have hi:i<ss.length:=by omega
  have hrl:ls.length=ls.length:=rfl
  have hcl:(ss.eraseIdx i).length=ss.length - 1:=by rw [RY,if_pos hi]
  rw [ZFj hp (isS:=false) hn hm hi y z,Int.toNat_natCast,RW]
  cases hz:(decide (y=0)&&decide (z=0)) with
  | false=>
   rw [RU]
   rw [Q8 (B0:=.cells [slL q1 ls.length c1,.int .i64 a,.int .i64 b,slS q2 ss.length c2,.int .i64 t,.int .i64 c] true) (B1:=.cells [.int .i64 6,.int .i64 i,.int .i64 y,.int .i64 z] true) (X3:=(.cells (Zm ls) true)) (X4:=.dead) (G:=[.dead,.cells (Zr (ss.eraseIdx i)) true]) (n:=ls.length) (m:=ss.length - 1) (ls:=ls) (ss:=ss.eraseIdx i) (a:=a) (b:=b) (t:=t) (c:=c) (j1:=3) (j2:=7) hrl hcl (by omega) (by omega) (fun _ _=>rfl) (fun _ _=>rfl) rfl]
   rw [ZdA _ _ _ _ _ _ _ _ _ _ _ _ _ (by first | rfl | simp [clean,Z7])]
   rw [if_neg (by simp)]
  | true=>
   rw [RW]
   cases hg:Zog (ls) (ss.eraseIdx i) a b t (IntKind.i64.wrap (c+1)) with
   | false=>
    rw [Q8 (B0:=.cells [slL q1 ls.length c1,.int .i64 a,.int .i64 b,slS q2 ss.length c2,.int .i64 t,.int .i64 c] true) (B1:=.cells [.int .i64 6,.int .i64 i,.int .i64 y,.int .i64 z] true) (X3:=(.cells (Zm ls) true)) (X4:=.dead) (G:=[.dead,.cells (Zr (ss.eraseIdx i)) true]) (n:=ls.length) (m:=ss.length - 1) (ls:=ls) (ss:=ss.eraseIdx i) (a:=a) (b:=b) (t:=t) (c:=c) (j1:=3) (j2:=7) hrl hcl (by omega) (by omega) (fun _ _=>rfl) (fun _ _=>rfl) (by rw [hg,RX])]
    rw [ZdA _ _ _ _ _ _ _ _ _ _ _ _ _ (by first | rfl | simp [clean,Z7])]
    rw [if_neg (by simp)]
   | true=>
    rw [ZiU (B0:=.cells [slL q1 ls.length c1,.int .i64 a,.int .i64 b,slS q2 ss.length c2,.int .i64 t,.int .i64 c] true) (B1:=.cells [.int .i64 6,.int .i64 i,.int .i64 y,.int .i64 z] true) (X3:=(.cells (Zm ls) true)) (X4:=.dead) (G:=[.dead,.cells (Zr (ss.eraseIdx i)) true]) (n:=ls.length) (m:=ss.length - 1) (ls:=ls) (ss:=ss.eraseIdx i) (a:=a) (b:=b) (t:=t) (c:=c) (j1:=3) (j2:=7) hrl hcl (by omega) (by omega) (fun _ _=>rfl) (fun _ _=>rfl) (by omega) hg]
    rw [ZmB _ _ _ _ _ _ _ _ _ _ _ _ _ (by simp [clean,Z7]) hrl hcl (by decide) (fun _=>rfl) (fun _=>rfl),hrl,hcl]
    rfl
theorem ZFr {q1 q2:Nat} {c1 c2:Option Nat} {ls:List Ld} {ss:List Sg} {a b t c:Int} (h1:Zb H q1=some (Zm ls)) (h2:Zb H q2=some (Zr ss)) (hn:ls.length≤1048575) (hm:ss.length≤1048575) (k x y z:Int) (hv:Zog ls ss a b t c=true) (k1:¬ k=1) (k2:¬ k=2) (k3:¬ k=3) (k4:¬ k=4) (k5:¬ k=5) (k6:¬ k=6) :
  call T pr Xr [stV (slL q1 ls.length c1) a b (slS q2 ss.length c2) t c,tkV k x y z] ⟨H,e⟩ =
   ZgH H e (ZmA ls ss a b t c k x y z) (Zkv ls k x y) (X8 ss k x y z) (JD a k x) (JD b k y) (Zhc ls a b t k x y) (wr (c+1)):=by
 rw [ZgI h1 h2 hn hm k x y z hv,ZgJ hn hm k x y z]
 unfold ZgH ZmA Zhc wr
 have em:Zss ls ss k x y z=false:=by simp [Zss,k1,k2,k3,k4,k5,k6]
 rw [em,RU,ZFk k x y z k1 k2 k3 k4 k5 k6]
 have hrl:ls.length=ls.length:=rfl
 have hcl:ss.length=ss.length:=rfl
 rw [Q8 (B0:=.cells [slL q1 ls.length c1,.int .i64 a,.int .i64 b,slS q2 ss.length c2,.int .i64 t,.int .i64 c] true) (B1:=.cells [.int .i64 k,.int .i64 x,.int .i64 y,.int .i64 z] true) (X3:=(.cells (Zm ls) true)) (X4:=(.cells (Zr ss) true)) (G:=[]) (n:=ls.length) (m:=ss.length) (ls:=ls) (ss:=ss) (a:=a) (b:=b) (t:=t) (c:=c) (j1:=3) (j2:=4) hrl hcl (by omega) (by omega) (fun _ _=>rfl) (fun _ _=>rfl) rfl]
 rw [ZdA _ _ _ _ _ _ _ _ _ _ _ _ _ (by first | rfl | simp [clean,Z7])]
 rw [if_neg (by simp)]
theorem ZC9 (hp:Zdy pr) {q1 q2:Nat} {c1 c2:Option Nat} {ls:List Ld} {ss:List Sg} {a b t c:Int} (h1:Zb H q1=some (Zm ls)) (h2:Zb H q2=some (Zr ss)) (hn:ls.length≤1048575) (hm:ss.length≤1048575) (k x y z:Int) (hv:Zog ls ss a b t c=true) :
  call T pr Xr [stV (slL q1 ls.length c1) a b (slS q2 ss.length c2) t c,tkV k x y z] ⟨H,e⟩ =
   ZgH H e (ZmA ls ss a b t c k x y z) (Zkv ls k x y) (X8 ss k x y z) (JD a k x) (JD b k y) (Zhc ls a b t k x y) (wr (c+1)):=by
 by_cases k1:k=1
 ·subst k1;exact ZFl h1 h2 hn hm x y z hv
 by_cases k2:k=2
 ·subst k2;exact ZFm hp h1 h2 hn hm x y z hv
 by_cases k3:k=3
 ·subst k3;exact ZFn h1 h2 hn hm x y z hv
 by_cases k4:k=4
 ·subst k4;exact ZFo h1 h2 hn hm x y z hv
 by_cases k5:k=5
 ·subst k5;exact ZFp h1 h2 hn hm x y z hv
 by_cases k6:k=6
 ·subst k6;exact ZFq hp h1 h2 hn hm x y z hv
 exact ZFr h1 h2 hn hm k x y z hv k1 k2 k3 k4 k5 k6
variable {pr : Zy} {H : List Blk} {e : Option Nat}
end Go.Proofs.YtemcdiajejekoaaGreatDoor.Slim
namespace Go.Proofs.YtemcdiajejekoaaGreatDoor.Slim
open Go
section
variable {T : Zhm} {pr : Zy} {H : List Blk} {e : Option Nat}
def Wp (r:Option (Ex×St)) (Q:Ex→St→Prop):Prop:=∃ ex st,r=some (ex,st)∧Q ex st
def Wc (r:Option (AV×Mem)) (Q:AV→Mem→Prop):Prop:=∃ v m,r=some (v,m)∧Q v m
theorem Wp.mono {r:Option (Ex×St)} {P Q:Ex→St→Prop} (h:Wp r P) (k:∀ ex st,P ex st→Q ex st):Wp r Q:=by
 obtain ⟨ex,st,h1,h2⟩:=h
 exact ⟨ex,st,h1,k _ _ h2⟩
theorem Wc.mono {r:Option (AV×Mem)} {P Q:AV→Mem→Prop} (h:Wc r P) (k:∀ v m,P v m→Q v m):Wc r Q:=by
 obtain ⟨v,m,h1,h2⟩:=h
 exact ⟨v,m,h1,k _ _ h2⟩
theorem Wc.eq {r:Option (AV×Mem)} {v:AV} {m:Mem} (h:Wc r fun v' m'=>v'=v∧m'=m):r=some (v,m):=by
 obtain ⟨_,_,h1,rfl,rfl⟩:=h
 exact h1
theorem Wc.of_eq {r:Option (AV×Mem)} {v:AV} {m:Mem} {Q:AV→Mem→Prop} (h:r=some (v,m)) (k:Q v m):Wc r Q:=⟨v,m,h,k⟩
@[congr] theorem ZKq {r r':Option (Ex×St)} {Q:Ex→St→Prop} (h:r=r'):Wp r Q=Wp r' Q:=by rw [h]
@[congr] theorem ZKr {r r':Option (AV×Mem)} {Q:AV→Mem→Prop} (h:r=r'):Wc r Q=Wc r' Q:=by rw [h]
theorem Zkh (ex:Ex) (st:St) (Q:Ex→St→Prop):Wp (some (ex,st)) Q=Q ex st:=by
 apply propext
 constructor
 ·rintro ⟨_,_,h1,h2⟩;cases h1;exact h2
 ·exact fun h=>⟨_,_,rfl,h⟩
theorem ZmC (Q:Ex→St→Prop):Wp none Q=False:=by
 apply propext
 constructor
 ·rintro ⟨_,_,h1,_⟩;cases h1
 ·exact False.elim
theorem ZHZ (c:Prop) [Decidable c] (a b:Option (Ex×St)) (Q:Ex→St→Prop):Wp (if c then a else b) Q=((c→Wp a Q)∧(¬ c→Wp b Q)):=by
 by_cases h:c <;> simp [h]
theorem ZzT (v:AV) (m:Mem) (Q:AV→Mem→Prop):Wc (some (v,m)) Q=Q v m:=by
 apply propext
 constructor
 ·rintro ⟨_,_,h1,h2⟩;cases h1;exact h2
 ·exact fun h=>⟨_,_,rfl,h⟩
theorem ZpX (Q:AV→Mem→Prop):Wc none Q=False:=by
 apply propext
 constructor
 ·rintro ⟨_,_,h1,_⟩;cases h1
 ·exact False.elim
theorem ZH0 (c:Prop) [Decidable c] (a b:Option (AV×Mem)) (Q:AV→Mem→Prop):Wc (if c then a else b) Q=((c→Wc a Q)∧(¬ c→Wc b Q)):=by
 by_cases h:c <;> simp [h]
def ZJF (f:St→Option (Ex×St)) (Q:Ex→St→Prop):Ex→St→Prop
 | .normal,st=>Wp (f st) Q
 | ex,st=>Q ex st
theorem ZpY (f:St→Option (Ex×St)) (Q:Ex→St→Prop) (st:St):ZJF f Q .normal st=Wp (f st) Q:=Eq.trans rfl rfl
theorem ZwK (f:St→Option (Ex×St)) (Q:Ex→St→Prop) (k:Nat) (st:St):ZJF f Q (.exit k) st=Q (.exit k) st:=Eq.trans rfl rfl
theorem ZAH (f:St→Option (Ex×St)) (Q:Ex→St→Prop) (st:St):ZJF f Q .ret st=Q .ret st:=Eq.trans rfl rfl
theorem ZmD (r:Option (Ex×St)) (f:St→Option (Ex×St)) (Q:Ex→St→Prop):Wp (ZeJ r f) Q=Wp r (ZJF f Q):=by
 cases r with
 | none=>simp only [ZmX,ZmC]
 | some p=>
  obtain ⟨ex,st⟩:=p
  cases ex <;> simp only [Zjg,ZoO,ZmW,Zkh,ZJF]
def ZHi (id:Nat) (Q:Ex→St→Prop):Ex→St→Prop
 | .exit k,st=>if k=id then Q .normal st else Q (.exit k) st
 | ex,st=>Q ex st
theorem ZpZ (id:Nat) (Q:Ex→St→Prop) (st:St):ZHi id Q .normal st=Q .normal st:=Eq.trans rfl rfl
theorem ZAI (id:Nat) (Q:Ex→St→Prop) (st:St):ZHi id Q .ret st=Q .ret st:=Eq.trans rfl rfl
theorem ZwL (id:Nat) (Q:Ex→St→Prop) (st:St):ZHi id Q (.exit id) st=Q .normal st:=by simp [ZHi]
theorem ZwM (id k:Nat) (Q:Ex→St→Prop) (st:St):ZHi id Q (.exit k) st=if k=id then Q .normal st else Q (.exit k) st:=Eq.trans rfl rfl
theorem Zst (id:Nat) (r:Option (Ex×St)) (Q:Ex→St→Prop):Wp (ZfD id r) Q=Wp r (ZHi id Q):=by
 cases r with
 | none=>simp only [ZmZ,ZmC]
 | some p=>
  obtain ⟨ex,st⟩:=p
  cases ex with
  | normal=>simp only [Zjh,Zkh,ZHi]
  | ret=>simp only [ZoP,Zkh,ZHi]
  | exit k=>by_cases h:k=id <;> simp only [ZmY,h,if_true,if_false,Zkh,ZHi]
def opQ (tm:List AV) (outs:List (Nat×Nat)) (f:AV→Mem→Option (List AV×Mem)) (Q:Ex→St→Prop):AV→Mem→Prop:=fun v m=>Wp (ZgX tm outs (f v m)) Q
theorem ZH1 (tm:List AV) (outs:List (Nat×Nat)) (f:AV→Mem→Option (List AV×Mem)) (Q:Ex→St→Prop) (v:AV) (m:Mem):opQ tm outs f Q v m=Wp (ZgX tm outs (f v m)) Q:=Eq.trans rfl rfl
theorem Zp0 (tm:List AV) (outs:List (Nat×Nat)) (r:Option (AV×Mem)) (f:AV→Mem→Option (List AV×Mem)) (Q:Ex→St→Prop) :
  Wp (ZgX tm outs (Za8 r f)) Q=Wc r (opQ tm outs f Q):=by
 cases r with
 | none=>simp only [ZpI,ZoQ,ZmC,ZpX]
 | some p=>
  obtain ⟨v,m⟩:=p
  simp only [ZpH,ZzT,opQ]
theorem ZwN (tm:List AV) (outs:List (Nat×Nat)) (p:Prop) [Decidable p] (r:Option (AV×Mem)) (m:Mem) (f:AV→Mem→Option (List AV×Mem)) (Q:Ex→St→Prop) :
  Wp (ZgX tm outs (Za9 p r m f)) Q=((p→Wc r (opQ tm outs f Q))∧(¬ p→Wp (ZgX tm outs (f (.tup []) m)) Q)):=by
 by_cases h:p
 ·simp only [h,ZpJ,Zp0,true_imp_iff,not_true_eq_false,false_imp_iff,and_true]
 ·simp only [h,Znk,not_false_eq_true,true_imp_iff,false_imp_iff,true_and]
def retQ (F:ZH) (m:Mem) (Q:AV→Mem→Prop):Ex→St→Prop
 | .exit _,_=>False
 | _,st=>Wc (ZoR F m st) Q
theorem Zp1 (F:ZH) (m:Mem) (Q:AV→Mem→Prop) (st:St):retQ F m Q .normal st=Wc (ZoR F m st) Q:=Eq.trans rfl rfl
theorem ZAJ (F:ZH) (m:Mem) (Q:AV→Mem→Prop) (st:St):retQ F m Q .ret st=Wc (ZoR F m st) Q:=Eq.trans rfl rfl
theorem ZDa (F:ZH) (m:Mem) (r:Option (Ex×St)) (Q:AV→Mem→Prop):Wc (Zbd F m r) Q=Wp r (retQ F m Q):=by
 cases r with
 | none=>simp only [Zm1,ZpX,ZmC]
 | some p=>
  obtain ⟨ex,st⟩:=p
  cases ex <;> simp only [Zji,ZoS,Zm0,ZpX,Zkh,retQ]
theorem Zs {f:FuncId} {F:ZH} (h:T f=some F) (args:List AV) (m:Mem) (Q:AV→Mem→Prop):Wc (call T pr f args m) Q=Wp (run T pr F.code ⟨entry F args,{ m with esc:=none }⟩) (retQ F m Q):=by
 rw [Zi h,ZDa]
abbrev ZrA (I:St→Prop) (st:St):Prop:=I st
@[congr] theorem ZIw {I:St→Prop} {st st':St} (h:st=st'):ZrA I st=ZrA I st':=by rw [h]
def ZHj (I:St→Prop) (Q:Ex→St→Prop):Ex→St→Prop
 | .normal,st=>ZrA I st
 | ex,st=>Q ex st
theorem Znr (I:St→Prop) (Q:Ex→St→Prop) (st:St):ZHj I Q .normal st=ZrA I st:=Eq.trans rfl rfl
theorem Zsu (I:St→Prop) (Q:Ex→St→Prop) (k:Nat) (st:St):ZHj I Q (.exit k) st=Q (.exit k) st:=Eq.trans rfl rfl
theorem ZwO (I:St→Prop) (Q:Ex→St→Prop) (st:St):ZHj I Q .ret st=Q .ret st:=Eq.trans rfl rfl
theorem ZM {b:Zf} {Q:Ex→St→Prop} (I:Nat→St→Prop) (hs:∀ k st,I k st→Wp (run T pr b st) (ZHj (fun st'=>∃ j,j<k∧I j st') Q)) :
  ∀ (n:Nat) (st:St),I n st→Wp (run T pr (.loop b) st) Q:=by
 intro n
 induction n using Nat.strongRecOn with
 | _ n ih=>
  intro st h
  rw [Zw,ZmD]
  refine (hs n st h).mono fun ex st' h' => ?_
  cases ex with
  | normal=>
   obtain ⟨j,hj,hI⟩:=h'
   exact ih j hj st' hI
  | exit k=>exact h'
  | ret=>exact h'
theorem ZhX (sz n o k:Nat) (c:Option Nat):AV.roots H.length (.slice (some (H.length+k,o)) sz n c)=[H.length+k]:=by simp [AV.roots]
theorem Zg4 (sz n o:Nat) (c:Option Nat):AV.roots H.length (.slice (some (H.length,o)) sz n c)=[H.length]:=by simp [AV.roots]
theorem Zg5 (lim sz n:Nat) (c:Option Nat):AV.roots lim (.slice none sz n c)=[]:=by simp [AV.roots]
theorem ZFs {lim b:Nat} (sz n o:Nat) (c:Option Nat) (h:b<lim):AV.roots lim (.slice (some (b,o)) sz n c)=[]:=by simp [AV.roots,h]
theorem Zly (o k:Nat):AV.roots H.length (.ptr (some (H.length+k,o)))=[H.length+k]:=by simp [AV.roots]
theorem Zjz (o:Nat):AV.roots H.length (.ptr (some (H.length,o)))=[H.length]:=by simp [AV.roots]
theorem ZwP (lim:Nat) (k:IntKind) (x:Int):AV.roots lim (.int k x)=[]:=by simp [AV.roots]
theorem Zsv (lim:Nat) (x:Bool):AV.roots lim (.bool x)=[]:=by simp [AV.roots]
theorem ZwQ (lim:Nat) (x:ByteArray):AV.roots lim (.str x)=[]:=by simp [AV.roots]
theorem ZwR (lim:Nat) (cs:List AV):AV.roots lim (.agg cs)=AV.roots.go lim cs:=by simp [AV.roots]
theorem ZwS (lim:Nat) (cs:List AV):AV.roots lim (.tup cs)=AV.roots.go lim cs:=by simp [AV.roots]
theorem Zsw (lim:Nat) (c:AV) (cs:List AV):AV.roots.go lim (c::cs)=AV.roots lim c++AV.roots.go lim cs:=by simp [AV.roots.go]
theorem ZwT (lim:Nat):AV.roots.go lim []=[]:=by simp [AV.roots.go]
theorem Zns (f:Nat→Nat) (b o sz n:Nat) (c:Option Nat):AV.rename f (.slice (some (b,o)) sz n c)=.slice (some (f b,o)) sz n c:=by simp [AV.rename]
theorem Zfl (f:Nat→Nat) (sz n:Nat) (c:Option Nat):AV.rename f (.slice none sz n c)=.slice none sz n c:=by simp [AV.rename]
theorem Zsx (f:Nat→Nat) (b o:Nat):AV.rename f (.ptr (some (b,o)))=.ptr (some (f b,o)):=by simp [AV.rename]
theorem Zsy (f:Nat→Nat) (k:IntKind) (x:Int):AV.rename f (.int k x)=.int k x:=by simp [AV.rename]
theorem Zp2 (f:Nat→Nat) (x:Bool):AV.rename f (.bool x)=.bool x:=by simp [AV.rename]
theorem Zsz (f:Nat→Nat) (x:ByteArray):AV.rename f (.str x)=.str x:=by simp [AV.rename]
theorem ZsA (f:Nat→Nat) (cs:List AV):AV.rename f (.agg cs)=.agg (AV.rename.go f cs):=by simp [AV.rename]
theorem ZsB (f:Nat→Nat) (cs:List AV):AV.rename f (.tup cs)=.tup (AV.rename.go f cs):=by simp [AV.rename]
theorem Zp3 (f:Nat→Nat) (c:AV) (cs:List AV):AV.rename.go f (c::cs)=AV.rename f c::AV.rename.go f cs:=by simp [AV.rename.go]
theorem ZsC (f:Nat→Nat):AV.rename.go f []=[]:=by simp [AV.rename.go]
def ZgK (L:List Blk) (rs:List Nat):List Blk:=rs.map fun b=>(L[b]?).getD .dead
theorem Znt (L:List Blk):ZgK L []=[]:=Eq.trans rfl rfl
theorem Zlz (L:List Blk) (b:Nat) (rs:List Nat):ZgK L (b::rs)=(L[b]?).getD .dead::ZgK L rs:=Eq.trans rfl rfl
def Zki (lim:Nat) (L:List Blk) (rs:List Nat):Bool:=rs.all fun b=>Y5 lim L[b]?
theorem Zp4 (lim:Nat) (L:List Blk):Zki lim L []=true:=Eq.trans rfl rfl
theorem Znu (lim:Nat) (L:List Blk) (b:Nat) (rs:List Nat):Zki lim L (b::rs)=(Y5 lim L[b]?&&Zki lim L rs):=Eq.trans rfl rfl
theorem ZlA (lim:Nat) (cs:List AV) (w:Bool):Y5 lim (some (.cells cs w))=cs.all fun c=>c.under lim:=Eq.trans rfl rfl
theorem ZlB (G:List Blk) (e0 e1:Option Nat) (v:AV):finish 2 H.length e0 v ⟨H++G,e1⟩ =
  if clean H.length e1=true∧Zki H.length (H++G) (XQ (v.roots H.length))=true then some (v.rename (ZbT H.length (XQ (v.roots H.length))),⟨H++ZgK (H++G) (XQ (v.roots H.length)),e0⟩) else none:=by
 unfold finish ZgK Zki
 simp
theorem ZjA (e0 e1:Option Nat) (v:AV):finish 2 H.length e0 v ⟨H,e1⟩ =
  if clean H.length e1=true∧Zki H.length H (XQ (v.roots H.length))=true then some (v.rename (ZbT H.length (XQ (v.roots H.length))),⟨H++ZgK H (XQ (v.roots H.length)),e0⟩) else none:=by
 unfold finish ZgK Zki
 simp
theorem ZgL (G:List Blk) (e0 e1:Option Nat) (v:AV):finish 1 H.length e0 v ⟨H++G,e1⟩=if v.under H.length=true∧clean H.length e1=true then some (v,⟨H,e0⟩) else none:=by
 unfold finish
 simp
theorem ZjB (e0 e1:Option Nat) (v:AV):finish 1 H.length e0 v ⟨H,e1⟩=if v.under H.length=true∧clean H.length e1=true then some (v,⟨H,e0⟩) else none:=by
 unfold finish
 simp
theorem ZwU:XQ []=[]:=Eq.trans rfl rfl
theorem ZwV (b:Nat):XQ [b]=[b]:=Eq.trans rfl rfl
theorem ZwW (a b:Nat):XQ [a,b]=if a=b then [a] else [a,b]:=by
 by_cases h:a=b
 ·simp [XQ,h]
 ·have:¬ b=a:=fun h'=>h h'.symm
  simp [XQ,h,this]
theorem ZJG {lim b:Nat} (rs:List Nat) (h:b<lim):ZbT lim rs b=b:=by simp [ZbT,h]
theorem ZwX (k:Nat):ZbT H.length [H.length+k] (H.length+k)=H.length:=by
 have h1:¬ H.length+k<H.length:=by omega
 simp only [ZbT,h1,if_false,List.idxOf_cons_self,Nat.add_zero]
theorem ZsD:ZbT H.length [H.length] H.length=H.length:=by simp [ZbT]
theorem ZsE {a b:Nat} (h:H.length≤a):ZbT H.length [a,b] a=H.length:=by
 have h1:¬ a<H.length:=by omega
 simp [ZbT,h1]
theorem ZsF {a b:Nat} (h:H.length≤b) (hne:a≠b):ZbT H.length [a,b] b=H.length+1:=by
 have h1:¬ b<H.length:=by omega
 have h2:(a==b)=false:=by simpa using hne
 simp [ZbT,h1,h2,List.idxOf_cons]
theorem Yv {α:Type} {L:List α} {j:Nat} {b:α} (h:L[j]?=some b) (X:List α):(L++X)[j]?=some b:=by
 rw [List.getElem?_append_left (List.getElem?_eq_some_iff.mp h).1];exact h
theorem Zg {L:List Blk} {j:Nat} {cs:List AV} {w:Bool} (h:L[j]?=some (.cells cs w)):Zb L j=some cs:=by
 unfold Zb;rw [h]
theorem ZgM (n:Nat):clean n none=true:=Eq.trans rfl rfl
theorem Zaj (n k:Nat):clean n (some k)=decide (n≤k):=Eq.trans rfl rfl
theorem ZJH (c:Prop) [Decidable c] (n:Nat) (a b:Option Nat):clean n (if c then a else b)=if c then clean n a else clean n b:=by split <;> rfl
theorem Zkj (b:Nat):Z7 none b=some b:=Eq.trans rfl rfl
theorem Zkk (a b:Nat):Z7 (some a) b=some (min a b):=Eq.trans rfl rfl
end
theorem pp:type_of% @Zkh∧type_of% @ZmC∧type_of% @ZHZ∧type_of% @ZzT∧type_of% @ZpX∧type_of% @ZH0∧type_of% @ZmD∧type_of% @ZpY∧type_of% @ZwK∧type_of% @ZAH∧type_of% @Zst∧type_of% @ZpZ∧type_of% @ZAI∧type_of% @ZwL∧type_of% @ZwM∧type_of% @Zp0∧type_of% @ZH1∧type_of% @ZwN∧type_of% @Zp1∧type_of% @ZAJ∧type_of% @Znr∧type_of% @Zsu∧type_of% @ZwO:=⟨@Zkh,@ZmC,@ZHZ,@ZzT,@ZpX,@ZH0,@ZmD,@ZpY,@ZwK,@ZAH,@Zst,@ZpZ,@ZAI,@ZwL,@ZwM,@Zp0,@ZH1,@ZwN,@Zp1,@ZAJ,@Znr,@Zsu,@ZwO⟩
theorem ff:type_of% @ZgL∧type_of% @ZjB∧type_of% @ZlB∧type_of% @ZjA∧type_of% @ZhX∧type_of% @Zg4∧type_of% @Zg5∧type_of% @Zly∧type_of% @Zjz∧type_of% @ZwP∧type_of% @Zsv∧type_of% @ZwQ∧type_of% @ZwR∧type_of% @ZwS∧type_of% @Zsw∧type_of% @ZwT∧type_of% @Zns∧type_of% @Zfl∧type_of% @Zsx∧type_of% @Zsy∧type_of% @Zp2∧type_of% @Zsz∧type_of% @ZsA∧type_of% @ZsB∧type_of% @Zp3∧type_of% @ZsC∧type_of% @Znt∧type_of% @Zlz∧type_of% @Zp4∧type_of% @Znu∧type_of% @ZlA∧type_of% @ZwU∧type_of% @ZwV∧type_of% @ZwW∧type_of% @ZwX∧type_of% @ZsD∧type_of% @ZsE∧type_of% @ZsF∧type_of% @ZgM∧type_of% @Zaj∧type_of% @Zkj∧type_of% @Zkk∧type_of% @Nat.add_left_cancel_iff∧type_of% @Nat.le_add_right∧type_of% @Nat.le_refl∧type_of% @decide_true:=⟨@ZgL,@ZjB,@ZlB,@ZjA,@ZhX,@Zg4,@Zg5,@Zly,@Zjz,@ZwP,@Zsv,@ZwQ,@ZwR,@ZwS,@Zsw,@ZwT,@Zns,@Zfl,@Zsx,@Zsy,@Zp2,@Zsz,@ZsA,@ZsB,@Zp3,@ZsC,@Znt,@Zlz,@Zp4,@Znu,@ZlA,@ZwU,@ZwV,@ZwW,@ZwX,@ZsD,@ZsE,@ZsF,@ZgM,@Zaj,@Zkj,@Zkk,@Nat.add_left_cancel_iff,@Nat.le_add_right,@Nat.le_refl,@decide_true⟩
end Go.Proofs.YtemcdiajejekoaaGreatDoor.Slim
namespace Go.Proofs.YtemcdiajejekoaaGreatDoor.Slim
open Go
variable {pr : Zy} {H : List Blk} {e : Option Nat}
def ZAK {α:Type} (f:α→List AV):List α→List AV
 | []=>[]
 | x::xs=>f x++ZAK f xs
section
variable {α : Type} {f : α → List AV} {k : Nat}
theorem Zkl:∀ a b:List α,ZAK f (a++b)=ZAK f a++ZAK f b
 | [],b=>rfl
 | x::a,b=>by rw [List.cons_append,ZAK,ZAK,Zkl a b,List.append_assoc]
theorem Zkm (hf:∀ x,(f x).length=k):∀ xs:List α,(ZAK f xs).length=xs.length*k
 | []=>by simp [ZAK]
 | x::xs=>by rw [ZAK,List.length_append,hf,Zkm hf xs,List.length_cons,Nat.add_mul,Nat.one_mul,Nat.add_comm]
theorem ZwY {cs:List AV} {o:Nat} (v:AV) (h:o<cs.length):ZN cs o [v]=cs.set o v:=by
 unfold ZN
 rw [List.set_eq_take_append_cons_drop,if_pos h]
 simp
theorem JE (hf:∀ (x:α) (n:Nat),((f x).all fun c=>c.under n)=true) (n:Nat):∀ xs:List α,((ZAK f xs).all fun c=>c.under n)=true
 | []=>rfl
 | x::xs=>by rw [ZAK,List.all_append,hf,JE hf n xs];rfl
end
structure Sd where
 ls:List Ld
 ss:List Sg
 a:Int
 b:Int
 t:Int
 c:Int
def Sd.ok (s:Sd):Bool:=Zog s.ls s.ss s.a s.b s.t s.c
end Go.Proofs.YtemcdiajejekoaaGreatDoor.Slim
