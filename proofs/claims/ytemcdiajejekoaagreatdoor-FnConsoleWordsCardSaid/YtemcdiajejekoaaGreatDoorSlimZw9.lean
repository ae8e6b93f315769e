/- Parts of the proof. -/
import Derived.Test.YtemcdiajejekoaaGreatDoorSlimZw8
import Derived.WalkKit
import Derived.ProofKit
import Derived.OpenShut
import Derived.Below
import Derived.Carry
import Derived.Deep.Slices
import Derived.Deep.Fields
import Derived.ChangeSame
import Derived.Lib.SmallJoins
set_option linter.unusedSimpArgs false
set_option linter.unusedVariables false
namespace Go.Proofs.YtemcdiajejekoaaGreatDoor.Slim
open Go Go.Deep Go.RowKit
structure Zf8 (ι:Emb) (H:List Blk) (w:World):Prop where
 rel:Rel ι ⟨H,none⟩ w
 ro:∀ (b:Nat) (k:Blk),H[b]?=some k→¬ k.wrt
 nomp:∀ (b:Nat) es,H[b]?≠some (.mp es)
def Zia (w:World):Prop:=∀ p,p∈ZcP→p.1<w.heap.size∧∃ cs e fz,w.heap[p.1]?=some (.cells cs e fz)∧p.2 cs
theorem Zia.no (w:World) (h:ZcP=[]):Zia w:=fun p hp=>by rw [h] at hp;cases hp
theorem Zia.glob {w:World} (h:Zia w) {ι:Emb} {H:List Blk} (hro:∀ (b:Nat) (k:Blk),H[b]?=some k→¬ k.wrt):ZxN ι ⟨H,none⟩ w:=fun p hp=>
 ⟨(h p hp).1,fun ⟨b,k,d,hb,hk,_⟩=>hro b k hb hk,(h p hp).2⟩
theorem Zf8.nil {w:World} (g:Zia w):Zf8 [] [] w :=
 ⟨⟨⟨rfl,fun b c d h=>by simp at h,fun b cs wr h=>by simp at h,fun b es h=>by simp at h,fun b b' k k' c d c' d' _ h=>by simp at h⟩,g.glob fun b k h=>by simp at h⟩,fun b k h=>by simp at h,fun b es h=>by simp at h⟩
theorem Zf8.add {ι:Emb} {H:List Blk} {w:World} (O:Zf8 ι H w) {c d:Nat} {k:IntKind} {zs:List Int} (hc:c<w.heap.size) (h:∀ j z,zs[j]?=some z→w.cell? ⟨c,d+j,none⟩=some (.int k z)) :
  Zf8 (ι++[some (c,d)]) (H++[.cells (zs.map (AV.int k)) false]) w:=by
 have hle:Emb.le ι (ι++[some (c,d)]):=fun b p hb=>by
  rw [List.getElem?_append_left];exact hb
  exact (List.getElem?_eq_some_iff.mp hb).1
 have hro:∀ (b:Nat) (kb:Blk),(H++[Blk.cells (zs.map (AV.int k)) false])[b]?=some kb→¬ kb.wrt:=by
  intro b kb hb
  rw [List.getElem?_append] at hb
  split at hb
  ·exact O.ro b kb hb
  ·have:b - H.length=0:=by
    have:=(List.getElem?_eq_some_iff.mp hb).1
    simp at this;omega
   rw [this] at hb
   simp at hb
   subst hb
   intro h
   cases h
 have hmp:∀ (b:Nat) es,(H++[Blk.cells (zs.map (AV.int k)) false])[b]?≠some (.mp es):=fun b es hb=>hro b _ hb trivial
 have hg:Zia w:=fun p hp=>⟨(O.rel.glob p hp).1,(O.rel.glob p hp).2.2⟩
 refine ⟨⟨⟨by simp [O.rel.len],?_,?_,fun b es hb=>absurd hb (hmp b es),fun b b' k k' c d c' d' _ hb hk=>absurd hk (hro b k hb)⟩,hg.glob hro⟩,hro,hmp⟩
 ·intro b c' d' hb
  rw [List.getElem?_append] at hb
  split at hb
  ·exact O.rel.low b c' d' hb
  ·have:b - ι.length=0:=by
    have:=(List.getElem?_eq_some_iff.mp hb).1
    simp at this;omega
   rw [this] at hb
   simp at hb
   rw [←hb.1];exact hc
 ·intro b cs wr hb
  have hl:=O.rel.len
  simp only [] at hl
  simp only [List.getElem?_append] at hb
  split at hb
  ·obtain ⟨c',d',h1,h2⟩:=O.rel.at' b cs wr hb
   refine ⟨c',d',hle _ _ h1,?_,h2.cell,h2.free⟩
   obtain ⟨vs,v1,v2⟩:=h2.vals
   exact ⟨vs,VL.mono hle (YJ.refl w) _ _ v1,v2⟩
  ·rename_i hlt
   have h0:b - H.length=0:=by
    have:=(List.getElem?_eq_some_iff.mp hb).1
    simp at this;omega
   have hbe:b=ι.length:=by omega
   rw [h0] at hb
   simp at hb
   obtain ⟨rfl,rfl⟩:=hb
   refine ⟨c,d,by rw [hbe];simp,⟨zs.map (Value.int k),VL.map_of zs (fun x _=>rfl),?_⟩,?_,fun e=>by cases e⟩
   ·intro j v hj
    rw [List.getElem?_map,Option.map_eq_some_iff] at hj
    obtain ⟨z,hz,rfl⟩:=hj
    exact h j z hz
   ·simp [AV.isCell]
def Zoy (H:List Blk) (av:AV) (k:IntKind) (nf:Nat) (es:List (List Int)):Prop :=
 (∀ e∈es,e.length=nf∧∀ z∈e,(Lit.int k z).wf=true) ∧
 ((av=Kp∧es=[])∨∃ b cap,av=.slice (some (b,0)) nf es.length (some cap)∧es.length≤cap∧cap≤maxLen∧H[b]?=some (.cells (es.flatten.map (AV.int k)) false))
theorem Zoy.more {H:List Blk} {av:AV} {k:IntKind} {nf:Nat} {es:List (List Int)} (h:Zoy H av k nf es) (G:List Blk):Zoy (H++G) av k nf es:=by
 refine ⟨h.1,?_⟩
 rcases h.2 with h | ⟨b,cap,h1,h2,h3,h4⟩
 ·exact .inl h
 ·refine .inr ⟨b,cap,h1,h2,h3,?_⟩
  rw [List.getElem?_append_left (List.getElem?_eq_some_iff.mp h4).1]
  exact h4
theorem Zmb {w:World} {c nf:Nat} {k:IntKind}:∀ (es:List (List Int)) (x:Nat),(∀ e∈es,e.length=nf) →
  (∀ i e,es[i]?=some e→∀ j z,e[j]?=some z→w.cell? ⟨c,x+i*nf+j,none⟩=some (.int k z))→∀ q z,es.flatten[q]?=some z→w.cell? ⟨c,x+q,none⟩=some (.int k z)
 | [],x,_,_,q,z,h=>by simp at h
 | e::es,x,hl,hc,q,z,h=>by
  have he:=hl e (by simp)
  rw [List.flatten_cons,List.getElem?_append] at h
  split at h
  ·have:=hc 0 e rfl q z h
   rw [Nat.zero_mul,Nat.add_zero] at this
   exact this
  ·have:=Zmb es (x+nf) (fun e' h'=>hl e' (by simp [h'])) (fun i e' hi j z' hj=>by
    have:=hc (i+1) e' (by simpa using hi) j z' hj
    rw [show x+nf+i*nf+j=x+(i+1)*nf+j by rw [Nat.add_mul];omega]
    exact this) (q - e.length) z h
   rw [show x+nf+(q - e.length)=x+q by omega] at this
   exact this
section
variable {T : Type} {enc : TypeId × Value → T} {P : Program} {w : World} {spare : Nat → Bool} {held : Bool}
def Zzj (enc:TypeId×Value→T) (P:Program) (w:World) (spare:Nat→Bool) (held:Bool) (k:IntKind) (e:TypeId):Prop :=
 ∀ n cs y,DataW.trod enc P w 0 spare held n e cs=some y→∃ zs:List Int,cs=zs.map (Value.int k)∧∀ z∈zs,(Lit.int k z).wf=true
theorem Ztc {k:IntKind} {e:TypeId} (he:P.underlying e=some (.int k)):Zzj enc P w spare held k e:=by
 intro n cs y h
 obtain ⟨z,rfl,_,hz⟩:=DataW.trod_int he h
 exact ⟨[z],rfl,fun x hx=>by simp at hx;subst hx;exact hz⟩
theorem Zvk {a:Addr} (h:a.spot=none):a=⟨a.block,a.off,none⟩:=by cases a;simp at h;subst h;rfl
theorem ZAT {r:Reach} {b0:Nat} {t e:TypeId} {a:Addr} {len cap:Nat} (ht:P.underlying t=some (.slice e)) (hv:Cell.okWide P w r b0 t (.slice (some a) len cap)):a.spot=none∧∃ row M,w.shape? a.block=some (row,M):=by
 unfold Cell.okWide at hv
 simp only [ht] at hv
 unfold Cell.ok at hv
 simp only [ht] at hv
 obtain ⟨_,_,_,h1,row,M,h2,_⟩:=hv
 exact ⟨h1,row,M,h2⟩
theorem Zyb {ι:Emb} {H:List Blk} (O:Zf8 ι H w) {r:Reach} {b0:Nat} {t e:TypeId} {k:IntKind} {nf:Nat} (ht:P.underlying t=some (.slice e)) (hC:P.cellsOf e=nf) (hpos:0<nf)
  (hel:Zzj enc P w (fun _=>true) held k e) {v:Value} (hv:Cell.okWide P w r b0 t v) {fuel:Nat} {x:DataW T×List MemPlace} (h:DataW.trod enc P w 0 (fun _=>true) held fuel t [v]=some x) :
  ∃ ι2 H2 av es,Zf8 (ι++ι2) (H++H2) w∧V (ι++ι2) w av v∧Zoy (H++H2) av k nf es:=by
 rcases Deep.open_slice ht h with ⟨h0,_⟩|⟨a,len,cap,m,n,D,Pl,hcs,_,hl,hm,hmm,_,hi⟩
 ·cases h0
  exact ⟨[],[],Kp,[],by simpa using O,⟨rfl,rfl⟩,⟨fun e h=>by simp at h,.inl ⟨rfl,rfl⟩⟩⟩
 ·cases hcs
  obtain ⟨hs,row,M,hM⟩:=ZAT ht hv
  simp only [if_true] at hmm
  subst hmm
  rw [hC] at hi
  have key:∀ i,i<m→∃ zs:List Int,zs.length=nf∧(∀ z∈zs,(Lit.int k z).wf=true)∧∀ j z,zs[j]?=some z→w.cell? ⟨a.block,a.off+i*nf+j,none⟩=some (.int k z):=by
   intro i him
   obtain ⟨cs',c1,c2⟩:=hi i him
   obtain ⟨zs,rfl,z2⟩:=hel _ _ _ c2
   obtain ⟨_,d1,d2⟩:=World.cells?_some c1
   rw [List.length_map] at d1
   refine ⟨zs,d1,z2,fun j z hj => ?_⟩
   have hjl:j<nf:=by rw [←d1];exact (List.getElem?_eq_some_iff.mp hj).1
   have:=d2 j hjl
   rw [List.getElem?_map,hj] at this
   have h3:w.cell? ((a.add (i*nf)).add j)=some (Value.int k z):=this
   rw [←h3]
   congr 1
   rw [Zvk hs]
   unfold Addr.add
   by_cases h1:i*nf=0 <;> by_cases h2:j=0 <;> simp [h1,h2]
  have pick:∃ f:Nat→List Int,∀ i,i<m→(f i).length=nf∧(∀ z∈f i,(Lit.int k z).wf=true)∧∀ j z,(f i)[j]?=some z→w.cell? ⟨a.block,a.off+i*nf+j,none⟩=some (.int k z):=by
   refine ⟨fun i=>if h:i<m then (key i h).choose else [],fun i him => ?_⟩
   simp only [him,dif_pos]
   exact (key i him).choose_spec
  obtain ⟨f,hf⟩:=pick
  let es:=(List.range len).map f
  have hes:∀ i e,es[i]?=some e→i<len∧e=f i:=by
   intro i e hi
   simp only [es,List.getElem?_map,Option.map_eq_some_iff] at hi
   obtain ⟨i',h1,h2⟩:=hi
   have hlt:=(List.getElem?_eq_some_iff.mp h1).1
   simp at hlt
   rw [List.getElem?_range hlt] at h1
   cases h1
   exact ⟨hlt,h2.symm⟩
  have hlen:∀ e∈es,e.length=nf∧∀ z∈e,(Lit.int k z).wf=true:=by
   intro e he
   obtain ⟨i,hi⟩:=List.getElem?_of_mem he
   obtain ⟨h1,rfl⟩:=hes i e hi
   exact ⟨(hf i (by omega)).1,(hf i (by omega)).2.1⟩
  have hcells:=Zmb (w:=w) (c:=a.block) (k:=k) es a.off (fun e he=>(hlen e he).1) (fun i e hi j z hj=>by
   obtain ⟨h1,rfl⟩:=hes i e hi
   exact (hf i (by omega)).2.2 j z hj)
  have hblk:a.block<w.heap.size:=by
   unfold World.shape? at hM
   cases hh:w.heap[a.block]? with
   | none=>rw [hh] at hM;cases hM
   | some o=>exact (Array.getElem?_eq_some_iff.mp hh).1
  have O':=O.add (d:=a.off) hblk hcells
  have hll:es.length=len:=by simp [es]
  refine ⟨[some (a.block,a.off)],[.cells (es.flatten.map (AV.int k)) false],.slice (some (H.length,0)) nf es.length (some m),es,O',?_,hlen,.inr ⟨H.length,m,rfl,by omega,hm,by simp⟩⟩
  refine ⟨a.block,a.off,a.off,m,row,M,?_,?_,by omega,.inl rfl,hM,?_,fun q hq=>by cases hq;rfl⟩
  ·have:=O.rel.len
   simp only [] at this
   rw [←this]
   simp
  ·rw [hll,←Zvk hs]
  ·rcases Nat.eq_zero_or_pos m with h0 | h0
   ·exact .inl h0
   ·right
    obtain ⟨f1,_,f3⟩:=hf (m - 1) (by omega)
    have hz:(f (m - 1))[nf - 1]?=some ((f (m - 1))[nf - 1]'(by omega)):=List.getElem?_eq_getElem (by omega)
    have:=Zhh hM (f3 _ _ hz)
    have h2:m*nf=(m - 1)*nf+nf:=by
     conv=>lhs;rw [show m=(m - 1)+1 by omega]
     rw [Nat.add_mul,Nat.one_mul]
    omega
end
theorem Zyc {P:Program} {T:Zd0} {pr:Zq} (hm:P.follows .mixedOrders=true) (hT:Zhn P T) (hpr:Zm6 P pr) {f:FuncId} {avs:List AV} {args:List Value} {ι:Emb} {H:List Blk} {W:World}
  (O:Zf8 ι H W) (hv:VL ι W avs args) {m':Mem} (hcall:call T pr f avs ⟨H,none⟩=some (.bool true,m')) :
  Calls P f args.toArray W fun e W'=>e=.returned (.bool true)∧Below W.heap.size W W':=by
 obtain ⟨_,h⟩:=ZBZ hm hT hpr f avs ⟨H,none⟩ (.bool true) m' ι W args hcall O.rel hv
 refine h.mono ?_
 rintro e W' ⟨ι',v',rfl,h1,h2,h3⟩
 cases h1
 refine ⟨rfl,h3.os,h3.tape,h3.output,h3.size,fun r hr=>h3.frame r hr ?_⟩
 rintro ⟨b,k,d,hb,hk,_⟩
 exact O.ro b k hb hk
end Go.Proofs.YtemcdiajejekoaaGreatDoor.Slim
namespace Go.Proofs.YtemcdiajejekoaaGreatDoor.Slim
open Go Go.Deep Go.RowKit Go.WideShapes Go.Joins
theorem Zoy.cell {H:List Blk} {av:AV} {k:IntKind} {nf:Nat} {es:List (List Int)} (h:Zoy H av k nf es):av.isCell=true:=by
 rcases h.2 with ⟨rfl,_⟩|⟨b,cap,rfl,_⟩ <;> rfl
section
variable {T : Type} {enc : TypeId × Value → T} {P : Program} {w : World} {spare : Nat → Bool} {held : Bool}
end
end Go.Proofs.YtemcdiajejekoaaGreatDoor.Slim
