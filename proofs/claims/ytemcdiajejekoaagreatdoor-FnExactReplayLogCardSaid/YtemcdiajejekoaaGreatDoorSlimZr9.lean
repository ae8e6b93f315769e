/- Parts of the proof. -/
import Derived.Test.YtemcdiajejekoaaGreatDoorSlimZr8
import Derived.WalkKit
import Derived.ProofKit
import Derived.OpenShut
import Derived.Below
import Derived.Carry
import Derived.Deep.Slices
import Derived.Deep.Fields
import Derived.ChangeSame
import Derived.Lib.SmallJoins
set_option linter.unusedSimpArgs false
set_option linter.unusedVariables false
namespace Go.Proofs.YtemcdiajejekoaaGreatDoor.Slim
open Go Go.Deep Go.RowKit
structure Zkr (ι:Emb) (H:List Blk) (w:World):Prop where
 rel:Rel ι ⟨H,none⟩ w
 ro:∀ (b:Nat) (k:Blk),H[b]?=some k→¬ k.wrt
 nomp:∀ (b:Nat) es,H[b]?≠some (.mp es)
def ZmQ (w:World):Prop:=∀ p,p∈Zfs→p.1<w.heap.size∧∃ cs e fz,w.heap[p.1]?=some (.cells cs e fz)∧p.2 cs
theorem ZmQ.no (w:World) (h:Zfs=[]):ZmQ w:=fun p hp=>by rw [h] at hp;cases hp
theorem ZmQ.glob {w:World} (h:ZmQ w) {ι:Emb} {H:List Blk} (hro:∀ (b:Nat) (k:Blk),H[b]?=some k→¬ k.wrt):ZF0 ι ⟨H,none⟩ w:=fun p hp=>
 ⟨(h p hp).1,fun ⟨b,k,d,hb,hk,_⟩=>hro b k hb hk,(h p hp).2⟩
theorem Zkr.nil {w:World} (g:ZmQ w):Zkr [] [] w :=
 ⟨⟨⟨rfl,fun b c d h=>by simp at h,fun b cs wr h=>by simp at h,fun b es h=>by simp at h,fun b b' k k' c d c' d' _ h=>by simp at h⟩,g.glob fun b k h=>by simp at h⟩,fun b k h=>by simp at h,fun b es h=>by simp at h⟩
theorem Zkr.add {ι:Emb} {H:List Blk} {w:World} (O:Zkr ι H w) {c d:Nat} {k:IntKind} {zs:List Int} (hc:c<w.heap.size) (h:∀ j z,zs[j]?=some z→w.cell? ⟨c,d+j,none⟩=some (.int k z)) :
  Zkr (ι++[some (c,d)]) (H++[.cells (zs.map (AV.int k)) false]) w:=by
 have hle:Emb.le ι (ι++[some (c,d)]):=fun b p hb=>by
  rw [List.getElem?_append_left];exact hb
  exact (List.getElem?_eq_some_iff.mp hb).1
 have hro:∀ (b:Nat) (kb:Blk),(H++[Blk.cells (zs.map (AV.int k)) false])[b]?=some kb→¬ kb.wrt:=by
  intro b kb hb
  rw [List.getElem?_append] at hb
  split at hb
  ·exact O.ro b kb hb
  ·have:b - H.length=0:=by
    have:=(List.getElem?_eq_some_iff.mp hb).1
    simp at this;omega
   rw [this] at hb
   simp at hb
   subst hb
   intro h
   cases h
 have hmp:∀ (b:Nat) es,(H++[Blk.cells (zs.map (AV.int k)) false])[b]?≠some (.mp es):=fun b es hb=>hro b _ hb trivial
 have hg:ZmQ w:=fun p hp=>⟨(O.rel.glob p hp).1,(O.rel.glob p hp).2.2⟩
 refine ⟨⟨⟨by simp [O.rel.len],?_,?_,fun b es hb=>absurd hb (hmp b es),fun b b' k k' c d c' d' _ hb hk=>absurd hk (hro b k hb)⟩,hg.glob hro⟩,hro,hmp⟩
 ·intro b c' d' hb
  rw [List.getElem?_append] at hb
  split at hb
  ·exact O.rel.low b c' d' hb
  ·have:b - ι.length=0:=by
    have:=(List.getElem?_eq_some_iff.mp hb).1
    simp at this;omega
   rw [this] at hb
   simp at hb
   rw [←hb.1];exact hc
 ·intro b cs wr hb
  have hl:=O.rel.len
  simp only [] at hl
  simp only [List.getElem?_append] at hb
  split at hb
  ·obtain ⟨c',d',h1,h2⟩:=O.rel.at' b cs wr hb
   refine ⟨c',d',hle _ _ h1,?_,h2.cell,h2.free⟩
   obtain ⟨vs,v1,v2⟩:=h2.vals
   exact ⟨vs,VL.mono hle (YP.refl w) _ _ v1,v2⟩
  ·rename_i hlt
   have h0:b - H.length=0:=by
    have:=(List.getElem?_eq_some_iff.mp hb).1
    simp at this;omega
   have hbe:b=ι.length:=by omega
   rw [h0] at hb
   simp at hb
   obtain ⟨rfl,rfl⟩:=hb
   refine ⟨c,d,by rw [hbe];simp,⟨zs.map (Value.int k),VL.map_of zs (fun x _=>rfl),?_⟩,?_,fun e=>by cases e⟩
   ·intro j v hj
    rw [List.getElem?_map,Option.map_eq_some_iff] at hj
    obtain ⟨z,hz,rfl⟩:=hj
    exact h j z hz
   ·simp [AV.isCell]
def Zl2 (H:List Blk) (av:AV) (k:IntKind) (nf:Nat) (es:List (List Int)):Prop :=
 (∀ e∈es,e.length=nf∧∀ z∈e,(Lit.int k z).wf=true) ∧
 ((av=Z2∧es=[])∨∃ b cap,av=.slice (some (b,0)) nf es.length (some cap)∧es.length≤cap∧cap≤maxLen∧H[b]?=some (.cells (es.flatten.map (AV.int k)) false))
theorem Zl2.more {H:List Blk} {av:AV} {k:IntKind} {nf:Nat} {es:List (List Int)} (h:Zl2 H av k nf es) (G:List Blk):Zl2 (H++G) av k nf es:=by
 refine ⟨h.1,?_⟩
 rcases h.2 with h | ⟨b,cap,h1,h2,h3,h4⟩
 ·exact .inl h
 ·refine .inr ⟨b,cap,h1,h2,h3,?_⟩
  rw [List.getElem?_append_left (List.getElem?_eq_some_iff.mp h4).1]
  exact h4
theorem Zru {w:World} {c nf:Nat} {k:IntKind}:∀ (es:List (List Int)) (x:Nat),(∀ e∈es,e.length=nf) →
  (∀ i e,es[i]?=some e→∀ j z,e[j]?=some z→w.cell? ⟨c,x+i*nf+j,none⟩=some (.int k z))→∀ q z,es.flatten[q]?=some z→w.cell? ⟨c,x+q,none⟩=some (.int k z)
 | [],x,_,_,q,z,h=>by simp at h
 | e::es,x,hl,hc,q,z,h=>by
  have he:=hl e (by simp)
  rw [List.flatten_cons,List.getElem?_append] at h
  split at h
  ·have:=hc 0 e rfl q z h
   rw [Nat.zero_mul,Nat.add_zero] at this
   exact this
  ·have:=Zru es (x+nf) (fun e' h'=>hl e' (by simp [h'])) (fun i e' hi j z' hj=>by
    have:=hc (i+1) e' (by simpa using hi) j z' hj
    rw [show x+nf+i*nf+j=x+(i+1)*nf+j by rw [Nat.add_mul];omega]
    exact this) (q - e.length) z h
   rw [show x+nf+(q - e.length)=x+q by omega] at this
   exact this
section
variable {T : Type} {enc : TypeId × Value → T} {P : Program} {w : World} {spare : Nat → Bool} {held : Bool}
def ZHk (enc:TypeId×Value→T) (P:Program) (w:World) (spare:Nat→Bool) (held:Bool) (k:IntKind) (e:TypeId):Prop :=
 ∀ n cs y,DataW.trod enc P w 0 spare held n e cs=some y→∃ zs:List Int,cs=zs.map (Value.int k)∧∀ z∈zs,(Lit.int k z).wf=true
theorem Zux {k:IntKind}:∀ (cs:List Value),(∀ (i:Nat) v,cs[i]?=some v→∃ n,v=Value.int k n∧(Lit.int k n).wf=true)→∃ zs:List Int,cs=zs.map (Value.int k)∧∀ z∈zs,(Lit.int k z).wf=true
 | [],_=>⟨[],rfl,fun z h=>by cases h⟩
 | v::cs,h=>by
  obtain ⟨n,rfl,hn⟩:=h 0 v rfl
  obtain ⟨zs,rfl,hz⟩:=Zux cs (fun i v hi=>h (i+1) v (by simpa using hi))
  refine ⟨n::zs,rfl,fun z hz' => ?_⟩
  rcases List.mem_cons.mp hz' with rfl | hz'
  ·exact hn
  ·exact hz z hz'
theorem Zks {k:IntKind} {e:TypeId} {fs:Array Field} (he:P.underlying e=some (.struct fs)) (hone:oneCellFields P fs=true) (hC:P.cellsOf e=fs.size)
  (hi:∀ (j:Nat) f,fs[j]?=some f→P.underlying f.type=some (.int k)):ZHk enc P w spare held k e:=by
 intro n cs y h
 obtain ⟨xs,n',_,hx,hlen,hxl,hf⟩:=DataW.trod_struct he h
 refine Zux cs fun i v hv => ?_
 have hlt:i<fs.size:=by
  have:=(List.getElem?_eq_some_iff.mp hv).1
  rw [←hC,←hlen];exact this
 have hfi:fs[i]?=some (fs[i]'hlt):=Array.getElem?_eq_getElem hlt
 obtain ⟨ho,hk⟩:=hone_of hone i _ hfi
 have h1:=hf i _ hfi
 rw [ho,hk] at h1
 have hd:(cs.drop i).take 1=[v]:=by
  have hil:=(List.getElem?_eq_some_iff.mp hv).1
  rw [List.drop_eq_getElem_cons hil]
  have:=(List.getElem?_eq_some_iff.mp hv).2
  rw [this];rfl
 rw [hd] at h1
 have hxi:xs[i]?=some (xs[i]'(by omega)):=List.getElem?_eq_getElem (by omega)
 rw [hxi] at h1
 obtain ⟨z,hz,_,hzw⟩:=DataW.trod_int (hi i _ hfi) h1
 cases hz
 exact ⟨z,rfl,hzw⟩
theorem ZDD {a:Addr} (h:a.spot=none):a=⟨a.block,a.off,none⟩:=by cases a;simp at h;subst h;rfl
theorem ZIV {r:Reach} {b0:Nat} {t e:TypeId} {a:Addr} {len cap:Nat} (ht:P.underlying t=some (.slice e)) (hv:Cell.okWide P w r b0 t (.slice (some a) len cap)):a.spot=none∧∃ row M,w.shape? a.block=some (row,M):=by
 unfold Cell.okWide at hv
 simp only [ht] at hv
 unfold Cell.ok at hv
 simp only [ht] at hv
 obtain ⟨_,_,_,h1,row,M,h2,_⟩:=hv
 exact ⟨h1,row,M,h2⟩
theorem Zz1 {ι:Emb} {H:List Blk} (O:Zkr ι H w) {r:Reach} {b0:Nat} {t e:TypeId} {k:IntKind} {nf:Nat} (ht:P.underlying t=some (.slice e)) (hC:P.cellsOf e=nf) (hpos:0<nf)
  (hel:ZHk enc P w (fun _=>true) held k e) {v:Value} (hv:Cell.okWide P w r b0 t v) {fuel:Nat} {x:DataW T×List MemPlace} (h:DataW.trod enc P w 0 (fun _=>true) held fuel t [v]=some x) :
  ∃ ι2 H2 av es,Zkr (ι++ι2) (H++H2) w∧V (ι++ι2) w av v∧Zl2 (H++H2) av k nf es:=by
 rcases Deep.open_slice ht h with ⟨h0,_⟩|⟨a,len,cap,m,n,D,Pl,hcs,_,hl,hm,hmm,_,hi⟩
 ·cases h0
  exact ⟨[],[],Z2,[],by simpa using O,⟨rfl,rfl⟩,⟨fun e h=>by simp at h,.inl ⟨rfl,rfl⟩⟩⟩
 ·cases hcs
  obtain ⟨hs,row,M,hM⟩:=ZIV ht hv
  simp only [if_true] at hmm
  subst hmm
  rw [hC] at hi
  have key:∀ i,i<m→∃ zs:List Int,zs.length=nf∧(∀ z∈zs,(Lit.int k z).wf=true)∧∀ j z,zs[j]?=some z→w.cell? ⟨a.block,a.off+i*nf+j,none⟩=some (.int k z):=by
   intro i him
   obtain ⟨cs',c1,c2⟩:=hi i him
   obtain ⟨zs,rfl,z2⟩:=hel _ _ _ c2
   obtain ⟨_,d1,d2⟩:=World.cells?_some c1
   rw [List.length_map] at d1
   refine ⟨zs,d1,z2,fun j z hj => ?_⟩
   have hjl:j<nf:=by rw [←d1];exact (List.getElem?_eq_some_iff.mp hj).1
   have:=d2 j hjl
   rw [List.getElem?_map,hj] at this
   have h3:w.cell? ((a.add (i*nf)).add j)=some (Value.int k z):=this
   rw [←h3]
   congr 1
   rw [ZDD hs]
   unfold Addr.add
   by_cases h1:i*nf=0 <;> by_cases h2:j=0 <;> simp [h1,h2]
  have pick:∃ f:Nat→List Int,∀ i,i<m→(f i).length=nf∧(∀ z∈f i,(Lit.int k z).wf=true)∧∀ j z,(f i)[j]?=some z→w.cell? ⟨a.block,a.off+i*nf+j,none⟩=some (.int k z):=by
   refine ⟨fun i=>if h:i<m then (key i h).choose else [],fun i him => ?_⟩
   simp only [him,dif_pos]
   exact (key i him).choose_spec
  obtain ⟨f,hf⟩:=pick
  let es:=(List.range len).map f
  have hes:∀ i e,es[i]?=some e→i<len∧e=f i:=by
   intro i e hi
   simp only [es,List.getElem?_map,Option.map_eq_some_iff] at hi
   obtain ⟨i',h1,h2⟩:=hi
   have hlt:=(List.getElem?_eq_some_iff.mp h1).1
   simp at hlt
   rw [List.getElem?_range hlt] at h1
   cases h1
   exact ⟨hlt,h2.symm⟩
  have hlen:∀ e∈es,e.length=nf∧∀ z∈e,(Lit.int k z).wf=true:=by
   intro e he
   obtain ⟨i,hi⟩:=List.getElem?_of_mem he
   obtain ⟨h1,rfl⟩:=hes i e hi
   exact ⟨(hf i (by omega)).1,(hf i (by omega)).2.1⟩
  have hcells:=Zru (w:=w) (c:=a.block) (k:=k) es a.off (fun e he=>(hlen e he).1) (fun i e hi j z hj=>by
   obtain ⟨h1,rfl⟩:=hes i e hi
   exact (hf i (by omega)).2.2 j z hj)
  have hblk:a.block<w.heap.size:=by
   unfold World.shape? at hM
   cases hh:w.heap[a.block]? with
   | none=>rw [hh] at hM;cases hM
   | some o=>exact (Array.getElem?_eq_some_iff.mp hh).1
  have O':=O.add (d:=a.off) hblk hcells
  have hll:es.length=len:=by simp [es]
  refine ⟨[some (a.block,a.off)],[.cells (es.flatten.map (AV.int k)) false],.slice (some (H.length,0)) nf es.length (some m),es,O',?_,hlen,.inr ⟨H.length,m,rfl,by omega,hm,by simp⟩⟩
  refine ⟨a.block,a.off,a.off,m,row,M,?_,?_,by omega,.inl rfl,hM,?_,fun q hq=>by cases hq;rfl⟩
  ·have:=O.rel.len
   simp only [] at this
   rw [←this]
   simp
  ·rw [hll,←ZDD hs]
  ·rcases Nat.eq_zero_or_pos m with h0 | h0
   ·exact .inl h0
   ·right
    obtain ⟨f1,_,f3⟩:=hf (m - 1) (by omega)
    have hz:(f (m - 1))[nf - 1]?=some ((f (m - 1))[nf - 1]'(by omega)):=List.getElem?_eq_getElem (by omega)
    have:=ZlS hM (f3 _ _ hz)
    have h2:m*nf=(m - 1)*nf+nf:=by
     conv=>lhs;rw [show m=(m - 1)+1 by omega]
     rw [Nat.add_mul,Nat.one_mul]
    omega
end
theorem ZGo {P:Program} {T:Zhf} {pr:Zt} (hm:P.follows .mixedOrders=true) (hT:ZlY P T) (hpr:ZsF P pr) {f:FuncId} {avs:List AV} {args:List Value} {ι:Emb} {H:List Blk} {W:World}
  (O:Zkr ι H W) (hv:VL ι W avs args) {m':Mem} (hcall:call T pr f avs ⟨H,none⟩=some (.bool true,m')) :
  Calls P f args.toArray W fun e W'=>e=.returned (.bool true)∧Below W.heap.size W W':=by
 obtain ⟨_,h⟩:=ZJ0 hm hT hpr f avs ⟨H,none⟩ (.bool true) m' ι W args hcall O.rel hv
 refine h.mono ?_
 rintro e W' ⟨ι',v',rfl,h1,h2,h3⟩
 cases h1
 refine ⟨rfl,h3.os,h3.tape,h3.output,h3.size,fun r hr=>h3.frame r hr ?_⟩
 rintro ⟨b,k,d,hb,hk,_⟩
 exact O.ro b k hb hk
end Go.Proofs.YtemcdiajejekoaaGreatDoor.Slim
namespace Go.Proofs.YtemcdiajejekoaaGreatDoor.Slim
open Go Go.Deep Go.RowKit Go.WideShapes Go.Joins
theorem ZHI (a b:Emb):Emb.le a (a++b):=fun i p hb=>by
 rw [List.getElem?_append_left];exact hb
 exact (List.getElem?_eq_some_iff.mp hb).1
theorem Zl2.cell {H:List Blk} {av:AV} {k:IntKind} {nf:Nat} {es:List (List Int)} (h:Zl2 H av k nf es):av.isCell=true:=by
 rcases h.2 with ⟨rfl,_⟩|⟨b,cap,rfl,_⟩ <;> rfl
theorem ZIW {α:Type} {cs:Array α} (h:cs.size=6):∃ c0 c1 c2 c3 c4 c5,cs = #[c0,c1,c2,c3,c4,c5]:=by
 obtain ⟨l⟩:=cs
 match l,h with
 | [c0,c1,c2,c3,c4,c5],_=>exact ⟨c0,c1,c2,c3,c4,c5,rfl⟩
section
variable {T : Type} {enc : TypeId × Value → T} {P : Program} {w : World} {spare : Nat → Bool} {held : Bool}
theorem Zrv {r:Reach} {b0:Nat} {t:TypeId} {fs:Array Field} {v:Value} {d:DataW T} {p:List MemPlace} (hs:P.underlying t=some (.struct fs)) (hone:oneCellFields P fs=true) (hC:P.cellsOf t=fs.size)
  (hv:Value.okWide P w r b0 t v) (h:DataW.Trod enc P w 0 spare held t v d p) :
  ∃ (cs:Array Value) (n:Nat),v=.agg cs∧cs.size=fs.size∧∀ (j:Nat) f c,fs[j]?=some f→cs[j]?=some c→∃ y,DataW.trod enc P w 0 spare held n f.type [c]=some y:=by
 obtain ⟨cs,rfl,hsz⟩:=okWide_struct hs hv
 obtain ⟨fuel,hf⟩:=h
 have hf':DataW.trod enc P w 0 spare held fuel t cs.toList=some (d,p):=by simpa [Value.cells] using hf
 obtain ⟨xs,n',_,hx,hlen,hxl,hfs⟩:=DataW.trod_struct hs hf'
 refine ⟨cs,n',rfl,hsz.trans hC,fun j f c hj hc => ?_⟩
 have h1:=hfs j f hj
 obtain ⟨ho,hk⟩:=hone_of hone j f hj
 rw [ho,hk] at h1
 have hc':cs.toList[j]?=some c:=by simpa using hc
 have hil:=(List.getElem?_eq_some_iff.mp hc').1
 have hd:(cs.toList.drop j).take 1=[c]:=by
  rw [List.drop_eq_getElem_cons hil]
  have:=(List.getElem?_eq_some_iff.mp hc').2
  rw [this];rfl
 rw [hd] at h1
 have hjl:j<fs.size:=(Array.getElem?_eq_some_iff.mp hj).1
 exact ⟨_,h1.trans (List.getElem?_eq_getElem (by omega))⟩
theorem ZmR {r:Reach} {b0:Nat} {t:TypeId} {fs:Array Field} {cs:Array Value} {ts:List TypeId} (hs:P.underlying t=some (.struct fs)) (hts:P.cellTypes P.depth t=some ts) (hv:Value.okWide P w r b0 t (.agg cs)) :
  ∀ (j:Nat) c u,cs[j]?=some c→ts[j]?=some u→Cell.okWide P w r b0 u c:=by
 simp only [Value.okWide,hs] at hv
 obtain ⟨cs',h1,h2,ts',h3,_,h4⟩:=hv
 cases h1
 rw [hts] at h3
 cases h3
 intro j c u hc hu
 obtain ⟨u',h5,h6⟩:=h4 j c hc
 have hjl:=(List.getElem?_eq_some_iff.mp hu).1
 rw [Nat.mod_eq_of_lt hjl,hu] at h5
 cases h5
 exact h6
end
end Go.Proofs.YtemcdiajejekoaaGreatDoor.Slim
