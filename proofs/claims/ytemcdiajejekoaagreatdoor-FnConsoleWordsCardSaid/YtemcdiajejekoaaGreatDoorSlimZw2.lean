/- Parts of the proof. -/
import Derived.Test.YtemcdiajejekoaaGreatDoorSlimZw1
import Derived.Laws.Sem
import Derived.Laws.World
import Derived.Laws.Cells
import Derived.Laws.Rows
import Derived.Laws.Entries
import Derived.Laws.IdiomCopy
set_option linter.unusedSimpArgs false
set_option linter.unusedVariables false
namespace Go.Proofs.YtemcdiajejekoaaGreatDoor.Slim
open Go
abbrev Emb:=List (Option (Nat×Nat))
mutual
def V (ι:Emb) (w:World):AV→Value→Prop
 | .undef,_=>True
 | .bool b,v=>v=.bool b
 | .int k n,v=>v=.int k n
 | .str s,v=>v=.string s
 | .agg cs,v=>∃ xs:List Value,v=.agg xs.toArray∧VL ι w cs xs∧cs.all AV.isCell=true
 | .tup vs,v=>∃ xs:List Value,v=.tuple xs.toArray∧VL ι w vs xs
 | .ptr none,v=>v=.pointer none
 | .ptr (some (b,o)),v=>∃ c d,ι[b]?=some (some (c,d))∧v=.pointer (some ⟨c,d+o,none⟩)
 | .slice none _ n _,v=>n=0∧v=.slice none 0 0
 | .slice (some (b,o)) sz n cap,v=>∃ c d x k e m,ι[b]?=some (some (c,d))∧v=.slice (some ⟨c,x,none⟩) n k∧n≤k ∧
   (x=d+o∨(n=0∧k=0))∧w.shape? c=some (e,m)∧(k=0∨x+k*sz≤m)∧(∀ q,cap=some q→k=q)
 | .fn f a b,v=>∃ xs ys:List Value,v=.func (.func f) xs.toArray ys.toArray∧VL ι w a xs∧VL ι w b ys
 | .nilfn,v=>v=.nilFunc
 | .map none,v=>v=.map none
 | .map (some b),v=>∃ c d,ι[b]?=some (some (c,d))∧v=.map (some c)
 | .nilif,v=>v=.nilIface
 | .someif,v=>∃ t x,v=.iface t x
def VL (ι:Emb) (w:World):List AV→List Value→Prop
 | [],xs=>xs=[]
 | c::cs,xs=>∃ y ys,xs=y::ys∧V ι w c y∧VL ι w cs ys
end
def Emb.le (ι ι':Emb):Prop:=∀ (b:Nat) (p:Nat×Nat),ι[b]?=some (some p)→ι'[b]?=some (some p)
theorem Emb.le_refl (ι:Emb):Emb.le ι ι:=fun _ _ h=>h
theorem Emb.le_trans {a b c:Emb} (h:Emb.le a b) (k:Emb.le b c):Emb.le a c:=fun _ _ e=>k _ _ (h _ _ e)
def YJ (w w':World):Prop:=∀ (r:Nat) s,w.shape? r=some s→w'.shape? r=some s
theorem YJ.refl (w:World):YJ w w:=fun _ _ h=>h
theorem YJ.trans {a b c:World} (h:YJ a b) (k:YJ b c):YJ a c:=fun _ _ e=>k _ _ (h _ _ e)
mutual
theorem V.mono {ι ι':Emb} {w w':World} (hι:Emb.le ι ι') (hw:YJ w w'):∀ (a:AV) (v:Value),V ι w a v→V ι' w' a v
 | .undef,_,_=>trivial
 | .bool _,_,h=>h
 | .int _ _,_,h=>h
 | .str _,_,h=>h
 | .agg cs,v,⟨xs,e,h,c⟩=>⟨xs,e,VL.mono hι hw cs xs h,c⟩
 | .tup vs,v,⟨xs,e,h⟩=>⟨xs,e,VL.mono hι hw vs xs h⟩
 | .ptr none,_,h=>h
 | .ptr (some (b,o)),v,⟨c,d,h,e⟩=>⟨c,d,hι _ _ h,e⟩
 | .slice none _ _ _,_,h=>h
 | .slice (some (b,o)) sz n cap,v,⟨c,d,x,k,e,m,h1,h2,h3,h4,h5,h6,h7⟩=>⟨c,d,x,k,e,m,hι _ _ h1,h2,h3,h4,hw _ _ h5,h6,h7⟩
 | .fn f a b,v,⟨xs,ys,e,h,k⟩=>⟨xs,ys,e,VL.mono hι hw a xs h,VL.mono hι hw b ys k⟩
 | .nilfn,_,h=>h
 | .map none,_,h=>h
 | .map (some b),v,⟨c,d,h,e⟩=>⟨c,d,hι _ _ h,e⟩
 | .nilif,_,h=>h
 | .someif,_,h=>h
theorem VL.mono {ι ι':Emb} {w w':World} (hι:Emb.le ι ι') (hw:YJ w w'):∀ (a:List AV) (v:List Value),VL ι w a v→VL ι' w' a v
 | [],_,h=>h
 | c::cs,xs,⟨y,ys,e,h,k⟩=>⟨y,ys,e,V.mono hι hw c y h,VL.mono hι hw cs ys k⟩
end
section lists
variable {ι : Emb} {w : World}
theorem VL.length:∀ {a:List AV} {v:List Value},VL ι w a v→v.length=a.length
 | [],_,h=>by cases h;rfl
 | c::cs,_,⟨y,ys,e,_,k⟩=>by subst e;simp [VL.length k]
theorem VL.append:∀ {a b:List AV} {u v:List Value},VL ι w a u→VL ι w b v→VL ι w (a++b) (u++v)
 | [],_,_,_,h,k=>by cases h;exact k
 | c::cs,_,_,_,⟨y,ys,e,h,t⟩,k=>by subst e;exact ⟨y,ys++_,rfl,h,VL.append t k⟩
theorem VL.get:∀ {a:List AV} {v:List Value},VL ι w a v→∀ (i:Nat) c,a[i]?=some c→∃ y,v[i]?=some y∧V ι w c y
 | [],_,_,i,c,e=>by simp at e
 | c::cs,_,⟨y,ys,e',h,t⟩,0,d,e=>by subst e';simp at e;subst e;exact ⟨y,rfl,h⟩
 | c::cs,_,⟨y,ys,e',h,t⟩,i+1,d,e=>by subst e';simpa using VL.get t i d (by simpa using e)
theorem VL.getV:∀ {a:List AV} {v:List Value},VL ι w a v→∀ (i:Nat) y,v[i]?=some y→∃ c,a[i]?=some c∧V ι w c y
 | [],_,h,i,c,e=>by cases h;simp at e
 | c::cs,_,⟨y,ys,e',h,t⟩,0,d,e=>by subst e';simp at e;subst e;exact ⟨c,rfl,h⟩
 | c::cs,_,⟨y,ys,e',h,t⟩,i+1,d,e=>by subst e';simpa using VL.getV t i d (by simpa using e)
theorem VL.take:∀ (n:Nat) {a:List AV} {v:List Value},VL ι w a v→VL ι w (a.take n) (v.take n)
 | 0,_,_,_=>rfl
 | n+1,[],_,h=>by cases h;rfl
 | n+1,c::cs,_,⟨y,ys,e,h,t⟩=>by subst e;exact ⟨y,_,rfl,h,VL.take n t⟩
theorem VL.drop:∀ (n:Nat) {a:List AV} {v:List Value},VL ι w a v→VL ι w (a.drop n) (v.drop n)
 | 0,_,_,h=>h
 | n+1,[],_,h=>by cases h;rfl
 | n+1,c::cs,_,⟨y,ys,e,h,t⟩=>by subst e;exact VL.drop n t
theorem VL.setRange {a b:List AV} {u v:List Value} (off:Nat) (h:VL ι w a u) (k:VL ι w b v):VL ι w (Slim.Yz a off b) (u.take off++v++u.drop (off+v.length)):=by
 unfold Slim.Yz
 rw [←k.length]
 exact ((h.take _).append k).append (h.drop _)
theorem VL.replicate {c:AV} {y:Value} (h:V ι w c y):∀ n,VL ι w (List.replicate n c) (List.replicate n y)
 | 0=>rfl
 | n+1=>⟨y,_,rfl,h,VL.replicate h n⟩
theorem VL.flatten {c:List AV} {y:List Value} (h:VL ι w c y):∀ n,VL ι w (List.replicate n c).flatten (List.replicate n y).flatten
 | 0=>rfl
 | n+1=>by simp only [List.replicate_succ,List.flatten_cons];exact h.append (VL.flatten h n)
theorem VL.map_of {α:Type} {f:α→AV} {g:α→Value}:∀ (l:List α),(∀ x∈l,V ι w (f x) (g x))→VL ι w (l.map f) (l.map g)
 | [],_=>rfl
 | x::xs,h=>⟨_,_,rfl,h x (by simp),VL.map_of xs fun y hy=>h y (by simp [hy])⟩
end lists
theorem V.oneCell {ι:Emb} {w:World} {c:AV} {v:Value} (hc:c.isCell=true) (h:V ι w c v):v.oneCell'=true:=by
 cases c with
 | undef=>cases hc
 | agg=>cases hc
 | tup=>cases hc
 | bool=>cases h;rfl
 | int=>cases h;rfl
 | str=>cases h;rfl
 | ptr p=>
  cases p with
  | none=>cases h;rfl
  | some p=>obtain ⟨b,o⟩:=p;obtain ⟨_,_,_,rfl⟩:=h;rfl
 | slice p=>
  cases p with
  | none=>obtain ⟨_,rfl⟩:=h;rfl
  | some p=>obtain ⟨b,o⟩:=p;obtain ⟨_,_,_,_,_,_,_,rfl,_⟩:=h;rfl
 | fn=>obtain ⟨_,_,rfl,_⟩:=h;rfl
 | nilfn=>cases h;rfl
 | map m=>
  cases m with
  | none=>cases h;rfl
  | some b=>obtain ⟨_,_,_,rfl⟩:=h;rfl
 | nilif=>cases h;rfl
 | someif=>obtain ⟨_,_,rfl⟩:=h;rfl
structure ZbZ (ι:Emb) (w:World) (c d:Nat) (cs:List AV) (wr:Bool):Prop where
 vals:∃ vs:List Value,VL ι w cs vs∧∀ j v,vs[j]?=some v→w.cell? ⟨c,d+j,none⟩=some v
 cell:cs.all AV.isCell=true
 free:wr=true→∃ e n,w.shape? c=some (e,n)∧∀ o,o<n→w.frozen? ⟨c,o,none⟩=false
def Zm0 (x:MapEntry) (p:List Int×Int):Prop:=x.key=.agg (p.1.map (Value.int .i64)).toArray∧x.val=.int .i64 p.2
def MapAt (w:World) (c:Nat) (es:List (List Int×Int)):Prop :=
 ∃ (xs:Array MapEntry) (clock:Nat),w.heap[c]?=some (.map xs clock)∧xs.size=es.length∧(∀ (j:Nat) x p,xs[j]?=some x→es[j]?=some p→Zm0 x p)∧(∀ x∈xs.toList,x.born<clock)∧(xs.toList.map (·.born)).Nodup∧(es.map (·.1)).Nodup∧∀ p∈es,p.1.length=3∧∀ z∈p.1,ZrZ z=true
theorem MapAt.mono {w w':World} {c:Nat} {es:List (List Int×Int)} (h:MapAt w c es) (hc:w'.heap[c]?=w.heap[c]?):MapAt w' c es:=by
 obtain ⟨xs,clock,h1,h2⟩:=h
 exact ⟨xs,clock,hc.trans h1,h2⟩
def Img (ι:Emb) (m:Mem) (r:Nat):Prop:=∃ (b:Nat) (k:Blk) (d:Nat),m.H[b]?=some k∧k.wrt∧ι[b]?=some (some (r,d))
structure ZAM (ι:Emb) (m:Mem) (w:World):Prop where
 len:ι.length=m.H.length
 low:∀ (b c d:Nat),ι[b]?=some (some (c,d))→c<w.heap.size
 at':∀ (b:Nat) cs wr,m.H[b]?=some (Blk.cells cs wr)→∃ c d,ι[b]?=some (some (c,d))∧ZbZ ι w c d cs wr
 mp:∀ (b:Nat) es,m.H[b]?=some (Blk.mp es)→∃ c,ι[b]?=some (some (c,0))∧MapAt w c es
 sep:∀ (b b':Nat) (k k':Blk) (c d c' d':Nat),b≠b'→m.H[b]?=some k→k.wrt→m.H[b']?=some k'→k'.live →
  ι[b]?=some (some (c,d))→ι[b']?=some (some (c',d'))→c≠c'
theorem ZAM.inj {ι:Emb} {m:Mem} {w:World} (h:ZAM ι m w) (b b':Nat) (cs cs':List AV) (wr:Bool) (c d c' d':Nat) (hne:b≠b') (hb:m.H[b]?=some (Blk.cells cs true)) (hb':m.H[b']?=some (Blk.cells cs' wr))
  (hi:ι[b]?=some (some (c,d))) (hi':ι[b']?=some (some (c',d'))):c≠c' :=
 h.sep b b' _ _ c d c' d' hne hb rfl hb' trivial hi hi'
structure Ext (ι:Emb) (m:Mem) (w:World) (ι':Emb) (m':Mem) (w':World):Prop where
 le:Emb.le ι ι'
 grow:ι.length≤ι'.length
 size:w.heap.size≤w'.heap.size
 shapes:YJ w w'
 img:∀ r,Img ι' m' r→Img ι m r∨w.heap.size≤r
 frame:∀ r,r<w.heap.size→¬ Img ι m r→w'.heap[r]?=w.heap[r]?
 os:w'.os=w.os
 tape:w'.tape=w.tape
 output:w'.output=w.output
theorem Ext.refl (ι:Emb) (m:Mem) (w:World):Ext ι m w ι m w :=
 ⟨Emb.le_refl _,Nat.le_refl _,Nat.le_refl _,YJ.refl _,fun _ h=>.inl h,fun _ _ _=>rfl,rfl,rfl,rfl⟩
theorem Ext.trans {ι ι₁ ι₂:Emb} {m m₁ m₂:Mem} {w w₁ w₂:World} (h:Ext ι m w ι₁ m₁ w₁) (k:Ext ι₁ m₁ w₁ ι₂ m₂ w₂):Ext ι m w ι₂ m₂ w₂ where
 le:=Emb.le_trans h.le k.le
 grow:=Nat.le_trans h.grow k.grow
 size:=Nat.le_trans h.size k.size
 shapes:=h.shapes.trans k.shapes
 img:=fun r hr=>by
  rcases k.img r hr with h1 | h1
  ·exact h.img r h1
  ·exact .inr (Nat.le_trans h.size h1)
 frame:=fun r hr hi=>by
  rw [k.frame r (Nat.lt_of_lt_of_le hr h.size) (fun h1 => ?_),h.frame r hr hi]
  rcases h.img r h1 with h2 | h2
  ·exact hi h2
  ·exact absurd hr (by omega)
 os:=k.os.trans h.os
 tape:=k.tape.trans h.tape
 output:=k.output.trans h.output
theorem Ext.drew (ι:Emb) (m:Mem) (w:World):Ext ι m w ι m w.drew :=
 ⟨Emb.le_refl _,Nat.le_refl _,Nat.le_refl _,YJ.refl _,fun _ h=>.inl h,fun _ _ _=>rfl,rfl,rfl,rfl⟩
def ZxN (ι:Emb) (m:Mem) (w:World):Prop:=∀ p,p∈ZcP→p.1<w.heap.size∧¬ Img ι m p.1∧∃ cs e fz,w.heap[p.1]?=some (.cells cs e fz)∧p.2 cs
theorem ZxN.ext {ι ι':Emb} {m m':Mem} {w w':World} (h:ZxN ι m w) (E:Ext ι m w ι' m' w'):ZxN ι' m' w':=by
 intro p hp
 obtain ⟨h1,h2,cs,e,fz,h3,h4⟩:=h p hp
 refine ⟨Nat.lt_of_lt_of_le h1 E.size,fun hi => ?_,cs,e,fz,(E.frame _ h1 h2).trans h3,h4⟩
 rcases E.img _ hi with h4 | h4
 ·exact h2 h4
 ·omega
structure Rel (ι:Emb) (m:Mem) (w:World):Prop extends ZAM ι m w where
 glob:ZxN ι m w
theorem Rel.of0 {ι ι':Emb} {m m':Mem} {w w':World} (h:Rel ι m w) (k:ZAM ι' m' w'∧Ext ι m w ι' m' w'):Rel ι' m' w'∧Ext ι m w ι' m' w' :=
 ⟨⟨k.1,h.glob.ext k.2⟩,k.2⟩
theorem Rel.of1 {ι ι':Emb} {m m':Mem} {w w':World} {A:Prop} (h:Rel ι m w) (k:A∧ZAM ι' m' w'∧Ext ι m w ι' m' w'):A∧Rel ι' m' w'∧Ext ι m w ι' m' w' :=
 ⟨k.1,h.of0 k.2⟩
theorem Rel.drew {ι:Emb} {m:Mem} {w:World} (h:Rel ι m w):Rel ι m w.drew :=
 ⟨⟨h.len,h.low,fun b cs wr hb=>by
  obtain ⟨c,d,hi,hv,hc,hf⟩:=h.at' b cs wr hb
  refine ⟨c,d,hi,?_,hc,hf⟩
  obtain ⟨vs,h1,h2⟩:=hv
  exact ⟨vs,VL.mono (Emb.le_refl _) (w:=w) (w':=w.drew) (fun _ _ h=>h) _ _ h1,h2⟩,h.mp,h.sep⟩,h.glob.ext (Ext.drew ι m w)⟩
section alloc
variable {ι : Emb} {m : Mem} {w : World}
theorem Zae (w:World) (o:Obj):YJ w (w.alloc o):=by
 intro r s h
 unfold World.shape? at *
 have hr:r<w.heap.size:=by
  rcases Nat.lt_or_ge r w.heap.size with h' | h'
  ·exact h'
  ·simp [Array.getElem?_eq_none h'] at h
 rw [heap_alloc_old w o r hr]
 exact h
theorem ZbZ.mono {ι':Emb} {w':World} {c d:Nat} {cs:List AV} {wr:Bool} (h:ZbZ ι w c d cs wr) (hι:Emb.le ι ι') (hw:YJ w w')
  (hc:w'.heap[c]?=w.heap[c]?):ZbZ ι' w' c d cs wr:=by
 obtain ⟨⟨vs,h1,h2⟩,h3,h4⟩:=h
 refine ⟨⟨vs,VL.mono hι hw _ _ h1,fun j v hj => ?_⟩,h3,fun hwr => ?_⟩
 ·rw [←h2 j v hj];simp [World.cell?,hc]
 ·obtain ⟨e,n,a,b⟩:=h4 hwr
  exact ⟨e,n,hw _ _ a,fun o ho=>by rw [←b o ho];simp [World.frozen?,hc]⟩
theorem Rel.allocF {cs:List AV} {vs:List Value} {e:TypeId} {fz:Nat×Nat} (h:Rel ι m w) (hv:VL ι w cs vs) (hc:cs.all AV.isCell=true) (extra:List Value) (hfz:∀ o,o<(vs++extra).length→¬ (fz.1≤o∧o<fz.2)) :
  Rel (ι++[some (w.heap.size,0)]) (newBlk m cs) (w.alloc (.cells (vs++extra).toArray e fz)) ∧
  Ext ι m w (ι++[some (w.heap.size,0)]) (newBlk m cs) (w.alloc (.cells (vs++extra).toArray e fz)):=by
 have hle:Emb.le ι (ι++[some (w.heap.size,0)]):=fun b p hb=>by
  rw [List.getElem?_append_left];exact hb
  exact (List.getElem?_eq_some_iff.mp hb).1
 have hsh:=Zae w (.cells (vs++extra).toArray e fz)
 have hnew:(w.alloc (.cells (vs++extra).toArray e fz)).heap[w.heap.size]?=some (.cells (vs++extra).toArray e fz):=heap_alloc_new _ _
 have hcell:ZbZ (ι++[some (w.heap.size,0)]) (w.alloc (.cells (vs++extra).toArray e fz)) w.heap.size 0 cs true:=by
  refine ⟨⟨vs,VL.mono hle hsh _ _ hv,fun j v hj => ?_⟩,hc,fun _=>⟨e,(vs++extra).length,?_,fun o ho => ?_⟩⟩
  ·rw [Nat.zero_add]
   simp only [World.cell?,hnew,Option.isSome_none,Bool.false_eq_true,if_false]
   rw [List.getElem?_toArray,List.getElem?_append_left]
   ·exact hj
   ·exact (List.getElem?_eq_some_iff.mp hj).1
  ·unfold World.shape?;rw [hnew];simp
  ·have h2:=hfz o ho
   obtain ⟨lo,hi⟩:=fz
   unfold World.frozen?;simp only [hnew]
   simpa using h2
 have hold:∀ (b c d:Nat),ι[b]?=some (some (c,d))→(w.alloc (.cells (vs++extra).toArray e fz)).heap[c]?=w.heap[c]? :=
  fun b c d hb=>heap_alloc_old w _ c (h.low b c d hb)
 have key:∀ b:Nat,(ι++[some (w.heap.size,0)])[b]?=if b<ι.length then ι[b]? else if b=ι.length then some (some (w.heap.size,0)) else none:=by
  intro b
  by_cases h1:b<ι.length
  ·rw [if_pos h1,List.getElem?_append_left h1]
  ·rw [if_neg h1,List.getElem?_append_right (by omega)]
   by_cases h2:b=ι.length
   ·subst h2;simp
   ·rw [if_neg h2];rw [List.getElem?_eq_none];simp;omega
 have keyH:∀ b:Nat,(newBlk m cs).H[b]?=if b<ι.length then m.H[b]? else if b=ι.length then some (.cells cs true) else none:=by
  intro b
  simp only [newBlk]
  by_cases h1:b<ι.length
  ·rw [if_pos h1,List.getElem?_append_left (by rw [←h.len];exact h1)]
  ·rw [if_neg h1,List.getElem?_append_right (by rw [←h.len];omega)]
   by_cases h2:b=ι.length
   ·subst h2;simp [h.len]
   ·rw [if_neg h2];rw [List.getElem?_eq_none];simp [←h.len];omega
 refine h.of0 ⟨⟨?_,?_,?_,?_,?_⟩,⟨hle,?_,?_,hsh,?_,?_,rfl,rfl,rfl⟩⟩
 ·simp [newBlk,h.len]
 ·intro b c d hb
  rw [key] at hb
  rw [World.size_alloc]
  split at hb
  ·have:=h.low b c d hb;omega
  ·split at hb
   ·cases hb;omega
   ·cases hb
 ·intro b cs' wr hb
  rw [keyH] at hb
  split at hb
  ·rename_i hlt
   obtain ⟨c,d,h1,h2⟩:=h.at' b cs' wr hb
   exact ⟨c,d,hle _ _ h1,h2.mono hle hsh (hold b c d h1)⟩
  ·split at hb
   ·rename_i hlt heq
    cases hb
    exact ⟨w.heap.size,0,by rw [key,if_neg hlt,if_pos heq],hcell⟩
   ·cases hb
 ·intro b es hb
  rw [keyH] at hb
  split at hb
  ·obtain ⟨c,h1,h2⟩:=h.mp b es hb
   exact ⟨c,hle _ _ h1,h2.mono (hold b c 0 h1)⟩
  ·split at hb <;> cases hb
 ·intro b b' k₁ k₂ c d c' d' hne hb hk hb' hk' hi hi'
  rw [keyH] at hb hb'
  rw [key] at hi hi'
  by_cases h1:b<ι.length <;> by_cases h2:b'<ι.length
  ·rw [if_pos h1] at hb hi;rw [if_pos h2] at hb' hi'
   exact h.sep b b' k₁ k₂ c d c' d' hne hb hk hb' hk' hi hi'
  ·rw [if_pos h1] at hb hi;rw [if_neg h2] at hb' hi'
   split at hi'
   ·cases hi';have:=h.low b c d hi;omega
   ·cases hi'
  ·rw [if_neg h1] at hb hi;rw [if_pos h2] at hb' hi'
   split at hi
   ·cases hi;have:=h.low b' c' d' hi';omega
   ·cases hi
  ·rw [if_neg h1] at hb hi;rw [if_neg h2] at hb' hi'
   split at hi
   ·split at hi'
    ·omega
    ·cases hi'
   ·cases hi
 ·simp
 ·rw [World.size_alloc];omega
 ·rintro r ⟨b,k,d,hb,hk,hi⟩
  rw [keyH] at hb
  rw [key] at hi
  split at hb
  ·rename_i hlt
   rw [if_pos hlt] at hi
   exact .inl ⟨b,k,d,hb,hk,hi⟩
  ·rename_i hlt
   rw [if_neg hlt] at hi
   split at hi
   ·cases hi;exact .inr (Nat.le_refl _)
   ·cases hi
 ·intro r hr _
  exact heap_alloc_old w _ r hr
theorem Rel.alloc {cs:List AV} {vs:List Value} {e:TypeId} (h:Rel ι m w) (hv:VL ι w cs vs) (hc:cs.all AV.isCell=true) (extra:List Value) :
  Rel (ι++[some (w.heap.size,0)]) (newBlk m cs) (w.alloc (.cells (vs++extra).toArray e)) ∧
  Ext ι m w (ι++[some (w.heap.size,0)]) (newBlk m cs) (w.alloc (.cells (vs++extra).toArray e)) :=
 h.allocF hv hc extra (fun _ _=>by simp)
end alloc
end Go.Proofs.YtemcdiajejekoaaGreatDoor.Slim
namespace Go.Proofs.YtemcdiajejekoaaGreatDoor.Slim
open Go
theorem YZ {P:Program} {t:TypeId} {n:Nat} (h:szT P t=some n) (w:World):(sizeOf t).run P w=.ok n w:=by
 unfold szT at h
 cases hi:P.info? t with
 | none=>simp [hi] at h
 | some i=>simp [hi] at h;subst h;simp [sizeOf,typeInfo,hi]
theorem Zbq {P:Program} {t:TypeId} {b:Bool} (h:ZxF P t=some b) (w:World):(isAgg t).run P w=.ok b w:=by
 unfold ZxF at h
 cases hu:P.underlying t with
 | none=>simp [hu] at h
 | some d=>
  simp only [hu] at h
  cases d <;> (simp at h;subst h;simp [isAgg,run_underlying hu])
theorem Zjp {P:Program} {t:TypeId} {i:TypeInfo} (h:P.info? t=some i) (w:World):(typeInfo t).run P w=.ok i w:=by simp [typeInfo,h]
section
variable {ι : Emb} {w : World}
theorem V.ofCell:∀ {v:Value} {a:AV},Slim.Zze v=some a→V ι w a v∧a.isCell=true:=by
 intro v a h
 unfold Slim.Zze at h
 split at h <;> first | (cases h;exact ⟨rfl,rfl⟩) | (cases h;exact ⟨⟨rfl,rfl⟩,rfl⟩) | cases h
theorem VL.ofCells:∀ {v:List Value} {a:List AV},Slim.Zqm v=some a→VL ι w a v∧a.all AV.isCell=true
 | [],a,h=>by cases h;exact ⟨rfl,rfl⟩
 | v::vs,a,h=>by
  unfold Slim.Zqm at h
  split at h
  ·rename_i a' az h1 h2
   cases h
   obtain ⟨p,q⟩:=V.ofCell (ι:=ι) (w:=w) h1
   obtain ⟨r,s⟩:=VL.ofCells h2
   exact ⟨⟨v,vs,rfl,p,r⟩,by simp [q];simpa using s⟩
  ·cases h
theorem V.ofConst {v:Value} {a:AV} (h:Slim.ZuU v=some a):V ι w a v:=by
 unfold Slim.ZuU at h
 split at h
 ·rename_i cs
  simp only [Option.map_eq_some_iff] at h
  obtain ⟨l,h1,rfl⟩:=h
  obtain ⟨p,q⟩:=VL.ofCells (ι:=ι) (w:=w) h1
  exact ⟨cs.toList,by simp,p,q⟩
 ·exact (V.ofCell h).1
theorem V.cells {a:AV} {v:Value} {cs:List AV} (h:V ι w a v) (hc:JB a=some cs):VL ι w cs v.cells.toList∧cs.all AV.isCell=true:=by
 cases a with
 | undef=>cases hc
 | tup=>cases hc
 | agg l=>cases hc;obtain ⟨xs,rfl,h1,h2⟩:=h;exact ⟨by simpa [Value.cells] using h1,h2⟩
 | bool=>cases hc;cases h;exact ⟨⟨_,_,rfl,rfl,rfl⟩,rfl⟩
 | int=>cases hc;cases h;exact ⟨⟨_,_,rfl,rfl,rfl⟩,rfl⟩
 | str=>cases hc;cases h;exact ⟨⟨_,_,rfl,rfl,rfl⟩,rfl⟩
 | ptr p=>
  cases hc
  have h1:=V.oneCell (c:=.ptr p) rfl h
  refine ⟨⟨v,[],?_,h,rfl⟩,rfl⟩
  cases v <;> simp_all [Value.cells,Value.oneCell']
 | slice p=>
  cases hc
  rename_i sz n cap
  have h1:=V.oneCell (c:=.slice p sz n cap) rfl h
  refine ⟨⟨v,[],?_,h,rfl⟩,rfl⟩
  cases v <;> simp_all [Value.cells,Value.oneCell']
 | fn f x y=>
  cases hc
  have h1:=V.oneCell (c:=.fn f x y) rfl h
  refine ⟨⟨v,[],?_,h,rfl⟩,rfl⟩
  cases v <;> simp_all [Value.cells,Value.oneCell']
 | nilfn=>cases hc;cases h;exact ⟨⟨_,_,rfl,rfl,rfl⟩,rfl⟩
 | map p=>
  cases hc
  have h1:=V.oneCell (c:=.map p) rfl h
  refine ⟨⟨v,[],?_,h,rfl⟩,rfl⟩
  cases v <;> simp_all [Value.cells,Value.oneCell']
 | nilif=>cases hc;cases h;exact ⟨⟨_,_,rfl,rfl,rfl⟩,rfl⟩
 | someif=>
  cases hc
  have h1:=V.oneCell (c:=.someif) rfl h
  refine ⟨⟨v,[],?_,h,rfl⟩,rfl⟩
  cases v <;> simp_all [Value.cells,Value.oneCell']
theorem V.int_inv {k:IntKind} {n:Int} {v:Value} (h:V ι w (.int k n) v):v=.int k n:=h
theorem V.bool_inv {b:Bool} {v:Value} (h:V ι w (.bool b) v):v=.bool b:=h
theorem V.str_inv {s:ByteArray} {v:Value} (h:V ι w (.str s) v):v=.string s:=h
def OkX (ι:Emb) (w:World) (cx:Zf1) (g:X→AV) (ρ:Operand→Value):Prop:=∀ o x,cx o=some x→V ι w (g x) (ρ o)
theorem OkX.map {cx:Zf1} {g:X→AV} {ρ:Operand→Value} (h:OkX ι w cx g ρ):∀ {os:List Operand} {xs:List X},ZzF cx os=some xs→VL ι w (xs.map g) (os.map ρ)
 | [],xs,e=>by cases e;rfl
 | o::os,xs,e=>by
  unfold ZzF at e
  split at e
  ·rename_i x xs' h1 h2
   cases e
   exact ⟨_,_,rfl,h _ _ h1,OkX.map h h2⟩
  ·cases e
theorem ZuV {a:AV} {v:Value} {n:Nat} (h:V ι w a v) (hn:natOf a=some n):∃ k,v=.int k n:=by
 unfold natOf at hn
 split at hn
 ·rename_i k i
  split at hn
  ·cases hn;cases h;exact ⟨k,by rw [Int.toNat_of_nonneg (by assumption)]⟩
  ·cases hn
 ·cases hn
theorem Zlj {P:Program} {k:IntKind} {n y:Nat} (hy:n≤y) (code:BoundsCode):(Instr.sliceBound (.int k n) y code).run P w=.ok n w:=by
 simp [Instr.sliceBound,asIntOf,hy]
theorem ZaS {P:Program} {cx:Zf1} {g:X→AV} {ρ:Operand→Value} (hρ:OkX ι w cx g ρ) {lo hi mx:Option Operand} {lo' hi' mx':Option X} {len cap l h m:Nat} (isS:Bool)
  (hlo:optX cx lo=some lo') (hhi:optX cx hi=some hi') (hmx:optX cx mx=some mx') (el:ZcN g lo' 0=some l) (eh:ZcN g hi' len=some h)
  (em:ZcN g mx' cap=some m) (h1:l≤h) (h2:h≤m) (h3:m≤cap) (h4:mx'=none∨hi'≠none) :
  (Instr.sliceBounds isS len cap (lo.map ρ) (hi.map ρ) (mx.map ρ)).run P w=.ok (l,h,m) w:=by
 have B:∀ {x:Option Operand} {x':Option X} {d n:Nat},optX cx x=some x'→ZcN g x' d=some n→(x=none∧x'=none∧n=d)∨∃ o k,x=some o∧ρ o=.int k n:=by
  intro x x' d n hx hn
  cases x with
  | none=>cases hx;cases hn;exact .inl ⟨rfl,rfl,rfl⟩
  | some o=>
   simp only [optX,Option.map_eq_some_iff] at hx
   obtain ⟨y,hy,rfl⟩:=hx
   obtain ⟨k,hk⟩:=ZuV (hρ _ _ hy) hn
   exact .inr ⟨o,k,rfl,hk⟩
 unfold Instr.sliceBounds
 have Bl:=B hlo el
 have Bh:=B hhi eh
 have Bm:=B hmx em
 rcases Bm with ⟨rfl,rfl,rfl⟩|⟨om,km,rfl,hm⟩ <;> rcases Bh with ⟨rfl,rfl,rfl⟩|⟨oh,kh,rfl,hh⟩ <;> rcases Bl with ⟨rfl,rfl,rfl⟩|⟨ol,kl,rfl,hl⟩
 all_goals first
  | (exfalso;rcases h4 with h4 | h4 <;> simp_all [optX] <;> (simp only [optX,Option.map_eq_some_iff] at hmx;obtain ⟨_,_,e⟩:=hmx;cases e))
  | simp [*,Zlj]
end
end Go.Proofs.YtemcdiajejekoaaGreatDoor.Slim
