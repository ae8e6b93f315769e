/- Parts of the proof. -/
import Derived.Test.YtemcdiajejekoaaGreatDoorSlimZw5
import Derived.WideKeyPair
set_option linter.unusedSimpArgs false
set_option linter.unusedVariables false
namespace Go.Proofs.YtemcdiajejekoaaGreatDoor.Slim
open Go Go.WideMaps Go.WideShapes Go.ChangeShapes
open Go.ChangeMaps (setBlock heap_setBlock_same heap_setBlock_other)
def rowV (z:List Int):Value:=.agg (z.map (Value.int .i64)).toArray
theorem ZxS {a b:List Int} (h:rowV a=rowV b):a=b:=by
 unfold rowV at h
 have h1:a.map (Value.int .i64)=b.map (Value.int .i64):=by
  have:=congrArg Array.toList (Value.agg.inj h)
  simpa using this
 exact (List.map_inj_right (fun x y hxy=>(Value.int.inj hxy).2)).mp h1
theorem ZuX:∀ {es:List (List Int×Int)} {z:List Int},(∀ p∈es,p.1≠z)→Zoe es z=none
 | [],z,h=>rfl
 | p::es,z,h=>by
  rw [Zoe,if_neg (h p (List.mem_cons_self ..))]
  exact ZuX fun q hq=>h q (List.mem_cons_of_mem _ hq)
theorem ZuY:∀ {es:List (List Int×Int)} {z:List Int} {j:Nat} {p:List Int×Int},(es.map (·.1)).Nodup→es[j]?=some p→p.1=z→Zoe es z=some p.2
 | q::es,z,0,p,hn,hj,hz=>by
  simp at hj
  subst hj
  rw [Zoe,if_pos hz]
 | q::es,z,j+1,p,hn,hj,hz=>by
  simp at hj
  rw [List.map_cons,List.nodup_cons] at hn
  have hne:q.1≠z:=fun e=>hn.1 (by rw [e,←hz];exact List.mem_map_of_mem (List.mem_of_getElem? hj))
  rw [Zoe,if_neg hne]
  exact ZuY hn.2 hj hz
theorem ZuZ:∀ {es:List (List Int×Int)} {z:List Int} {v:Int},(∀ p∈es,p.1≠z)→mput es z v=es++[(z,v)]
 | [],z,v,h=>rfl
 | p::es,z,v,h=>by
  rw [mput,if_neg (h p (List.mem_cons_self ..)),ZuZ fun q hq=>h q (List.mem_cons_of_mem _ hq)]
  rfl
theorem Zu0:∀ {es:List (List Int×Int)} {z:List Int} {v:Int} {j:Nat} {p:List Int×Int},(es.map (·.1)).Nodup→es[j]?=some p→p.1=z→mput es z v=es.set j (z,v)
 | q::es,z,v,0,p,hn,hj,hz=>by
  simp at hj
  subst hj
  rw [mput,if_pos hz]
  rfl
 | q::es,z,v,j+1,p,hn,hj,hz=>by
  simp at hj
  rw [List.map_cons,List.nodup_cons] at hn
  have hne:q.1≠z:=fun e=>hn.1 (by rw [e,←hz];exact List.mem_map_of_mem (List.mem_of_getElem? hj))
  rw [mput,if_neg hne,Zu0 hn.2 hj hz]
  rfl
section
variable {P : Program} {w : World} {t k e : TypeId} {c : Nat} {es : List (List Int × Int)}
theorem MapAt.find (K:KeyLaw P k) {xs:Array MapEntry} (hs:xs.size=es.length) (hx:∀ (j:Nat) x p,xs[j]?=some x→es[j]?=some p→Zm0 x p) (hk:∀ p∈es,∃ l,keyOf P k (rowV p.1)=some l) {z:List Int} {l:Lit} (hz:keyOf P k (rowV z)=some l) :
  ((Instr.findKey k (rowV z) xs.toList).run P w=.ok none w∧∀ p∈es,p.1≠z) ∨
  ∃ (j:Nat) (x:MapEntry) (p:List Int×Int),(Instr.findKey k (rowV z) xs.toList).run P w=.ok (some (j,.int .i64 p.2)) w∧xs[j]?=some x∧x.key=rowV z∧es[j]?=some p∧p.1=z:=by
 have hkeys:∀ x∈xs.toList,∃ l,keyOf P k x.key=some l:=by
  intro x hm
  obtain ⟨j,hj⟩:=List.getElem?_of_mem hm
  have hjl:=(List.getElem?_eq_some_iff.mp hj).1
  rw [Array.length_toList,hs] at hjl
  have hp:=List.getElem?_eq_getElem hjl
  have he:=hx j x _ (by simpa using hj) hp
  rw [he.1]
  exact hk _ (List.getElem_mem hjl)
 rcases K.find w hz xs.toList hkeys with ⟨h1,h2⟩|⟨j,x,h1,h2,h3⟩
 ·refine .inl ⟨h1,fun p hp e => ?_⟩
  obtain ⟨j,hj⟩:=List.getElem?_of_mem hp
  have hjl:=(List.getElem?_eq_some_iff.mp hj).1
  have hxl:j<xs.size:=by omega
  have hxj:xs[j]?=some xs[j]:=Array.getElem?_eq_getElem hxl
  have he:=hx j _ p hxj hj
  exact h2 xs[j] (by simp) (by rw [he.1,e];rfl)
 ·have hxj:xs[j]?=some x:=by simpa using h2
  have hjl:j<es.length:=by rw [←hs];exact (Array.getElem?_eq_some_iff.mp hxj).1
  have hp:=List.getElem?_eq_getElem hjl
  have he:=hx j x _ hxj hp
  refine .inr ⟨j,x,es[j],?_,hxj,h3,hp,?_⟩
  ·rw [h1,he.2]
  ·have:=he.1
   rw [h3] at this
   exact (ZxS this).symm
theorem MapAt.lookup (K:KeyLaw P k) (ht:P.underlying t=some (.map k e)) (hzero:(zeroValue e).run P w=.ok (.int .i64 0) w) (h:MapAt w c es) (hkk:∀ z:List Int,z.length=3→(∀ n∈z,ZrZ n=true)→∃ l,keyOf P k (rowV z)=some l) {z:List Int} {l:Lit} (hz:keyOf P k (rowV z)=some l) (ok:Bool) :
  (Instr.lookup t (.map (some c)) (rowV z) ok).run P w=.ok (if ok then .tuple #[.int .i64 ((Zoe es z).getD 0),.bool (Zoe es z).isSome] else .int .i64 ((Zoe es z).getD 0)) w:=by
 obtain ⟨xs,clock,h1,h2,h3,h4,h5,h6,h7⟩:=h
 have hk:∀ p∈es,∃ l,keyOf P k (rowV p.1)=some l:=fun p hp=>hkk _ (h7 p hp).1 (h7 p hp).2
 rcases MapAt.find (w:=w) K h2 h3 hk hz with ⟨g1,g2⟩|⟨j,x,p,g1,g2,g3,g4,g5⟩
 ·rw [ZuX g2]
  cases ok <;> simp [Instr.lookup,run_underlying ht,MapKept.run_getObj_map h1,K.check w _ hz,g1,hzero,Result.andThen]
 ·rw [ZuY h6 g4 g5]
  cases ok <;> simp [Instr.lookup,run_underlying ht,MapKept.run_getObj_map h1,K.check w _ hz,g1,Result.andThen]
theorem MapAt.update (K:KeyLaw P k) (ht:P.underlying t=some (.map k e)) (h:MapAt w c es) (hkk:∀ z:List Int,z.length=3→(∀ n∈z,ZrZ n=true)→∃ l,keyOf P k (rowV z)=some l) {z:List Int} (hz3:z.length=3) (hz64:∀ n∈z,ZrZ n=true) {l:Lit} (hz:keyOf P k (rowV z)=some l) (v:Int) :
  ∃ o,(Instr.mapUpdate t (.map (some c)) (rowV z) (.int .i64 v)).run P w=.ok () (setBlock w c o)∧MapAt (setBlock w c o) c (mput es z v):=by
 obtain ⟨xs,clock,h1,h2,h3,h4,h5,h6,h7⟩:=h
 have hk:∀ p∈es,∃ l,keyOf P k (rowV p.1)=some l:=fun p hp=>hkk _ (h7 p hp).1 (h7 p hp).2
 rcases MapAt.find (w:=w) K h2 h3 hk hz with ⟨g1,g2⟩|⟨j,x,p,g1,g2,g3,g4,g5⟩
 ·refine ⟨.map (xs.push ⟨rowV z,.int .i64 v,clock⟩) (clock+1),?_,?_⟩
  ·simp [Instr.mapUpdate,run_underlying ht,MapKept.run_getObj_map h1,K.check w false hz,g1,MapKept.run_setObj_map _ h1,Result.andThen,setBlock]
  ·rw [ZuZ g2]
   refine ⟨_,_,heap_setBlock_same h1 _,by simp [h2],?_,?_,?_,?_,?_⟩
   ·intro j x p hx hp
    rw [Array.getElem?_push] at hx
    split at hx
    ·rename_i he
     cases hx
     rw [he,h2,List.getElem?_append_right (Nat.le_refl _),Nat.sub_self] at hp
     simp at hp
     subst hp
     exact ⟨rfl,rfl⟩
    ·have hjl:=(Array.getElem?_eq_some_iff.mp hx).1
     rw [List.getElem?_append_left (by omega)] at hp
     exact h3 j x p hx hp
   ·intro x hx
    rw [Array.toList_push,List.mem_append,List.mem_singleton] at hx
    rcases hx with hx | rfl
    ·have:=h4 x hx;omega
    ·show clock<clock+1
     omega
   ·rw [Array.toList_push,List.map_append,List.nodup_append]
    refine ⟨h5,by simp,?_⟩
    intro a ha b hb
    simp at hb
    obtain ⟨x,hx,rfl⟩:=List.mem_map.mp ha
    have:=h4 x hx
    omega
   ·rw [List.map_append,List.nodup_append]
    refine ⟨h6,by simp,?_⟩
    intro a ha b hb
    simp at hb
    obtain ⟨p,hp,rfl⟩:=List.mem_map.mp ha
    rw [hb]
    exact g2 p hp
   ·intro q hq
    rw [List.mem_append,List.mem_singleton] at hq
    rcases hq with hq | rfl
    ·exact h7 q hq
    ·exact ⟨hz3,hz64⟩
 ·refine ⟨.map (xs.modify j (fun e'=>{ e' with key:=rowV z,val:=.int .i64 v })) clock,?_,?_⟩
  ·simp [Instr.mapUpdate,run_underlying ht,MapKept.run_getObj_map h1,K.check w false hz,g1,g2,g3,K.stays w hz,MapKept.run_setObj_map _ h1,Result.andThen,setBlock]
  ·rw [Zu0 h6 g4 g5]
   refine ⟨_,_,heap_setBlock_same h1 _,by simp [h2],?_,?_,?_,?_,?_⟩
   ·intro i y q hy hq
    rw [Array.getElem?_modify] at hy
    rw [List.getElem?_set] at hq
    by_cases hji:j=i
    ·subst hji
     rw [if_pos rfl,g2] at hy
     rw [if_pos rfl,if_pos (List.getElem?_eq_some_iff.mp g4).1] at hq
     cases hy
     cases hq
     exact ⟨rfl,rfl⟩
    ·rw [if_neg hji] at hy hq
     exact h3 i y q hy hq
   ·intro y hy
    rcases MapFrom.mem_modify hy with hy | ⟨y',hy',rfl⟩
    ·exact h4 y hy
    ·exact h4 y' (List.mem_of_getElem? (i:=j) (by simpa using hy'))
   ·have hb:(xs.modify j (fun e'=>{ e' with key:=rowV z,val:=.int .i64 v })).toList.map (·.born)=xs.toList.map (·.born):=by
     apply List.ext_getElem?
     intro i
     rw [List.getElem?_map,List.getElem?_map,Array.getElem?_toList,Array.getElem?_toList,Array.getElem?_modify]
     split
     ·cases xs[i]? <;> rfl
     ·rfl
    rw [hb]
    exact h5
   ·have hb:(es.set j (z,v)).map (·.1)=es.map (·.1):=by
     rw [List.map_set]
     apply List.ext_getElem?
     intro i
     rw [List.getElem?_set]
     by_cases hji:j=i
     ·subst hji
      rw [if_pos rfl,List.getElem?_map,g4]
      have:=(List.getElem?_eq_some_iff.mp g4).1
      simp [this,g5]
     ·rw [if_neg hji]
    rw [hb]
    exact h6
   ·intro q hq
    rcases List.mem_or_eq_of_mem_set hq with hq | rfl
    ·exact h7 q hq
    ·exact ⟨hz3,hz64⟩
end
theorem Zoj {P:Program} {k e:TypeId} {q:IntKind} (A:ArrKey P k e 3) (he:P.underlying e=some (.int q)) (hsz:∃ m,P.types.size=m+1) {a b c:Int} (wa:(Lit.int q a).wf=true) (wb:(Lit.int q b).wf=true) (wc:(Lit.int q c).wf=true) :
  keyOf P k (.agg #[.int q a,.int q b,.int q c])=some (.string (keyBytes [.int q a,.int q b,.int q c])):=by
 have hkt:=A.keyType hsz
 obtain ⟨m,hm⟩:=hsz
 unfold keyOf
 simp only [A.hu]
 rw [if_pos (by simp [hkt,Value.formed,A.hu,A.size]),hm]
 unfold Program.keyLits
 simp only [A.hu,Value.cells]
 rw [if_pos (by rw [A.size];rfl),show List.range 3=[0,1,2] from rfl,List.mapM_cons,List.mapM_cons,List.mapM_cons,List.mapM_nil]
 simp [A.one,Program.keyLits,he,wa,wb,wc]
theorem Zqo {n:Int} (h:ZrZ n=true):(Lit.int .i64 n).wf=true:=by
 unfold ZrZ at h
 simp only [Bool.and_eq_true,decide_eq_true_eq] at h
 have h1:=h.1
 have h2:=h.2
 simp [Lit.wf,IntKind.min,IntKind.max,IntKind.signed,IntKind.bits]
 omega
theorem ZxT {P:Program} {t:TypeId} (h:ZzG P t=true) (w:World):(zeroValue t).run P w=.ok (.int .i64 0) w:=by
 unfold ZzG at h
 cases hi:P.info? t with
 | none=>simp [hi] at h
 | some i=>
  simp only [hi] at h
  split at h
  ·rename_i n hz
   simp only [beq_iff_eq] at h
   subst h
   simp [zeroValue,typeInfo,hi,hz]
  ·cases h
theorem Zce {P:Program} {t:TypeId} (h:ZxG P t=true):∃ k e,P.underlying t=some (.map k e)∧KeyLaw P k∧(∀ w:World,(zeroValue e).run P w=.ok (.int .i64 0) w) ∧
  (∀ z:List Int,z.length=3→(∀ n∈z,ZrZ n=true)→∃ l,keyOf P k (rowV z)=some l):=by
 unfold ZxG at h
 split at h
 ·rename_i k e ht
  split at h
  ·rename_i n x hk he
   split at h
   ·rename_i hx
    simp only [Bool.and_eq_true,beq_iff_eq,bne_iff_ne,ne_eq] at h
    obtain ⟨⟨⟨⟨rfl,h2⟩,h3⟩,h4⟩,h5⟩:=h
    have A:ArrKey P k x 3:=⟨hk,by unfold Program.plainKey;rw [hx],h2,h3⟩
    refine ⟨k,e,ht,A.law,ZxT h5,?_⟩
    intro z hz h64
    match z,hz with
    | [a,b,c],_=>
     exact ⟨_,Zoj A hx ⟨P.types.size - 1,by omega⟩ (Zqo (h64 a (by simp))) (Zqo (h64 b (by simp))) (Zqo (h64 c (by simp)))⟩
   ·cases h
  ·cases h
 ·cases h
theorem ZsR {c:AV} {cs:List AV} {z:List Int} (h:Zql (c::cs)=some z):∃ n l,c=.int .i64 n∧Zql cs=some l∧ZrZ n=true∧z=n::l:=by
 unfold Zql at h
 split at h
 ·rename_i hh;cases hh
 ·rename_i n r hh
  cases hh
  split at h
  ·rename_i l hl
   split at h
   ·rename_i h64
    cases h
    exact ⟨n,l,rfl,hl,h64,rfl⟩
   ·cases h
  ·cases h
 ·cases h
theorem Zr0 {ι:Emb} {w:World}:∀ {cs:List AV} {z:List Int} {xs:List Value},Zql cs=some z→VL ι w cs xs→xs=z.map (Value.int .i64)∧∀ n∈z,ZrZ n=true
 | [],z,xs,h,hv=>by
  cases h
  cases hv
  exact ⟨rfl,fun n hn=>by cases hn⟩
 | c::cs,z,xs,h,hv=>by
  obtain ⟨y,ys,rfl,h1,h2⟩:=hv
  obtain ⟨n,l,rfl,hl,h64,rfl⟩:=ZsR h
  obtain ⟨e1,e2⟩:=Zr0 hl h2
  cases h1
  refine ⟨by rw [e1];rfl,fun m hm => ?_⟩
  rcases List.mem_cons.mp hm with rfl | hm
  ·exact h64
  ·exact e2 m hm
theorem Zqp {ι:Emb} {w:World} {a:AV} {z:List Int} {v:Value} (h:ZuQ a=some z) (hv:V ι w a v):z.length=3∧(∀ n∈z,ZrZ n=true)∧v=rowV z:=by
 unfold ZuQ at h
 split at h
 ·rename_i cs
  split at h
  ·rename_i l hl
   split at h
   ·rename_i h3
    cases h
    obtain ⟨xs,rfl,h1,_⟩:=hv
    obtain ⟨e1,e2⟩:=Zr0 hl h1
    exact ⟨h3,e2,by rw [e1];rfl⟩
   ·cases h
  ·cases h
 ·cases h
section
variable {ι : Emb} {m : Mem} {w : World}
theorem Rel.putMap {b c:Nat} {es es':List (List Int×Int)} {o:Obj} (R:Rel ι m w) (hb:m.H[b]?=some (.mp es)) (hi:ι[b]?=some (some (c,0))) (hM:MapAt w c es) (hM':MapAt (setBlock w c o) c es') :
  Rel ι { m with H:=m.H.set b (.mp es') } (setBlock w c o)∧Ext ι m w ι { m with H:=m.H.set b (.mp es') } (setBlock w c o):=by
 obtain ⟨xs,clock,hx,_⟩:=hM
 have hbl:b<m.H.length:=(List.getElem?_eq_some_iff.mp hb).1
 have hsize:(setBlock w c o).heap.size=w.heap.size:=by simp [setBlock]
 have hoth:∀ r,r≠c→(setBlock w c o).heap[r]?=w.heap[r]?:=fun r hr=>heap_setBlock_other hx _ hr
 have hsh:YJ w (setBlock w c o):=by
  intro r s hs
  by_cases hr:r=c
  ·subst hr
   unfold World.shape? at hs
   rw [hx] at hs
   simp at hs
  ·unfold World.shape? at *
   rw [hoth r hr]
   exact hs
 have hset:∀ b',(m.H.set b (.mp es'))[b']?=if b=b' then some (.mp es') else m.H[b']?:=by
  intro b'
  rw [List.getElem?_set]
  split
  ·simp [hbl]
  ·rfl
 have back:∀ bq kq,(if b=bq then some (Blk.mp es') else m.H[bq]?)=some kq→∃ kq',m.H[bq]?=some kq'∧(kq.wrt→kq'.wrt)∧(kq.live→kq'.live):=by
  intro bq kq hq
  split at hq
  ·rename_i e;subst e;cases hq;exact ⟨_,hb,fun _=>trivial,fun _=>trivial⟩
  ·exact ⟨kq,hq,id,id⟩
 refine R.of0 ⟨⟨by simp [R.len],fun b' c' d' h=>by rw [hsize];exact R.low b' c' d' h,fun b' cs wr h => ?_,fun b' es2 h => ?_,fun b1 b2 k1 k2 c1 d1 c2 d2 hne h1 hk1 h2 hk2 h3 h4 => ?_⟩,
  ⟨Emb.le_refl _,Nat.le_refl _,by rw [hsize];exact Nat.le_refl _,hsh,fun r hr => ?_,fun r hr hn => ?_,rfl,rfl,rfl⟩⟩
 ·simp only [] at h
  rw [hset] at h
  split at h
  ·cases h
  ·rename_i hne
   obtain ⟨c',d',h1,h2⟩:=R.at' b' cs wr h
   exact ⟨c',d',h1,h2.mono (Emb.le_refl _) hsh (hoth c' (fun e=>R.sep b b' _ _ c 0 c' d' hne hb trivial h trivial hi h1 e.symm))⟩
 ·simp only [] at h
  rw [hset] at h
  split at h
  ·rename_i e
   subst e
   cases h
   exact ⟨c,hi,hM'⟩
  ·rename_i hne
   obtain ⟨c',h1,h2⟩:=R.mp b' es2 h
   exact ⟨c',h1,h2.mono (hoth c' (fun e=>R.sep b b' _ _ c 0 c' 0 hne hb trivial h trivial hi h1 e.symm))⟩
 ·simp only [] at h1 h2
  rw [hset] at h1 h2
  obtain ⟨a1,q1,w1,_⟩:=back _ _ h1
  obtain ⟨a2,q2,_,l2⟩:=back _ _ h2
  exact R.sep b1 b2 a1 a2 c1 d1 c2 d2 hne q1 (w1 hk1) q2 (l2 hk2) h3 h4
 ·obtain ⟨b',k,d',h1,hk,h2⟩:=hr
  left
  simp only [] at h1
  rw [hset] at h1
  split at h1
  ·rename_i e;subst e;exact ⟨b,_,d',hb,trivial,h2⟩
  ·exact ⟨b',k,d',h1,hk,h2⟩
 ·exact hoth r (fun e=>hn ⟨b,_,0,hb,trivial,by rw [e];exact hi⟩)
theorem Rel.newMap (R:Rel ι m w) :
  Rel (ι++[some (w.heap.size,0)]) { m with H:=m.H++[.mp []] } (w.alloc (.map #[] 0))∧Ext ι m w (ι++[some (w.heap.size,0)]) { m with H:=m.H++[.mp []] } (w.alloc (.map #[] 0)):=by
 have hle:Emb.le ι (ι++[some (w.heap.size,0)]):=fun b p hb=>by
  rw [List.getElem?_append_left];exact hb
  exact (List.getElem?_eq_some_iff.mp hb).1
 have hsh:=Zae w (.map #[] 0)
 have hold:∀ (b c d:Nat),ι[b]?=some (some (c,d))→(w.alloc (.map #[] 0)).heap[c]?=w.heap[c]? :=
  fun b c d hb=>heap_alloc_old w _ c (R.low b c d hb)
 have key:∀ b:Nat,(ι++[some (w.heap.size,0)])[b]?=if b<ι.length then ι[b]? else if b=ι.length then some (some (w.heap.size,0)) else none:=by
  intro b
  by_cases h1:b<ι.length
  ·rw [if_pos h1,List.getElem?_append_left h1]
  ·rw [if_neg h1,List.getElem?_append_right (by omega)]
   by_cases h2:b=ι.length
   ·subst h2;simp
   ·rw [if_neg h2];rw [List.getElem?_eq_none];simp;omega
 have keyH:∀ b:Nat,(m.H++[Blk.mp []])[b]?=if b<ι.length then m.H[b]? else if b=ι.length then some (.mp []) else none:=by
  intro b
  by_cases h1:b<ι.length
  ·rw [if_pos h1,List.getElem?_append_left (by rw [←R.len];exact h1)]
  ·rw [if_neg h1,List.getElem?_append_right (by rw [←R.len];omega)]
   by_cases h2:b=ι.length
   ·subst h2;simp [R.len]
   ·rw [if_neg h2];rw [List.getElem?_eq_none];simp [←R.len];omega
 refine R.of0 ⟨⟨by simp [R.len],?_,?_,?_,?_⟩,⟨hle,by simp,by rw [World.size_alloc];omega,hsh,?_,fun r hr _=>heap_alloc_old w _ r hr,rfl,rfl,rfl⟩⟩
 ·intro b c d hb
  rw [key] at hb
  rw [World.size_alloc]
  split at hb
  ·have:=R.low b c d hb;omega
  ·split at hb
   ·cases hb;omega
   ·cases hb
 ·intro b cs wr hb
  simp only [] at hb
  rw [keyH] at hb
  split at hb
  ·obtain ⟨c,d,h1,h2⟩:=R.at' b cs wr hb
   exact ⟨c,d,hle _ _ h1,h2.mono hle hsh (hold b c d h1)⟩
  ·split at hb <;> cases hb
 ·intro b es hb
  simp only [] at hb
  rw [keyH] at hb
  split at hb
  ·obtain ⟨c,h1,h2⟩:=R.mp b es hb
   exact ⟨c,hle _ _ h1,h2.mono (hold b c 0 h1)⟩
  ·split at hb
   ·rename_i hlt heq
    cases hb
    exact ⟨w.heap.size,by rw [key,if_neg hlt,if_pos heq],#[],0,heap_alloc_new _ _,rfl,fun j x p hx=>by simp at hx,fun x hx=>by simp at hx,by simp,by simp,fun p hp=>by cases hp⟩
   ·cases hb
 ·intro b b' k₁ k₂ c d c' d' hne hb hk hb' hk' hi hi'
  simp only [] at hb hb'
  rw [keyH] at hb hb'
  rw [key] at hi hi'
  by_cases h1:b<ι.length <;> by_cases h2:b'<ι.length
  ·rw [if_pos h1] at hb hi;rw [if_pos h2] at hb' hi'
   exact R.sep b b' k₁ k₂ c d c' d' hne hb hk hb' hk' hi hi'
  ·rw [if_pos h1] at hb hi;rw [if_neg h2] at hb' hi'
   split at hi'
   ·cases hi';have:=R.low b c d hi;omega
   ·cases hi'
  ·rw [if_neg h1] at hb hi;rw [if_pos h2] at hb' hi'
   split at hi
   ·cases hi;have:=R.low b' c' d' hi';omega
   ·cases hi
  ·rw [if_neg h1] at hb hi;rw [if_neg h2] at hb' hi'
   split at hi
   ·split at hi'
    ·omega
    ·cases hi'
   ·cases hi
 ·rintro r ⟨b,k,d,hb,hk,hi⟩
  simp only [] at hb
  rw [keyH] at hb
  rw [key] at hi
  split at hb
  ·rename_i hlt
   rw [if_pos hlt] at hi
   exact .inl ⟨b,k,d,hb,hk,hi⟩
  ·rename_i hlt
   rw [if_neg hlt] at hi
   split at hi
   ·cases hi;exact .inr (Nat.le_refl _)
   ·cases hi
end
end Go.Proofs.YtemcdiajejekoaaGreatDoor.Slim
