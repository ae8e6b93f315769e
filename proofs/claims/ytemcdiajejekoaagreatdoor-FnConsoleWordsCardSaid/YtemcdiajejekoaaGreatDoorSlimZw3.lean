/- Parts of the proof. -/
import Derived.Test.YtemcdiajejekoaaGreatDoorSlimZw2
import Derived.Laws.Tables
set_option linter.unusedSimpArgs false
set_option linter.unusedVariables false
namespace Go.Proofs.YtemcdiajejekoaaGreatDoor.Slim
open Go
theorem Zog (off:Nat):∀ (l:List Value) (k:Nat) (cells:Array Value),off+k+l.length≤cells.size →
    ((l.zipIdx k).foldl (fun cs (x:Value×Nat)=>cs.setIfInBounds (off+x.2) x.1) cells).toList=cells.toList.take (off+k)++l++cells.toList.drop (off+k+l.length)
  | [],k,cells,h=>by simp
  | v::vs,k,cells,h=>by
    rw [List.zipIdx_cons,List.foldl_cons,Zog off vs (k+1) _ (by simp only [List.length_cons] at h;simp;omega)]
    simp only [List.length_cons] at h
    have hlt:off+k<cells.size:=by omega
    simp only [Array.toList_setIfInBounds]
    rw [show off+(k+1)=off+k+1 by omega,List.take_succ_eq_append_getElem (by simpa using hlt),List.take_set_of_le (by omega),List.drop_set_of_lt (by omega)]
    simp
    omega
section
variable {ι : Emb} {w : World}
theorem Zm1 {P:Program} {cx:Zf1} {g:X→AV} {ρ:Operand→Value} (hρ:OkX ι w cx g ρ) {place:Nat→Option (Nat×Nat)} :
    ∀ {parts:List (Nat×Operand)} {ps:List (Nat×Nat×X)} {cs out:List AV} {cells:Array Value},Zl1 cx place parts=some ps→Zb g cs ps=some out →
      VL ι w cs cells.toList→cs.all AV.isCell=true →
      ∃ out',Instr.fill place cells (parts.map fun x=>(x.1,ρ x.2))=some out'∧VL ι w out out'.toList∧out.all AV.isCell=true∧out.length=cs.length
  | [],ps,cs,out,cells,h,hf,hv,hc=>by cases h;cases hf;exact ⟨cells,rfl,hv,hc,rfl⟩
  | (i,o)::rest,ps,cs,out,cells,h,hf,hv,hc=>by
    unfold Zl1 at h
    split at h
    · rename_i off sz x xs h1 h2 h3
      cases h
      unfold Zb at hf
      split at hf
      · cases hf
      · rename_i new hn
        split at hf
        · rename_i hlen
          obtain ⟨hl1,hl2⟩:=hlen
          obtain ⟨hv',hc'⟩:=(hρ _ _ h2).cells hn
          have hsz:(ρ o).cells.size=sz:=by have:=hv'.length;simp at this;omega
          have hcs:cells.size=cs.length:=by have:=hv.length;simpa using this
          have hset:=hv.setRange off hv'
          have hfold:=Zog off (ρ o).cells.toList 0 cells (by simp;omega)
          have hall:(Slim.Yz cs off new).all AV.isCell=true:=by
            unfold Slim.Yz
            simp only [List.all_append,Bool.and_eq_true]
            refine ⟨⟨List.all_eq_true.mpr fun y hy=>List.all_eq_true.mp hc y (List.mem_of_mem_take hy),hc'⟩,List.all_eq_true.mpr fun y hy=>List.all_eq_true.mp hc y (List.mem_of_mem_drop hy)⟩
          obtain ⟨out',r1,r2,r3,r4⟩:=Zm1 (P:=P) hρ (cells:=(ρ o).cells.zipIdx.foldl (fun cs (c,j)=>cs.setIfInBounds (off+j) c) cells) h3 hf (by
            rw [←Array.foldl_toList,Array.toList_zipIdx]
            have e:(fun (cs:Array Value) (x:Value×Nat)=>match x with | (c,j)=>cs.setIfInBounds (off+j) c)=fun cs x=>cs.setIfInBounds (off+x.2) x.1:=rfl
            rw [e,hfold]
            simpa using hset) hall
          refine ⟨out',?_,r2,r3,?_⟩
          · simp only [List.map_cons,Instr.fill,h1]
            rw [if_neg (by simp;omega)]
            exact r1
          · rw [r4];unfold Slim.Yz;simp;omega
        · cases hf
    · cases h
theorem ZdF {P:Program}:∀ (fs:List Field),fs.all (fun f=>(szT P f.type).isSome)=true →
    (fs.mapM fun f=>(do pure (f.offset,←sizeOf f.type):Sem (Nat×Nat))).run P w=.ok (fs.map fun f=>(f.offset,(szT P f.type).getD 0)) w
  | [],_=>by simp
  | f::fs,h=>by
    simp only [List.all_cons,Bool.and_eq_true] at h
    obtain ⟨n,hn⟩:=Option.isSome_iff_exists.mp h.1
    simp [List.mapM_cons,YZ hn,hn]
    have:=ZdF fs h.2
    simp at this
    simp [this]
theorem Zex {P:Program} {t:TypeId} {zs:List AV} (h:Zli P t=some zs):∃ z:Value,(∀ w:World,(zeroValue t).run P w=.ok z w)∧VL ι w zs z.cells.toList∧zs.all AV.isCell=true:=by
  unfold Zli at h
  cases hi:P.info? t with
  | none=>simp [hi] at h
  | some i=>
    simp only [hi,Option.map_some] at h
    cases hz:i.zero with
    | none=>simp [hz] at h
    | some z=>
      simp only [hz] at h
      obtain ⟨p,q⟩:=VL.ofCells (ι:=ι) (w:=w) h
      exact ⟨z,fun w=>by simp [zeroValue,typeInfo,hi,hz],p,q⟩
theorem ZxO {P:Program} {cx:Zf1} {g:X→AV} {ρ:Operand→Value} (hρ:OkX ι w cx g ρ) {t:TypeId} {parts:Array (Nat×Operand)} {ao:AO} {v:AV}
    (hc:Zi P cx (.build t parts)=some ao) (hl:Ji g ao=some v) :
    ∃ v',(Instr.build t (parts.map fun (i,x)=>(i,ρ x))).run P w=.ok v' w∧V ι w v v':=by
  have hpl:(parts.map fun (i,x)=>(i,ρ x)).toList=parts.toList.map fun x=>(x.1,ρ x.2):=by simp
  simp only [Zi] at hc
  split at hc
  · rename_i fs hu
    simp only [Option.bind_eq_bind,Option.bind_eq_some_iff] at hc
    obtain ⟨zero,hz,hc⟩:=hc
    split at hc
    · rename_i hall
      simp only [Option.bind_eq_some_iff,Option.pure_def,Option.some.injEq] at hc
      obtain ⟨ps,hps,rfl⟩:=hc
      simp only [Ji,Option.map_eq_some_iff] at hl
      obtain ⟨out,ho,rfl⟩:=hl
      obtain ⟨z,hz1,hz2,hz3⟩:=Zex (ι:=ι) (w:=w) hz
      have hpl2:(fun i=>(fs.toList.map fun f=>(f.offset,(szT P f.type).getD 0)).toArray[i]?)=Zfs P fs:=by
        funext i
        simp only [Zfs,List.getElem?_toArray,List.getElem?_map,Array.getElem?_toList]
        cases hf:fs[i]? with
        | none=>simp
        | some f=>
          have:f∈fs.toList:=by simpa using Array.mem_of_getElem? hf
          obtain ⟨n,hn⟩:=Option.isSome_iff_exists.mp (List.all_eq_true.mp hall f this)
          simp [hn]
      obtain ⟨out',r1,r2,r3,_⟩:=Zm1 (P:=P) hρ (cells:=z.cells) hps ho hz2 hz3
      refine ⟨.agg out',?_,⟨out'.toList,by simp,r2,r3⟩⟩
      have hm:=ZdF (P:=P) (w:=w) fs.toList hall
      simp only [Instr.build,Sem.run_bind,hz1,Result.andThen_ok,run_underlying hu,Array.mapM_eq_mapM_toList,Sem.run_map,hm]
      rw [hpl2,hpl,r1]
      rfl
    · cases hc
  · rename_i n e hu
    simp only [Option.bind_eq_bind,Option.bind_eq_some_iff,Option.pure_def,Option.some.injEq] at hc
    obtain ⟨zero,hz,sz,hs,ps,hps,rfl⟩:=hc
    simp only [Ji,Option.map_eq_some_iff] at hl
    obtain ⟨out,ho,rfl⟩:=hl
    obtain ⟨z,hz1,hz2,hz3⟩:=Zex (ι:=ι) (w:=w) hz
    obtain ⟨out',r1,r2,r3,_⟩:=Zm1 (P:=P) hρ (cells:=z.cells) hps ho hz2 hz3
    refine ⟨.agg out',?_,⟨out'.toList,by simp,r2,r3⟩⟩
    simp only [Instr.build,Sem.run_bind,hz1,Result.andThen_ok,run_underlying hu,YZ hs]
    rw [hpl,r1]
    rfl
  · cases hc
theorem ZuW {P:Program} {t:TypeId} {agg:Bool} {sz off:Nat} (ha:ZxF P t=some agg) (hs:szT P t=some sz) {cs:List AV} {v:AV} {xs:List Value}
    (hv:VL ι w cs xs) (hcell:cs.all AV.isCell=true) (h:Slim.ZdV agg cs off sz=some v) :
    ∃ v',(Go.part t xs.toArray off).run P w=.ok v' w∧V ι w v v':=by
  unfold Slim.ZdV at h
  cases agg with
  | true=>
    simp only [if_true] at h
    split at h
    · cases h
      refine ⟨.agg (xs.toArray.extract off (off+sz)),by simp [Go.part,Zbq ha,YZ hs],?_⟩
      refine ⟨(xs.drop off).take sz,by simp,(hv.drop off).take sz,?_⟩
      exact List.all_eq_true.mpr fun y hy=>List.all_eq_true.mp hcell y (List.mem_of_mem_drop (List.mem_of_mem_take hy))
    · cases h
  | false=>
    simp only [Bool.false_eq_true,if_false] at h
    obtain ⟨y,h1,h2⟩:=hv.get off v h
    exact ⟨y,by simp [Go.part,Zbq ha,h1],h2⟩
theorem ZxP {P:Program} {op:BinOp} {t:TypeId} {k k':IntKind} {x y:Int} {v:AV} (hk:k=k'∨op=.shl∨op=.shr) (h:Zau op k x y=some v) :
    ∃ v',(binOp op t (.int k x) (.int k' y)).run P w=.ok v' w∧V ι w v v':=by
  by_cases e:k=k'
  · subst e
    cases op <;> simp only [Zau] at h <;> first
      | (cases h;exact ⟨_,by simp [binOp,Op.intArith,Op.intBits,Op.intCmp] <;> rfl,rfl⟩)
      | (split at h
         · cases h
         · rename_i hy
           cases h
           exact ⟨_,by simp [binOp,Op.intDiv,Op.shift,hy],rfl⟩)
  · rcases hk with h1 | h1 | h1
    · exact absurd h1 e
    · subst h1
      simp only [Zau] at h
      split at h
      · cases h
      · rename_i hy
        cases h
        exact ⟨_,by simp [binOp,Op.shift,hy],rfl⟩
    · subst h1
      simp only [Zau] at h
      split at h
      · cases h
      · rename_i hy
        cases h
        exact ⟨_,by simp [binOp,Op.shift,hy],rfl⟩
end
end Go.Proofs.YtemcdiajejekoaaGreatDoor.Slim
