/- Parts of the proof. -/
import Derived.Test.YtemcdiajejekoaaGreatDoorSlimZw7
import Derived.Laws.IdiomRangeMap
set_option linter.unusedSimpArgs false
set_option linter.unusedVariables false
namespace Go.Proofs.YtemcdiajejekoaaGreatDoor.Slim
open Go
theorem ZjD {P:Program} (w:World) (ty:TypeId) (r bm clock:Nat) (seen:Array Nat) (xs:Array MapEntry) (hr:w.heap[r]?=some (.mapIter (some bm) clock seen clock)) (hb:w.heap[bm]?=some (.map xs clock)) (hold:∀ x∈xs.toList,x.born<clock) :
  ((leftOf xs seen).size=0∧(Instr.next (.pointer (some ⟨r,0,none⟩)) false ty).run P w=.ok (.tuple #[.bool false]) w) ∨
  ∃ e∈(leftOf xs seen).toList,∃ w1:World,(w1=w∨w1=w.drew)∧(Instr.next (.pointer (some ⟨r,0,none⟩)) false ty).run P w=.ok (.tuple #[.bool true,e.key,e.val]) { w1 with heap:=w1.heap.setIfInBounds r (.mapIter (some bm) clock (seen.push e.born) clock) }:=by
 simp only [Instr.next,getObj,Sem.run_bind,Sem.run,hr,hb,Result.andThen,next_test_false seen xs clock clock hold (Nat.le_refl _),Bool.false_eq_true,if_false]
 unfold leftOf
 have hmem:∀ x∈(Array.filter (fun e => !seen.contains e.born) xs).toList,x.born<clock:=fun x hx=>hold x (by simp at hx ⊢;exact hx.1)
 generalize Array.filter (fun e => !seen.contains e.born) xs=L at hmem ⊢
 have e1:L.filter (fun x=>decide (x.born<clock))=L:=Array.filter_eq_self.2 (fun x hx=>by simpa using hmem x (by simpa using hx))
 have e2:L.filter (fun x=>decide (x.born≥clock)) = #[]:=by
  rw [Array.filter_eq_empty_iff]
  intro x hx
  have:=hmem x (by simpa using hx)
  simp
  omega
 simp only [e1,e2,Array.append_empty]
 by_cases h0:L.size=0
 ·left
  have:L = #[]:=Array.eq_empty_of_size_eq_zero h0
  subst this
  refine ⟨rfl,?_⟩
  simp [choose,Sem.run,Question.forced]
 ·right
  have hne:L.isEmpty=false:=by simp [Array.isEmpty,h0]
  simp only [hne,Bool.false_eq_true,if_false,Array.empty_append,Array.size_map]
  have hch:∃ (j:Nat) (w1:World),j<L.size∧(w1=w∨w1=w.drew)∧(choose (Question.mapNext L.size)).run P w=.ok j w1:=by
   by_cases hf:L.size≤1
   ·exact ⟨0,w,by omega,.inl rfl,by simp [choose,Sem.run,Question.forced,hf]⟩
   ·exact ⟨_,w.drew,Nat.mod_lt _ (by omega),.inr rfl,by
     simp only [choose,Sem.run,Question.forced,decide_eq_true_eq,hf,if_false,Question.cut]
     rfl⟩
  obtain ⟨j,w1,hj,hal,hrun⟩:=hch
  refine ⟨L[j],by simp,w1,hal,?_⟩
  have hh:w1.heap=w.heap:=by rcases hal with rfl | rfl <;> rfl
  have hset:∀ (o':Obj),(setObj r o').run P w1=.ok () { w1 with heap:=w1.heap.setIfInBounds r o' }:=fun o'=>by
   simp only [setObj,Sem.run]
   rw [hh,hr]
  simp only [hrun,Array.getElem?_map,Array.getElem?_eq_getElem hj,Option.map_some,Sem.run_bind,hset,Result.andThen]
  rfl
theorem Zoq {P:Program} (w:World) (r bm clock:Nat) (seen:Array Nat) (xs:Array MapEntry) (e:MapEntry) (hr:w.heap[r]?=some (.mapIter (some bm) clock (seen.push e.born) clock)) (hb:w.heap[bm]?=some (.map xs clock)) (he:e∈xs.toList) (hn:(xs.toList.map (·.born)).Nodup) :
  (Instr.entry (.pointer (some ⟨r,0,none⟩))).run P w=.ok (.tuple #[e.key,e.val]) w:=by
 have hf:xs.find? (·.born==e.born)=some e:=by rw [←Array.find?_toList];exact find_born e xs.toList hn he
 simp only [Instr.entry,getObj,Sem.run_bind,Sem.run,hr,hb,Result.andThen,Array.back?_push,bne_self_eq_false,Bool.false_eq_true,if_false,hf]
 rfl
def Zb2 (ps:List (MapEntry×(List Int×Int))) (seen:Array Nat):List (MapEntry×(List Int×Int)):=ps.filter fun q => !seen.contains q.1.born
theorem ZsV {ps:List (MapEntry×(List Int×Int))} {seen:Array Nat} {q:MapEntry×(List Int×Int)} (hn:(ps.map fun q=>q.1.born).Nodup) (hq:q∈Zb2 ps seen):(Zb2 ps seen).Perm (q::Zb2 ps (seen.push q.1.born)):=by
 have e:Zb2 ps (seen.push q.1.born)=(Zb2 ps seen).filter fun x=>x.1.born≠q.1.born:=by
  unfold Zb2
  rw [List.filter_filter]
  refine List.filter_congr fun x hx => ?_
  simp only [Array.contains_eq_mem,Array.mem_push,decide_eq_true_eq,ne_eq]
  by_cases h1:x.1.born∈seen <;> by_cases h2:x.1.born=q.1.born <;> simp [h1,h2]
 rw [e]
 have hn':((Zb2 ps seen).map fun q=>q.1.born).Nodup:=by
  unfold Zb2
  exact List.Pairwise.sublist (List.Sublist.map _ (List.filter_sublist)) hn
 generalize Zb2 ps seen=L at hq hn'
 induction L with
 | nil=>cases hq
 | cons y L ih=>
  simp only [List.map_cons,List.nodup_cons] at hn'
  rcases List.mem_cons.mp hq with rfl | hq
  ·rw [List.filter_cons]
   simp only [ne_eq,not_true_eq_false,decide_false,Bool.false_eq_true,if_false]
   refine List.Perm.cons _ ?_
   have:L.filter (fun x=>decide (¬ x.1.born=q.1.born))=L:=by
    rw [List.filter_eq_self]
    intro x hx
    simp only [decide_eq_true_eq]
    intro h
    exact hn'.1 (h ▸ List.mem_map_of_mem (f:=fun q=>q.1.born) hx)
   rw [this]
  ·have hne:¬ y.1.born=q.1.born:=fun h=>hn'.1 (h ▸ List.mem_map_of_mem (f:=fun q=>q.1.born) hq)
   rw [List.filter_cons]
   simp only [ne_eq,hne,not_false_eq_true,decide_true,if_true]
   exact ((ih hq hn'.2).cons y).trans (List.Perm.swap _ _ _)
theorem ZjE {xs:Array MapEntry} {es:List (List Int×Int)} (hl:xs.size=es.length) (seen:Array Nat):(Zb2 (xs.toList.zip es) seen).map (·.1)=(leftOf xs seen).toList:=by
 unfold Zb2 leftOf
 rw [Array.toList_filter]
 have h:(xs.toList.zip es).map (·.1)=xs.toList:=by
  rw [List.map_fst_zip]
  simp
  omega
 conv=>rhs;rw [←h]
 rw [List.filter_map]
 rfl
end Go.Proofs.YtemcdiajejekoaaGreatDoor.Slim
namespace Go.Proofs.YtemcdiajejekoaaGreatDoor.Slim
open Go
def Zm5:Zg→Option (Nat×Zg)
 | .block i b=>some (i,b)
 | _=>none
def Zu7:Zg→Option Zg
 | .loop b=>some b
 | _=>none
def Zu8:Zg→Option (Zg×Zg)
 | .seq a b=>some (a,b)
 | _=>none
def Zu9:Zg→Option (List DE×List (Nat×Nat))
 | .draw a b=>some (a,b)
 | _=>none
def Zi9:Zg→Option (List YS×List (Nat×Nat))
 | .region a b=>some (a,b)
 | _=>none
def Zva:Zg→Option X
 | .cond c .skip (.exit _)=>some c
 | _=>none
def Zvb:DE→Option X
 | ⟨.mkit x,none,_⟩=>some x
 | _=>none
def Zvc:List YS→Option X
 | [⟨.itNext x,none⟩,⟨.extract 0 (.l 0),none⟩]=>some x
 | _=>none
def Zqt:List YS→Option (X×List YS)
 | ⟨.itEntry x,none⟩::az=>some (x,az)
 | _=>none
def Zzg:Zg→Option Nat
 | .cond _ _ (.exit k)=>some k
 | _=>none
def Zr6:List DE→Option (List DE×DE)
 | []=>none
 | [o]=>some ([],o)
 | o::p::os=>match Zr6 (p::os) with
  | some (r,l)=>some (o::r,l)
  | none=>none
def Zhm (x y:Zg):Option Zg:=do
 let (out,l) ←Zm5 y
 let b ←Zu7 l
 let (b1,b2) ←Zu8 b
 let (ops2,outs2) ←Zi9 b1
 let it ←Zvc ops2
 let (b3,b4) ←Zu8 b2
 let c ←Zva b3
 let k ←Zzg b3
 let (nxt,b5) ←Zm5 b4
 let (b6,body) ←Zu8 b5
 let (ops3,outs3) ←Zi9 b6
 let (it',az) ←Zqt ops3
 let (ops0,outs0) ←Zu9 x
 let (r,q) ←Zr6 ops0
 let mx ←Zvb q
 if k=out then some (.mloop r outs0 mx it it' c outs2 az outs3 nxt body) else none
def ZsW (x y:Zg):Zg :=
 match Zhm x y with
 | some z=>z
 | none=>.seq x y
def Zn (P:Program) (nt:Nat) (keep:List Nat) (pl:Zqr):Code→Option Zg
 | .skip=>some .skip
 | .label _=>some .skip
 | .region id ops draw=>
  if draw then
   match pl.lookup id with
   | none=>none
   | some order=>match KA P nt keep ops order [] with
    | none=>none
    | some items=>if (List.range ops.size).all (fun i=>items.any (·.idx==i))&&items.all (fun it=>it.ao.kind != 4||items.all fun x=>x.idx==it.idx||it.anc.contains x.idx) then some (.draw (items.map fun it=>⟨it.ao,it.gd,it.again⟩) (Kq (ZxI items 0) keep 0)) else none
  else match Xs P nt keep ops ops.toList 0 [] with
   | some (az,env)=>some (.region az (Kq env keep 0))
   | none=>none
 | .seq a b=>match Zn P nt keep pl a,Zn P nt keep pl b with
  | some x,some y=>some (ZsW x y)
  | _,_=>none
 | .cond c a b=>match ZxH keep [] c,Zn P nt keep pl a,Zn P nt keep pl b with
  | some x,some y,some z=>some (.cond x y z)
  | _,_,_=>none
 | .block id c=>(Zn P nt keep pl c).map (.block id)
 | .loop c=>(Zn P nt keep pl c).map .loop
 | .exit id=>some (.exit id)
 | .ret=>some .ret
 | _=>none
def Jp (P:Program) (keep:List Nat):List ResultVar→Option (List AR)
 | []=>some []
 | .tmp t::rs=>match keep.idxOf? t,Jp P keep rs with
  | some s,some az=>some (.tmp s::az)
  | _,_=>none
 | .cell a t::rs=>match keep.idxOf? a,ZxF P t,szT P t,Jp P keep rs with
  | some s,some g,some sz,some az=>some (.cell s g sz::az)
  | _,_,_,_=>none
section mloop
theorem ZjF {a:Zg} {i:Nat} {b:Zg} (h:Zm5 a=some (i,b)):a=.block i b:=by cases a <;> simp_all [Zm5]
theorem ZsX {a b:Zg} (h:Zu7 a=some b):a=.loop b:=by cases a <;> simp_all [Zu7]
theorem ZjG {a b c:Zg} (h:Zu8 a=some (b,c)):a=.seq b c:=by cases a <;> simp_all [Zu8]
theorem Zh1 {a:Zg} {ops:List YS} {outs:List (Nat×Nat)} (h:Zi9 a=some (ops,outs)):a=.region ops outs:=by cases a <;> simp_all [Zi9]
theorem ZsY {a:Zg} {c:X} {k:Nat} (h:Zva a=some c) (h2:Zzg a=some k):a=.cond c .skip (.exit k):=by
 unfold Zva at h
 split at h
 ·cases h;cases h2;rfl
 ·cases h
theorem ZsZ {q:DE} {x:X} (h:Zvb q=some x):∃ ag,q=⟨.mkit x,none,ag⟩:=by
 unfold Zvb at h
 split at h
 ·cases h;exact ⟨_,rfl⟩
 ·cases h
theorem Zs0 {a:Zg} {ops:List DE} {outs:List (Nat×Nat)} (h:Zu9 a=some (ops,outs)):a=.draw ops outs:=by cases a <;> simp_all [Zu9]
theorem Zs1 {l:List YS} {x:X} (h:Zvc l=some x):l=[⟨.itNext x,none⟩,⟨.extract 0 (.l 0),none⟩]:=by
 unfold Zvc at h
 split at h
 ·cases h;rfl
 ·cases h
theorem Zqu {l az:List YS} {x:X} (h:Zqt l=some (x,az)):l=⟨.itEntry x,none⟩::az:=by
 unfold Zqt at h
 split at h
 ·cases h;rfl
 ·cases h
theorem Zl9:∀ {l r:List DE} {q:DE},Zr6 l=some (r,q)→l=r++[q]
 | [],_,_,h=>by cases h
 | [o],_,_,h=>by cases h;rfl
 | o::p::os,r,q,h=>by
  unfold Zr6 at h
  split at h
  ·rename_i r' l' e
   cases h
   rw [Zl9 e]
   rfl
  ·cases h
theorem Zfw {x y z:Zg} (h:Zhm x y=some z):∃ r outs0 mx it it' c outs2 az outs3 nxt body out,(∃ ag,x=.draw (r++[⟨.mkit mx,none,ag⟩]) outs0) ∧
  y=.block out (.loop (.seq (.region [⟨.itNext it,none⟩,⟨.extract 0 (.l 0),none⟩] outs2) (.seq (.cond c .skip (.exit out)) (.block nxt (.seq (.region (⟨.itEntry it',none⟩::az) outs3) body))))) ∧
  z=.mloop r outs0 mx it it' c outs2 az outs3 nxt body:=by
 unfold Zhm at h
 simp only [Option.bind_eq_bind,Option.bind_eq_some_iff] at h
 obtain ⟨⟨out,l⟩,h1,b,h2,⟨b1,b2⟩,h3,⟨ops2,outs2⟩,h4,it,h5,⟨b3,b4⟩,h6,c,h7,k,h8,⟨nxt,b5⟩,h9,⟨b6,body⟩,h10,⟨ops3,outs3⟩,h11,⟨it',az⟩,h12,⟨ops0,outs0⟩,h13,⟨r,q⟩,h14,mx,h15,h16⟩:=h
 dsimp only at h1 h2 h3 h4 h5 h6 h7 h8 h9 h10 h11 h12 h13 h14 h15
 split at h16
 ·rename_i hk
  subst hk
  cases h16
  refine ⟨r,outs0,mx,it,it',c,outs2,az,outs3,nxt,body,k,?_,?_,rfl⟩
  ·obtain ⟨ag,h17⟩:=ZsZ h15
   exact ⟨ag,by rw [Zs0 h13,Zl9 h14,h17]⟩
  ·rw [ZjF h1,ZsX h2,ZjG h3,Zh1 h4,Zs1 h5,ZjG h6,ZsY h7 h8,ZjF h9,ZjG h10,Zh1 h11,Zqu h12]
 ·cases h16
theorem Zfx (x y:Zg):(∃ z,Zhm x y=some z∧ZsW x y=z)∨ZsW x y=.seq x y:=by
 unfold ZsW
 cases h:Zhm x y with
 | none=>exact .inr rfl
 | some z=>exact .inl ⟨z,rfl,rfl⟩
def Zg.tag:Zg→Nat
 | .skip=>0
 | .region .. => 1
 | .draw .. => 2
 | .seq .. => 3
 | .cond .. => 4
 | .block .. => 5
 | .loop .. => 6
 | .exit _=>7
 | .ret=>8
 | .mloop .. => 9
theorem Zvd (x y:Zg):(ZsW x y).tag=3∨(ZsW x y).tag=9:=by
 rcases Zfx x y with ⟨z,h1,h2⟩ | h
 ·obtain ⟨_,_,_,_,_,_,_,_,_,_,_,_,_,_,rfl⟩:=Zfw h1
  rw [h2]
  exact .inr rfl
 ·rw [h]
  exact .inl rfl
variable {P : Program} {nt : Nat} {keep : List Nat} {pl : Zqr}
theorem JC {c:Code} {a:Zg} (h:Zn P nt keep pl c=some a) :
  (a.tag=0→c=.skip∨∃ l,c=.label l)∧(a.tag=1→∃ id ops,c=.region id ops false)∧(a.tag=3→∃ x y,c=.seq x y)∧(a.tag=4→∃ x y z,c=.cond x y z)∧(a.tag=5→∃ i b,c=.block i b)∧(a.tag=6→∃ b,c=.loop b)∧(a.tag=7→∃ i,c=.exit i)∧(a.tag=2→∃ id ops,c=.region id ops true):=by
 cases c with
 | skip=>cases h;simp [Zg.tag]
 | label l=>cases h;simp [Zg.tag]
 | region id ops d=>
  simp only [Zn] at h
  cases d with
  | true=>
   rw [if_pos rfl] at h
   repeat' (split at h)
   all_goals first
    | (cases h;done)
    | (cases h;simp [Zg.tag])
  | false=>
   rw [if_neg (by simp)] at h
   split at h
   ·cases h;simp [Zg.tag]
   ·cases h
 | seq x y=>
  simp only [Zn] at h
  split at h
  ·rename_i ax ay h1 h2
   simp only [Option.some.injEq] at h
   subst h
   rcases Zvd ax ay with e | e <;> rw [e] <;> simp
  ·cases h
 | cond x y z=>
  simp only [Zn] at h
  split at h
  ·cases h;simp [Zg.tag]
  ·cases h
 | block i b=>
  simp only [Zn,Option.map_eq_some_iff] at h
  obtain ⟨_,_,rfl⟩:=h
  simp [Zg.tag]
 | loop b=>
  simp only [Zn,Option.map_eq_some_iff] at h
  obtain ⟨_,_,rfl⟩:=h
  simp [Zg.tag]
 | exit i=>cases h;simp [Zg.tag]
 | ret=>cases h;simp [Zg.tag]
 | rangeFunc=>cases h
 | scope=>cases h
 | goto=>cases h
 | refuse=>cases h
theorem Zor {c:Code} {i:Nat} {b:Zg} (h:Zn P nt keep pl c=some (.block i b)):∃ c',c=.block i c'∧Zn P nt keep pl c'=some b:=by
 obtain ⟨j,c',rfl⟩:=(JC h).2.2.2.2.1 rfl
 simp only [Zn,Option.map_eq_some_iff] at h
 obtain ⟨b',h1,h2⟩:=h
 cases h2
 exact ⟨c',rfl,h1⟩
theorem ZxY {c:Code} {b:Zg} (h:Zn P nt keep pl c=some (.loop b)):∃ c',c=.loop c'∧Zn P nt keep pl c'=some b:=by
 obtain ⟨c',rfl⟩:=(JC h).2.2.2.2.2.1 rfl
 simp only [Zn,Option.map_eq_some_iff] at h
 obtain ⟨b',h1,h2⟩:=h
 cases h2
 exact ⟨c',rfl,h1⟩
theorem Zqv {c:Code} {a b:Zg} (h:Zn P nt keep pl c=some (.seq a b)):∃ x y,c=.seq x y∧Zn P nt keep pl x=some a∧Zn P nt keep pl y=some b:=by
 obtain ⟨x,y,rfl⟩:=(JC h).2.2.1 rfl
 simp only [Zn] at h
 split at h
 ·rename_i ax ay h1 h2
  simp only [Option.some.injEq] at h
  rcases Zfx ax ay with ⟨z,h3,h4⟩ | h3
  ·obtain ⟨_,_,_,_,_,_,_,_,_,_,_,_,_,_,rfl⟩:=Zfw h3
   rw [h4] at h
   cases h
  ·rw [h3] at h
   cases h
   exact ⟨x,y,rfl,h1,h2⟩
 ·cases h
theorem Zma {c:Code} {az:List YS} {outs:List (Nat×Nat)} (h:Zn P nt keep pl c=some (.region az outs)):∃ id ops env,c=.region id ops false∧Xs P nt keep ops ops.toList 0 []=some (az,env)∧outs=Kq env keep 0:=by
 obtain ⟨id,ops,rfl⟩:=(JC h).2.1 rfl
 simp only [Zn] at h
 rw [if_neg (by simp)] at h
 split at h
 ·rename_i az' env h1
  cases h
  exact ⟨id,ops,env,rfl,h1,rfl⟩
 ·cases h
theorem ZxZ {c:Code} {es:List DE} {outs:List (Nat×Nat)} (h:Zn P nt keep pl c=some (.draw es outs)):∃ id ops order items,c=.region id ops true∧KA P nt keep ops order []=some items∧(List.range ops.size).all (fun i=>items.any (·.idx==i))=true ∧
  (items.all fun it=>it.ao.kind != 4||items.all fun x=>x.idx==it.idx||it.anc.contains x.idx)=true∧es=(items.map fun it=>⟨it.ao,it.gd,it.again⟩)∧outs=Kq (ZxI items 0) keep 0:=by
 obtain ⟨id,ops,rfl⟩:=(JC h).2.2.2.2.2.2.2 rfl
 simp only [Zn,if_true] at h
 split at h
 ·cases h
 ·rename_i order hpl
  split at h
  ·cases h
  ·rename_i items hitems
   split at h
   ·rename_i hcond
    rw [Bool.and_eq_true] at hcond
    cases h
    exact ⟨id,ops,order,items,rfl,hitems,hcond.1,hcond.2,rfl,rfl⟩
   ·cases h
theorem Zx0 {c:Code} {x:X} {k:Nat} (h:Zn P nt keep pl c=some (.cond x .skip (.exit k))):∃ o a,c=.cond o a (.exit k)∧ZxH keep [] o=some x∧(a=.skip∨∃ l,a=.label l):=by
 obtain ⟨o,a,b,rfl⟩:=(JC h).2.2.2.1 rfl
 simp only [Zn] at h
 split at h
 ·rename_i ax ay az h1 h2 h3
  cases h
  obtain ⟨i,rfl⟩:=(JC h3).2.2.2.2.2.2.1 rfl
  cases h3
  exact ⟨o,a,rfl,h1,(JC h2).1 rfl⟩
 ·cases h
theorem QM {all:Array Oper}:∀ {os:List Oper} {i:Nat} {env env':List (Nat×Nat)} {az:List YS},Xs P nt keep all os i env=some (az,env')→az.length=os.length
 | [],i,env,env',az,h=>by cases h;rfl
 | o::os,i,env,env',az,h=>by
  unfold Xs at h
  split at h
  ·rename_i h1 h2 h3
   split at h
   ·cases h
    simp [QM h3]
   ·cases h
  ·cases h
theorem Zx1 {cx:Zf1} {op:Op} {x:X} (h:Zi P cx op=some (.mkit x)):∃ t o,op=.range t o∧ZxG P t=true∧cx o=some x:=by
 have hk:=Zey h
 cases op <;> first
  | (simp [AO.kind,XF] at hk;done)
  | skip
 simp only [Zi] at h
 split at h
 ·rename_i hT
  simp only [Option.map_eq_some_iff] at h
  obtain ⟨y,h1,h2⟩:=h
  cases h2
  exact ⟨_,_,rfl,hT,h1⟩
 ·cases h
theorem Zs2 {cx:Zf1} {op:Op} {x:X} (h:Zi P cx op=some (.itNext x)):∃ o,op=.next o false∧cx o=some x:=by
 have hk:=Zey h
 cases op <;> first
  | (simp [AO.kind,XF] at hk;done)
  | skip
 simp only [Zi] at h
 split at h
 ·cases h
 ·rename_i hs
  simp only [Option.map_eq_some_iff] at h
  obtain ⟨y,h1,h2⟩:=h
  cases h2
  have:∀ b:Bool,¬ b=true→b=false:=by intro b;cases b <;> simp
  rw [this _ hs]
  exact ⟨_,rfl,h1⟩
theorem Zqw {cx:Zf1} {op:Op} {x:X} (h:Zi P cx op=some (.itEntry x)):∃ o,op=.entry o∧cx o=some x:=by
 have hk:=Zey h
 cases op <;> first
  | (simp [AO.kind,XF] at hk;done)
  | skip
 simp only [Zi,Option.map_eq_some_iff] at h
 obtain ⟨y,h1,h2⟩:=h
 cases h2
 exact ⟨_,rfl,h1⟩
end mloop
def Zd (P:Program) (keep:List Nat) (mode:Nat) (pl:Zqr) (fn:Func):Option ZZ :=
 if fn.name == "runtime.NumGoroutine" then none else
 match fn.body with
 | some c=>match Zn P fn.ntmps keep pl c,Jp P keep fn.results.toList with
  | some a,some rs=>some ⟨keep,fn.ntmps,a,rs,mode⟩
  | _,_=>none
 | none=>none
def Zhn (P:Program) (T:FuncId→Option ZZ):Prop :=
 ∀ f F,T f=some F→∃ fn keep mode pl,P.funcs[f]?=some fn∧Zd P keep mode pl fn=some F
theorem Ze6:∀ (outs:List (Nat×Nat)) (tm loc:List AV),(setOuts tm loc outs).length=tm.length
 | [],tm,loc=>rfl
 | (s,j)::rest,tm,loc=>by unfold setOuts;rw [Ze6 rest];simp
theorem ZaU (env:List (Nat×Nat)) (loc:List AV):∀ (ks:List Nat) (s0:Nat) (tm:List AV) (s:Nat),s<tm.length →
  (setOuts tm loc (Kq env ks s0))[s]?=if s0≤s∧s<s0+ks.length then (match env.lookup (ks.getD (s - s0) 0) with | some j=>some ((loc[j]?).getD .undef) | none=>tm[s]?) else tm[s]?
 | [],s0,tm,s,hs=>by
  rw [if_neg (by simp)];rfl
 | t::ks,s0,tm,s,hs=>by
  unfold Kq
  by_cases h0:s=s0
  ·subst h0
   rw [if_pos (by simp)]
   simp only [Nat.sub_self,List.getD_cons_zero]
   cases hl:env.lookup t with
   | none=>
    simp only []
    rw [ZaU env loc ks (s+1) tm s hs,if_neg (by omega)]
   | some j=>
    simp only [setOuts]
    rw [ZaU env loc ks (s+1) _ s (by simpa using hs),if_neg (by omega)]
    simp [hs]
  ·have hsub:s0≤s→s - s0=(s - (s0+1))+1:=by omega
   have hcond:(s0≤s∧s<s0+(t::ks).length)↔(s0+1≤s∧s<s0+1+ks.length):=by simp;omega
   cases hl:env.lookup t with
   | none=>
    simp only []
    rw [ZaU env loc ks (s0+1) tm s hs]
    by_cases hc:s0+1≤s∧s<s0+1+ks.length
    ·rw [if_pos hc,if_pos (hcond.mpr hc),hsub (by omega)]
     simp
    ·rw [if_neg hc,if_neg (fun h=>hc (hcond.mp h))]
   | some j=>
    simp only [setOuts]
    rw [ZaU env loc ks (s0+1) _ s (by simpa using hs)]
    have hset:(tm.set s0 ((loc[j]?).getD .undef))[s]?=tm[s]?:=by rw [List.getElem?_set,if_neg (fun e=>h0 e.symm)]
    by_cases hc:s0+1≤s∧s<s0+1+ks.length
    ·rw [if_pos hc,if_pos (hcond.mpr hc),hsub (by omega),hset]
     simp
    ·rw [if_neg hc,if_neg (fun h=>hc (hcond.mp h)),hset]
section
variable {P : Program}
theorem Inv.outs {ι:Emb} {w:World} {nt:Nat} {keep:List Nat} {tm:List AV} {env:List (Nat×Nat)} {loc:List AV} {a:Act} (h:Inv ι w nt keep tm env loc a) :
  Inv ι w nt keep (setOuts tm loc (Kq env keep 0)) [] [] a:=by
 refine ⟨fun t j e=>by simp at e,fun t s _ k => ?_,h.size,h.defers,by rw [Ze6];exact h.len⟩
 have hs:keep[s]?=some t:=by
  rw [List.idxOf?_eq_some_iff] at k
  obtain ⟨hlt,h1,_⟩:=k
  rw [List.getElem?_eq_getElem hlt]
  simpa using h1
 have hlt:s<keep.length:=(List.getElem?_eq_some_iff.mp hs).1
 rw [ZaU env loc keep 0 tm s (by rw [h.len];exact hlt),if_pos (by omega)]
 have hg:keep.getD (s - 0) 0=t:=by rw [Nat.sub_zero,List.getD,hs];rfl
 rw [hg]
 cases hl:env.lookup t with
 | none=>exact h.kept t s hl k
 | some j=>exact (h.made t j hl).2
def ZzK (ι:Emb) (m:Mem) (w:World) (nt:Nat) (keep:List Nat) (e:Ex) (st':St):Exit→Act→World→Prop
 | .normal,a',w'=>e=.normal∧∃ ι',Rel ι' st'.m w'∧Ext ι m w ι' st'.m w'∧Inv ι' w' nt keep st'.tm [] [] a'
 | .exit id,a',w'=>e=.exit id∧∃ ι',Rel ι' st'.m w'∧Ext ι m w ι' st'.m w'∧Inv ι' w' nt keep st'.tm [] [] a'
 | .ret,a',w'=>e=.ret∧∃ ι',Rel ι' st'.m w'∧Ext ι m w ι' st'.m w'∧Inv ι' w' nt keep st'.tm [] [] a'
 | _,_,_=>False
theorem ZzK.trans {ι ι₁:Emb} {m m₁:Mem} {w w₁:World} {nt:Nat} {keep:List Nat} {e:Ex} {st:St} (E:Ext ι m w ι₁ m₁ w₁):∀ x a w',ZzK ι₁ m₁ w₁ nt keep e st x a w'→ZzK ι m w nt keep e st x a w'
 | .normal,a,w',⟨h,ι',r1,r2,r3⟩=>⟨h,ι',r1,E.trans r2,r3⟩
 | .exit id,a,w',⟨h,ι',r1,r2,r3⟩=>⟨h,ι',r1,E.trans r2,r3⟩
 | .ret,a,w',⟨h,ι',r1,r2,r3⟩=>⟨h,ι',r1,E.trans r2,r3⟩
theorem ZjH {c:Code} {Q Q':Exit→Act→World→Prop} (h:∀ e a w,Q e a w→Q' e a w):∀ (n:Nat) (a:Act) (w:World),Code.rounds P c Q n a w→Code.rounds P c Q' n a w
 | 0,_,_,hr=>hr
 | n+1,a,w,hr=>by
  rw [rounds_succ] at *
  refine wp_mono hr ?_
  intro e a1 w1 hq
  cases e with
  | normal=>exact ZjH h n a1 w1 hq
  | _=>exact h _ _ _ hq
def Zh2 (P:Program) (R:Zg→St→Option (Ex×St)):Prop :=
 ∀ (nt:Nat) (keep:List Nat) (pl:Zqr) (c:Code) (ac:Zg) (st st':St) (e:Ex) (ι:Emb) (w:World) (a:Act),Zn P nt keep pl c=some ac→R ac st=some (e,st') →
  Rel ι st.m w→Inv ι w nt keep st.tm [] [] a→c.wp P (ZzK ι st.m w nt keep e st') a w
theorem Zos {α:Type} {L:List α} {j:Nat} {b:α} (h:L[j]?=some b) (X:List α):(L++X)[j]?=some b:=by
 rw [List.getElem?_append_left (List.getElem?_eq_some_iff.mp h).1];exact h
theorem Rel.begin {ι ι1:Emb} {m m1:Mem} {w w1:World} (hrel:Rel ι m w) (R1:Rel ι1 m1 w1) (E1:Ext ι m w ι1 m1 w1) (b:Nat) (o:Obj) :
  Rel (ι1++[some (w1.heap.size,0)]) { m1 with H:=m1.H.set b .dead++[.dead] } (w1.alloc o)∧Ext ι m w (ι1++[some (w1.heap.size,0)]) { m1 with H:=m1.H.set b .dead++[.dead] } (w1.alloc o):=by
 have hH:∀ (j:Nat) (k:Blk),k.live→(m1.H.set b .dead++[.dead])[j]?=some k→j<m1.H.length∧m1.H[j]?=some k:=by
  intro j k hk h
  rw [List.getElem?_append] at h
  split at h
  ·rename_i hlt
   rw [List.length_set] at hlt
   rw [List.getElem?_set] at h
   split at h
   ·split at h
    ·cases h;cases hk
    ·cases h
   ·exact ⟨hlt,h⟩
  ·have h1:=(List.getElem?_eq_some_iff.mp h).1
   have:j - (m1.H.set b .dead).length=0:=by simp at h1 ⊢;omega
   rw [this] at h
   cases h
   cases hk
 have hwl:∀ k:Blk,k.wrt→k.live:=fun k hk=>by cases k <;> first | trivial | cases hk
 have hι:∀ (j:Nat) (p:Nat×Nat),j<m1.H.length→(ι1++[some (w1.heap.size,0)])[j]?=some (some p)→ι1[j]?=some (some p):=by
  intro j p hj h
  rwa [List.getElem?_append_left (by rw [R1.len];exact hj)] at h
 have hle:Emb.le ι1 (ι1++[some (w1.heap.size,0)]):=fun j p h=>Zos h _
 have hold:∀ (r:Nat),r<w1.heap.size→(w1.alloc o).heap[r]?=w1.heap[r]?:=fun r hr=>heap_alloc_old w1 o hr
 have hsh:=Zae w1 o
 refine hrel.of0 ⟨⟨?_,?_,?_,?_,?_⟩,⟨Emb.le_trans E1.le hle,?_,?_,E1.shapes.trans hsh,?_,?_,E1.os,E1.tape,E1.output⟩⟩
 ·simp [R1.len]
 ·intro j c d h
  rw [World.size_alloc]
  rw [List.getElem?_append] at h
  split at h
  ·have:=R1.low j c d h;omega
  ·have h1:=(List.getElem?_eq_some_iff.mp h).1
   have:j - ι1.length=0:=by simp at h1;omega
   rw [this] at h
   cases h
   omega
 ·intro j cs wr h
  obtain ⟨h1,h2⟩:=hH j (.cells cs wr) trivial h
  obtain ⟨c,d,h3,h4⟩:=R1.at' j cs wr h2
  exact ⟨c,d,hle _ _ h3,h4.mono hle hsh (hold c (R1.low j c d h3))⟩
 ·intro j es h
  obtain ⟨h1,h2⟩:=hH j (.mp es) trivial h
  obtain ⟨c,h3,h4⟩:=R1.mp j es h2
  exact ⟨c,hle _ _ h3,h4.mono (hold c (R1.low j c 0 h3))⟩
 ·intro j j' k k' c d c' d' hne h hk h' hk' hi hi'
  obtain ⟨g1,g2⟩:=hH j k (hwl _ hk) h
  obtain ⟨g3,g4⟩:=hH j' k' hk' h'
  exact R1.sep j j' k k' c d c' d' hne g2 hk g4 hk' (hι _ _ g1 hi) (hι _ _ g3 hi')
 ·have:=E1.grow
  simp
  omega
 ·rw [World.size_alloc]
  have:=E1.size
  omega
 ·rintro r ⟨j,k,d,h,hk,hi⟩
  obtain ⟨g1,g2⟩:=hH j k (hwl _ hk) h
  exact E1.img r ⟨j,k,d,g2,hk,hι _ _ g1 hi⟩
 ·intro r hr hni
  rw [hold r (Nat.lt_of_lt_of_le hr E1.size)]
  exact E1.frame r hr hni
theorem Rel.poke {ι ι2:Emb} {m mk:Mem} {w w2 w3:World} (hrel:Rel ι m w) (R2:Rel ι2 mk w2) (E2:Ext ι m w ι2 mk w2) {r0:Nat} (h0:w.heap.size≤r0) (hns:w2.shape? r0=none)
  (hlive:∀ (j:Nat) (k:Blk),mk.H[j]?=some k→k.live→∀ c d,ι2[j]?=some (some (c,d))→c≠r0) (hsz:w3.heap.size=w2.heap.size) (hold:∀ r,r≠r0→w3.heap[r]?=w2.heap[r]?) (e1:w3.os=w2.os) (e2:w3.tape=w2.tape) (e3:w3.output=w2.output) :
  Rel ι2 mk w3∧Ext ι m w ι2 mk w3∧YJ w2 w3:=by
 have hsh:YJ w2 w3:=by
  intro r s h
  by_cases hr:r=r0
  ·subst hr
   rw [hns] at h
   cases h
  ·unfold World.shape? at *
   rw [hold r hr]
   exact h
 have key:Rel ι2 mk w3∧Ext ι m w ι2 mk w3:=by
  refine hrel.of0 ⟨⟨R2.len,?_,?_,?_,R2.sep⟩,⟨E2.le,E2.grow,by rw [hsz];exact E2.size,E2.shapes.trans hsh,E2.img,?_,e1.trans E2.os,e2.trans E2.tape,e3.trans E2.output⟩⟩
  ·intro j c d h
   rw [hsz]
   exact R2.low j c d h
  ·intro j cs wr h
   obtain ⟨c,d,h3,h4⟩:=R2.at' j cs wr h
   exact ⟨c,d,h3,h4.mono (Emb.le_refl _) hsh (hold c (hlive j _ h trivial c d h3))⟩
  ·intro j es h
   obtain ⟨c,h3,h4⟩:=R2.mp j es h
   exact ⟨c,h3,h4.mono (hold c (hlive j _ h trivial c 0 h3))⟩
  ·intro r hr hni
   rw [hold r (by omega)]
   exact E2.frame r hr hni
 exact ⟨key.1,key.2,hsh⟩
theorem Rel.revive {ι ι1 ι2:Emb} {m m1:Mem} {w w1 w2:World} {b c:Nat} {es:List (List Int×Int)} (hrel:Rel ι m w) (R1:Rel ι1 m1 w1) (E1:Ext ι m w ι1 m1 w1) (hb:m1.H[b]?=some (.mp es)) (hc:ι1[b]?=some (some (c,0))) (hle:Emb.le ι1 ι2)
  (R2:Rel ι2 { m1 with H:=m1.H.set b .dead++[.dead] } w2) (E2:Ext ι m w ι2 { m1 with H:=m1.H.set b .dead++[.dead] } w2) (hM:MapAt w2 c es) :
  Rel ι2 { m1 with H:=m1.H++[.dead] } w2∧Ext ι m w ι2 { m1 with H:=m1.H++[.dead] } w2:=by
 have hblt:b<m1.H.length:=(List.getElem?_eq_some_iff.mp hb).1
 have hH:∀ (j:Nat) (k:Blk),k.live→(m1.H++[.dead])[j]?=some k→(j=b∧k=.mp es)∨(j≠b∧m1.H[j]?=some k∧(m1.H.set b .dead++[.dead])[j]?=some k):=by
  intro j k hk h
  rw [List.getElem?_append] at h
  split at h
  ·rename_i hlt
   by_cases hj:j=b
   ·subst hj
    rw [hb] at h
    cases h
    exact .inl ⟨rfl,rfl⟩
   ·refine .inr ⟨hj,h,?_⟩
    rw [List.getElem?_append_left (by rw [List.length_set];exact hlt),List.getElem?_set_ne (fun e=>hj e.symm)]
    exact h
  ·have h1:=(List.getElem?_eq_some_iff.mp h).1
   have:j - m1.H.length=0:=by simp at h1;omega
   rw [this] at h
   cases h
   cases hk
 have hwl:∀ k:Blk,k.wrt→k.live:=fun k hk=>by cases k <;> first | trivial | cases hk
 have hc2:=hle _ _ hc
 -- live blocks have a place already in ι1
 have hpl:∀ (j:Nat) (k:Blk),k.live→m1.H[j]?=some k→∀ c' d',ι2[j]?=some (some (c',d'))→ι1[j]?=some (some (c',d')):=by
  intro j k hk h c' d' hi
  have:∃ p,ι1[j]?=some (some p):=by
   cases k with
   | dead=>cases hk
   | cells cs wr=>obtain ⟨x,y,h1,_⟩:=R1.at' j cs wr h;exact ⟨_,h1⟩
   | mp es=>obtain ⟨x,h1,_⟩:=R1.mp j es h;exact ⟨_,h1⟩
  obtain ⟨p,hp⟩:=this
  have h2:=hle _ _ hp
  rw [hi] at h2
  rw [hp,←h2]
 refine hrel.of0 ⟨⟨?_,R2.low,?_,?_,?_⟩,⟨E2.le,E2.grow,E2.size,E2.shapes,?_,E2.frame,E2.os,E2.tape,E2.output⟩⟩
 ·have:=R2.len
  simpa using this
 ·intro j cs wr h
  rcases hH j (.cells cs wr) trivial h with ⟨_,h2⟩|⟨_,_,h2⟩
  ·cases h2
  ·exact R2.at' j cs wr h2
 ·intro j es' h
  rcases hH j (.mp es') trivial h with ⟨h1,h2⟩|⟨_,_,h2⟩
  ·subst h1
   cases h2
   exact ⟨c,hc2,hM⟩
  ·exact R2.mp j es' h2
 ·intro j j' k k' x d x' d' hne h hk h' hk' hi hi'
  have g:m1.H[j]?=some k:=by
   rcases hH j k (hwl _ hk) h with ⟨h1,h2⟩|⟨_,h2,_⟩
   ·subst h1;rw [h2];exact hb
   ·exact h2
  have g':m1.H[j']?=some k':=by
   rcases hH j' k' hk' h' with ⟨h1,h2⟩|⟨_,h2,_⟩
   ·subst h1;rw [h2];exact hb
   ·exact h2
  exact R1.sep j j' k k' x d x' d' hne g hk g' hk' (hpl j k (hwl _ hk) g _ _ hi) (hpl j' k' hk' g' _ _ hi')
 ·rintro r ⟨j,k,d,h,hk,hi⟩
  rcases hH j k (hwl _ hk) h with ⟨h1,h2⟩|⟨_,_,h2⟩
  ·subst h1
   rw [hc2] at hi
   cases hi
   exact E1.img _ ⟨_,_,_,hb,trivial,hc⟩
  ·exact E2.img r ⟨j,k,d,h2,hk,hi⟩
theorem Inv.havoc {ι:Emb} {w:World} {nt:Nat} {keep:List Nat} {a:Act} (outs:List (Nat×Nat)):∀ {tm:List AV},Inv ι w nt keep tm [] [] a→Inv ι w nt keep (Slim.havoc tm outs) [] [] a:=by
 unfold Slim.havoc
 induction outs with
 | nil=>intro tm h;exact h
 | cons p outs ih=>
  intro tm h
  rw [List.foldl_cons]
  refine ih ⟨h.made,fun t s e k => ?_,h.size,h.defers,by simp [h.len]⟩
  rw [List.getElem?_set]
  split
  ·split <;> trivial
  ·exact h.kept t s e k
theorem Inv.cut {ι:Emb} {w:World} {nt:Nat} {keep:List Nat} {a:Act} {n:Nat} {tm:List AV} (h:Inv ι w nt keep tm [] [] a) (hu:(tm.all fun v=>v.under n)=true):Inv (ι.take n) w nt keep tm [] [] a:=by
 refine ⟨fun t j e=>by simp at e,fun t s e k => ?_,h.size,h.defers,h.len⟩
 refine V.sub (n:=n) (fun b p hb hp => ?_) _ _ ?_ (h.kept t s e k)
 ·rw [List.getElem?_take,if_pos hb]
  exact hp
 ·cases hs:tm[s]? with
  | none=>rfl
  | some v=>exact List.all_eq_true.mp hu v (List.mem_of_getElem? hs)
theorem Zx2 {α:Type} {l:List α} {n:Nat} (h:l.length=n+2) (hn:n=0:=by rfl):∃ a b,l=[a,b]:=by
 subst hn
 match l,h with
 | [a,b],_=>exact ⟨a,b,rfl⟩
theorem Zx3 {α:Type} {l:List α} {n:Nat} (h:l.length=n+1):∃ a r,l=a::r:=by
 match l,h with
 | a::r,_=>exact ⟨a,r,rfl⟩
theorem Zho {ops:Array Oper} {cx:Zf1} {g:Option (Nat×Bool)} (h:Zjo ops cx g=some none):g=none:=by
 cases g with
 | none=>rfl
 | some p=>
  obtain ⟨j,b⟩:=p
  simp only [Zjo] at h
  split at h
  ·simp only [Option.map_eq_some_iff] at h
   obtain ⟨_,_,h⟩:=h
   cases h
  ·cases h
theorem Zfy {o:Oper} (h:o.guard=none) (y:Nat→Option Bool):Region.wanted o y=true:=by
 unfold Region.wanted
 rw [h]
theorem Zve {ι:Emb} {w:World}:∀ (z:List Int),VL ι w (z.map (AV.int .i64)) (z.map (Value.int .i64))
 | []=>rfl
 | n::z=>⟨_,_,rfl,rfl,Zve z⟩
theorem ZAP {ι:Emb} {w:World} (z:List Int):V ι w (.agg (z.map (AV.int .i64))) (.agg (z.map (Value.int .i64)).toArray):=by
 refine ⟨_,rfl,Zve z,?_⟩
 rw [List.all_map,List.all_eq_true]
 intro x _
 rfl
structure ZAQ (P:Program) (nt:Nat) (keep:List Nat) (pl:Zqr) (c:Code) (it it' cX:X) (outs2:List (Nat×Nat)) (az:List YS) (outs3:List (Nat×Nat)) (nxt:Nat) (body:Zg) (out:Nat):Prop where
 ex:∃ id2 ops2 env2 oc sk id3 ops3 env3 cb,c=.seq (.region id2 ops2 false) (.seq (.cond oc sk (.exit out)) (.block nxt (.seq (.region id3 ops3 false) cb))) ∧
  Xs P nt keep ops2 ops2.toList 0 []=some ([⟨.itNext it,none⟩,⟨.extract 0 (.l 0),none⟩],env2)∧outs2=Kq env2 keep 0∧ZxH keep [] oc=some cX∧(sk=.skip∨∃ l,sk=.label l) ∧
  Xs P nt keep ops3 ops3.toList 0 []=some (⟨.itEntry it',none⟩::az,env3)∧outs3=Kq env3 keep 0∧Zn P nt keep pl cb=some body
theorem Zs3 {call:FuncId→List AV→Mem→Option (AV×Mem)} (hcall:Zas P call) (hgrow:∀ f args m v m',call f args m=some (v,m')→Grow m m') {R:Zg→St→Option (Ex×St)} (hR:Zh2 P R) (hG:∀ c st e st',R c st=some (e,st')→Grow st.m st'.m) {nt:Nat} {keep:List Nat} {pl:Zqr} {ι ι2:Emb} {m mk:Mem} {w:World} (hrel:Rel ι m w)
  {c:Code} {at' r0 bm clock:Nat} {xs:Array MapEntry} {es:List (List Int×Int)} {it it' cX:X} {outs2 outs3:List (Nat×Nat)} {az:List YS} {nxt out:Nat} {body:Zg} (L:ZAQ P nt keep pl c it it' cX outs2 az outs3 nxt body out)
  (hl:xs.size=es.length) (hE:∀ (j:Nat) x p,xs[j]?=some x→es[j]?=some p→Zm0 x p) (hold:∀ x∈xs.toList,x.born<clock) (hn:(xs.toList.map (·.born)).Nodup)
  (hesc:mk.esc=none) (hι2:ι2.length=mk.H.length) (h0:w.heap.size≤r0) (hat:ι2[at']?=some (some (r0,0))) (F:∀ (j:Nat) (k:Blk),mk.H[j]?=some k→k.live→∃ c d,ι2[j]?=some (some (c,d))∧c≠r0∧c≠bm)
  {tmF:List AV} {Q:Exit→Act→World→Prop}
  (hQ:∀ ιc wc a tm,Rel ιc mk wc→Ext ι m w ιc mk wc→Emb.le ι2 ιc→wc.heap[bm]?=some (.map xs clock)→Inv ιc wc nt keep tm [] [] a→havoc tm (outs2++outs3)=tmF→Q (.exit out) a wc) :
  ∀ (k:Nat) (seen:Array Nat) (tm:List AV) (ιc:Emb) (wc:World) (a:Act),(Zb2 (xs.toList.zip es) seen).length=k→Rel ιc mk wc→Ext ι m w ιc mk wc→Emb.le ι2 ιc→wc.heap[r0]?=some (.mapIter (some bm) clock seen clock)→wc.heap[bm]?=some (.map xs clock) →
   Inv ιc wc nt keep tm [] [] a→(∀ π:List (List Int×Int),π.Perm ((Zb2 (xs.toList.zip es) seen).map (·.2))→(ZcQ call R mk at' it it' cX outs2 az outs3 nxt body π tm).map (fun tm=>havoc tm (outs2++outs3))=some tmF) →
   Code.rounds P c Q (k+1) a wc:=by
 obtain ⟨id2,ops2,env2,oc,sk,id3,ops3,env3,cb,rfl,hops2,hout2,hoc,hsk,hops3,hout3,hcb⟩:=L.ex
 -- the two operations of the step
 obtain ⟨o1,o2,hlist⟩:∃ o1 o2,ops2.toList=[o1,o2]:=by
  have:=QM hops2
  exact Zx2 this.symm
 have hsize2:ops2.size=2:=by rw [←Array.length_toList,hlist];rfl
 rw [hlist] at hops2
 unfold Xs at hops2
 split at hops2
 rotate_left
 ·cases hops2
 rename_i ao1 gd1 az1 env2' hc1 hg1 hrest1
 split at hops2
 rotate_left
 ·cases hops2
 rename_i hd1
 simp only [Option.some.injEq,Prod.mk.injEq,List.cons.injEq,YS.mk.injEq] at hops2
 obtain ⟨⟨⟨rfl,rfl⟩,rfl⟩,rfl⟩:=hops2
 obtain ⟨oi,hop1,hoi⟩:=Zs2 hc1
 have hgd1:=Zho hg1
 -- the first operation of the assignment
 obtain ⟨o3,rest3,hlist3⟩:∃ o3 rest3,ops3.toList=o3::rest3:=by
  have:=QM hops3
  exact Zx3 this.symm
 have hsize3:ops3.size=rest3.length+1:=by rw [←Array.length_toList,hlist3];rfl
 rw [hlist3] at hops3
 unfold Xs at hops3
 split at hops3
 rotate_left
 ·cases hops3
 rename_i ao3 gd3 az3 env3' hc3 hg3 hrest3
 split at hops3
 rotate_left
 ·cases hops3
 rename_i hd3
 simp only [Option.some.injEq,Prod.mk.injEq,List.cons.injEq,YS.mk.injEq] at hops3
 obtain ⟨⟨⟨rfl,rfl⟩,rfl⟩,rfl⟩:=hops3
 obtain ⟨oj,hop3,hoj⟩:=Zqw hc3
 have hgd3:=Zho hg3
 have hat2:∀ j,ops2[j]?=[o1,o2][j]?:=fun j=>by rw [←Array.getElem?_toList,hlist]
 have hat3:∀ j,ops3[j]?=(o3::rest3)[j]?:=fun j=>by rw [←Array.getElem?_toList,hlist3]
 have hzn:((xs.toList.zip es).map fun q=>q.1.born).Nodup:=by
  have h:(xs.toList.zip es).map (·.1)=xs.toList:=by
   rw [List.map_fst_zip]
   simp
   omega
  have e:((xs.toList.zip es).map fun q=>q.1.born)=((xs.toList.zip es).map (·.1)).map (·.born):=by rw [List.map_map];rfl
  rw [e,h]
  exact hn
 intro k
 induction k with
 | zero=>
  intro seen tm ιc wc a hk Rc Ec hle hr hb I hall
  have hnil:Zb2 (xs.toList.zip es) seen=[]:=List.eq_nil_of_length_eq_zero hk
  have hleft:(leftOf xs seen).size=0:=by
   rw [←Array.length_toList,←ZjE hl seen,hnil]
   rfl
  have hm:=hall [] (by rw [hnil];exact List.Perm.refl _)
  unfold ZcQ at hm
  split at hm
  rotate_left
  ·cases hm
  rename_i hcond
  obtain ⟨hc1',hc2'⟩:=hcond
  simp only [Option.map_some,Option.some.injEq] at hm
  rw [rounds_succ]
  refine wp_seq ?_
  refine wp_region ?_
  rw [hsize2]
  show wpOps P ops2 _ [0,1] a wc
  have hv:=I.ok _ _ hoi
  rw [hc1'] at hv
  obtain ⟨c',d',g1,hva⟩:=hv
  rw [hle _ _ hat] at g1
  cases g1
  unfold wpOps
  rw [hat2 0]
  show (if _ then _ else _)
  rw [if_pos (Zfy hgd1 _)]
  left
  unfold Oper.wp
  have hex:(execOp a.eval o1).run P wc=.ok (.value (.tuple #[.bool false])) wc:=by
   have hrun:=ZjD (P:=P) wc o1.type r0 bm clock seen xs hr hb hold
   rcases hrun with ⟨_,hrun⟩|⟨x,hx,_⟩
   ·have he:execOp a.eval o1=(do pure (.value (←Instr.next (a.eval oi) false o1.type))):=by
     unfold execOp
     rw [hop1]
    rw [he,hva]
    simp only [Sem.run_bind,hrun,Result.andThen_ok,Sem.run_pure]
   ·have:=List.length_pos_of_mem hx
    rw [Array.length_toList] at this
    omega
  rw [hex,Oper.upon_value]
  have I1:=I.put hd1 (v:=.tup [.bool false]) (v':=.tuple #[.bool false]) ⟨[.bool false],rfl,_,_,rfl,rfl,rfl⟩
  rw [show ([1]:List Nat)=List.range' 1 [o2].length++[] from rfl]
  refine Zf5 hcall [o2] 1 _ _ _ _ [.tup [.bool false],.bool false] mk mk ιc wc _ (fun j o hj => ?_) hrest1 ?_ Rc I1 rfl fun ιd wd ad Rd Ed Id => ?_
  ·rw [hat2 (1+j),Nat.add_comm]
   simpa using hj
  ·simp [Zhe,aop,Ji,get,Slim.Zbp]
  ·have I2:=Id.outs
   rw [←hout2] at I2
   show Code.wp P _ _ ad wd
   refine wp_seq ?_
   have hvc:=I2.ok _ _ hoc
   rw [hc2'] at hvc
   refine wp_cond_false (V.bool_inv hvc) ?_
   refine wp_exit ?_
   have hfb:wd.heap[bm]?=some (.map xs clock):=by
    have hlt:bm<wc.heap.size:=(Array.getElem?_eq_some_iff.mp hb).1
    rw [Ed.frame bm hlt (fun ⟨j,kk,d,q1,q2,q3⟩ => ?_)]
    ·exact hb
    ·obtain ⟨c',d',f1,f2,f3⟩:=F j kk q1 (by cases kk <;> first | trivial | cases q2)
     rw [hle _ _ f1] at q3
     cases q3
     exact f3 rfl
   exact hQ ιd wd ad _ Rd (Ec.trans Ed) (Emb.le_trans hle Ed.le) hfb I2 hm
 | succ k ih=>
  intro seen tm ιc wc a hk Rc Ec hle hr hb I hall
  have hr0lt:r0<wc.heap.size:=(Array.getElem?_eq_some_iff.mp hr).1
  have hbmlt:bm<wc.heap.size:=(Array.getElem?_eq_some_iff.mp hb).1
  have hne0:bm≠r0:=by
   intro e
   rw [e,hr] at hb
   cases hb
  have hlive:∀ (j:Nat) (kk:Blk),kk.wrt→kk.live:=fun j kk h=>by cases kk <;> first | trivial | cases h
  -- what the step hands out
  have hleft0:(leftOf xs seen).size≠0:=by
   rw [←Array.length_toList,←ZjE hl seen,List.length_map,hk]
   omega
  obtain ⟨x,hx,w1,hw1,hrun⟩:=(ZjD (P:=P) wc o1.type r0 bm clock seen xs hr hb hold).resolve_left (fun h=>hleft0 h.1)
  rw [←ZjE hl seen,List.mem_map] at hx
  obtain ⟨q,hq,rfl⟩:=hx
  have hperm:=ZsV hzn hq
  have hperm2:((Zb2 (xs.toList.zip es) seen).map (·.2)).Perm (q.2::(Zb2 (xs.toList.zip es) (seen.push q.1.born)).map (·.2)):=hperm.map (·.2)
  have hk2:(Zb2 (xs.toList.zip es) (seen.push q.1.born)).length=k:=by
   have:=hperm.length_eq
   simp only [List.length_cons] at this
   omega
  have hqz:q∈xs.toList.zip es:=(List.mem_filter.mp hq).1
  have hqx:q.1∈xs.toList:=(List.of_mem_zip (a:=q.1) (b:=q.2) hqz).1
  have hqe:Zm0 q.1 q.2:=by
   obtain ⟨j,hj⟩:=List.getElem?_of_mem hqz
   rw [List.getElem?_zip_eq_some] at hj
   exact hE j q.1 q.2 (by rw [←Array.getElem?_toList];exact hj.1) hj.2
  have hm:=hall _ (hperm2.symm)
  unfold ZcQ at hm
  split at hm
  rotate_left
  ·cases hm
  rename_i hcond
  obtain ⟨hc1',hc2',hc3'⟩:=hcond
  have hv:=I.ok _ _ hoi
  rw [hc1'] at hv
  obtain ⟨c',d',g1,hva⟩:=hv
  rw [hle _ _ hat] at g1
  cases g1
  -- the world behind the step
  have hh1:w1.heap=wc.heap∧w1.os=wc.os∧w1.tape=wc.tape∧w1.output=wc.output:=by rcases hw1 with rfl | rfl <;> exact ⟨rfl,rfl,rfl,rfl⟩
  obtain ⟨wd,hwd⟩:∃ wd:World,wd={ w1 with heap:=w1.heap.setIfInBounds r0 (.mapIter (some bm) clock (seen.push q.1.born) clock) }:=⟨_,rfl⟩
  rw [←hwd] at hrun
  have hsz:wd.heap.size=wc.heap.size:=by rw [hwd];simp [hh1.1]
  have hother:∀ r,r≠r0→wd.heap[r]?=wc.heap[r]?:=by
   intro r h
   rw [hwd]
   simp only []
   rw [Array.getElem?_setIfInBounds_ne (fun e=>h e.symm),hh1.1]
  have hrd:wd.heap[r0]?=some (.mapIter (some bm) clock (seen.push q.1.born) clock):=by
   rw [hwd]
   simp only []
   rw [Array.getElem?_setIfInBounds_self_of_lt (by rw [hh1.1];exact hr0lt)]
  have hbd:wd.heap[bm]?=some (.map xs clock):=by rw [hother bm hne0];exact hb
  obtain ⟨Rd,Ed,Sd⟩:=Rel.poke (w3:=wd) hrel Rc Ec h0 (by unfold World.shape?;rw [hr]) (fun j kk hj hkk c d hi=>by
   obtain ⟨c',d',f1,f2,f3⟩:=F j kk hj hkk
   rw [hle _ _ f1] at hi
   cases hi
   exact f2) hsz hother (by rw [hwd];exact hh1.2.1) (by rw [hwd];exact hh1.2.2.1) (by rw [hwd];exact hh1.2.2.2)
  have Id0:=I.mono (Emb.le_refl ιc) Sd
  have keepH:∀ {ιx ιy:Emb} {my:Mem} {wx wy:World},Emb.le ι2 ιx→Ext ιx mk wx ιy my wy→wx.heap.size≥wc.heap.size→∀ r,r<wc.heap.size→(r=r0∨r=bm)→wy.heap[r]?=wx.heap[r]?:=by
   intro ιx ιy my wx wy hlx Ex hszx r hr' hor
   refine Ex.frame r (by omega) ?_
   rintro ⟨j,kk,d,q1,q2,q3⟩
   obtain ⟨c',d',f1,f2,f3⟩:=F j kk q1 (hlive j kk q2)
   rw [hlx _ _ f1] at q3
   cases q3
   rcases hor with h | h
   ·exact f2 h
   ·exact f3 h
  rw [rounds_succ]
  refine wp_seq ?_
  refine wp_region ?_
  rw [hsize2]
  show wpOps P ops2 _ [0,1] a wc
  unfold wpOps
  rw [hat2 0]
  show (if _ then _ else _)
  rw [if_pos (Zfy hgd1 _)]
  left
  unfold Oper.wp
  have hex:(execOp a.eval o1).run P wc=.ok (.value (.tuple #[.bool true,q.1.key,q.1.val])) wd:=by
   have he:execOp a.eval o1=(do pure (.value (←Instr.next (a.eval oi) false o1.type))):=by
    unfold execOp
    rw [hop1]
   rw [he,hva]
   simp only [Sem.run_bind,hrun,Result.andThen_ok,Sem.run_pure]
  rw [hex,Oper.upon_value]
  obtain ⟨hqk,hqv⟩:=hqe
  have I1:=Id0.put hd1 (v:=Zqq q.2) (v':=.tuple #[.bool true,q.1.key,q.1.val]) ⟨[.bool true,q.1.key,q.1.val],rfl,_,_,rfl,rfl,_,_,rfl,by rw [hqk];exact ZAP _,_,_,rfl,hqv,rfl⟩
  rw [show ([1]:List Nat)=List.range' 1 [o2].length++[] from rfl]
  refine Zf5 hcall [o2] 1 _ _ _ _ [Zqq q.2,.bool true] mk mk ιc wd _ (fun j o hj => ?_) hrest1 ?_ Rd I1 rfl fun ιe we ae Re Ee Ie => ?_
  ·rw [hat2 (1+j),Nat.add_comm]
   simpa using hj
  ·simp [Zhe,aop,Ji,get,Slim.Zbp,Zqq]
  have hle2:=Emb.le_trans hle Ee.le
  have hre:we.heap[r0]?=some (.mapIter (some bm) clock (seen.push q.1.born) clock):=by rw [keepH hle Ee (by omega) r0 hr0lt (.inl rfl)];exact hrd
  have hbe:we.heap[bm]?=some (.map xs clock):=by rw [keepH hle Ee (by omega) bm hbmlt (.inr rfl)];exact hbd
  have I2:=Ie.outs
  rw [←hout2] at I2
  show Code.wp P _ _ ae we
  refine wp_seq ?_
  have hvc:=I2.ok _ _ hoc
  rw [hc2'] at hvc
  refine wp_cond_true (V.bool_inv hvc) ?_
  have hskip:∀ {Q':Exit→Act→World→Prop},Q' .normal ae we→Code.wp P sk Q' ae we:=by
   intro Q' h
   rcases hsk with rfl | ⟨l,rfl⟩
   ·exact wp_skip h
   ·exact wp_label h
  refine hskip ?_
  show Code.wp P _ _ ae we
  refine wp_block ?_
  refine wp_seq ?_
  refine wp_region ?_
  rw [hsize3,List.range_eq_range',List.range'_succ]
  unfold wpOps
  rw [hat3 0]
  show (if _ then _ else _)
  rw [if_pos (Zfy hgd3 _)]
  left
  unfold Oper.wp
  have hv3:=I2.ok _ _ hoj
  rw [hc3'] at hv3
  obtain ⟨c',d',g1,hva3⟩:=hv3
  rw [hle2 _ _ hat] at g1
  cases g1
  have hex3:(execOp ae.eval o3).run P we=.ok (.value (.tuple #[q.1.key,q.1.val])) we:=by
   have he:execOp ae.eval o3=(do pure (.value (←Instr.entry (ae.eval oj)))):=by
    unfold execOp
    rw [hop3]
   rw [he,hva3]
   have:=Zoq (P:=P) we r0 bm clock seen xs q.1 hre hbe hqx hn
   simp only [Sem.run_bind,this,Result.andThen_ok,Sem.run_pure]
  rw [hex3,Oper.upon_value]
  have I3:=I2.put hd3 (v:=Zzf q.2) (v':=.tuple #[q.1.key,q.1.val]) ⟨[q.1.key,q.1.val],rfl,_,_,rfl,by rw [hqk];exact ZAP _,_,_,rfl,hqv,rfl⟩
  split at hm
  ·cases hm
  rename_i loc m3 haz
  split at hm
  ·cases hm
  rename_i eb stb hbody
  split at hm
  rotate_left
  ·cases hm
  rename_i hend
  obtain ⟨hends,hmem,hcl,hund⟩:=hend
  refine Zu4 hcall rest3 1 _ _ _ _ loc mk m3 ιe we _ (fun j o hj=>by rw [hat3 (1+j),Nat.add_comm];simpa using hj) hrest3 haz Re I3 rfl fun ιf wf af Rf Ef If => ?_
  have I4:=If.outs
  rw [←hout3] at I4
  have hszE:we.heap.size≥wc.heap.size:=by have:=Ee.size;omega
  have hszF:wf.heap.size≥wc.heap.size:=by have:=Ef.size;omega
  show Code.wp P cb _ af wf
  refine wp_mono (hR nt keep pl cb body _ stb eb ιf wf af hcb hbody Rf I4) ?_
  have fin:∀ (ag:Act) (wg:World),(∃ ι',Rel ι' stb.m wg∧Ext ιf m3 wf ι' stb.m wg∧Inv ι' wg nt keep stb.tm [] [] ag)→Code.rounds P (.seq (.region id2 ops2 false) (.seq (.cond oc sk (.exit out)) (.block nxt (.seq (.region id3 ops3 false) cb)))) Q (k+1) ag wg:=by
   rintro ag wg ⟨ιg,Rg,Eg,Ig⟩
   have hmk:({ mk with esc:=none }:Mem)=mk:=by
    have:mk=⟨mk.H,mk.esc⟩:=rfl
    rw [this,hesc]
   have GG:Grow { mk with esc:=none } stb.m:=by
    rw [hmk]
    exact (Grow.aops hgrow haz).trans (hG _ _ _ _ hbody)
   obtain ⟨R5,E5⟩:=Rel.cut Re Rg (Ef.trans Eg) GG hcl [] (fun b hb=>by cases hb) List.nodup_nil (fun b hb=>by cases hb) mk.esc
   simp only [List.map_nil,List.append_nil,hmem] at R5 E5
   have I5:=(Ig.havoc (outs2++outs3)).cut hund
   have hle5:Emb.le ι2 (ιg.take mk.H.length):=by
    intro j p hj
    rw [List.getElem?_take,if_pos (by rw [←hι2];exact (List.getElem?_eq_some_iff.mp hj).1)]
    exact (Ef.trans Eg).le _ _ (hle2 _ _ hj)
   refine ih (seen.push q.1.born) (havoc stb.tm (outs2++outs3)) (ιg.take mk.H.length) wg ag hk2 R5 ((Ed.trans Ee).trans E5) hle5 ?_ ?_ I5 ?_
   ·rw [keepH hle2 E5 hszE r0 hr0lt (.inl rfl)]
    exact hre
   ·rw [keepH hle2 E5 hszE bm hbmlt (.inr rfl)]
    exact hbe
   ·intro π hπ
    have hm2:=hall _ ((hπ.cons q.2).trans hperm2.symm)
    unfold ZcQ at hm2
    rw [if_pos ⟨hc1',hc2',hc3'⟩,haz] at hm2
    simp only [hbody] at hm2
    rw [if_pos ⟨hends,hmem,hcl,hund⟩] at hm2
    exact hm2
  intro ex ag wg hp
  cases ex with
  | normal=>exact fin ag wg hp.2
  | exit id=>
   obtain ⟨he,hp⟩:=hp
   have:id=nxt:=by
    rcases hends with h | h <;> rw [h] at he
    ·cases he
    ·cases he;rfl
   subst this
   show Exit.inBlock id _ (.exit id) ag wg
   simp only [Exit.inBlock,if_true]
   exact fin ag wg hp
  | ret=>
   obtain ⟨he,_⟩:=hp
   rcases hends with h | h <;> rw [h] at he <;> cases he
  | goto l=>exact hp.elim
  | panic ch=>exact hp.elim
  | outgrown=>exact hp.elim
theorem Zx4 {call:FuncId→List AV→Mem→Option (AV×Mem)} (hm:P.follows .mixedOrders=true) (hcall:Zas P call) (hgrow:∀ f args m v m',call f args m=some (v,m')→Grow m m') {R:Zg→St→Option (Ex×St)} (hR:Zh2 P R) (hG:∀ c st e st',R c st=some (e,st')→Grow st.m st'.m) {nt:Nat} {keep:List Nat} {pl:Zqr} {n:Nat} {x y:Code} {ax ay z:Zg} {st st':St} {e:Ex} {ι:Emb} {w:World} {a:Act}
  (h1:Zn P nt keep pl x=some ax) (h2:Zn P nt keep pl y=some ay) (hz:Zhm ax ay=some z) (he:Xo n call R z st=some (e,st')) (hrel:Rel ι st.m w) (I:Inv ι w nt keep st.tm [] [] a):(Code.seq x y).wp P (ZzK ι st.m w nt keep e st') a w:=by
 obtain ⟨r,outs0,mx,it,it',cX,outs2,az,outs3,nxt,body,out,⟨ag,rfl⟩,rfl,rfl⟩:=Zfw hz
 obtain ⟨id0,ops0,order,items0,rfl,hdraw,hcov,hk4,hes,hout0⟩:=ZxZ h1
 obtain ⟨y1,rfl,hy1⟩:=Zor h2
 obtain ⟨y2,rfl,hy2⟩:=ZxY hy1
 obtain ⟨y3,y4,rfl,hy3,hy4⟩:=Zqv hy2
 obtain ⟨id2,ops2,env2,rfl,hops2,hout2⟩:=Zma hy3
 obtain ⟨y5,y6,rfl,hy5,hy6⟩:=Zqv hy4
 obtain ⟨oc,sk,rfl,hoc,hsk⟩:=Zx0 hy5
 obtain ⟨y7,rfl,hy7⟩:=Zor hy6
 obtain ⟨y8,cb,rfl,hy8,hcb⟩:=Zqv hy7
 obtain ⟨id3,ops3,env3,rfl,hops3,hout3⟩:=Zma hy8
 have L:ZAQ P nt keep pl _ it it' cX outs2 az outs3 nxt body out:=⟨id2,ops2,env2,oc,sk,id3,ops3,env3,cb,rfl,hops2,hout2,hoc,hsk,hops3,hout3,hcb⟩
 obtain ⟨items,itz,rfl,hes1,hes2⟩:∃ items itz,items0=items++[itz]∧r=(items.map fun it=>(⟨it.ao,it.gd,it.again⟩:DE))∧(⟨.mkit mx,none,ag⟩:DE)=⟨itz.ao,itz.gd,itz.again⟩:=by
  have hne:items0≠[]:=by
   intro e
   rw [e] at hes
   simp at hes
  refine ⟨items0.dropLast,items0.getLast hne,(List.dropLast_concat_getLast hne).symm,?_⟩
  rw [←List.dropLast_concat_getLast hne,List.map_append] at hes
  have:=List.append_inj' hes (by simp)
  refine ⟨this.1,?_⟩
  simpa using this.2
 simp only [DE.mk.injEq] at hes2
 obtain ⟨hao,hgdz,_⟩:=hes2
 have hancs:∀ it∈items,it.idx∈itz.anc:=by
  have hok0:=Kb order [] _ hdraw (fun p it h=>by simp at h)
  obtain ⟨oz,kz⟩:=hok0 items.length itz (by simp)
  rw [List.take_append_of_le_length (Nat.le_refl _),List.take_length] at kz
  intro it hit
  have h4:=List.all_eq_true.mp hk4 itz (by simp)
  rw [←hao] at h4
  have h5:((items++[itz]).all fun x=>x.idx==itz.idx||itz.anc.contains x.idx)=true:=by simpa [AO.kind] using h4
  have h6:=List.all_eq_true.mp h5 it (by simp [hit])
  rw [Bool.or_eq_true] at h6
  rcases h6 with h6 | h6
  ·exact absurd (by simpa using h6) (kz.new it hit)
  ·simpa using h6
 simp only [Xo] at he
 split at he
 ·cases he
 rename_i loc m1 hdops
 split at he
 rotate_left
 ·cases he
 rename_i b hmv
 split at he
 rotate_left
 ·cases he
 rename_i es hb
 split at he
 rotate_left
 ·cases he
 rename_i hesc
 split at he
 rotate_left
 ·cases he
 rename_i tmF hag
 cases he
 have hag':=Zjw.mp hag
 refine wp_seq ?_
 rw [hes1] at hdops
 refine ZxX hm hcall hgrow hdraw hcov hancs (fun oz hoz => ?_) hdops hrel I fun ι1 w1 a1 oz R1 E1 I1 hoz kz hll => ?_
 ·have hok0:=Kb order [] _ hdraw (fun p it h=>by simp at h)
  obtain ⟨oz',kz⟩:=hok0 items.length itz (by simp)
  have:=kz.op
  rw [hoz] at this
  cases this
  have hg:=kz.guard
  rw [←hgdz] at hg
  exact Zho hg
 have hc2:=kz.comp
 rw [←hao] at hc2
 obtain ⟨t,xo,hop,hT,hxo⟩:=Zx1 hc2
 have hxo:=ZAO hxo
 have hc5:=kz.dok
 unfold Oper.wp
 have hv:=I1.ok _ _ hxo
 rw [hmv] at hv
 obtain ⟨c',d',g1,hva⟩:=hv
 obtain ⟨c,g2,hM⟩:=R1.mp b es hb
 rw [g1] at g2
 cases g2
 obtain ⟨xs,clock,m1h,m1l,m1e,m1b,m1n,m1k,m1z⟩:=hM
 obtain ⟨kt,et,hut,_,_,_⟩:=Zce hT
 have hex:(execOp a1.eval oz).run P w1=.ok (.value (.pointer (some ⟨w1.heap.size,0,none⟩))) (w1.alloc (.mapIter (some c') clock #[] clock)):=by
  have he:execOp a1.eval oz=(do pure (.value (←Instr.range t (a1.eval xo)))):=by
   unfold execOp
   rw [hop]
  rw [he,hva]
  simp only [Sem.run_bind,run_range_map w1 t kt et c' xs clock hut m1h,Result.andThen_ok,Sem.run_pure]
 rw [hex,Oper.upon_value]
 obtain ⟨R2,E2⟩:=Rel.begin hrel R1 E1 b (.mapIter (some c') clock #[] clock)
 have hlen1:=R1.len
 have hle12:Emb.le ι1 (ι1++[some (w1.heap.size,0)]):=fun j p h=>Zos h _
 have hlast:(ι1++[some (w1.heap.size,0)])[m1.H.length]?=some (some (w1.heap.size,0)):=by rw [←hlen1];simp
 have I2:=(I1.mono hle12 (Zae w1 (.mapIter (some c') clock #[] clock))).put hc5 (v:=.ptr (some (m1.H.length,0))) (v':=.pointer (some ⟨w1.heap.size,0,none⟩)) ⟨w1.heap.size,0,hlast,rfl⟩
 rw [hll] at I2
 have I2:=I2.env (env':=ZxI (items++[itz]) 0) (fun t=>by
  rw [XH,Zh0]
  have hfr:=kz.free
  cases hd:oz.dst with
  | none=>
   rw [kz.dst,hd]
   simp only [Zl2,XH]
   cases ZdZ t items 0 <;> rfl
  | some d=>
   rw [kz.dst,hd] at hfr ⊢
   simp only [ZjA,List.all_eq_true,Bool.and_eq_true,bne_iff_ne] at hfr
   simp only [Zl2,List.lookup_cons,XH]
   by_cases htd:t=d
   ·subst htd
    have:ZdZ t items 0=none:=by
     cases hf:ZdZ t items 0 with
     | none=>rfl
     | some q=>
      obtain ⟨p,it⟩:=q
      obtain ⟨_,h2,h3⟩:=Zez _ hf
      exact absurd h3 (hfr it (List.mem_of_getElem? h2)).1
    rw [this]
    simp
   ·have h1:(t==d)=false:=by simpa using htd
    have h2:¬ (some d=some t):=fun e=>htd (Option.some.inj e).symm
    simp only [h1]
    cases ZdZ t items 0 with
    | none=>simp [h2]
    | some q=>rfl)
 have I3:=I2.outs
 rw [←hout0] at I3
 have hclt:c'<w1.heap.size:=(Array.getElem?_eq_some_iff.mp m1h).1
 have hFl:∀ (j:Nat) (k:Blk),(m1.H.set b .dead++[.dead])[j]?=some k→k.live→∃ c d,(ι1++[some (w1.heap.size,0)])[j]?=some (some (c,d))∧c≠w1.heap.size∧c≠c':=by
  intro j k h hk
  have hjb:j<m1.H.length∧j≠b∧m1.H[j]?=some k:=by
   rw [List.getElem?_append] at h
   split at h
   ·rename_i hlt
    rw [List.length_set] at hlt
    rw [List.getElem?_set] at h
    split at h
    ·split at h
     ·cases h;cases hk
     ·cases h
    ·rename_i hne
     exact ⟨hlt,fun e=>hne e.symm,h⟩
   ·have h1:=(List.getElem?_eq_some_iff.mp h).1
    have:j - (m1.H.set b .dead).length=0:=by simp at h1 ⊢;omega
    rw [this] at h
    cases h
    cases hk
  obtain ⟨hj1,hj2,hj3⟩:=hjb
  have hp:∃ p,ι1[j]?=some (some p):=by
   cases k with
   | dead=>cases hk
   | cells cs wr=>obtain ⟨x,y,h1,_⟩:=R1.at' j cs wr hj3;exact ⟨_,h1⟩
   | mp es=>obtain ⟨x,h1,_⟩:=R1.mp j es hj3;exact ⟨_,h1⟩
  obtain ⟨⟨x,y⟩,hp⟩:=hp
  have hlow:=R1.low j x y hp
  refine ⟨x,y,hle12 _ _ hp,by omega,?_⟩
  exact fun e=>R1.sep b j _ k c' 0 x y (fun e=>hj2 e.symm) hb trivial hj3 hk g1 hp e.symm
 have hz0:Zb2 (xs.toList.zip es) #[]=xs.toList.zip es:=by
  unfold Zb2
  rw [List.filter_eq_self]
  intro q _
  simp
 have hz2:(Zb2 (xs.toList.zip es) #[]).map (·.2)=es:=by
  rw [hz0,List.map_snd_zip]
  simp
  omega
 show Code.wp P _ _ _ _
 refine wp_block ?_
 refine wp_loop_rounds ((Zb2 (xs.toList.zip es) #[]).length+1) ?_
 refine Zs3 (at':=m1.H.length) (r0:=w1.heap.size) (bm:=c') (clock:=clock) (xs:=xs) (es:=es) (mk:={ m1 with H:=m1.H.set b .dead++[.dead] }) (tmF:=tmF) hcall hgrow hR hG hrel L m1l m1e m1b m1n hesc (by simp [hlen1]) E1.size hlast hFl ?_ _ #[] _ _ _ _ rfl R2 E2 (Emb.le_refl _) (heap_alloc_new _ _) ?_ I3 ?_
 ·intro ιc wc ac tm Rc Ec hlec hbc Ic htm
  simp only [Exit.inBlock,if_true]
  obtain ⟨R4,E4⟩:=Rel.revive hrel R1 E1 hb g1 (Emb.le_trans hle12 hlec) Rc Ec ⟨xs,clock,hbc,m1l,m1e,m1b,m1n,m1k,m1z⟩
  refine ⟨rfl,ιc,R4,E4,?_⟩
  rw [←htm]
  exact Ic.havoc _
 ·rw [heap_alloc_old w1 _ hclt]
  exact m1h
 ·intro π hπ
  rw [hz2] at hπ
  exact hag' π hπ
theorem Zvf (hm:P.follows .mixedOrders=true) {call:FuncId→List AV→Mem→Option (AV×Mem)} (hcall:Zas P call) (hgrow:∀ f args m v m',call f args m=some (v,m')→Grow m m') {R:Zg→St→Option (Ex×St)} (hR:Zh2 P R) (hG:∀ c st e st',R c st=some (e,st')→Grow st.m st'.m) (n:Nat):Zh2 P (Xo n call R):=by
 intro nt keep pl c ac st st' e ι w a hc he hrel I
 cases c with
 | skip=>cases hc;cases he;exact wp_skip ⟨rfl,ι,hrel,Ext.refl _ _ _,I⟩
 | label l=>cases hc;cases he;exact wp_label ⟨rfl,ι,hrel,Ext.refl _ _ _,I⟩
 | region id ops draw=>
  simp only [Zn] at hc
  split at hc
  ·rename_i hd
   subst hd
   split at hc
   ·cases hc
   ·split at hc
    ·cases hc
    ·rename_i items hitems
     split at hc
     ·rename_i hcov
      rw [Bool.and_eq_true] at hcov
      have hcov:=hcov.1
      cases hc
      simp only [Xo] at he
      split at he
      ·cases he
      ·rename_i loc m he1
       cases he
       exact ZzJ hm hcall hgrow hitems hcov he1 hrel I fun ι' w' a' R' E' I'=>⟨rfl,ι',R',E',I'.outs⟩
     ·cases hc
  ·rename_i hd
   have hd':draw=false:=by simpa using hd
   subst hd'
   split at hc
   ·rename_i az env hops
    cases hc
    simp only [Xo] at he
    split at he
    ·cases he
    ·rename_i loc m he1
     cases he
     refine wp_region ?_
     have:=Zu4 hcall (Q:=ZzK ι st.m w nt keep .normal ⟨setOuts st.tm loc (Kq env keep 0),m⟩) ops.toList 0 [] env az [] loc st.m m ι w a (fun j o hj=>by simpa using hj) hops he1 hrel I rfl
      (fun ι' w' a' R' E' I'=>⟨rfl,ι',R',E',I'.outs⟩)
     rw [List.range_eq_range']
     simpa using this
   ·cases hc
 | seq x y=>
  simp only [Zn] at hc
  split at hc
  ·rename_i ax ay h1 h2
   simp only [Option.some.injEq] at hc
   rcases Zfx ax ay with ⟨z,hz,hzz⟩ | hs
   ·rw [hzz] at hc
    subst hc
    exact Zx4 hm hcall hgrow hR hG h1 h2 hz he hrel I
   rw [hs] at hc
   subst hc
   simp only [Xo] at he
   refine wp_seq ?_
   split at he
   ·rename_i st1 hx
    refine wp_mono (hR nt keep pl x ax st st1 .normal ι w a h1 hx hrel I) ?_
    intro ex a1 w1 hp
    cases ex with
    | normal=>
     obtain ⟨_,ι1,r1,r2,r3⟩:=hp
     exact wp_mono (hR nt keep pl y ay st1 st' e ι1 w1 a1 h2 he r1 r3) (fun ex a2 w2 h=>h.trans r2)
    | exit id=>exact absurd hp.1 (by simp)
    | ret=>exact absurd hp.1 (by simp)
    | goto l=>exact hp.elim
    | panic ch=>exact hp.elim
    | outgrown=>exact hp.elim
   ·rename_i hne
    refine wp_mono (hR nt keep pl x ax st st' e ι w a h1 he hrel I) ?_
    intro ex a1 w1 hp
    cases ex with
    | normal=>obtain ⟨rfl,_⟩:=hp;exact absurd he (hne st')
    | exit id=>exact hp
    | ret=>exact hp
    | goto l=>exact hp.elim
    | panic ch=>exact hp.elim
    | outgrown=>exact hp.elim
  ·cases hc
 | cond c x y=>
  simp only [Zn] at hc
  split at hc
  ·rename_i ac' ax ay h0 h1 h2
   cases hc
   simp only [Xo] at he
   have hv:=I.ok _ _ h0
   split at he
   ·rename_i eb
    rw [eb] at hv
    exact wp_cond_true (V.bool_inv hv) (hR nt keep pl x ax st st' e ι w a h1 he hrel I)
   ·rename_i eb
    rw [eb] at hv
    exact wp_cond_false (V.bool_inv hv) (hR nt keep pl y ay st st' e ι w a h2 he hrel I)
   ·cases he
  ·cases hc
 | block id c=>
  simp only [Zn,Option.map_eq_some_iff] at hc
  obtain ⟨ab,h1,rfl⟩:=hc
  simp only [Xo] at he
  refine wp_block ?_
  split at he
  ·rename_i k st1 hx
   refine wp_mono (hR nt keep pl c ab st st1 (.exit k) ι w a h1 hx hrel I) ?_
   intro ex a1 w1 hp
   cases ex with
   | normal=>exact absurd hp.1 (by simp)
   | exit id'=>
    obtain ⟨hk,ι1,r1,r2,r3⟩:=hp
    cases hk
    simp only [Exit.inBlock]
    split at he
    ·rename_i hki
     cases he
     rw [if_pos hki]
     exact ⟨rfl,ι1,r1,r2,r3⟩
    ·rename_i hki
     cases he
     rw [if_neg hki]
     exact ⟨rfl,ι1,r1,r2,r3⟩
   | ret=>exact absurd hp.1 (by simp)
   | goto l=>exact hp.elim
   | panic ch=>exact hp.elim
   | outgrown=>exact hp.elim
  ·rename_i hne
   refine wp_mono (hR nt keep pl c ab st st' e ι w a h1 he hrel I) ?_
   intro ex a1 w1 hp
   cases ex with
   | normal=>exact hp
   | exit id'=>obtain ⟨rfl,_⟩:=hp;exact absurd he (hne id' st')
   | ret=>exact hp
   | goto l=>exact hp.elim
   | panic ch=>exact hp.elim
   | outgrown=>exact hp.elim
 | loop c=>
  simp only [Zn,Option.map_eq_some_iff] at hc
  obtain ⟨ab,h1,rfl⟩:=hc
  simp only [Xo] at he
  have key:∀ (n:Nat) (st:St) (ι:Emb) (w:World) (a:Act),ZdY R ab n st=some (e,st')→Rel ι st.m w→Inv ι w nt keep st.tm [] [] a→Code.rounds P c (ZzK ι st.m w nt keep e st') n a w:=by
   intro n
   induction n with
   | zero=>intro st ι w a h;cases h
   | succ n ih=>
    intro st ι w a h hrel I
    rw [rounds_succ]
    unfold ZdY at h
    split at h
    ·rename_i st1 hx
     refine wp_mono (hR nt keep pl c ab st st1 .normal ι w a h1 hx hrel I) ?_
     intro ex a1 w1 hp
     cases ex with
     | normal=>
      obtain ⟨_,ι1,r1,r2,r3⟩:=hp
      have:=ih st1 ι1 w1 a1 h r1 r3
      exact ZjH (fun ex a2 w2 h=>h.trans r2) n a1 w1 this
     | exit id=>exact absurd hp.1 (by simp)
     | ret=>exact absurd hp.1 (by simp)
     | goto l=>exact hp.elim
     | panic ch=>exact hp.elim
     | outgrown=>exact hp.elim
    ·rename_i hne
     refine wp_mono (hR nt keep pl c ab st st' e ι w a h1 h hrel I) ?_
     intro ex a1 w1 hp
     cases ex with
     | normal=>obtain ⟨rfl,_⟩:=hp;exact absurd h (hne st')
     | exit id=>exact hp
     | ret=>exact hp
     | goto l=>exact hp.elim
     | panic ch=>exact hp.elim
     | outgrown=>exact hp.elim
  exact wp_loop_rounds n (key n st ι w a he hrel I)
 | exit id=>cases hc;cases he;exact wp_exit ⟨rfl,ι,hrel,Ext.refl _ _ _,I⟩
 | ret=>cases hc;cases he;exact wp_ret ⟨rfl,ι,hrel,Ext.refl _ _ _,I⟩
 | rangeFunc=>cases hc
 | scope=>cases hc
 | goto=>cases hc
 | refuse=>cases hc
def Zot (tmps:Array Value) (r:ResultVar):Sem Value :=
 match r with
 | .tmp t=>pure (tmps.getD t undef)
 | .cell b t=>do loadVar t (←asAddr (tmps.getD b undef))
theorem Zs4 (fn:Func) (tmps:Array Value):results fn tmps=(do
  let vs ←fn.results.mapM (Zot tmps)
  pure (if h:vs.size=1 then vs[0] else .tuple vs)):=rfl
theorem Zhp {nt:Nat} {keep:List Nat} {ι:Emb} {m:Mem} {w:World} {tm:List AV} {a:Act} (R:Rel ι m w) (I:Inv ι w nt keep tm [] [] a) :
  ∀ (rs:List ResultVar) (az:List AR) (vs:List AV),Jp P keep rs=some az→Yd tm m.H az=some vs →
   ∃ us:List Value,(rs.mapM (Zot a.tmps)).run P w=.ok us w∧VL ι w vs us
 | [],az,vs,hc,hr=>by cases hc;cases hr;exact ⟨[],rfl,rfl⟩
 | .tmp t::rs,az,vs,hc,hr=>by
  unfold Jp at hc
  split at hc
  ·rename_i s az' h1 h2
   cases hc
   unfold Yd at hr
   split at hr
   ·rename_i v vs' h3 h4
    cases hr
    obtain ⟨us,u1,u2⟩:=Zhp R I rs az' vs' h2 h4
    cases h3
    have hv:=I.kept t s rfl h1
    refine ⟨a.tmps.getD t undef::us,?_,⟨_,_,rfl,hv,u2⟩⟩
    rw [List.mapM_cons]
    simp only [Zot,Sem.run_bind,Sem.run_pure,Result.andThen_ok,u1]
   ·cases hr
  ·cases hc
 | .cell b t::rs,az,vs,hc,hr=>by
  unfold Jp at hc
  split at hc
  ·rename_i s g sz az' h1 h2 h3 h4
   cases hc
   unfold Yd at hr
   split at hr
   ·rename_i v vs' h5 h6
    cases hr
    obtain ⟨us,u1,u2⟩:=Zhp R I rs az' vs' h4 h6
    have hv:=I.kept b s rfl h1
    obtain ⟨v',r1,r2⟩:=Zok (P:=P) R h2 h3 hv h5
    refine ⟨v'::us,?_,⟨_,_,rfl,r2,u2⟩⟩
    rw [List.mapM_cons]
    have hsa:(do loadVar t (←asAddr (a.tmps.getD b undef)):Sem Value).run P w=.ok v' w:=by
     have he:a.eval (.tmp b)=a.tmps.getD b undef:=rfl
     rw [←he]
     generalize a.eval (.tmp b)=q at *
     cases q with
     | pointer p=>
      cases p with
      | none=>simp [Instr.sureAddr] at r1
      | some p=>simpa [Instr.sureAddr,asAddr] using r1
     | _=>simp [Instr.sureAddr] at r1
    have hsa':(Zot a.tmps (.cell b t)).run P w=.ok v' w:=hsa
    simp only [Sem.run_bind,hsa',Sem.run_pure,Result.andThen_ok,u1]
   ·cases hr
  ·cases hc
theorem Zvg {ι:Emb} {w:World} {keep:List Nat} {nt:Nat} {F:ZZ} (hk:F.keep=keep) {args:List AV} {vs:List Value} (hv:VL ι w args vs) :
  Inv ι w nt keep (entry F args) [] [] { tmps:=vs.toArray++Array.replicate (nt - vs.toArray.size) undef,defers:=[] }:=by
 refine ⟨fun t j e=>by simp at e,fun t s _ k => ?_,by simp;omega,rfl,by simp [entry,hk]⟩
 have hs:keep[s]?=some t:=by
  rw [List.idxOf?_eq_some_iff] at k
  obtain ⟨hlt,h1,_⟩:=k
  rw [List.getElem?_eq_getElem hlt]
  simpa using h1
 unfold entry
 rw [hk,List.getElem?_map,hs]
 simp only [Option.map_some,Option.getD_some]
 cases ha:args[t]? with
 | none=>trivial
 | some c=>
  obtain ⟨y,h1,h2⟩:=hv.get t c ha
  have hlt:t<vs.length:=(List.getElem?_eq_some_iff.mp h1).1
  have:(({ tmps:=vs.toArray++Array.replicate (nt - vs.toArray.size) undef,defers:=[] }:Act)).eval (.tmp t)=y:=by
   simp only [Act.eval,Array.getD_eq_getD_getElem?]
   rw [Array.getElem?_append_left (by simpa using hlt)]
   simp [h1]
  rw [this]
  exact h2
theorem Zou {T:FuncId→Option ZZ} {pr:FuncId→List AV→Mem→Option (AV×Mem)} (hT:Zhn P T) (hpr:Zas P pr) {R:Zg→St→Option (Ex×St)} (hR:Zh2 P R)
  (hG:∀ c st e st',R c st=some (e,st')→Grow st.m st'.m):Zas P (Yp T pr R):=by
 intro f args m v m' ι w vs h hrel hargs
 unfold Yp at h
 split at h
 ·exact hpr f args m v m' ι w vs h hrel hargs
 ·rename_i F hF
  obtain ⟨fn,keep,mode,pl,hf,hfn⟩:=hT f F hF
  unfold Zd at hfn
  split at hfn
  ·cases hfn
  ·rename_i hname
   split at hfn
   ·rename_i c hb
    split at hfn
    ·rename_i ac rs h1 h2
     cases hfn
     refine ⟨⟨fn,hf,by rw [hb];rfl,by simpa using hname⟩,?_⟩
     refine calls_of_wp hf hb ?_
     have R0:Rel ι { m with esc:=none } w:=⟨⟨hrel.len,hrel.low,hrel.at',hrel.mp,hrel.sep⟩,hrel.glob⟩
     split at h
     ·cases h
     ·rename_i e st hne he
      split at h
      ·rename_i us hus
       have I0:=Zvg (ι:=ι) (w:=w) (nt:=fn.ntmps) (keep:=keep) (F:=⟨keep,fn.ntmps,ac,rs,mode⟩) rfl hargs
       refine wp_mono (hR fn.ntmps keep pl c ac _ st e ι w _ h1 he R0 I0) ?_
       have fin:∀ (ex:Exit) (a':Act) (w':World),(∃ ι',Rel ι' st.m w'∧Ext ι { m with esc:=none } w ι' st.m w'∧Inv ι' w' fn.ntmps keep st.tm [] [] a') →
         a'.defers=[]∧∃ v0,(results fn a'.tmps).run P w'=.ok v0 w'∧∃ (ι':Emb) (v':Value),Ending.returned v0=.returned v'∧V ι' w' v v'∧Rel ι' m' w'∧Ext ι m w ι' m' w':=by
        rintro ex a' w' ⟨ι',r1,r2,r3⟩
        obtain ⟨ws,q1,q2⟩:=Zhp (P:=P) r1 r3 fn.results.toList rs us h2 hus
        have hres:∃ v0,(results fn a'.tmps).run P w'=.ok v0 w'∧V ι' w' (ZdX us) v0:=by
         have hlen:=q2.length
         have hmm:(fn.results.mapM (Zot a'.tmps)).run P w'=.ok ws.toArray w':=by
          rw [Array.mapM_eq_mapM_toList,Sem.run_map,q1]
          rfl
         have hrun:(results fn a'.tmps).run P w'=.ok (if h:ws.toArray.size=1 then ws.toArray[0] else .tuple ws.toArray) w':=by
          rw [Zs4,Sem.run_bind,hmm]
          rfl
         refine ⟨_,hrun,?_⟩
         cases us with
         | nil=>cases q2;exact ⟨[],by simp,rfl⟩
         | cons u us=>
          obtain ⟨y,ys,rfl,q3,q4⟩:=q2
          cases us with
          | nil=>cases q4;simpa [ZdX] using q3
          | cons u2 us2=>
           obtain ⟨y2,ys2,rfl,q5,q6⟩:=q4
           rw [dif_neg (by simp)]
           exact ⟨_,rfl,y,_,rfl,q3,y2,ys2,rfl,q5,q6⟩
        obtain ⟨v0,z1,z2⟩:=hres
        have E:Ext ι m w ι' st.m w':=⟨r2.le,r2.grow,r2.size,r2.shapes,r2.img,r2.frame,r2.os,r2.tape,r2.output⟩
        obtain ⟨ι₂,f1,f2,f3⟩:=Zu6 hrel r1 E (hG _ _ _ _ he) z2 h
        exact ⟨r3.defers,v0,z1,ι₂,v0,rfl,f1,f2,f3⟩
       intro ex a' w' hp
       cases ex with
       | normal=>exact fin .normal a' w' hp.2
       | ret=>exact fin .ret a' w' hp.2
       | exit id=>
        obtain ⟨rfl,_⟩:=hp
        exact absurd rfl (hne id)
       | goto l=>exact hp.elim
       | panic ch=>exact hp.elim
       | outgrown=>exact hp.elim
      ·cases h
     ·cases h
    ·cases hfn
   ·cases hfn
end
end Go.Proofs.YtemcdiajejekoaaGreatDoor.Slim
namespace Go.Proofs.YtemcdiajejekoaaGreatDoor.Slim
open Go
abbrev Zq:=FuncId→List AV→Mem→Option (AV×Mem)
abbrev Zd0:=FuncId→Option ZZ
theorem Grow.step {n:Nat} {call:FuncId→List AV→Mem→Option (AV×Mem)} (hcall:∀ f args m v m',call f args m=some (v,m')→Grow m m') {R:Zg→St→Option (Ex×St)}
  (hR:∀ c st e st',R c st=some (e,st')→Grow st.m st'.m) {c:Zg} {st st':St} {e:Ex} (h:Xo n call R c st=some (e,st')):Grow st.m st'.m:=by
 cases c with
 | skip=>cases h;exact Grow.refl _
 | region ops outs=>
  simp only [Xo] at h
  split at h
  ·cases h
  ·rename_i h1;cases h;exact Grow.aops hcall h1
 | draw es outs=>
  simp only [Xo] at h
  split at h
  ·cases h
  ·rename_i h1;cases h;exact Grow.dops hcall h1
 | seq a b=>
  simp only [Xo] at h
  split at h
  ·rename_i h1;exact (hR _ _ _ _ h1).trans (hR _ _ _ _ h)
  ·exact hR _ _ _ _ h
 | cond x a b=>
  simp only [Xo] at h
  split at h
  ·exact hR _ _ _ _ h
  ·exact hR _ _ _ _ h
  ·cases h
 | block id b=>
  simp only [Xo] at h
  split at h
  ·rename_i h1
   split at h
   ·cases h;exact hR _ _ _ _ h1
   ·cases h;exact hR _ _ _ _ h1
  ·exact hR _ _ _ _ h
 | loop b=>
  simp only [Xo] at h
  have key:∀ (k:Nat) (st:St),ZdY R b k st=some (e,st')→Grow st.m st'.m:=by
   intro k
   induction k with
   | zero=>intro st h;cases h
   | succ k ih=>
    intro st h
    unfold ZdY at h
    split at h
    ·rename_i h1;exact (hR _ _ _ _ h1).trans (ih _ h)
    ·exact hR _ _ _ _ h
  exact key n st h
 | exit id=>cases h;exact Grow.refl _
 | ret=>cases h;exact Grow.refl _
 | mloop pre outs0 mx it it' c outs2 az outs3 nxt body=>
  simp only [Xo] at h
  split at h
  ·cases h
  ·rename_i loc m1 h1
   split at h
   ·split at h
    ·split at h
     ·split at h
      ·cases h
       exact (Grow.dops hcall h1).trans (Grow.dead m1)
      ·cases h
     ·cases h
    ·cases h
   ·cases h
theorem Grow.call {T:Zd0} {pr:Zq} (hpr:∀ f args m v m',pr f args m=some (v,m')→Grow m m') {R:Zg→St→Option (Ex×St)}
  (hR:∀ c st e st',R c st=some (e,st')→Grow st.m st'.m) {f:FuncId} {args:List AV} {m m':Mem} {v:AV} (h:Yp T pr R f args m=some (v,m')):Grow m m':=by
 unfold Yp at h
 split at h
 ·exact hpr _ _ _ _ _ h
 ·split at h
  ·cases h
  ·rename_i h1
   split at h
   ·exact Grow.finish (hR _ _ _ _ h1) h
   ·cases h
  ·cases h
theorem Grow.run {T:Zd0} {pr:Zq} (hpr:∀ f args m v m',pr f args m=some (v,m')→Grow m m'):∀ (n:Nat) (c:Zg) (st:St) (e:Ex) (st':St),QG T pr n c st=some (e,st')→Grow st.m st'.m
 | 0,c,st,e,st',h=>by simp [QG] at h
 | n+1,c,st,e,st',h=>by
  simp only [QG] at h
  exact Grow.step (fun f args m v m' h=>Grow.call hpr (Grow.run hpr n) h) (Grow.run hpr n) h
structure Zm6 (P:Program) (pr:Zq):Prop where
 ok:Zas P pr
 grow:∀ f args m v m',pr f args m=some (v,m')→Grow m m'
theorem Zov {P:Program} {T:Zd0} {pr:Zq} (hm:P.follows .mixedOrders=true) (hT:Zhn P T) (hpr:Zm6 P pr):∀ n,Zh2 P (QG T pr n)∧Zas P (Yp T pr (QG T pr n))
 | 0=>by
  have h0:Zh2 P (QG T pr 0):=fun nt keep pl c ac st st' e ι w a hc he=>by simp [QG] at he
  exact ⟨h0,Zou hT hpr.ok h0 (Grow.run hpr.grow 0)⟩
 | n+1=>by
  obtain ⟨h1,h2⟩:=Zov hm hT hpr n
  have h3:Zh2 P (QG T pr (n+1)):=Zvf hm h2 (fun f args m v m' h=>Grow.call hpr.grow (Grow.run hpr.grow n) h) h1 (Grow.run hpr.grow n) n
  exact ⟨h3,Zou hT hpr.ok h3 (Grow.run hpr.grow (n+1))⟩
def LeS (a b:Option (Ex×St)):Prop:=∀ r,a=some r→b=some r
def LeR (R R':Zg→St→Option (Ex×St)):Prop:=∀ c st,LeS (R c st) (R' c st)
def LeC (C C':FuncId→List AV→Mem→Option (AV×Mem)):Prop:=∀ f args m r,C f args m=some r→C' f args m=some r
theorem Zs5 {C C':FuncId→List AV→Mem→Option (AV×Mem)} (h:LeC C C') {g:X→AV} {m:Mem} {op:AO} {r:AV×Mem} (he:ZbY C g m op=some r):ZbY C' g m op=some r:=by
 cases op with
 | call f args=>
  unfold ZbY at he ⊢
  cases e:g f with
  | fn f first captured=>simp only [e] at he ⊢;exact h _ _ _ _ he
  | _=>simp only [e] at he;cases he
 | _=>exact he
theorem Zja {C C':FuncId→List AV→Mem→Option (AV×Mem)} (h:LeC C C') {g:X→AV} {m:Mem} {op:AO} {r:AV×Mem} (he:aop C g m op=some r):aop C' g m op=some r:=by
 unfold aop at he ⊢
 cases e:Ji g op with
 | some v=>simp only [e] at he ⊢;exact he
 | none=>
  simp only [e] at he ⊢
  cases e2:Zao g m.H op with
  | some v=>simp only [e2] at he ⊢;exact he
  | none=>
   simp only [e2] at he ⊢
   cases e3:Ka g op with
   | some v=>simp only [e3] at he ⊢;exact he
   | none=>simp only [e3] at he ⊢;exact Zs5 h he
theorem Zcg {C C':FuncId→List AV→Mem→Option (AV×Mem)} (h:LeC C C') {tm:List AV}:∀ {ops:List YS} {loc:List AV} {m:Mem} {r:List AV×Mem},Zhe C tm ops loc m=some r→Zhe C' tm ops loc m=some r
 | [],loc,m,r,he=>he
 | o::rest,loc,m,r,he=>by
  unfold Zhe at he ⊢
  cases e:Zbp (get tm loc) o.guard with
  | none=>simp only [e] at he;cases he
  | some b=>
   cases b with
   | false=>simp only [e] at he ⊢;exact Zcg h he
   | true=>
    simp only [e] at he ⊢
    cases e2:aop C (get tm loc) m o.op with
    | none=>simp only [e2] at he;cases he
    | some v=>simp only [e2,Zja h e2] at he ⊢;exact Zcg h he
theorem Zch {C C':FuncId→List AV→Mem→Option (AV×Mem)} (h:LeC C C') {tm:List AV}:∀ {es:List DE} {loc:List AV} {m:Mem} {r:List AV×Mem},ZeZ C tm es loc m=some r→ZeZ C' tm es loc m=some r
 | [],loc,m,r,he=>he
 | e::rest,loc,m,r,he=>by
  unfold ZeZ at he ⊢
  cases e1:Zbp (get tm loc) e.guard with
  | none=>simp only [e1] at he;cases he
  | some b=>
   cases b with
   | false=>
    simp only [e1] at he ⊢
    split at he
    ·rename_i e3;rw [if_pos e3];exact Zch h he
    ·cases he
   | true=>
    simp only [e1] at he ⊢
    cases e2:aop C (get tm loc) m e.op with
    | none=>simp only [e2] at he;cases he
    | some v=>
     simp only [e2,Zja h e2] at he ⊢
     split at he
     ·rename_i e3;rw [if_pos e3];exact Zch h he
     ·cases he
theorem ZeC {R R':Zg→St→Option (Ex×St)} (h:LeR R R') {b:Zg}:∀ {n k:Nat} (hn:n≤k) {st:St} {r:Ex×St},ZdY R b n st=some r→ZdY R' b k st=some r
 | 0,k,hn,st,r,he=>by cases he
 | n+1,0,hn,st,r,he=>by omega
 | n+1,k+1,hn,st,r,he=>by
  unfold ZdY at *
  split at he
  ·rename_i st1 e
   rw [h _ _ _ e]
   exact ZeC h (by omega) he
  ·rename_i hne
   have:=h _ _ _ he
   rw [this]
   obtain ⟨ex,st2⟩:=r
   cases ex with
   | normal=>exact absurd he (hne st2)
   | _=>rfl
theorem Zh3 {C C':FuncId→List AV→Mem→Option (AV×Mem)} (hC:LeC C C') {R R':Zg→St→Option (Ex×St)} (h:LeR R R') {mk:Mem} {at':Nat} {it it' c:X} {outs2 outs3:List (Nat×Nat)} {az:List YS} {nxt:Nat} {body:Zg} :
  ∀ {π:List (List Int×Int)} {tm r:List AV},ZcQ C R mk at' it it' c outs2 az outs3 nxt body π tm=some r→ZcQ C' R' mk at' it it' c outs2 az outs3 nxt body π tm=some r
 | [],tm,r,he=>he
 | p::π,tm,r,he=>by
  unfold ZcQ at he ⊢
  split at he
  rotate_left
  ·cases he
  rename_i hc
  rw [if_pos hc]
  split at he
  ·cases he
  rename_i loc m1 h1
  rw [Zcg hC h1]
  simp only []
  split at he
  ·cases he
  rename_i e st' h2
  rw [h _ _ _ h2]
  simp only []
  split at he
  rotate_left
  ·cases he
  rename_i hc2
  rw [if_pos hc2]
  exact Zh3 hC h he
theorem Zs6 {f f':List (List Int×Int)→Option (List AV)} (h:∀ π r,f π=some r→f' π=some r) {es:List (List Int×Int)} {r:List AV} (he:Zu3 f es=some r):Zu3 f' es=some r :=
 Zjw.mpr fun π hπ=>h π r (Zjw.mp he π hπ)
theorem Zs7 {n k:Nat} (hn:n≤k) {C C':FuncId→List AV→Mem→Option (AV×Mem)} (hC:LeC C C') {R R':Zg→St→Option (Ex×St)} (h:LeR R R'):LeR (Xo n C R) (Xo k C' R'):=by
 intro c st r he
 cases c with
 | skip=>exact he
 | region ops outs=>
  simp only [Xo] at he ⊢
  cases e:Zhe C st.tm ops [] st.m with
  | none=>simp only [e] at he;cases he
  | some v=>simp only [e,Zcg hC e] at he ⊢;exact he
 | draw es outs=>
  simp only [Xo] at he ⊢
  cases e:ZeZ C st.tm es [] st.m with
  | none=>simp only [e] at he;cases he
  | some v=>simp only [e,Zch hC e] at he ⊢;exact he
 | seq a b=>
  simp only [Xo] at *
  split at he
  ·rename_i st1 e
   rw [h _ _ _ e]
   exact h _ _ _ he
  ·rename_i hne
   rw [h _ _ _ he]
   obtain ⟨ex,st2⟩:=r
   cases ex with
   | normal=>exact absurd he (hne st2)
   | _=>rfl
 | cond x a b=>
  unfold Xo at he ⊢
  cases e:get st.tm [] x with
  | bool t=>cases t <;> (simp only [e] at he ⊢;exact h _ _ _ he)
  | _=>simp only [e] at he;cases he
 | block id b=>
  simp only [Xo] at *
  split at he
  ·rename_i k2 st1 e
   rw [h _ _ _ e]
   exact he
  ·rename_i hne
   rw [h _ _ _ he]
   obtain ⟨ex,st2⟩:=r
   cases ex with
   | exit id2=>exact absurd he (hne id2 st2)
   | _=>rfl
 | loop b=>exact ZeC h hn he
 | exit id=>exact he
 | ret=>exact he
 | mloop pre outs0 mx it it' c outs2 az outs3 nxt body=>
  simp only [Xo] at he ⊢
  split at he
  ·cases he
  rename_i loc m1 h1
  rw [Zch hC h1]
  simp only []
  split at he
  rotate_left
  ·cases he
  rename_i b hb
  split at he
  rotate_left
  ·cases he
  rename_i es hes
  split at he
  rotate_left
  ·cases he
  rename_i hesc
  rw [if_pos hesc]
  split at he
  rotate_left
  ·cases he
  rename_i tm htm
  rw [Zs6 (fun π r hr=>by
   obtain ⟨x,h1,h2⟩:=Option.map_eq_some_iff.mp hr
   exact Option.map_eq_some_iff.mpr ⟨x,Zh3 hC h h1,h2⟩) htm]
  exact he
theorem ZjI {T:Zd0} {pr:Zq} {R R':Zg→St→Option (Ex×St)} (h:LeR R R'):LeC (Yp T pr R) (Yp T pr R'):=by
 intro f args m r he
 unfold Yp at he ⊢
 cases e:T f with
 | none=>simp only [e] at he ⊢;exact he
 | some F=>
  simp only [e] at he ⊢
  cases e2:R F.code ⟨entry F args,{ m with esc:=none }⟩ with
  | none=>simp only [e2] at he;cases he
  | some p=>
   obtain ⟨ex,st⟩:=p
   simp only [h _ _ _ e2]
   simp only [e2] at he
   exact he
theorem Zow {T:Zd0} {pr:Zq}:∀ (n:Nat),LeR (QG T pr n) (QG T pr (n+1))
 | 0=>fun c st r he=>by simp [QG] at he
 | n+1=>fun c st r he=>by
  have ih:=Zow (T:=T) (pr:=pr) n
  simp only [QG] at *
  exact Zs7 (Nat.le_succ n) (ZjI ih) ih c st r he
theorem ZcU {T:Zd0} {pr:Zq} {n k:Nat} (h:n≤k):LeR (QG T pr n) (QG T pr k):=by
 induction h with
 | refl=>exact fun c st r he=>he
 | step _ ih=>exact fun c st r he=>Zow _ _ _ _ (ih c st r he)
open Classical in
noncomputable def run (T:Zd0) (pr:Zq) (c:Zg) (st:St):Option (Ex×St) :=
 if h:∃ n r,QG T pr n c st=some r then some h.choose_spec.choose else none
theorem ZaV {T:Zd0} {pr:Zq} {n:Nat} {c:Zg} {st:St} {r:Ex×St} (h:QG T pr n c st=some r):run T pr c st=some r:=by
 have hex:∃ n r,QG T pr n c st=some r:=⟨n,r,h⟩
 unfold run
 rw [dif_pos hex]
 have h1:=hex.choose_spec.choose_spec
 rcases Nat.le_total n hex.choose with hle | hle
 ·have:=ZcU hle c st r h
  rw [h1] at this
  exact this
 ·have:=ZcU hle c st _ h1
  rw [h] at this
  exact this.symm
theorem Zf7 {T:Zd0} {pr:Zq} {c:Zg} {st:St} {r:Ex×St} (h:run T pr c st=some r):∃ n,QG T pr n c st=some r:=by
 unfold run at h
 split at h
 ·rename_i hex
  cases h
  exact ⟨_,hex.choose_spec.choose_spec⟩
 ·cases h
theorem Zx5 {T:Zd0} {pr:Zq} (n:Nat):LeR (QG T pr n) (run T pr):=fun c st r h=>ZaV h
noncomputable def call (T:Zd0) (pr:Zq):FuncId→List AV→Mem→Option (AV×Mem):=Yp T pr (run T pr)
theorem Zvh {T:Zd0} {pr:Zq} {f:FuncId} {args:List AV} {m:Mem} {r:AV×Mem} (h:call T pr f args m=some r):∃ n,Yp T pr (QG T pr n) f args m=some r:=by
 unfold call Yp at h
 split at h
 ·rename_i e;exact ⟨0,by unfold Yp;simp only [e];exact h⟩
 ·rename_i F e
  split at h
  ·cases h
  ·rename_i ex st2 hne he
   obtain ⟨n,hn⟩:=Zf7 he
   refine ⟨n,?_⟩
   unfold Yp
   simp only [e,hn]
   cases ex with
   | exit id=>exact absurd rfl (hne id)
   | normal=>exact h
   | ret=>exact h
  ·cases h
theorem ZBZ {P:Program} {T:Zd0} {pr:Zq} (hm:P.follows .mixedOrders=true) (hT:Zhn P T) (hpr:Zm6 P pr):Zas P (call T pr):=by
 intro f args m v m' ι w vs h
 obtain ⟨n,hn⟩:=Zvh h
 exact (Zov hm hT hpr n).2 f args m v m' ι w vs hn
end Go.Proofs.YtemcdiajejekoaaGreatDoor.Slim
namespace Go.Proofs.YtemcdiajejekoaaGreatDoor.Slim
open Go
section
variable {T : Zd0} {pr : Zq}
theorem Zx6 {g:X→AV} {m:Mem} {op:AO} {r:AV×Mem} (h:ZbY (call T pr) g m op=some r):∃ n,ZbY (Yp T pr (QG T pr n)) g m op=some r:=by
 cases op with
 | call f args=>
  unfold ZbY at h
  cases e:g f with
  | fn f first captured=>
   simp only [e] at h
   obtain ⟨n,hn⟩:=Zvh h
   exact ⟨n,by unfold ZbY;simp only [e];exact hn⟩
  | _=>simp only [e] at h;cases h
 | _=>exact ⟨0,h⟩
theorem Zzh {g:X→AV} {m:Mem} {op:AO} {r:AV×Mem} (h:aop (call T pr) g m op=some r):∃ n,aop (Yp T pr (QG T pr n)) g m op=some r:=by
 unfold aop at h
 cases e:Ji g op with
 | some v=>simp only [e] at h;exact ⟨0,by unfold aop;simp only [e];exact h⟩
 | none=>
  simp only [e] at h
  cases e2:Zao g m.H op with
  | some v=>simp only [e2] at h;exact ⟨0,by unfold aop;simp only [e,e2];exact h⟩
  | none=>
   simp only [e2] at h
   cases e3:Ka g op with
   | some v=>simp only [e3] at h;exact ⟨0,by unfold aop;simp only [e,e2,e3];exact h⟩
   | none=>
    simp only [e3] at h
    obtain ⟨n,hn⟩:=Zx6 h
    exact ⟨n,by unfold aop;simp only [e,e2,e3];exact hn⟩
theorem Zm7 {n k:Nat} (h:n≤k):LeC (Yp T pr (QG T pr n)) (Yp T pr (QG T pr k)):=ZjI (ZcU h)
theorem Zr7 (n:Nat):LeC (Yp T pr (QG T pr n)) (call T pr):=ZjI (Zx5 n)
theorem Zqx {tm:List AV}:∀ {ops:List YS} {loc:List AV} {m:Mem} {r:List AV×Mem},Zhe (call T pr) tm ops loc m=some r→∃ n,Zhe (Yp T pr (QG T pr n)) tm ops loc m=some r
 | [],loc,m,r,h=>⟨0,h⟩
 | o::rest,loc,m,r,h=>by
  unfold Zhe at h
  cases e:Zbp (get tm loc) o.guard with
  | none=>simp only [e] at h;cases h
  | some b=>
   cases b with
   | false=>
    simp only [e] at h
    obtain ⟨n,hn⟩:=Zqx h
    exact ⟨n,by unfold Zhe;simp only [e];exact hn⟩
   | true=>
    simp only [e] at h
    cases e2:aop (call T pr) (get tm loc) m o.op with
    | none=>simp only [e2] at h;cases h
    | some v=>
     simp only [e2] at h
     obtain ⟨n,hn⟩:=Zqx h
     obtain ⟨k,hk⟩:=Zzh e2
     refine ⟨max n k,?_⟩
     unfold Zhe
     simp only [e,Zja (Zm7 (Nat.le_max_right n k)) hk]
     exact Zcg (Zm7 (Nat.le_max_left n k)) hn
theorem Zqy {tm:List AV}:∀ {es:List DE} {loc:List AV} {m:Mem} {r:List AV×Mem},ZeZ (call T pr) tm es loc m=some r→∃ n,ZeZ (Yp T pr (QG T pr n)) tm es loc m=some r
 | [],loc,m,r,h=>⟨0,h⟩
 | e::rest,loc,m,r,h=>by
  unfold ZeZ at h
  cases e1:Zbp (get tm loc) e.guard with
  | none=>simp only [e1] at h;cases h
  | some b=>
   cases b with
   | false=>
    simp only [e1] at h
    split at h
    ·rename_i h3
     obtain ⟨n,hn⟩:=Zqy h
     refine ⟨n,?_⟩
     unfold ZeZ
     simp only [e1]
     rw [if_pos h3]
     exact hn
    ·cases h
   | true=>
    simp only [e1] at h
    cases e2:aop (call T pr) (get tm loc) m e.op with
    | none=>simp only [e2] at h;cases h
    | some v=>
     simp only [e2] at h
     split at h
     ·rename_i h3
      obtain ⟨n,hn⟩:=Zqy h
      obtain ⟨k,hk⟩:=Zzh e2
      refine ⟨max n k,?_⟩
      unfold ZeZ
      simp only [e1,Zja (Zm7 (Nat.le_max_right n k)) hk]
      rw [if_pos h3]
      exact Zch (Zm7 (Nat.le_max_left n k)) hn
     ·cases h
def Zb3 (r:Option (Ex×St)) (f:St→Option (Ex×St)):Option (Ex×St) :=
 match r with
 | some (.normal,st)=>f st
 | r=>r
@[simp] theorem Ze7 (st:St) (f:St→Option (Ex×St)):Zb3 (some (.normal,st)) f=f st:=rfl
@[simp] theorem ZjJ (st:St) (f:St→Option (Ex×St)):Zb3 (some (.ret,st)) f=some (.ret,st):=rfl
@[simp] theorem Zh4 (k:Nat) (st:St) (f:St→Option (Ex×St)):Zb3 (some (.exit k,st)) f=some (.exit k,st):=rfl
@[simp] theorem Zh5 (f:St→Option (Ex×St)):Zb3 none f=none:=rfl
@[simp] theorem Zqz (c:Prop) [Decidable c] (a b:Option (Ex×St)) (f:St→Option (Ex×St)):Zb3 (if c then a else b) f=if c then Zb3 a f else Zb3 b f:=by split <;> rfl
def ZcV (id:Nat) (r:Option (Ex×St)):Option (Ex×St) :=
 match r with
 | some (.exit k,st)=>if k=id then some (.normal,st) else some (.exit k,st)
 | r=>r
@[simp] theorem Ze8 (id:Nat) (st:St):ZcV id (some (.normal,st))=some (.normal,st):=rfl
@[simp] theorem ZjK (id:Nat) (st:St):ZcV id (some (.ret,st))=some (.ret,st):=rfl
@[simp] theorem Zh6 (id k:Nat) (st:St):ZcV id (some (.exit k,st))=if k=id then some (.normal,st) else some (.exit k,st):=rfl
@[simp] theorem Zh7 (id:Nat):ZcV id none=none:=rfl
@[simp] theorem ZqA (id:Nat) (c:Prop) [Decidable c] (a b:Option (Ex×St)):ZcV id (if c then a else b)=if c then ZcV id a else ZcV id b:=by split <;> rfl
def Zzi:AV→Option Bool
 | .bool b=>some b
 | _=>none
@[simp] theorem ZqB (b:Bool):Zzi (.bool b)=some b:=rfl
def Zvi (c:Option Bool) (a b:Option (Ex×St)):Option (Ex×St) :=
 match c with
 | some true=>a
 | some false=>b
 | none=>none
@[simp] theorem Zox (c:Bool) (a b:Option (Ex×St)):Zvi (some c) a b=if c=true then a else b:=by cases c <;> rfl
theorem Zhq {c:Zg} {st:St} {x:Option (Ex×St)} (h1:∀ n r,QG T pr (n+1) c st=some r→x=some r) (h2:∀ r,x=some r→∃ n,QG T pr n c st=some r):run T pr c st=x:=by
 cases hx:x with
 | some r=>
  obtain ⟨n,hn⟩:=h2 r hx
  exact ZaV hn
 | none=>
  cases hr:run T pr c st with
  | none=>rfl
  | some r=>
   obtain ⟨n,hn⟩:=Zf7 hr
   cases n with
   | zero=>simp [QG] at hn
   | succ n=>
    have:=h1 n r hn
    rw [hx] at this
    cases this
theorem Zx7 (st:St):run T pr .skip st=some (.normal,st):=ZaV (n:=1) rfl
theorem Zx8 (id:Nat) (st:St):run T pr (.exit id) st=some (.exit id,st):=ZaV (n:=1) rfl
theorem ZzL (st:St):run T pr .ret st=some (.ret,st):=ZaV (n:=1) rfl
theorem ZzM (a b:Zg) (st:St):run T pr (.seq a b) st=Zb3 (run T pr a st) (run T pr b):=by
 refine Zhq (fun n r h => ?_) fun r h => ?_
 ·simp only [QG,Xo] at h
  split at h
  ·rename_i e
   rw [ZaV e]
   exact ZaV h
  ·rename_i hne
   rw [ZaV h]
   obtain ⟨ex,s2⟩:=r
   cases ex with
   | normal=>exact absurd h (hne s2)
   | _=>rfl
 ·cases e:run T pr a st with
  | none=>rw [e] at h;cases h
  | some p=>
   obtain ⟨ex,s2⟩:=p
   obtain ⟨n,hn⟩:=Zf7 e
   rw [e] at h
   cases ex with
   | normal=>
    obtain ⟨k,hk⟩:=Zf7 (show run T pr b s2=some r from h)
    refine ⟨max n k+1,?_⟩
    simp only [QG,Xo,ZcU (Nat.le_max_left n k) _ _ _ hn]
    exact ZcU (Nat.le_max_right n k) _ _ _ hk
   | exit k=>
    cases h
    exact ⟨n+1,by simp only [QG,Xo,hn]⟩
   | ret=>
    cases h
    exact ⟨n+1,by simp only [QG,Xo,hn]⟩
theorem Zx9 (x:X) (a b:Zg) (st:St):run T pr (.cond x a b) st=Zvi (Zzi (get st.tm [] x)) (run T pr a st) (run T pr b st):=by
 refine Zhq (fun n r h => ?_) fun r h => ?_
 ·simp only [QG,Xo] at h
  split at h
  ·rename_i e;rw [e];exact ZaV h
  ·rename_i e;rw [e];exact ZaV h
  ·cases h
 ·cases e:get st.tm [] x with
  | bool t=>
   rw [e] at h
   cases t with
   | true=>obtain ⟨n,hn⟩:=Zf7 (show run T pr a st=some r from h);exact ⟨n+1,by simp only [QG,Xo,e];exact hn⟩
   | false=>obtain ⟨n,hn⟩:=Zf7 (show run T pr b st=some r from h);exact ⟨n+1,by simp only [QG,Xo,e];exact hn⟩
  | _=>rw [e] at h;cases h
theorem Zvj (id:Nat) (b:Zg) (st:St):run T pr (.block id b) st=ZcV id (run T pr b st):=by
 refine Zhq (fun n r h => ?_) fun r h => ?_
 ·simp only [QG,Xo] at h
  split at h
  ·rename_i e
   rw [ZaV e]
   exact h
  ·rename_i hne
   rw [ZaV h]
   obtain ⟨ex,s2⟩:=r
   cases ex with
   | exit k=>exact absurd h (hne k s2)
   | _=>rfl
 ·cases e:run T pr b st with
  | none=>rw [e] at h;cases h
  | some p=>
   obtain ⟨ex,s2⟩:=p
   obtain ⟨n,hn⟩:=Zf7 e
   rw [e] at h
   refine ⟨n+1,?_⟩
   simp only [QG,Xo,hn]
   cases ex <;> exact h
theorem Zs8 {b:Zg} {N:Nat}:∀ {n:Nat} {st:St} {r:Ex×St},n≤N→ZdY (QG T pr N) b n st=some r→QG T pr (N+1) (.loop b) st=some r:=by
 intro n st r hn h
 simp only [QG,Xo]
 exact ZeC (fun _ _ _ h=>h) hn h
theorem YA (b:Zg) (st:St):run T pr (.loop b) st=Zb3 (run T pr b st) (run T pr (.loop b)):=by
 refine Zhq (fun n r h => ?_) fun r h => ?_
 ·simp only [QG,Xo] at h
  cases n with
  | zero=>cases h
  | succ n=>
   unfold ZdY at h
   split at h
   ·rename_i s2 e
    rw [ZaV e]
    exact ZaV (Zs8 (Nat.le_succ n) h)
   ·rename_i hne
    rw [ZaV h]
    obtain ⟨ex,s2⟩:=r
    cases ex with
    | normal=>exact absurd h (hne s2)
    | _=>rfl
 ·cases e:run T pr b st with
  | none=>rw [e] at h;cases h
  | some p=>
   obtain ⟨ex,s2⟩:=p
   obtain ⟨n,hn⟩:=Zf7 e
   rw [e] at h
   cases ex with
   | normal=>
    obtain ⟨k,hk⟩:=Zf7 (show run T pr (.loop b) s2=some r from h)
    cases k with
    | zero=>simp [QG] at hk
    | succ k=>
     simp only [QG,Xo] at hk
     refine ⟨max n k+1+1,?_⟩
     simp only [QG,Xo]
     show ZdY (QG T pr (max n k+1)) b (max n k+1) st=some r
     unfold ZdY
     rw [ZcU (show n≤max n k+1 by omega) _ _ _ hn]
     exact ZeC (ZcU (show k≤max n k+1 by omega)) (Nat.le_max_right n k) hk
   | exit k=>
    cases h
    refine ⟨n+1+1,?_⟩
    simp only [QG,Xo]
    show ZdY (QG T pr (n+1)) b (n+1) st=_
    unfold ZdY
    rw [ZcU (Nat.le_succ n) _ _ _ hn]
   | ret=>
    cases h
    refine ⟨n+1+1,?_⟩
    simp only [QG,Xo]
    show ZdY (QG T pr (n+1)) b (n+1) st=_
    unfold ZdY
    rw [ZcU (Nat.le_succ n) _ _ _ hn]
def ZdG (tm:List AV) (outs:List (Nat×Nat)) (r:Option (List AV×Mem)):Option (Ex×St) :=
 match r with
 | some (loc,m)=>some (.normal,⟨setOuts tm loc outs,m⟩)
 | none=>none
@[simp] theorem ZqC (tm:List AV) (outs:List (Nat×Nat)) (loc:List AV) (m:Mem):ZdG tm outs (some (loc,m))=some (.normal,⟨setOuts tm loc outs,m⟩):=rfl
@[simp] theorem ZjL (tm:List AV) (outs:List (Nat×Nat)):ZdG tm outs none=none:=rfl
@[simp] theorem Zs9 (tm:List AV) (outs:List (Nat×Nat)) (c:Prop) [Decidable c] (a b:Option (List AV×Mem)):ZdG tm outs (if c then a else b)=if c then ZdG tm outs a else ZdG tm outs b:=by split <;> rfl
theorem Zta (ops:List YS) (outs:List (Nat×Nat)) (st:St):run T pr (.region ops outs) st=ZdG st.tm outs (Zhe (call T pr) st.tm ops [] st.m):=by
 refine Zhq (fun n r h => ?_) fun r h => ?_
 ·simp only [QG,Xo] at h
  split at h
  ·cases h
  ·rename_i e
   rw [Zcg (Zr7 n) e]
   exact h
 ·cases e:Zhe (call T pr) st.tm ops [] st.m with
  | none=>rw [e] at h;cases h
  | some p=>
   obtain ⟨n,hn⟩:=Zqx e
   rw [e] at h
   exact ⟨n+1,by simp only [QG,Xo,hn];exact h⟩
theorem Zya (es:List DE) (outs:List (Nat×Nat)) (st:St):run T pr (.draw es outs) st=ZdG st.tm outs (ZeZ (call T pr) st.tm es [] st.m):=by
 refine Zhq (fun n r h => ?_) fun r h => ?_
 ·simp only [QG,Xo] at h
  split at h
  ·cases h
  ·rename_i e
   rw [Zch (Zr7 n) e]
   exact h
 ·cases e:ZeZ (call T pr) st.tm es [] st.m with
  | none=>rw [e] at h;cases h
  | some p=>
   obtain ⟨n,hn⟩:=Zqy e
   rw [e] at h
   exact ⟨n+1,by simp only [QG,Xo,hn];exact h⟩
def QN (F:ZZ) (m:Mem) (r:Option (Ex×St)):Option (AV×Mem) :=
 match r with
 | some (.exit _,_)=>none
 | some (_,st)=>match Yd st.tm st.m.H F.results with
  | some vs=>finish F.mode m.H.length m.esc (ZdX vs) st.m
  | none=>none
 | none=>none
def ZjM (F:ZZ) (m:Mem) (st:St):Option (AV×Mem) :=
 match Yd st.tm st.m.H F.results with
 | some vs=>finish F.mode m.H.length m.esc (ZdX vs) st.m
 | none=>none
@[simp] theorem Ze9 (F:ZZ) (m:Mem) (st:St):QN F m (some (.normal,st))=ZjM F m st:=rfl
@[simp] theorem ZjN (F:ZZ) (m:Mem) (st:St):QN F m (some (.ret,st))=ZjM F m st:=rfl
@[simp] theorem Zh8 (F:ZZ) (m:Mem) (k:Nat) (st:St):QN F m (some (.exit k,st))=none:=rfl
@[simp] theorem Zh9 (F:ZZ) (m:Mem):QN F m none=none:=rfl
@[simp] theorem ZqD (F:ZZ) (m:Mem) (c:Prop) [Decidable c] (a b:Option (Ex×St)):QN F m (if c then a else b)=if c then QN F m a else QN F m b:=by split <;> rfl
theorem Zl {f:FuncId} {F:ZZ} (h:T f=some F) (args:List AV) (m:Mem):call T pr f args m=QN F m (run T pr F.code ⟨entry F args,{ m with esc:=none }⟩):=by
 unfold call Yp
 rw [h]
 simp only []
 cases run T pr F.code ⟨entry F args,{ m with esc:=none }⟩ with
 | none=>rfl
 | some p=>
  obtain ⟨ex,st⟩:=p
  cases ex <;> rfl
theorem JD {f:FuncId} (h:T f=none) (args:List AV) (m:Mem):call T pr f args m=pr f args m:=by
 unfold call Yp
 rw [h]
end
def ZAR (P:Program) (p:FuncId×ZZ):Prop:=∃ fn keep mode pl,P.funcs[p.1]?=some fn∧Zd P keep mode pl fn=some p.2
theorem ZAS {P:Program}:∀ p∈([]:List (FuncId×ZZ)),ZAR P p:=fun p h=>by cases h
theorem Zh {P:Program} {p:FuncId×ZZ} {ps:List (FuncId×ZZ)} (h:ZAR P p) (k:∀ q∈ps,ZAR P q):∀ q∈p::ps,ZAR P q:=List.forall_mem_cons.mpr ⟨h,k⟩
theorem Ztb {P:Program} {tab:List (FuncId×ZZ)} (h:∀ p∈tab,ZAR P p):Zhn P (fun f=>tab.lookup f):=by
 intro f F hf
 have key:∀ (tab:List (FuncId×ZZ)),tab.lookup f=some F→(f,F)∈tab:=by
  intro tab
  induction tab with
  | nil=>intro h;cases h
  | cons p ps ih=>
   obtain ⟨g,G⟩:=p
   intro h
   rw [List.lookup_cons] at h
   split at h
   ·rename_i e
    have:f=g:=by simpa using e
    cases h
    rw [this]
    exact List.mem_cons_self
   ·exact List.mem_cons_of_mem _ (ih h)
 exact h _ (key tab hf)
end Go.Proofs.YtemcdiajejekoaaGreatDoor.Slim
