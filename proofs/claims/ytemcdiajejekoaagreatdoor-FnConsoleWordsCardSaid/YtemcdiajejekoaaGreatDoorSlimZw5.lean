/- Parts of the proof. -/
import Derived.Test.YtemcdiajejekoaaGreatDoorSlimZw4
import Derived.Laws.Strings2
import Derived.Laws.Strings3
import Derived.Laws.Slices
set_option linter.unusedSimpArgs false
set_option linter.unusedVariables false
namespace Go.Proofs.YtemcdiajejekoaaGreatDoor.Slim
open Go
section
variable {ι : Emb} {w : World}
def ZBJ (P:Program) (ι:Emb) (w:World) (ρ:Operand→Value) (o:Oper) (v:AV):Prop:=∃ v',(execOp ρ o).run P w=.ok (.value v') w∧V ι w v v'
theorem Kz {P:Program} {ρ:Operand→Value} {o:Oper} {v:AV} (s:Sem Value) (he:execOp ρ o=(do pure (.value (←s)))) (h:∃ v',s.run P w=.ok v' w∧V ι w v v'):ZBJ P ι w ρ o v:=by
 obtain ⟨v',h1,h2⟩:=h
 exact ⟨v',by rw [he];simp [h1],h2⟩
theorem Zjr {cx:Zf1} {g:X→AV} {ρ:Operand→Value} (hρ:OkX ι w cx g ρ) {os:Array Operand} {xs:List X} (h:ZzF cx os.toList=some xs) :
  ∃ vs:List Value,os.map ρ=vs.toArray∧VL ι w (xs.map g) vs:=by
 refine ⟨os.toList.map ρ,?_,hρ.map h⟩
 apply Array.ext'
 simp
theorem ZBY {P:Program} {op:UnOp} {a v:AV} {a':Value} (ha:V ι w a a') (h:ZAI op a=some v):∃ v',(Op.unary op a').run P w=.ok v' w∧V ι w v v':=by
 unfold ZAI at h
 split at h
 ·cases ha;cases h;exact ⟨_,by simp [Op.unary,Op.intArith],rfl⟩
 ·cases ha
  simp only [Zau,Option.some.injEq] at h
  subst h
  exact ⟨_,by simp [Op.unary,Op.intBits],rfl⟩
 ·cases ha;cases h;exact ⟨_,by simp [Op.unary],rfl⟩
 ·cases h
theorem Zhf {cx:Zf1} {g:X→AV} {mx:Option Operand} {mx':Option X} {m:Option Nat} {k:Nat} (h:Zjm g mx'=some m):ZcN g mx' k=some (m.getD k):=by
 cases mx' with
 | none=>cases h;rfl
 | some y=>
  simp only [Zjm,Option.map_eq_some_iff] at h
  obtain ⟨n,hn,rfl⟩:=h
  exact hn
theorem Zjs {sz sz' n k b o l h:Nat} {cap m:Option Nat} {v:AV} {c d xo e M:Nat} (hv:KV sz (some (b,o)) sz' n cap l h m=some v) (hnk:n≤k)
  (g1:ι[b]?=some (some (c,d))) (g4:xo=d+o∨(n=0∧k=0)) (g5:w.shape? c=some (e,M)) (g6:k=0∨xo+k*sz'≤M) (g7:∀ q,cap=some q→k=q) :
  V ι w v (.slice (if m.getD k=l then some ⟨c,xo,none⟩ else (some (⟨c,xo,none⟩:Addr)).map (·.add (l*sz))) (h - l) (m.getD k - l))∧l≤h∧h≤m.getD k∧m.getD k≤k:=by
 simp only [KV] at hv
 split at hv
 ·rename_i hc
  obtain ⟨rfl,h1,h2,h3⟩:=hc
  cases hv
  have hm:h≤m.getD k∧m.getD k≤k:=by
   cases m with
   | none=>simp at h2 h3 ⊢;omega
   | some m=>simp at h2 h3 ⊢;omega
  refine ⟨?_,h1,hm.1,hm.2⟩
  have hcap:∀ q,(match m with | none=>cap.map (·- l) | some m=>some (m - l))=some q→m.getD k - l=q:=by
   intro q hq
   cases m with
   | none=>
    simp only [Option.map_eq_some_iff] at hq
    obtain ⟨r,hr,rfl⟩:=hq
    rw [g7 r hr];rfl
   | some m=>cases hq;rfl
  generalize m.getD k=mm at *
  by_cases hkl:mm=l
  ·rw [if_pos hkl]
   refine ⟨c,d,xo,mm - l,e,M,g1,rfl,by omega,.inr ⟨by omega,by omega⟩,g5,?_,hcap⟩
   left;omega
  ·rw [if_neg hkl]
   have hne:xo=d+o:=by
    rcases g4 with g4 | g4
    ·exact g4
    ·omega
   subst hne
   refine ⟨c,d,d+o+l*sz',mm - l,e,M,g1,?_,by omega,.inl (by omega),g5,?_,hcap⟩
   ·simp only [Option.map_some,Addr.add]
    by_cases hz:l*sz'=0
    ·simp [hz]
    ·simp [hz]
   ·have h5:l*sz'+(mm - l)*sz'=mm*sz':=by rw [←Nat.add_mul];congr 1;omega
    have h6:mm*sz'≤k*sz':=Nat.mul_le_mul_right _ hm.2
    rcases g6 with g6 | g6
    ·left;omega
    ·right;omega
 ·cases hv
theorem ZxQ {P:Program} {cx:Zf1} {g:X→AV} {ρ:Operand→Value} (hρ:OkX ι w cx g ρ) {t:TypeId} {x:Operand} {lo hi mx:Option Operand} {ao:AO} {v:AV}
  (hc:Zi P cx (.slice t x lo hi mx)=some ao) (hl:Ji g ao=some v):∃ v',(Instr.sliceAt t (ρ x) (lo.map ρ) (hi.map ρ) (mx.map ρ)).run P w=.ok v' w∧V ι w v v':=by
 simp only [Zi] at hc
 split at hc
 ·-- a string
  rename_i hu
  split at hc
  ·simp only [Option.bind_eq_bind,Option.bind_eq_some_iff,Option.pure_def,Option.some.injEq] at hc
   obtain ⟨x',hx,lo',hlo,hi',hhi,rfl⟩:=hc
   simp only [Ji] at hl
   have hv:=hρ _ _ hx
   split at hl
   ·rename_i s e;rw [e] at hv
    split at hl
    ·rename_i h l eh el
     split at hl
     ·rename_i hb
      cases hl
      have hr:=ZaS (P:=P) (w:=w) hρ (mx:=none) (mx':=none) (len:=s.size) (cap:=s.size) (m:=s.size) false hlo hhi rfl el eh rfl hb.1 hb.2 (Nat.le_refl _) (.inl rfl)
      refine ⟨.string (s.extract l h),?_,rfl⟩
      rw [V.str_inv hv]
      simp only [Option.map_none] at hr ⊢
      simp only [Instr.sliceAt,Sem.run_bind,run_underlying hu,Result.andThen_ok,Instr.slice,Option.isSome_none,Bool.false_eq_true,if_false,Sem.run_pure,hr]
     ·cases hl
    ·cases hl
   ·cases hl
  ·cases hc
 ·-- a slice
  rename_i e hu
  simp only [Option.bind_eq_bind,Option.bind_eq_some_iff] at hc
  obtain ⟨sz,hsz,hc⟩:=hc
  split at hc
  ·rename_i hpos
   simp only [Option.bind_eq_some_iff,Option.pure_def,Option.some.injEq] at hc
   obtain ⟨x',hx,lo',hlo,hi',hhi,mx',hmx,rfl⟩:=hc
   simp only [Ji] at hl
   have hv:=hρ _ _ hx
   -- what the model does at bounds l ≤ h ≤ m ≤ k
   have run:∀ (a:Option Addr) (n k l h m:Nat),ρ x=.slice a n k→ZcN g lo' 0=some l→ZcN g hi' n=some h→ZcN g mx' k=some m→l≤h→h≤m→m≤k→(mx'=none∨hi'≠none) →
     (Instr.sliceAt t (ρ x) (lo.map ρ) (hi.map ρ) (mx.map ρ)).run P w=.ok (.slice (if m=l then a else a.map (·.add (l*sz))) (h - l) (m - l)) w:=by
    intro a n k l h m hx' el eh em h1 h2 h3 h4
    have hr:=ZaS (P:=P) (w:=w) hρ (len:=n) (cap:=k) true hlo hhi hmx el eh em h1 h2 h3 h4
    rw [hx']
    simp only [Instr.sliceAt,Sem.run_bind,run_underlying hu,Result.andThen_ok,Instr.slice,hr,YZ hsz,Sem.run_pure]
   split at hl
   ·rename_i p sz' n cap ex
    rw [ex] at hv
    split at hl
    ·rename_i h l m eh el em
     split at hl
     ·rename_i hmh
      cases p with
      | none=>
       obtain ⟨rfl,hxa⟩:=hv
       simp only [KV] at hl
       split at hl
       ·rename_i hz
        obtain ⟨rfl,rfl,hm⟩:=hz
        cases hl
        have hm0:m.getD 0=0:=by rcases hm with rfl | rfl <;> rfl
        have hrun:=run none 0 0 0 0 (m.getD 0) hxa el eh (Zhf (cx:=cx) (mx:=mx) em) (Nat.le_refl _) (Nat.zero_le _) (by omega) hmh
        refine ⟨_,hrun,rfl,?_⟩
        rw [hm0];simp
       ·cases hl
      | some p=>
       obtain ⟨b,o⟩:=p
       obtain ⟨c,d,xo,k,e,M,g1,hxa,g3,g4,g5,g6,g7⟩:=hv
       obtain ⟨r1,r2,r3,r4⟩:=Zjs hl g3 g1 g4 g5 g6 g7
       exact ⟨_,run _ n k l h (m.getD k) hxa el eh (Zhf (cx:=cx) (mx:=mx) em) r2 r3 r4 hmh,r1⟩
     ·cases hl
    ·cases hl
   ·cases hl
  ·cases hc
 ·-- an array
  simp only [Option.bind_eq_bind,Option.bind_eq_some_iff] at hc
  obtain ⟨sz,hsz,hc⟩:=hc
  split at hc
  ·simp only [Option.bind_eq_some_iff,Option.pure_def,Option.some.injEq] at hc
   obtain ⟨_,_,_,_,_,_,_,_,rfl⟩:=hc
   cases hl
  ·cases hc
 ·cases hc
theorem ZxR {P:Program} {cx:Zf1} {g:X→AV} {ρ:Operand→Value} (hρ:OkX ι w cx g ρ) (o:Oper) {ao:AO} {v:AV}
  (hc:Zi P cx o.op=some ao) (hl:Ji g ao=some v):ZBJ P ι w ρ o v:=by
 obtain ⟨dst,op,ty,pos,aft,gd⟩:=o
 cases op with
 | move x=>
  simp only [Zi,Option.map_eq_some_iff] at hc
  obtain ⟨x',hx,rfl⟩:=hc
  cases hl
  exact ⟨ρ x,rfl,hρ _ _ hx⟩
 | assign x=>
  simp only [Zi,Option.map_eq_some_iff] at hc
  obtain ⟨x',hx,rfl⟩:=hc
  cases hl
  exact ⟨ρ x,rfl,hρ _ _ hx⟩
 | pick c a b=>
  simp only [Zi,Option.bind_eq_bind,Option.bind_eq_some_iff,Option.pure_def,Option.some.injEq] at hc
  obtain ⟨c',hc',a',ha',b',hb',rfl⟩:=hc
  simp only [Ji] at hl
  have h1:=hρ _ _ hc'
  split at hl
  ·rename_i e;rw [e] at h1;cases hl
   exact ⟨ρ a,by simp [execOp,V.bool_inv h1,asBool],hρ _ _ ha'⟩
  ·rename_i e;rw [e] at h1;cases hl
   exact ⟨ρ b,by simp [execOp,V.bool_inv h1,asBool],hρ _ _ hb'⟩
  ·cases hl
 | alloc e=>
  simp only [Zi,Option.map_eq_some_iff] at hc
  obtain ⟨_,_,rfl⟩:=hc
  cases hl
 | box e x=>
  simp only [Zi,Option.map_eq_some_iff] at hc
  obtain ⟨_,_,rfl⟩:=hc
  cases hl
 | build t parts=>
  exact Kz (Instr.build t (parts.map fun (i,x)=>(i,ρ x))) rfl (ZxO hρ hc hl)
 | buildSlice t len parts=>
  simp only [Zi] at hc
  split at hc
  ·simp only [Option.bind_eq_bind,Option.bind_eq_some_iff] at hc
   obtain ⟨_,_,_,_,hc⟩:=hc
   split at hc
   ·simp only [Option.bind_eq_some_iff,Option.pure_def,Option.some.injEq] at hc
    obtain ⟨_,_,rfl⟩:=hc
    cases hl
   ·cases hc
  ·cases hc
 | insert t x k v=>
  simp only [Zi] at hc
  split at hc
  ·simp only [Option.bind_eq_bind,Option.bind_eq_some_iff,Option.pure_def,Option.some.injEq] at hc
   obtain ⟨_,_,_,_,_,_,rfl⟩:=hc
   cases hl
  ·cases hc
 | load t a=>
  simp only [Zi,Option.bind_eq_bind,Option.bind_eq_some_iff,Option.pure_def,Option.some.injEq] at hc
  obtain ⟨_,_,_,_,_,_,rfl⟩:=hc
  cases hl
 | store t a x=>
  simp only [Zi,Option.bind_eq_bind,Option.bind_eq_some_iff,Option.pure_def,Option.some.injEq] at hc
  obtain ⟨_,_,_,_,_,_,rfl⟩:=hc
  cases hl
 | ready=>cases hc
 | waits=>cases hc
 | nilCheck x=>
  simp only [Zi,Option.map_eq_some_iff] at hc
  obtain ⟨x',hx,rfl⟩:=hc
  simp only [Ji] at hl
  have h1:=hρ _ _ hx
  split at hl
  ·rename_i p e;rw [e] at h1;cases hl
   obtain ⟨b,o⟩:=p
   obtain ⟨c,d,h2,h3⟩:=h1
   exact ⟨ρ x,by rw [h3];simp [execOp,h3],⟨c,d,h2,h3⟩⟩
  ·rename_i f a b e;rw [e] at h1;cases hl
   obtain ⟨xs,ys,h2,h3,h4⟩:=h1
   exact ⟨ρ x,by rw [h2];simp [execOp,h2],⟨xs,ys,h2,h3,h4⟩⟩
  ·cases hl
 | binOp bop t x y yt=>
  have hex:execOp ρ ⟨dst,.binOp bop t x y yt,ty,pos,aft,gd⟩=(do pure (.value (←(do eqGuard bop t x y (ρ x) (ρ y);Go.binOp bop t (ρ x) (ρ y):Sem Value)))):=rfl
  simp only [Zi] at hc
  split at hc
  ·split at hc
   ·rename_i hop
    simp only [Option.bind_eq_bind,Option.bind_eq_some_iff,Option.pure_def,Option.some.injEq] at hc
    obtain ⟨ks,hks,x',hx,y',hy,rfl⟩:=hc
    simp only [Ji] at hl
    have h1:=hρ _ _ hx
    have h2:=hρ _ _ hy
    split at hl
    ·rename_i xs ys e1 e2
     rw [e1] at h1;rw [e2] at h2
     simp only [Option.map_eq_some_iff] at hl
     obtain ⟨r,hr,rfl⟩:=hl
     exact Kz _ hex ⟨_,Zl4 (by simpa using hop) hks h1 h2 hr,rfl⟩
    ·cases hl
   ·cases hc
  ·split at hc
   ·rename_i hop
    simp only [Option.bind_eq_bind,Option.bind_eq_some_iff,Option.pure_def,Option.some.injEq] at hc
    obtain ⟨ks,hks,x',hx,y',hy,rfl⟩:=hc
    simp only [Ji] at hl
    have h1:=hρ _ _ hx
    have h2:=hρ _ _ hy
    split at hl
    ·rename_i xs ys e1 e2
     rw [e1] at h1;rw [e2] at h2
     simp only [Option.map_eq_some_iff] at hl
     obtain ⟨r,hr,rfl⟩:=hl
     exact Kz _ hex ⟨_,Zl4 (by simpa using hop) hks h1 h2 hr,rfl⟩
    ·cases hl
   ·cases hc
  ·simp only [Option.bind_eq_bind,Option.bind_eq_some_iff,Option.pure_def,Option.some.injEq] at hc
   obtain ⟨x',hx,y',hy,rfl⟩:=hc
   exact Kz _ hex (Zf3 (fun e=>by cases e) (fun e=>by cases e) (fun e=>by cases e) (hρ _ _ hx) (hρ _ _ hy) hl)
  ·simp only [Option.bind_eq_bind,Option.bind_eq_some_iff,Option.pure_def,Option.some.injEq] at hc
   obtain ⟨x',hx,y',hy,rfl⟩:=hc
   exact Kz _ hex (Zf3 (fun e=>by cases e) (fun e=>by cases e) (fun e=>by cases e) (hρ _ _ hx) (hρ _ _ hy) hl)
  ·rename_i hu
   simp only [Option.bind_eq_bind,Option.bind_eq_some_iff,Option.pure_def,Option.some.injEq] at hc
   obtain ⟨x',hx,y',hy,rfl⟩:=hc
   exact Kz _ hex (Zf3 (fun _=>hu) (fun e=>by cases e) (fun e=>by cases e) (hρ _ _ hx) (hρ _ _ hy) hl)
  ·rename_i e hu
   simp only [Option.bind_eq_bind,Option.bind_eq_some_iff,Option.pure_def,Option.some.injEq] at hc
   obtain ⟨x',hx,y',hy,rfl⟩:=hc
   exact Kz _ hex (Zf3 (fun e=>by cases e) (fun _=>⟨e,hu⟩) (fun e=>by cases e) (hρ _ _ hx) (hρ _ _ hy) hl)
  ·rename_i ms hu
   split at hc
   ·rename_i c
    simp only [Option.bind_eq_bind,Option.bind_eq_some_iff,Option.pure_def,Option.some.injEq] at hc
    obtain ⟨x',hx,y',hy,rfl⟩:=hc
    exact Kz _ hex (Zf3 (fun e=>by cases e) (fun e=>by cases e) (fun _=>⟨⟨ms,hu⟩,⟨c,rfl⟩⟩) (hρ _ _ hx) (hρ _ _ hy) hl)
   ·cases hc
  ·cases hc
 | unOp uop t x=>
  simp only [Zi,Option.bind_eq_bind,Option.bind_eq_some_iff,Option.pure_def,Option.some.injEq] at hc
  obtain ⟨x',hx,rfl⟩:=hc
  exact Kz (Op.unary uop (ρ x)) rfl (ZBY (hρ _ _ hx) hl)
 | convert src dst x=>
  simp only [Zi] at hc
  split at hc
  ·rename_i k k' h1 h2
   simp only [Option.map_eq_some_iff] at hc
   obtain ⟨x',hx,rfl⟩:=hc
   simp only [Ji] at hl
   have hv:=hρ _ _ hx
   split at hl
   ·rename_i e;rw [e] at hv;cases hl
    exact Kz (convert src dst (ρ x)) rfl ⟨_,by rw [V.int_inv hv];simp [convert,run_underlying h1,run_underlying h2,Conv.intToInt],rfl⟩
   ·cases hl
  ·rename_i h1 h2
   simp only [Option.map_eq_some_iff] at hc
   obtain ⟨x',hx,rfl⟩:=hc
   simp only [Ji] at hl
   have hv:=hρ _ _ hx
   split at hl
   ·rename_i e;rw [e] at hv;cases hl
    exact Kz (convert src dst (ρ x)) rfl ⟨_,by rw [V.str_inv hv];simp [convert,run_underlying h1,run_underlying h2],rfl⟩
   ·cases hl
  ·split at hc
   ·simp only [Option.map_eq_some_iff] at hc
    obtain ⟨_,_,rfl⟩:=hc
    cases hl
   ·cases hc
  ·split at hc
   ·simp only [Option.map_eq_some_iff] at hc
    obtain ⟨_,_,rfl⟩:=hc
    cases hl
   ·cases hc
  ·cases hc
 | sliceToArrayPointer=>cases hc
 | makeInterface=>cases hc
 | makeFunc fn first captured=>
  cases fn with
  | func f=>
   simp only [Zi,Option.bind_eq_bind,Option.bind_eq_some_iff,Option.pure_def,Option.some.injEq] at hc
   obtain ⟨xs,hxs,ys,hys,rfl⟩:=hc
   cases hl
   obtain ⟨vs,e1,h1⟩:=Zjr hρ hxs
   obtain ⟨us,e2,h2⟩:=Zjr hρ hys
   exact Kz (Instr.makeFunc (.func f) (first.map ρ) (captured.map ρ)) rfl ⟨_,rfl,⟨vs,us,by rw [e1,e2],h1,h2⟩⟩
  | _=>cases hc
 | makeMap t r=>
  cases r with
  | some r=>cases hc
  | none=>
   simp only [Zi] at hc
   split at hc
   ·cases hc;cases hl
   ·cases hc
 | makeChan=>cases hc
 | makeSlice t l c=>
  simp only [Zi] at hc
  split at hc
  ·simp only [Option.bind_eq_bind,Option.bind_eq_some_iff] at hc
   obtain ⟨_,_,_,_,_,_,hc⟩:=hc
   split at hc
   ·simp only [Option.bind_eq_some_iff,Option.pure_def,Option.some.injEq] at hc
    obtain ⟨_,_,_,_,rfl⟩:=hc
    cases hl
   ·cases hc
  ·cases hc
 | slice t x lo hi mx=>exact Kz (Instr.sliceAt t (ρ x) (lo.map ρ) (hi.map ρ) (mx.map ρ)) rfl (ZxQ hρ hc hl)
 | fieldAddr s x i=>
  simp only [Zi] at hc
  split at hc
  ·rename_i fs hu
   split at hc
   ·rename_i f hf
    split at hc
    ·rename_i n hn
     simp only [Option.map_eq_some_iff] at hc
     obtain ⟨x',hx,rfl⟩:=hc
     simp only [Ji] at hl
     have hv:=hρ _ _ hx
     split at hl
     ·rename_i b o e;rw [e] at hv;cases hl
      obtain ⟨c,d,h1,h2⟩:=hv
      refine Kz (Instr.fieldAt s (ρ x) i) rfl ⟨.pointer (some ⟨c,d+(o+f.offset),none⟩),?_,⟨c,d,h1,rfl⟩⟩
      rw [h2]
      simp only [Instr.fieldAt,Sem.run_bind,run_underlying hu,Result.andThen_ok,hf,Instr.sureAddr,Sem.run_pure,fieldPlace,YZ hn]
      simp only [Nat.add_eq_zero_iff,Nat.add_one_ne_zero,and_false,if_false,Sem.run_pure,Result.andThen_ok,Addr.add]
      by_cases h0:f.offset=0
      ·simp [h0]
      ·simp [h0,Nat.add_assoc]
     ·cases hl
    ·cases hc
   ·cases hc
  ·cases hc
 | field t x i=>
  simp only [Zi] at hc
  split at hc
  ·rename_i fs hu
   split at hc
   ·rename_i f hf
    simp only [Option.bind_eq_bind,Option.bind_eq_some_iff,Option.pure_def,Option.some.injEq] at hc
    obtain ⟨ag,ha,n,hn,x',hx,rfl⟩:=hc
    simp only [Ji] at hl
    have hv:=hρ _ _ hx
    split at hl
    ·rename_i cs e;rw [e] at hv
     obtain ⟨xs,h1,h2,h3⟩:=hv
     obtain ⟨v',r1,r2⟩:=ZuW (P:=P) ha hn h2 h3 hl
     exact Kz (Instr.field t (ρ x) i) rfl ⟨v',by rw [h1];simp only [Instr.field,Sem.run_bind,run_underlying hu,Result.andThen_ok,hf,asAgg,Sem.run_pure,r1],r2⟩
    ·cases hl
   ·cases hc
  ·cases hc
 | indexAddr t x i=>
  simp only [Zi] at hc
  split at hc
  ·rename_i e hu
   simp only [Option.bind_eq_bind,Option.bind_eq_some_iff,Option.pure_def,Option.some.injEq] at hc
   obtain ⟨n,hn,x',hx,i',hi,rfl⟩:=hc
   simp only [Ji] at hl
   have hv:=hρ _ _ hx
   have hw:=hρ _ _ hi
   split at hl
   ·rename_i b o sz' len cap k j e1 e2
    rw [e1] at hv;rw [e2] at hw
    split at hl
    ·rename_i hc2
     obtain ⟨h0,h1,rfl⟩:=hc2
     cases hl
     obtain ⟨c,d,a,q,ee,m,g1,g2,g3,g4,g5,g6,g7⟩:=hv
     refine Kz (Instr.indexAt t (ρ x) (ρ i)) rfl ⟨.pointer (some ⟨c,d+(o+j.toNat*sz'),none⟩),?_,⟨c,d,g1,rfl⟩⟩
     have ha:a=d+o:=by
      rcases g4 with g4 | g4
      ·exact g4
      ·omega
     subst ha
     rw [g2,V.int_inv hw]
     simp [Instr.indexAt,asIntOf,run_underlying hu,YZ hn,h0,h1,Addr.add]
     by_cases hz:j.toNat*sz'=0
     ·simp [hz]
     ·simp [hz,Nat.add_assoc]
    ·cases hl
   ·cases hl
  ·rename_i n e hu
   simp only [Option.bind_eq_bind,Option.bind_eq_some_iff,Option.pure_def,Option.some.injEq] at hc
   obtain ⟨s,hs,x',hx,i',hi,rfl⟩:=hc
   simp only [Ji] at hl
   have hv:=hρ _ _ hx
   have hw:=hρ _ _ hi
   split at hl
   ·rename_i b o k j e1 e2
    rw [e1] at hv;rw [e2] at hw
    split at hl
    ·rename_i hc2
     obtain ⟨h0,h1⟩:=hc2
     cases hl
     obtain ⟨c,d,g1,g2⟩:=hv
     refine Kz (Instr.indexAt t (ρ x) (ρ i)) rfl ⟨.pointer (some ⟨c,d+(o+j.toNat*s),none⟩),?_,⟨c,d,g1,rfl⟩⟩
     rw [g2,V.int_inv hw]
     simp [Instr.indexAt,asIntOf,run_underlying hu,YZ hs,h0,h1,Addr.add,Instr.sureAddr]
     by_cases hz:j.toNat*s=0
     ·simp [hz]
     ·simp [hz,Nat.add_assoc]
    ·cases hl
   ·cases hl
  ·cases hc
 | index t x i=>
  simp only [Zi] at hc
  split at hc
  ·rename_i n e hu
   simp only [Option.bind_eq_bind,Option.bind_eq_some_iff,Option.pure_def,Option.some.injEq] at hc
   obtain ⟨ag,ha,s,hs,x',hx,i',hi,rfl⟩:=hc
   simp only [Ji] at hl
   have hv:=hρ _ _ hx
   have hw:=hρ _ _ hi
   split at hl
   ·rename_i cs k j e1 e2
    rw [e1] at hv;rw [e2] at hw
    split at hl
    ·rename_i hc2
     obtain ⟨h0,h1⟩:=hc2
     obtain ⟨xs,g1,g2,g3⟩:=hv
     obtain ⟨v',r1,r2⟩:=ZuW (P:=P) ha hs g2 g3 hl
     refine Kz (Instr.index t (ρ x) (ρ i)) rfl ⟨v',?_,r2⟩
     rw [g1,V.int_inv hw]
     simp [Instr.index,asIntOf,run_underlying hu,YZ hs,h0,h1,r1]
    ·cases hl
   ·cases hl
  ·rename_i hu
   simp only [Option.bind_eq_bind,Option.bind_eq_some_iff,Option.pure_def,Option.some.injEq] at hc
   obtain ⟨x',hx,i',hi,rfl⟩:=hc
   simp only [Ji] at hl
   have hv:=hρ _ _ hx
   have hw:=hρ _ _ hi
   split at hl
   ·rename_i sb k j e1 e2
    rw [e1] at hv;rw [e2] at hw
    split at hl
    ·rename_i h0
     simp only [Option.map_eq_some_iff] at hl
     obtain ⟨bt,hb,rfl⟩:=hl
     refine Kz (Instr.index t (ρ x) (ρ i)) rfl ⟨_,?_,rfl⟩
     rw [V.str_inv hv,V.int_inv hw]
     simp only [Instr.index,asIntOf,Sem.run_bind,Sem.run_pure,Result.andThen_ok,run_underlying hu]
     rw [if_pos h0,hb]
     rfl
    ·cases hl
   ·cases hl
  ·cases hc
 | lookup t x k ok=>
  simp only [Zi] at hc
  split at hc
  ·simp only [Option.bind_eq_bind,Option.bind_eq_some_iff,Option.pure_def,Option.some.injEq] at hc
   obtain ⟨_,_,_,_,rfl⟩:=hc
   cases hl
  ·cases hc
 | mapUpdate t x k v=>
  simp only [Zi] at hc
  split at hc
  ·simp only [Option.bind_eq_bind,Option.bind_eq_some_iff,Option.pure_def,Option.some.injEq] at hc
   obtain ⟨_,_,_,_,_,_,rfl⟩:=hc
   cases hl
  ·cases hc
 | mapEntry=>cases hc
 | entryStore=>cases hc
 | range t x=>
  simp only [Zi] at hc
  split at hc
  ·simp only [Option.map_eq_some_iff] at hc
   obtain ⟨_,_,rfl⟩:=hc
   cases hl
  ·cases hc
 | next x s=>
  simp only [Zi] at hc
  split at hc
  ·cases hc
  ·simp only [Option.map_eq_some_iff] at hc
   obtain ⟨_,_,rfl⟩:=hc
   cases hl
 | entry x=>
  simp only [Zi,Option.map_eq_some_iff] at hc
  obtain ⟨_,_,rfl⟩:=hc
  cases hl
 | typeAssert=>cases hc
 | extract x i=>
  simp only [Zi,Option.map_eq_some_iff] at hc
  obtain ⟨x',hx,rfl⟩:=hc
  simp only [Ji] at hl
  have h1:=hρ _ _ hx
  split at hl
  ·rename_i vs e;rw [e] at h1
   obtain ⟨xs,h2,h3⟩:=h1
   obtain ⟨y,h4,h5⟩:=h3.get i v hl
   exact Kz (Instr.extract (ρ x) i) rfl ⟨y,by rw [h2];simp [Instr.extract,h4],h5⟩
  ·cases hl
 | call c=>
  simp only [Zi,ZcO] at hc
  split at hc
  ·simp only [Option.bind_eq_bind,Option.bind_eq_some_iff,Option.pure_def,Option.some.injEq] at hc
   obtain ⟨_,_,_,_,rfl⟩:=hc
   cases hl
  ·-- len
   rename_i hcal
   split at hc
   ·rename_i t o ht ho
    have hex:execOp ρ ⟨dst,.call c,ty,pos,aft,gd⟩=(do pure (.value (←Builtin.len_ c.argTypes ty (c.args.map ρ)))):=by
     simp only [execOp,resolve,hcal];rfl
    have hr:∀ r,ρ o=r→(c.args.map ρ)[0]?=some r:=by intro r hr;simp [ho,hr]
    split at hc
    ·rename_i hu
     simp only [Option.map_eq_some_iff] at hc
     obtain ⟨x',hx,rfl⟩:=hc
     simp only [Ji] at hl
     have hv:=hρ _ _ hx
     split at hl
     ·rename_i sb e;rw [e] at hv;cases hl
      exact Kz _ hex ⟨_,by simp only [Builtin.len_,ht,hr _ hv,Sem.run_bind,run_underlying hu,Result.andThen_ok,Sem.run_pure,goInt],rfl⟩
     ·cases hl
    ·rename_i e hu
     simp only [Option.map_eq_some_iff] at hc
     obtain ⟨x',hx,rfl⟩:=hc
     simp only [Ji] at hl
     have hv:=hρ _ _ hx
     split at hl
     ·rename_i p sz n cp e;rw [e] at hv;cases hl
      obtain ⟨q,k,hq⟩:∃ q k,ρ o=.slice q n k:=by
       cases p with
       | none=>obtain ⟨rfl,h⟩:=hv;exact ⟨_,_,h⟩
       | some p=>obtain ⟨b,of⟩:=p;obtain ⟨_,_,_,_,_,_,_,h,_⟩:=hv;exact ⟨_,_,h⟩
      exact Kz _ hex ⟨_,by simp only [Builtin.len_,ht,hr _ hq,Sem.run_bind,run_underlying hu,Result.andThen_ok,Sem.run_pure,goInt],rfl⟩
     ·cases hl
    ·rename_i n e hu
     cases hc
     cases hl
     exact Kz _ hex ⟨_,by simp only [Builtin.len_,ht,hr _ rfl,Sem.run_bind,run_underlying hu,Result.andThen_ok,Sem.run_pure,goInt],rfl⟩
    ·split at hc
     ·simp only [Option.map_eq_some_iff] at hc
      obtain ⟨x',hx,rfl⟩:=hc
      cases hl
     ·cases hc
    ·cases hc
   ·cases hc
  ·-- append
   split at hc
   ·split at hc
    ·simp only [Option.bind_eq_bind,Option.bind_eq_some_iff] at hc
     obtain ⟨_,_,_,_,_,_,_,_,hc⟩:=hc
     split at hc
     ·cases hc;cases hl
     ·cases hc
    ·simp only [Option.bind_eq_bind,Option.bind_eq_some_iff] at hc
     obtain ⟨_,_,_,_,_,_,_,_,hc⟩:=hc
     split at hc
     ·cases hc;cases hl
     ·cases hc
    ·cases hc
   ·cases hc
  ·-- max
   rename_i hcal
   have hex:execOp ρ ⟨dst,.call c,ty,pos,aft,gd⟩=(do pure (.value (←Builtin.max_ c.argTypes ty (c.args.map ρ)))):=by
    simp only [execOp,resolve,hcal];rfl
   split at hc
   ·rename_i a b hab
    split at hc
    ·rename_i x' y' hx hy
     cases hc
     have hargs:(c.args.map ρ).toList=[ρ a,ρ b]:=by rw [Array.toList_map,hab];rfl
     simp only [Ji] at hl
     have h1:=hρ _ _ hx
     have h2:=hρ _ _ hy
     split at hl
     ·rename_i k i k' j e1 e2
      rw [e1] at h1;rw [e2] at h2
      split at hl
      ·rename_i hk;subst hk;cases hl
       exact Kz _ hex ⟨_,by simp only [Builtin.max_,hargs,V.int_inv h1,V.int_inv h2];simp [Builtin.max2],rfl⟩
      ·cases hl
     ·cases hl
    ·cases hc
   ·cases hc
  ·-- min
   rename_i hcal
   have hex:execOp ρ ⟨dst,.call c,ty,pos,aft,gd⟩=(do pure (.value (←Builtin.min_ c.argTypes ty (c.args.map ρ)))):=by
    simp only [execOp,resolve,hcal];rfl
   split at hc
   ·rename_i a b hab
    split at hc
    ·rename_i x' y' hx hy
     cases hc
     have hargs:(c.args.map ρ).toList=[ρ a,ρ b]:=by rw [Array.toList_map,hab];rfl
     simp only [Ji] at hl
     have h1:=hρ _ _ hx
     have h2:=hρ _ _ hy
     split at hl
     ·rename_i k i k' j e1 e2
      rw [e1] at h1;rw [e2] at h2
      split at hl
      ·rename_i hk;subst hk;cases hl
       exact Kz _ hex ⟨_,by simp only [Builtin.min_,hargs,V.int_inv h1,V.int_inv h2];simp [Builtin.min2],rfl⟩
      ·cases hl
     ·cases hl
    ·cases hc
   ·cases hc
  ·cases hc
 | go=>cases hc
 | defer=>cases hc
 | panic=>cases hc
 | send=>cases hc
 | recv=>cases hc
 | select=>cases hc
end
end Go.Proofs.YtemcdiajejekoaaGreatDoor.Slim
