/- Parts of the proof. -/
import Derived.Test.YtemcdiajejekoaaGreatDoorSlimZw3
import Derived.Laws.StructEq
import Derived.Laws.Cover3
import Derived.ChangeKeysEq
set_option linter.unusedSimpArgs false
set_option linter.unusedVariables false
namespace Go.Proofs.YtemcdiajejekoaaGreatDoor.Slim
open Go
section
variable {ι : Emb} {w : World}
theorem X8 {P:Program} (op:BinOp) (t:TypeId) (x y:Operand) (a b:Value) (h1:a=.nilIface→b=.nilIface→∃ c,y=.const c)
    (h2:(∃ xs ys,a=.agg xs∧b=.agg ys)→P.eqGuardType P.depth t=false):(eqGuard op t x y a b).run P w=.ok () w:=by
  cases op <;> first
    | rfl
    | (cases a <;> cases b <;> first
        | rfl
        | (obtain ⟨c,rfl⟩:=h1 rfl rfl;cases x <;> rfl)
        | (have h3:=h2 ⟨_,_,rfl,rfl⟩;simp [eqGuard,h3];done))
theorem Zoh (s r:ByteArray):(s.toList==r.toList)=decide (s=r):=by
  by_cases h:s=r
  · subst h;simp
  · rw [decide_eq_false h]
    refine beq_eq_false_iff_ne.mpr fun e=>h ?_
    rw [ByteArray.toList_eq,ByteArray.toList_eq] at e
    exact ByteArray.ext (Array.ext' e)
theorem Zf3 {P:Program} {cls:Nat} {op:BinOp} {t:TypeId} {x y:Operand} {a b v:AV} {a' b':Value}
    (hb2:cls=2→P.underlying t=some .bool) (hs2:cls=3→∃ e,P.underlying t=some (.slice e))
    (hi2:cls=4→(∃ ms,P.underlying t=some (.interface ms))∧∃ c,y=.const c)
    (ha:V ι w a a') (hb:V ι w b b') (h:Slim.Xg cls op a b=some v) :
    ∃ v',(do eqGuard op t x y a' b';Go.binOp op t a' b':Sem Value).run P w=.ok v' w∧V ι w v v':=by
  have G:∀ (z:Value),(Go.binOp op t a' b').run P w=.ok z w→(eqGuard op t x y a' b').run P w=.ok () w →
      (do eqGuard op t x y a' b';Go.binOp op t a' b':Sem Value).run P w=.ok z w:=by
    intro z h1 h2
    simp only [Sem.run_bind,h2,Result.andThen_ok,h1]
  unfold Slim.Xg at h
  split at h
  · -- integers
    rename_i k i k' j
    cases ha;cases hb
    split at h
    · rename_i hk
      obtain ⟨v',h1,h2⟩:=ZxP (ι:=ι) (w:=w) (P:=P) (t:=t) hk h
      exact ⟨v',G _ h1 (X8 _ _ _ _ _ _ (fun e=>by cases e) (fun ⟨_,_,e,_⟩=>by cases e)),h2⟩
    · cases h
  · -- strings
    rename_i s r
    cases ha;cases hb
    have hg:=X8 (P:=P) (w:=w) op t x y (.string s) (.string r) (fun e=>by cases e) (fun ⟨_,_,e,_⟩=>by cases e)
    have hd:=Zoh s r
    cases op <;> dsimp only at h <;> first
      | (cases h;done)
      | (cases h;exact ⟨_,G _ (by simp [Go.binOp,Op.stringOp,hd]) hg,rfl⟩)
      | (split at h
         · cases h
           refine ⟨_,G _ ?_ hg,rfl⟩
           simp only [Go.binOp,Op.stringOp]
           rw [if_neg (by simp [IntKind.max,IntKind.signed,IntKind.bits];omega)]
           rfl
         · cases h)
  · -- bools
    rename_i s r
    cases ha;cases hb
    have hg:=X8 (P:=P) (w:=w) op t x y (.bool s) (.bool r) (fun e=>by cases e) (fun ⟨_,_,e,_⟩=>by cases e)
    have hq:=run_equal_bool (P:=P) w t s r (hb2 rfl)
    cases op <;> dsimp only at h <;> first
      | (cases h;done)
      | (cases h;exact ⟨_,G _ (by simp [Go.binOp,hq]) hg,rfl⟩)
  · -- a slice and nil
    rename_i p sz n cap sz' n' cap'
    obtain ⟨e,he⟩:=hs2 rfl
    obtain ⟨rfl,rfl⟩:=hb
    obtain ⟨q,l,c,rfl,hp⟩:∃ q l c,a'=.slice q l c∧q.isNone=p.isNone:=by
      cases p with
      | none=>obtain ⟨_,rfl⟩:=ha;exact ⟨_,_,_,rfl,rfl⟩
      | some p=>obtain ⟨b,o⟩:=p;obtain ⟨_,_,_,_,_,_,_,rfl,_⟩:=ha;exact ⟨_,_,_,rfl,rfl⟩
    have hg:=X8 (P:=P) (w:=w) op t x y (.slice q l c) (.slice none 0 0) (fun e=>by cases e) (fun ⟨_,_,e,_⟩=>by cases e)
    have hq:=run_equal_slice_nil (P:=P) w t e q l c he
    cases op <;> dsimp only at h <;> first
      | (cases h;done)
      | (cases h;exact ⟨_,G _ (by simp [Go.binOp,hq,hp]) hg,rfl⟩)
  · obtain ⟨⟨ms,hm⟩,c,rfl⟩:=hi2 rfl
    cases ha;cases hb
    have hg:=X8 (P:=P) (w:=w) op t x (.const c) .nilIface .nilIface (fun _ _=>⟨c,rfl⟩) (fun ⟨_,_,e,_⟩=>by cases e)
    have hq:(Op.equal t .nilIface .nilIface).run P w=.ok true w:=by
      have hd:∀ d,(Op.equalIn (d+1) t .nilIface .nilIface).run P w=.ok true w:=fun d=>by simp [Op.equalIn,run_underlying hm]
      exact hd 9999
    cases op <;> dsimp only at h <;> first
      | (cases h;done)
      | (cases h;exact ⟨_,G _ (by simp [Go.binOp,hq]) hg,rfl⟩)
  · obtain ⟨⟨ms,hm⟩,c,rfl⟩:=hi2 rfl
    obtain ⟨tt,z,rfl⟩:=ha
    cases hb
    have hg:=X8 (P:=P) (w:=w) op t x (.const c) (.iface tt z) .nilIface (fun e=>by cases e) (fun ⟨_,_,e,_⟩=>by cases e)
    have hq:(Op.equal t (.iface tt z) .nilIface).run P w=.ok false w:=by
      have hd:∀ d,(Op.equalIn (d+1) t (.iface tt z) .nilIface).run P w=.ok false w:=fun d=>by simp [Op.equalIn,run_underlying hm]
      exact hd 9999
    cases op <;> dsimp only at h <;> first
      | (cases h;done)
      | (cases h;exact ⟨_,G _ (by simp [Go.binOp,hq]) hg,rfl⟩)
  · cases h
theorem Zoi {P:Program} {t:TypeId} {k:Nat} (ht:Zfr P t=some k) {a b:AV} {r:Bool} {a' b':Value} (ha:V ι w a a') (hb:V ι w b b') (h:ZuT k a b=some r) (d:Nat) :
    (Op.equalIn (d+1) t a' b').run P w=.ok r w:=by
  unfold Zfr at ht
  unfold ZuT at h
  split at ht <;> first
    | (cases ht;done)
    | (rename_i hu
       cases ht
       split at h <;> first
         | (cases h;done)
         | (rename_i e;cases e;done)
         | (cases ha;cases hb;cases h;exact run_equalIn_bool' w d t _ _ hu)
         | (cases ha;cases hb;cases h;rw [run_equalIn_string w d t _ _ hu,Zoh])
         | (cases ha;cases hb
            split at h
            · rename_i e;subst e;cases h
              rw [run_equalIn_int w d t _ _ _ _ hu];congr 1
            · cases h))
theorem Ze3 {P:Program} {t:TypeId} {k:Nat} (h:Zfr P t=some k):ZxF P t=some false:=by
  unfold Zfr at h
  unfold ZxF
  split at h <;> first | (cases h;done) | (rename_i hu;rw [hu])
theorem Zjq {P:Program} (d:Nat):∀ (fs:List (Field×Nat)) (ks:List Nat) (xs ys:List AV) (xs' ys':Array Value) (r:Bool) (n:Nat),VL ι w xs xs'.toList→VL ι w ys ys'.toList →
    (∀ i f,fs[i]?=some f→f.2=n+i)→Zew P fs=some ks→ZdW ks (xs.drop n) (ys.drop n)=some r→(Op.eqFields (d+1) xs' ys' (fs.map (·.1))).run P w=.ok r w
  | [],ks,xs,ys,xs',ys',r,n,hx,hy,hn,hk,he=>by
    cases hk
    unfold ZdW at he
    split at he <;> first | (cases he;simp [Op.eqFields];done) | (cases he;done) | skip
    all_goals (rename_i h1 h2;simp_all)
  | (f,i)::fs,ks,xs,ys,xs',ys',r,n,hx,hy,hn,hk,he=>by
    have hi:i=n:=by simpa using hn 0 (f,i) rfl
    subst hi
    unfold Zew at hk
    split at hk
    · rename_i k ks' h1 h2
      split at hk
      · rename_i hc
        cases hk
        obtain ⟨hc1,hc2⟩:=hc
        unfold ZdW at he
        split at he
        · rename_i h3 h4 h5;cases h3
        · rename_i k' ks'' x xs1 y ys1 e1 e2 e3
          cases e1
          split at he
          · rename_i p q g1 g2
            cases he
            have gx:xs[i]?=some x:=by rw [←List.head?_drop,e2];rfl
            have gy:ys[i]?=some y:=by rw [←List.head?_drop,e3];rfl
            have dx:xs.drop (i+1)=xs1:=by rw [←List.drop_drop,e2];rfl
            have dy:ys.drop (i+1)=ys1:=by rw [←List.drop_drop,e3];rfl
            obtain ⟨x',x1,x2⟩:=hx.get i x gx
            obtain ⟨y',y1,y2⟩:=hy.get i y gy
            have ha:=Ze3 h1
            have px:(Go.part f.type xs' f.offset).run P w=.ok x' w:=by
              rw [hc1];simp only [Go.part,Sem.run_bind,Zbq ha,Result.andThen_ok,Bool.false_eq_true,if_false]
              rw [←Array.getElem?_toList,x1];rfl
            have py:(Go.part f.type ys' f.offset).run P w=.ok y' w:=by
              rw [hc1];simp only [Go.part,Sem.run_bind,Zbq ha,Result.andThen_ok,Bool.false_eq_true,if_false]
              rw [←Array.getElem?_toList,y1];rfl
            have pe:=Zoi (P:=P) h1 x2 y2 g1 d
            have ih:=Zjq (P:=P) d fs ks' xs ys xs' ys' q (i+1) hx hy (fun j g hj=>by have:=hn (j+1) g (by simpa using hj);omega) h2 (by rw [dx,dy];exact g2)
            simp only [List.map_cons,Op.eqFields,ne_eq,hc2,not_false_eq_true,if_true,Sem.run_bind,px,py,pe,Result.andThen_ok]
            cases p
            · simp
            · simp [ih]
          · cases he
        · cases he
      · cases hk
    · cases hk
theorem Zl3 {P:Program} {e:TypeId} {k:Nat} (d:Nat) (hk:Zfr P e=some k):∀ (n i:Nat) (xs ys:List AV) (xs' ys':Array Value) (r:Bool),VL ι w xs xs'.toList→VL ι w ys ys'.toList →
    ZdW (List.replicate n k) (xs.drop i) (ys.drop i)=some r→(Op.eqItems (d+1) e 1 xs' ys' (List.range' i n)).run P w=.ok r w
  | 0,i,xs,ys,xs',ys',r,hx,hy,he=>by
    rw [List.replicate_zero] at he
    unfold ZdW at he
    split at he <;> first | (cases he;simp [Op.eqItems];done) | (cases he;done) | skip
    all_goals (rename_i h1 h2;simp_all)
  | n+1,i,xs,ys,xs',ys',r,hx,hy,he=>by
    rw [List.replicate_succ] at he
    unfold ZdW at he
    split at he
    · rename_i h3 h4 h5;cases h3
    · rename_i k' ks'' x xs1 y ys1 e1 e2 e3
      cases e1
      split at he
      · rename_i p q g1 g2
        cases he
        have gx:xs[i]?=some x:=by rw [←List.head?_drop,e2];rfl
        have gy:ys[i]?=some y:=by rw [←List.head?_drop,e3];rfl
        have dx:xs.drop (i+1)=xs1:=by rw [←List.drop_drop,e2];rfl
        have dy:ys.drop (i+1)=ys1:=by rw [←List.drop_drop,e3];rfl
        obtain ⟨x',x1,x2⟩:=hx.get i x gx
        obtain ⟨y',y1,y2⟩:=hy.get i y gy
        have ha:=Ze3 hk
        have px:(Go.part e xs' (i*1)).run P w=.ok x' w:=by
          rw [Nat.mul_one];simp only [Go.part,Sem.run_bind,Zbq ha,Result.andThen_ok,Bool.false_eq_true,if_false]
          rw [←Array.getElem?_toList,x1];rfl
        have py:(Go.part e ys' (i*1)).run P w=.ok y' w:=by
          rw [Nat.mul_one];simp only [Go.part,Sem.run_bind,Zbq ha,Result.andThen_ok,Bool.false_eq_true,if_false]
          rw [←Array.getElem?_toList,y1];rfl
        have pe:=Zoi (P:=P) hk x2 y2 g1 d
        have ih:=Zl3 (P:=P) d hk n (i+1) xs ys xs' ys' q hx hy (by rw [dx,dy];exact g2)
        simp only [List.range'_succ,Op.eqItems,Sem.run_bind,px,py,pe,Result.andThen_ok]
        cases p
        · simp
        · simp [ih]
      · cases he
    · cases he
theorem Zl4 {P:Program} {op:BinOp} {t:TypeId} {x y:Operand} {ks:List Nat} {xs ys:List AV} {a' b':Value} {r:Bool} (hop:op=.eql∨op=.neq)
    (hk:ZzE P t=some ks) (ha:V ι w (.agg xs) a') (hb:V ι w (.agg ys) b') (h:ZdW ks xs ys=some r) :
    (do eqGuard op t x y a' b';Go.binOp op t a' b':Sem Value).run P w=.ok (.bool (if op==.neq then !r else r)) w:=by
  obtain ⟨xs',rfl,hx,_⟩:=ha
  obtain ⟨ys',rfl,hy,_⟩:=hb
  unfold ZzE at hk
  split at hk
  · cases hk
  · rename_i hg
    have hg':P.eqGuardType P.depth t=false:=by simpa using hg
    have hG:=X8 (P:=P) (w:=w) op t x y (.agg xs'.toArray) (.agg ys'.toArray) (fun e=>by cases e) (fun _=>hg')
    have hq:(Op.equal t (.agg xs'.toArray) (.agg ys'.toArray)).run P w=.ok r w:=by
      split at hk
      · rename_i fs hu
        split at hk
        · cases hk
        · rename_i hst
          have hst':P.stoodInHeld t=false:=by simpa using hst
          have hf:P.fieldsOf t=fs:=by simp [Program.fieldsOf,hu]
          have h1:=run_equalIn_struct (P:=P) w 9999 t xs'.toArray ys'.toArray (by rw [hf];exact hu) hst'
          have h2:=Zjq (P:=P) (ι:=ι) (w:=w) 9998 fs.toList.zipIdx ks xs ys xs'.toArray ys'.toArray r 0 (by simpa using hx) (by simpa using hy) (fun i f hf=>by
            rw [List.getElem?_zipIdx] at hf
            simp only [Option.map_eq_some_iff] at hf
            obtain ⟨g,_,rfl⟩:=hf
            simp) hk (by simpa using h)
          show (Op.equalIn 10000 t _ _).run P w=_
          rw [h1,hf]
          simpa using h2
      · rename_i n e hu
        split at hk
        · rename_i k hk1 hk2
          cases hk
          cases hi:P.info? e with
          | none=>simp [szT,hi] at hk2
          | some i=>
            have hsz:P.cellsOf e=1:=by unfold szT at hk2;unfold Program.cellsOf;rw [hk2];rfl
            have h1:=run_equalIn_array (P:=P) w 9999 xs'.toArray ys'.toArray hu hi
            have h2:=Zl3 (P:=P) (ι:=ι) (w:=w) 9998 hk1 n 0 xs ys xs'.toArray ys'.toArray r (by simpa using hx) (by simpa using hy) (by simpa using h)
            show (Op.equalIn 10000 t _ _).run P w=_
            rw [h1,hsz,List.range_eq_range']
            exact h2
        · cases hk
      · cases hk
    simp only [Sem.run_bind,hG,Result.andThen_ok]
    rcases hop with rfl | rfl
    · simp [Go.binOp,hq]
    · simp [Go.binOp,hq]
end
end Go.Proofs.YtemcdiajejekoaaGreatDoor.Slim
