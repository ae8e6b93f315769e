/- Parts of the proof. -/
import Derived.Test.YtemcdiajejekoaaGreatDoorSlimZw6
import Derived.Laws.Append
import Derived.Laws.BytesString
import Derived.Laws.BytesArg
set_option linter.unusedSimpArgs false
set_option linter.unusedVariables false
namespace Go.Proofs.YtemcdiajejekoaaGreatDoor.Slim
open Go
section
variable {ι : Emb} {m : Mem} {w : World}
theorem Zm2 (c o j:Nat):(⟨c,o,none⟩:Addr).add j=⟨c,o+j,none⟩:=by
  unfold Addr.add
  by_cases h:j=0
  · simp [h]
  · simp [h]
theorem Zft {H:List Blk} {b:Nat} {cs:List AV} (h:Za H b=some cs):∃ wr,H[b]?=some (.cells cs wr):=by
  unfold Za at h
  split at h
  · rename_i cs' wr e;cases h;exact ⟨wr,e⟩
  · cases h
theorem ZbZ.stretch {c d:Nat} {cs:List AV} {wr:Bool} (h:ZbZ ι w c d cs wr) (o n:Nat) (hn:o+n≤cs.length) :
    ∃ vs:List Value,vs.length=n∧VL ι w ((cs.drop o).take n) vs∧∀ j v,vs[j]?=some v→w.cell? ((⟨c,d+o,none⟩:Addr).add j)=some v:=by
  obtain ⟨⟨vs,h1,h2⟩,_,_⟩:=h
  refine ⟨(vs.drop o).take n,?_,(h1.drop o).take n,fun j v hj => ?_⟩
  · have:=h1.length;simp;omega
  · rw [Zm2]
    have hj':vs[o+j]?=some v:=by
      rw [List.getElem?_take] at hj
      split at hj
      · rwa [List.getElem?_drop] at hj
      · cases hj
    have:=h2 (o+j) v hj'
    rwa [←Nat.add_assoc] at this
theorem all_sub {cs:List AV} (h:cs.all AV.isCell=true) (o n:Nat):((cs.drop o).take n).all AV.isCell=true :=
  List.all_eq_true.mpr fun y hy=>List.all_eq_true.mp h y (List.mem_of_mem_drop (List.mem_of_mem_take hy))
theorem Zok {P:Program} {t:TypeId} {agg:Bool} {sz:Nat} (R:Rel ι m w) (ha:ZxF P t=some agg) (hs:szT P t=some sz) {a v:AV} {a':Value} (hv:V ι w a a')
    (h:Slim.ZhX m.H agg sz a=some v):∃ v',(do loadVar t (←Instr.sureAddr a'):Sem Value).run P w=.ok v' w∧V ι w v v':=by
  unfold Slim.ZhX at h
  split at h
  · rename_i b o
    obtain ⟨c,d,g1,rfl⟩:=hv
    split at h
    · cases h
    · rename_i cs hcs
      obtain ⟨wr,hb⟩:=Zft hcs
      obtain ⟨c',d',g2,hC⟩:=R.at' b cs wr hb
      rw [g1] at g2
      cases g2
      split at h
      · rename_i hag
        subst hag
        split at h
        · rename_i hle
          cases h
          obtain ⟨vs,l1,l2,l3⟩:=hC.stretch o sz hle
          have hr:=run_loadCells_list (P:=P) w ⟨c,d+o,none⟩ vs l3
          rw [l1] at hr
          exact ⟨.agg vs.toArray,by simp [Instr.sureAddr,loadVar,Zbq ha,YZ hs,hr],vs,rfl,l2,all_sub hC.cell _ _⟩
        · cases h
      · rename_i hag
        have hag':agg=false:=by simpa using hag
        subst hag'
        obtain ⟨⟨vs,h1,h2⟩,_,_⟩:=hC
        obtain ⟨y,h3,h4⟩:=h1.get o v h
        have hc:=h2 o y h3
        exact ⟨y,by simp [Instr.sureAddr,loadVar,Zbq ha,hc],h4⟩
  · cases h
theorem ZhY:∀ {cs:List AV} {bs:List UInt8} {vs:List Value},Zi6 cs=some bs→VL ι w cs vs→∃ ns:List Int,vs=ns.map (Value.int .u8)∧bs=ns.map fun n=>UInt8.ofNat n.toNat
  | [],bs,vs,h,hv=>by cases h;cases hv;exact ⟨[],rfl,rfl⟩
  | c::cs,bs,vs,h,hv=>by
    unfold Zi6 at h
    obtain ⟨y,ys,rfl,h1,h2⟩:=hv
    split at h
    · rename_i b bs' hb hbs
      cases h
      obtain ⟨ns,rfl,rfl⟩:=ZhY hbs h2
      unfold Zzd at hb
      split at hb
      · rename_i n
        cases hb;cases h1
        exact ⟨n::ns,rfl,rfl⟩
      · cases hb
    · cases h
theorem Zjt:∀ (ns:List Int) (s:ByteArray),ns.foldl (fun r n=>r.push (UInt8.ofNat n.toNat)) s=⟨(s.data.toList++ns.map fun n=>UInt8.ofNat n.toNat).toArray⟩
  | [],s=>by simp
  | n::ns,s=>by
    rw [List.foldl_cons,Zjt ns]
    simp [ByteArray.push]
def AO.kind:AO→Nat
  | .load .. | .ofBytes _ | .sliceArr .. | .getMap .. | .lenMap _=>1
  | .alloc _ | .box _ | .buildSlice .. => 2
  | .store .. | .toBytes _ | .makeSlice .. | .append .. | .newMap | .putMap .. | .call .. => 3
  | .mkit _=>4
  | .itNext _=>5
  | .itEntry _=>6
  | _=>0
def XF:Op→List Nat
  | .load .. => [1]
  | .convert .. => [0,1,3]
  | .slice .. => [0,1]
  | .alloc _ | .box .. | .buildSlice .. => [2]
  | .store .. | .makeSlice .. | .makeMap .. | .mapUpdate .. | .insert .. => [3]
  | .lookup .. => [1]
  | .call _=>[0,1,3]
  | .range .. => [4]
  | .next .. => [5]
  | .entry _=>[6]
  | _=>[0]
theorem ZaM {g:X→AV} {H:List Blk} {ao:AO} (h:ao.kind≠1):Zao g H ao=none:=by
  cases ao <;> first | rfl | (exact absurd rfl h)
theorem Zju {P:Program} {cx:Zf1} {c:Call} {ao:AO} (hc:Zi P cx (.call c)=some ao):ao.kind∈[0,3]∨∃ x t o k e,ao=.lenMap x∧c.callee=.builtin .len∧c.argTypes[0]?=some t∧c.args[0]?=some o∧P.underlying t=some (.map k e)∧ZxG P t=true∧cx o=some x:=by
  simp only [Zi,ZcO] at hc
  split at hc
  · simp only [Option.bind_eq_bind,Option.bind_eq_some_iff,Option.pure_def,Option.some.injEq] at hc
    obtain ⟨_,_,_,_,rfl⟩:=hc
    exact .inl (by simp [AO.kind])
  · split at hc
    · split at hc
      · simp only [Option.map_eq_some_iff] at hc;obtain ⟨_,_,rfl⟩:=hc;exact .inl (by simp [AO.kind])
      · simp only [Option.map_eq_some_iff] at hc;obtain ⟨_,_,rfl⟩:=hc;exact .inl (by simp [AO.kind])
      · cases hc;exact .inl (by simp [AO.kind])
      · split at hc
        · simp only [Option.map_eq_some_iff] at hc
          obtain ⟨x,hx,rfl⟩:=hc
          rename_i h1 _ _ t o h2 h3 _ k e h4 h5
          exact .inr ⟨x,t,o,k,e,rfl,h1,h2,h3,h4,h5,hx⟩
        · cases hc
      · cases hc
    · cases hc
  · split at hc
    · split at hc
      · simp only [Option.bind_eq_bind,Option.bind_eq_some_iff] at hc
        obtain ⟨_,_,_,_,_,_,_,_,hc⟩:=hc
        split at hc
        · cases hc;exact .inl (by simp [AO.kind])
        · cases hc
      · simp only [Option.bind_eq_bind,Option.bind_eq_some_iff] at hc
        obtain ⟨_,_,_,_,_,_,_,_,hc⟩:=hc
        split at hc
        · cases hc;exact .inl (by simp [AO.kind])
        · cases hc
      · cases hc
    · cases hc
  · split at hc
    · split at hc
      · cases hc;exact .inl (by simp [AO.kind])
      · cases hc
    · cases hc
  · split at hc
    · split at hc
      · cases hc;exact .inl (by simp [AO.kind])
      · cases hc
    · cases hc
  · cases hc
theorem ZsS {P:Program} {cx:Zf1} {c:Call} {ao:AO} (hc:Zi P cx (.call c)=some ao):ao.kind∈XF (.call c):=by
  rcases Zju hc with h | ⟨x,t,o,k,e,rfl,_⟩
  · simp at h
    simp [XF]
    omega
  · simp [AO.kind,XF]
theorem Zey {P:Program} {cx:Zf1} {op:Op} {ao:AO} (hc:Zi P cx op=some ao):ao.kind∈XF op:=by
  by_cases hca:∃ c,op=.call c
  · obtain ⟨c,rfl⟩:=hca;exact ZsS hc
  by_cases hmm:∃ t r,op=.makeMap t r
  · obtain ⟨t,r,rfl⟩:=hmm
    cases r with
    | some r=>cases hc
    | none=>
      simp only [Zi] at hc
      split at hc
      · cases hc;simp [AO.kind,XF]
      · cases hc
  by_cases hmf:∃ fn a b,op=.makeFunc fn a b
  · obtain ⟨fn,a,b,rfl⟩:=hmf
    cases fn <;> first
      | (cases hc;done)
      | (simp only [Zi,Option.bind_eq_bind,Option.bind_eq_some_iff,Option.pure_def,Option.some.injEq] at hc
         obtain ⟨_,_,_,_,rfl⟩:=hc
         simp [AO.kind,XF])
  cases op <;> first
    | (cases hc;done)
    | (exact absurd ⟨_,_,_,rfl⟩ hmf)
    | (exact absurd ⟨_,_,rfl⟩ hmm)
    | (exact absurd ⟨_,rfl⟩ hca)
    | (simp only [Zi] at hc
       repeat' (split at hc)
       all_goals first
         | (cases hc;done)
         | (simp only [Option.map_eq_some_iff] at hc;obtain ⟨_,_,rfl⟩:=hc;simp [AO.kind,XF];done)
         | (simp only [Option.bind_eq_bind,Option.bind_eq_some_iff,Option.pure_def,Option.some.injEq] at hc
            first
              | (obtain ⟨_,_,rfl⟩:=hc;simp [AO.kind,XF];done)
              | (obtain ⟨_,_,_,_,rfl⟩:=hc;simp [AO.kind,XF];done)
              | (obtain ⟨_,_,_,_,_,_,rfl⟩:=hc;simp [AO.kind,XF];done)
              | (obtain ⟨_,_,_,_,_,_,_,_,rfl⟩:=hc;simp [AO.kind,XF];done)
              | (obtain ⟨_,_,hc⟩:=hc;split at hc
                 · simp only [Option.bind_eq_some_iff,Option.some.injEq] at hc
                   obtain ⟨_,_,rfl⟩:=hc;simp [AO.kind,XF];done
                 · cases hc)
              | (obtain ⟨_,_,_,_,hc⟩:=hc;split at hc
                 · simp only [Option.bind_eq_some_iff,Option.some.injEq] at hc
                   obtain ⟨_,_,rfl⟩:=hc;simp [AO.kind,XF];done
                 · cases hc)
              | (obtain ⟨_,_,_,_,_,_,hc⟩:=hc;split at hc
                 · simp only [Option.bind_eq_some_iff,Option.some.injEq] at hc
                   obtain ⟨_,_,_,_,rfl⟩:=hc;all_goals simp [AO.kind,XF]
                 · cases hc)
              | (obtain ⟨_,_,hc⟩:=hc;split at hc
                 · simp only [Option.bind_eq_some_iff,Option.some.injEq] at hc
                   obtain ⟨_,_,_,_,_,_,_,_,rfl⟩:=hc;simp [AO.kind,XF];done
                 · cases hc)
              | (exfalso;simp at hc;done)
              | (obtain ⟨_,_,_,_,_,_,hc⟩:=hc;simp at hc;done)
              | (obtain ⟨_,_,_,_,hc⟩:=hc;simp at hc;done)))
theorem ZxU {P:Program} {cx:Zf1} {g:X→AV} {ρ:Operand→Value} (hρ:OkX ι w cx g ρ) (R:Rel ι m w) (o:Oper) {ao:AO} {v:AV}
    (hc:Zi P cx o.op=some ao) (hl:Zao g m.H ao=some v):ZBJ P ι w ρ o v:=by
  obtain ⟨dst,op,ty,pos,aft,gd⟩:=o
  cases op with
  | load t a=>
    simp only [Zi,Option.bind_eq_bind,Option.bind_eq_some_iff,Option.pure_def,Option.some.injEq] at hc
    obtain ⟨ag,ha,n,hn,x',hx,rfl⟩:=hc
    exact Kz (Instr.loadAt t (ρ a)) rfl (Zok R ha hn (hρ _ _ hx) hl)
  | convert src dst x=>
    simp only [Zi] at hc
    split at hc
    · simp only [Option.map_eq_some_iff] at hc
      obtain ⟨x',hx,rfl⟩:=hc
      cases hl
    · simp only [Option.map_eq_some_iff] at hc
      obtain ⟨x',hx,rfl⟩:=hc
      cases hl
    · split at hc
      · simp only [Option.map_eq_some_iff] at hc
        obtain ⟨_,_,rfl⟩:=hc
        cases hl
      · cases hc
    · rename_i e h1 h2
      split at hc
      · rename_i h3 h4
        simp only [Option.map_eq_some_iff] at hc
        obtain ⟨x',hx,rfl⟩:=hc
        simp only [Zao] at hl
        have hv:=hρ _ _ hx
        split at hl
        · rename_i p sz n cp ex
          rw [ex] at hv
          split at hl
          · rename_i k cs hsrc
            split at hl
            · rename_i hsz
              simp only [Option.map_eq_some_iff] at hl
              obtain ⟨bs,hbs,rfl⟩:=hl
              have hex:execOp ρ ⟨dst,.convert src dst x,ty,pos,aft,gd⟩=(do pure (.value (←convert src dst (ρ x)))):=rfl
              cases p with
              | none=>
                obtain ⟨rfl,hxa⟩:=hv
                simp only [YK,Bool.false_eq_true,if_false,Option.some.injEq,Prod.mk.injEq] at hsrc
                obtain ⟨rfl,rfl⟩:=hsrc
                cases hbs
                exact Kz _ rfl ⟨.string ByteArray.empty,by rw [hxa];simp [convert,run_underlying h1,run_underlying h2,run_underlying h3,Conv.bytesToString],rfl⟩
              | some p=>
                obtain ⟨b,o⟩:=p
                have hsz1:sz=1:=by
                  rcases hsz with h | h
                  · exact h
                  · cases h
                subst hsz1
                obtain ⟨c,d,xo,k',e',M,g1,hxa,g3,g4,g5,g6,g7⟩:=hv
                simp only [YK,Bool.false_eq_true,if_false] at hsrc
                split at hsrc
                · cases hsrc
                · rename_i cs' hcs
                  split at hsrc
                  · rename_i hle
                    simp only [Option.some.injEq,Prod.mk.injEq] at hsrc
                    obtain ⟨rfl,rfl⟩:=hsrc
                    obtain ⟨wr,hb⟩:=Zft hcs
                    obtain ⟨c',d',g8,hC⟩:=R.at' b cs' wr hb
                    rw [g1] at g8
                    cases g8
                    obtain ⟨vs,l1,l2,l3⟩:=hC.stretch o (n*1) hle
                    obtain ⟨ns,rfl,rfl⟩:=ZhY hbs l2
                    have hload:(loadCells ⟨c,xo,none⟩ n).run P w=.ok (ns.map (Value.int .u8)).toArray w:=by
                      rcases g4 with rfl | ⟨rfl,rfl⟩
                      · have hr:=run_loadCells_list (P:=P) w ⟨c,d+o,none⟩ _ l3
                        rwa [l1,Nat.mul_one] at hr
                      · have:ns=[]:=by
                          have:=l1;simp at this;exact this
                        subst this
                        simp [loadCells,loadCellsFrom]
                    have hbts:=run_bytesToString (P:=P) w ⟨c,xo,none⟩ n k' ns hload
                    refine Kz _ rfl ⟨_,?_,rfl⟩
                    rw [hxa]
                    simp only [convert,Sem.run_bind,run_underlying h1,run_underlying h2,run_underlying h3,Result.andThen_ok,hbts,Zjt]
                    rfl
                  · cases hsrc
            · cases hl
          · cases hl
        · cases hl
      · cases hc
    · cases hc
  | slice t x lo hi mx=>
    simp only [Zi] at hc
    split at hc
    · split at hc
      · simp only [Option.bind_eq_bind,Option.bind_eq_some_iff,Option.pure_def,Option.some.injEq] at hc
        obtain ⟨_,_,_,_,_,_,rfl⟩:=hc
        cases hl
      · cases hc
    · simp only [Option.bind_eq_bind,Option.bind_eq_some_iff] at hc
      obtain ⟨_,_,hc⟩:=hc
      split at hc
      · simp only [Option.bind_eq_some_iff,Option.pure_def,Option.some.injEq] at hc
        obtain ⟨_,_,_,_,_,_,_,_,rfl⟩:=hc
        cases hl
      · cases hc
    · rename_i n e hu
      simp only [Option.bind_eq_bind,Option.bind_eq_some_iff] at hc
      obtain ⟨sz,hsz,hc⟩:=hc
      split at hc
      · rename_i hpos
        simp only [Option.bind_eq_some_iff,Option.pure_def,Option.some.injEq] at hc
        obtain ⟨x',hx,lo',hlo,hi',hhi,mx',hmx,rfl⟩:=hc
        simp only [Zao] at hl
        have hv:=hρ _ _ hx
        split at hl
        · rename_i b o ex
          rw [ex] at hv
          obtain ⟨c,d,g1,hxa⟩:=hv
          split at hl
          · rename_i cs h l mm hb eh el em
            split at hl
            · rename_i hcond
              obtain ⟨hmh,hne,hle⟩:=hcond
              obtain ⟨c',d',g2,hC⟩:=R.at' b cs true hb
              rw [g1] at g2
              cases g2
              obtain ⟨e',M,hsh,hfree⟩:=hC.free rfl
              have hM:d+cs.length≤M:=by
                obtain ⟨⟨vs,h1,h2⟩,_,_⟩:=hC
                have hlen:=h1.length
                obtain ⟨y,hy⟩:∃ y,vs[cs.length - 1]?=some y:=⟨vs[cs.length - 1]'(by omega),List.getElem?_eq_getElem (by omega)⟩
                have:=h2 _ _ hy
                unfold World.cell? at this
                unfold World.shape? at hsh
                cases hh:w.heap[c]? with
                | none=>simp [hh] at this
                | some ob=>
                  cases ob <;> simp [hh] at this hsh
                  rename_i cells el fz
                  obtain ⟨rfl,rfl⟩:=hsh
                  obtain ⟨this,_⟩:=Array.getElem?_eq_some_iff.mp this
                  omega
              obtain ⟨r1,r2,r3,r4⟩:=Zjs (k:=n) (d:=d) (xo:=d+o) hl (Nat.le_refl _) g1 (.inl rfl) hsh (.inr (by omega)) (fun q hq=>by cases hq;rfl)
              have hr:=ZaS (P:=P) (w:=w) hρ (len:=n) (cap:=n) false hlo hhi hmx el eh (Zhf (cx:=cx) (mx:=mx) (k:=n) em) r2 r3 r4 hmh
              refine Kz (Instr.sliceAt t (ρ x) (lo.map ρ) (hi.map ρ) (mx.map ρ)) rfl ⟨_,?_,r1⟩
              rw [hxa]
              simp only [Instr.sliceAt,Sem.run_bind,run_underlying hu,Result.andThen_ok,Instr.sureAddr,Sem.run_pure,hr,YZ hsz]
              congr 2
              split <;> simp
            · cases hl
          · cases hl
        · cases hl
      · cases hc
    · cases hc
  | lookup t x k ok=>
    simp only [Zi] at hc
    split at hc
    · rename_i hT
      simp only [Option.bind_eq_bind,Option.bind_eq_some_iff,Option.pure_def,Option.some.injEq] at hc
      obtain ⟨x',hx,k',hk,rfl⟩:=hc
      obtain ⟨kt,e,ht,K,he,hkk⟩:=Zce hT
      simp only [Zao] at hl
      have hv:=hρ _ _ hx
      have hvk:=hρ _ _ hk
      split at hl
      · rename_i b z ex ek
        rw [ex] at hv
        obtain ⟨c,d,g1,hxa⟩:=hv
        split at hl
        · rename_i es hb
          obtain ⟨c',g2,hM⟩:=R.mp b es hb
          rw [g1] at g2
          cases g2
          obtain ⟨h3,h64,hka⟩:=Zqp ek hvk
          obtain ⟨l,hlk⟩:=hkk z h3 h64
          have hr:=MapAt.lookup K ht (he w) hM hkk hlk ok
          cases hl
          refine Kz (Instr.lookup t (ρ x) (ρ k) ok) rfl ⟨_,by rw [hxa,hka];exact hr,?_⟩
          cases ok with
          | true=>exact ⟨_,rfl,⟨_,_,rfl,rfl,_,_,rfl,rfl,rfl⟩⟩
          | false=>rfl
        · cases hl
      · cases hl
    · cases hc
  | call c=>
    rcases Zju hc with h | ⟨x,t,o,k,e,rfl,h1,h2,h3,h4,h5,h6⟩
    · exact absurd hl (by rw [ZaM (fun e=>by rw [e] at h;simp at h)];simp)
    · simp only [Zao] at hl
      have hv:=hρ _ _ h6
      split at hl
      · rename_i b ex
        rw [ex] at hv
        obtain ⟨c',d,g1,hxa⟩:=hv
        split at hl
        · rename_i es hb
          obtain ⟨c2,g2,hM⟩:=R.mp b es hb
          rw [g1] at g2
          cases g2
          obtain ⟨xs,clock,m1,m2,_⟩:=hM
          have hex:execOp ρ ⟨dst,.call c,ty,pos,aft,gd⟩=(do pure (.value (←Builtin.len_ c.argTypes ty (c.args.map ρ)))):=by
            simp only [execOp,resolve,h1];rfl
          have hr:(c.args.map ρ)[0]?=some (.map (some c')):=by simp [h3,hxa]
          cases hl
          exact Kz _ hex ⟨_,by simp only [Builtin.len_,h2,hr,Sem.run_bind,run_underlying h4,Result.andThen_ok,MapKept.run_getObj_map m1,Sem.run_pure,goInt];rfl,by rw [←m2];rfl⟩
        · cases hl
      · cases hl
  | _=>exact absurd hl (by rw [ZaM (fun e=>by have h:=Zey hc;rw [e] at h;simp [XF] at h)];simp)
end
end Go.Proofs.YtemcdiajejekoaaGreatDoor.Slim
namespace Go.Proofs.YtemcdiajejekoaaGreatDoor.Slim
open Go
section
variable {ι : Emb} {m : Mem} {w : World}
theorem QK {g:X→AV} {ao:AO} (h:ao.kind≠2):Ka g ao=none:=by
 cases ao <;> first | rfl | (exact absurd rfl h)
def ZAN (P:Program) (ι:Emb) (w:World) (ρ:Operand→Value) (o:Oper) (cs:List AV) (f:Nat→AV):Prop :=
 ∃ (vs:List Value) (e:TypeId) (v':Value),(execOp ρ o).run P w=.ok (.value v') (w.alloc (.cells vs.toArray e))∧VL ι w cs vs∧cs.all AV.isCell=true ∧
  ∀ (ι':Emb) (w':World) (n:Nat),ι'[n]?=some (some (w.heap.size,0))→YJ (w.alloc (.cells vs.toArray e)) w'→V ι' w' (f n) v'
theorem Zr1 (z:List Value):∀ (n:Nat),((Array.range (n*z.length)).map fun i=>z.toArray[i % z.toArray.size]!).toList=(List.replicate n z).flatten:=by
 intro n
 apply List.ext_getElem?
 intro i
 by_cases hz:z.length=0
 ·have:z=[]:=by simpa using hz
  subst this
  simp
 ·have hlen:∀ n,(List.replicate n z).flatten.length=n*z.length:=by intro n;simp
  by_cases hi:i<n*z.length
  ·have hm:i % z.length<z.length:=Nat.mod_lt _ (by omega)
   have h1:((Array.range (n*z.length)).map fun i=>z.toArray[i % z.toArray.size]!).toList[i]?=some z[i % z.length]:=by
    simp [hi,hm]
   rw [h1]
   clear h1
   induction n generalizing i with
   | zero=>simp at hi
   | succ n ih=>
    simp only [List.replicate_succ,List.flatten_cons]
    by_cases hlt:i<z.length
    ·rw [List.getElem?_append_left hlt]
     simp [Nat.mod_eq_of_lt hlt,hlt]
    ·rw [List.getElem?_append_right (by omega)]
     have:=ih (i - z.length) (by rw [Nat.add_mul] at hi;omega) (Nat.mod_lt _ (by omega))
     rw [←this]
     congr 1
     have:i % z.length=(i - z.length) % z.length:=by rw [Nat.mod_eq_sub_mod (by omega)]
     simp only [this]
  ·rw [List.getElem?_eq_none (by simp;omega),List.getElem?_eq_none (by rw [hlen];omega)]
theorem QL (w:World) (vs:List Value) (e:TypeId):(w.alloc (.cells vs.toArray e)).shape? w.heap.size=some (e,vs.length):=by
 unfold World.shape?
 rw [heap_alloc_new]
 simp
theorem Zol {P:Program} {cx:Zf1} {g:X→AV} {ρ:Operand→Value} (hρ:OkX ι w cx g ρ) (o:Oper) {ao:AO} {cs:List AV} {f:Nat→AV}
  (hc:Zi P cx o.op=some ao) (hm:Ka g ao=some (cs,f)):ZAN P ι w ρ o cs f:=by
 obtain ⟨dst,op,ty,pos,aft,gd⟩:=o
 cases op with
 | alloc e=>
  simp only [Zi,Option.map_eq_some_iff] at hc
  obtain ⟨zs,hz,rfl⟩:=hc
  cases hm
  obtain ⟨z,h1,h2,h3⟩:=Zex (ι:=ι) (w:=w) hz
  refine ⟨z.cells.toList,e,.pointer (some ⟨w.heap.size,0,none⟩),?_,h2,h3,fun ι' w' n hn _=>⟨_,_,hn,rfl⟩⟩
  simp [execOp,Instr.alloc,h1,newVar,newRow]
 | box e x=>
  simp only [Zi,Option.map_eq_some_iff] at hc
  obtain ⟨x',hx,rfl⟩:=hc
  simp only [Ka,Option.map_eq_some_iff] at hm
  obtain ⟨cs',hcs,he⟩:=hm
  cases he
  obtain ⟨h2,h3⟩:=(hρ _ _ hx).cells hcs
  refine ⟨(ρ x).cells.toList,e,.pointer (some ⟨w.heap.size,0,none⟩),?_,h2,h3,fun ι' w' n hn _=>⟨_,_,hn,rfl⟩⟩
  simp [execOp,Instr.box,newVar,newRow]
 | buildSlice t len parts=>
  simp only [Zi] at hc
  split at hc
  ·rename_i e hu
   simp only [Option.bind_eq_bind,Option.bind_eq_some_iff] at hc
   obtain ⟨sz,hsz,zero,hz,hc⟩:=hc
   split at hc
   ·rename_i hcond
    simp only [Bool.and_eq_true,decide_eq_true_eq,beq_iff_eq] at hcond
    obtain ⟨⟨hc1,hc2⟩,hc3⟩:=hcond
    simp only [Option.bind_eq_some_iff,Option.pure_def,Option.some.injEq] at hc
    obtain ⟨ps,hps,rfl⟩:=hc
    simp only [Ka,Option.map_eq_some_iff] at hm
    obtain ⟨out,ho,he⟩:=hm
    cases he
    obtain ⟨z,hz1,hz2,hz3⟩:=Zex (ι:=ι) (w:=w) hz
    have hzl:z.cells.toList.length=sz:=by rw [hz2.length,hc3]
    have hzl':z.cells.size=sz:=by simpa using hzl
    have hzeros:((Array.range (len*sz)).map fun i=>z.cells[i % z.cells.size]!).toList=(List.replicate len z.cells.toList).flatten:=by
     have:=Zr1 z.cells.toList len
     rw [hzl] at this
     simpa using this
    obtain ⟨out',r1,r2,r3,r4⟩:=Zm1 (P:=P) hρ (cells:=(Array.range (len*sz)).map fun i=>z.cells[i % z.cells.size]!) hps ho (by
     rw [hzeros];exact VL.flatten hz2 len) (by
     unfold Zjl
     rw [List.all_eq_true]
     intro y hy
     simp only [List.mem_flatten,List.mem_replicate] at hy
     obtain ⟨l,⟨_,rfl⟩,hy⟩:=hy
     exact List.all_eq_true.mp hz3 y hy)
    have hlen:out'.size=len*sz:=by
     have h1:=r2.length
     have h2:(Zjl len zero).length=len*sz:=by unfold Zjl;simp [hc3]
     simp at h1;omega
    refine ⟨out'.toList,e,.slice (some ⟨w.heap.size,0,none⟩) len len,?_,r2,r3,fun ι' w' n hn hs => ?_⟩
    ·have hpl:(parts.map fun (i,x)=>(i,ρ x)).toList=parts.toList.map fun x=>(x.1,ρ x.2):=by simp
     have hex:execOp ρ ⟨dst,.buildSlice t len parts,ty,pos,aft,gd⟩=(do pure (.value (←Instr.buildSlice t len (parts.map fun (i,x)=>(i,ρ x))))):=rfl
     rw [hex]
     by_cases h0:len*sz=0
     ·have e0:∀ z:Array Value,((Array.range (len*sz)).map fun i=>z[i % z.size]!)=(#[]:Array Value):=by
       intro z;rw [h0];apply Array.ext';simp
      rw [e0] at r1
      simp only [Instr.buildSlice,Sem.run_bind,run_underlying hu,Result.andThen_ok,YZ hsz]
      rw [if_neg (by omega),if_pos h0]
      simp only [Sem.run_bind,Sem.run_pure,Result.andThen_ok,hpl,e0]
      rw [r1]
      simp [newRow]
     ·simp only [Instr.buildSlice,Sem.run_bind,run_underlying hu,Result.andThen_ok,YZ hsz]
      rw [if_neg (by omega),if_neg h0]
      simp only [Sem.run_bind,Sem.run_pure,Result.andThen_ok,hz1,hpl,r1]
      simp [newRow]
    ·have hsh:=hs _ _ (QL w out'.toList e)
     exact ⟨w.heap.size,0,0,len,e,_,hn,rfl,Nat.le_refl _,.inl rfl,hsh,by simp [hlen],fun q hq=>by cases hq;rfl⟩
   ·cases hc
  ·cases hc
 | _=>exact absurd hm (by rw [QK (fun e=>by have h:=Zey hc;rw [e] at h;simp [XF] at h)];simp)
theorem Zhg {w:World} {c e M o:Nat} (h:w.shape? c=some (e,M)) (ho:o<M):∃ v,w.cell? ⟨c,o,none⟩=some v:=by
 unfold World.shape? at h
 unfold World.cell?
 split at h
 ·rename_i cells el fz hh
  cases h
  rw [hh]
  exact ⟨cells[o],by simp [ho]⟩
 ·cases h
theorem Zhh {w:World} {c e M o:Nat} {v:Value} (h:w.shape? c=some (e,M)) (hv:w.cell? ⟨c,o,none⟩=some v):o<M:=by
 unfold World.shape? at h
 unfold World.cell? at hv
 split at h
 ·rename_i cells el fz hh
  cases h
  rw [hh] at hv
  simp at hv
  obtain ⟨h,_⟩:=Array.getElem?_eq_some_iff.mp hv
  exact h
 ·cases h
theorem Zlk (w:World) (a:Addr) (v:Value):YJ w (w.setCell a v):=by
 intro r s h
 unfold World.shape? at *
 unfold World.setCell
 simp only [Array.getElem?_modify]
 by_cases hr:a.block=r
 ·rw [if_pos hr]
  cases hh:w.heap[r]? with
  | none=>rw [hh] at h;cases h
  | some ob=>
   rw [hh] at h
   cases ob <;> simp at h ⊢
   rw [←h]
   simp
   split <;> simp
 ·rw [if_neg hr];exact h
theorem Zb0 (c:Nat):∀ (vs:List Value) (x:Nat) (w:World),YJ w (w.setCells c x vs)∧(∀ r,r≠c→(w.setCells c x vs).heap[r]?=w.heap[r]?) ∧
  (w.setCells c x vs).heap.size=w.heap.size∧(w.setCells c x vs).os=w.os∧(w.setCells c x vs).tape=w.tape∧(w.setCells c x vs).output=w.output
 | [],x,w=>⟨YJ.refl w,fun _ _=>rfl,rfl,rfl,rfl,rfl⟩
 | v::vs,x,w=>by
  obtain ⟨h1,h2,h3,h4,h5,h6⟩:=Zb0 c vs (x+1) (w.setCell ⟨c,x,none⟩ v)
  refine ⟨(Zlk w _ v).trans h1,fun r hr => ?_,?_,h4,h5,h6⟩
  ·show (((w.setCell ⟨c,x,none⟩ v).setCells c (x+1) vs).heap[r]?)=_
   rw [h2 r hr]
   exact Go.RowKit.Below.heap_setCell w _ v r (by simpa using hr)
  ·exact h3.trans (by simp)
theorem Zr2 {P:Program} {w:World} {c x e M:Nat} {vs:List Value} (hM:w.shape? c=some (e,M)) (hfree:∀ o,o<M→w.frozen? ⟨c,o,none⟩=false)
  (hx:vs.length=0∨x+vs.length≤M) (h1:∀ v∈vs,v.oneCell'=true) :
  (storeCells ⟨c,x,none⟩ vs).run P w=.ok () (w.setCells c x vs) ∧
  (∀ j v,vs[j]?=some v→(w.setCells c x vs).cell? ⟨c,x+j,none⟩=some v) ∧
  (∀ o,o<x∨x+vs.length≤o→(w.setCells c x vs).cell? ⟨c,o,none⟩=w.cell? ⟨c,o,none⟩):=by
 have hcell:∀ j,j<vs.length→(w.cell? ⟨c,x+j,none⟩).isSome=true:=fun j hj=>by
  obtain ⟨v,hv⟩:=Zhg hM (show x+j<M by omega)
  rw [hv];rfl
 refine ⟨?_,fun j v hj => ?_,fun o ho => ?_⟩
 ·have:=run_storeCells_cells (P:=P) c x vs 0 w (fun j hj=>by simpa using hcell j hj) (fun j hj=>by simpa using hfree (x+j) (by omega)) h1
  simpa using this
 ·obtain ⟨hlt,rfl⟩:=List.getElem?_eq_some_iff.mp hj
  exact World.cell?_setCells_in c vs x w hcell j hlt
 ·exact World.cell?_setCells_out c vs x w ⟨c,o,none⟩ (fun _ _=>ho)
theorem Zi7 {vs:List Value} {cs:List AV} (hv:VL ι w cs vs) (hc:cs.all AV.isCell=true):∀ v∈vs,v.oneCell'=true:=by
 intro v hm
 obtain ⟨j,hj⟩:=List.getElem?_of_mem hm
 obtain ⟨c,h1,h2⟩:=hv.getV j v hj
 exact V.oneCell (List.all_eq_true.mp hc c (List.mem_of_getElem? h1)) h2
theorem Rel.store {P:Program} {b:Nat} {cs new:List AV} {c d o:Nat} {vs:List Value} (R:Rel ι m w) (hb:m.H[b]?=some (.cells cs true)) (hi:ι[b]?=some (some (c,d)))
  (hv:VL ι w new vs) (hc:new.all AV.isCell=true) (hpos:0<new.length) (hle:o+new.length≤cs.length) (esc:Option Nat) :
  (storeCells ⟨c,d+o,none⟩ vs).run P w=.ok () (w.setCells c (d+o) vs) ∧
  Rel ι { H:=m.H.set b (.cells (Slim.Yz cs o new) true),esc } (w.setCells c (d+o) vs) ∧
  Ext ι m w ι { H:=m.H.set b (.cells (Slim.Yz cs o new) true),esc } (w.setCells c (d+o) vs):=by
 obtain ⟨c',d',g,hC⟩:=R.at' b cs true hb
 rw [hi] at g
 cases g
 obtain ⟨e,M,hM,hfree⟩:=hC.free rfl
 obtain ⟨⟨us,u1,u2⟩,u3,_⟩:=hC
 have hlen:=hv.length
 have hul:=u1.length
 have hx:d+o+vs.length≤M:=by
  obtain ⟨y,hy⟩:∃ y,us[o+vs.length - 1]?=some y:=⟨us[o+vs.length - 1]'(by omega),List.getElem?_eq_getElem (by omega)⟩
  have:=Zhh hM (u2 _ _ hy)
  omega
 obtain ⟨s1,s2,s3⟩:=Zr2 (P:=P) hM hfree (.inr hx) (Zi7 hv hc)
 obtain ⟨f1,f2,f3,f4,f5,f6⟩:=Zb0 c vs (d+o) w
 have hbl:b<m.H.length:=(List.getElem?_eq_some_iff.mp hb).1
 have hset:∀ b',(m.H.set b (.cells (Slim.Yz cs o new) true))[b']?=if b=b' then some (.cells (Slim.Yz cs o new) true) else m.H[b']?:=by
  intro b'
  rw [List.getElem?_set]
  split
  ·simp [hbl]
  ·rfl
 have hothers:∀ b' cs' wr c' d',b≠b'→m.H[b']?=some (.cells cs' wr)→ι[b']?=some (some (c',d'))→(w.setCells c (d+o) vs).heap[c']?=w.heap[c']?:=by
  intro b' cs' wr c' d' hne h1 h2
  exact f2 c' (fun e=>R.inj b b' cs cs' wr c d c' d' hne hb h1 hi h2 e.symm)
 have hall:(Slim.Yz cs o new).all AV.isCell=true:=by
  unfold Slim.Yz
  simp only [List.all_append,Bool.and_eq_true]
  refine ⟨⟨List.all_eq_true.mpr fun y hy=>List.all_eq_true.mp u3 y (List.mem_of_mem_take hy),hc⟩,List.all_eq_true.mpr fun y hy=>List.all_eq_true.mp u3 y (List.mem_of_mem_drop hy)⟩
 refine R.of1 ⟨s1,⟨by simp [R.len],fun b' c' d' h=>by rw [f3];exact R.low b' c' d' h,fun b' cs' wr h => ?_,fun b' es h => ?_,fun b1 b2 k1 k2 c1 d1 c2 d2 hne h1 hk1 h2 hk2 h3 h4 => ?_⟩,
  ⟨Emb.le_refl _,Nat.le_refl _,by rw [f3];exact Nat.le_refl _,f1,fun r hr => ?_,fun r hr hn => ?_,f4,f5,f6⟩⟩
 ·-- blocks
  rw [hset] at h
  split at h
  ·rename_i hbb
   subst hbb
   cases h
   refine ⟨c,d,hi,⟨us.take o++vs++us.drop (o+vs.length),VL.mono (Emb.le_refl _) f1 _ _ (u1.setRange o hv),fun j v hj => ?_⟩,hall,fun _=>⟨e,M,f1 _ _ hM,fun q hq => ?_⟩⟩
   ·by_cases hj1:j<o
    ·rw [List.append_assoc,List.getElem?_append_left (by simp;omega),List.getElem?_take,if_pos hj1] at hj
     rw [s3 (d+j) (by omega)]
     exact u2 j v hj
    ·by_cases hj2:j<o+vs.length
     ·rw [List.append_assoc,List.getElem?_append_right (by simp;omega),List.getElem?_append_left (by simp;omega)] at hj
      have hto:(us.take o).length=o:=by simp;omega
      rw [hto] at hj
      have:=s2 (j - o) v hj
      rwa [show d+o+(j - o)=d+j by omega] at this
     ·rw [List.getElem?_append_right (by simp;omega)] at hj
      have hto:(us.take o++vs).length=o+vs.length:=by simp;omega
      rw [hto,List.getElem?_drop,show o+vs.length+(j - (o+vs.length))=j by omega] at hj
      rw [s3 (d+j) (by omega)]
      exact u2 j v hj
   ·have:((w.setCells c (d+o) vs)).frozen? ⟨c,q,none⟩=w.frozen? ⟨c,q,none⟩:=World.frozen?_setCells c vs (d+o) w _
    rw [this]
    exact hfree q hq
  ·rename_i hne
   obtain ⟨c',d',h1,h2⟩:=R.at' b' cs' wr h
   exact ⟨c',d',h1,h2.mono (Emb.le_refl _) f1 (hothers b' cs' wr c' d' hne h h1)⟩
 ·-- maps
  rw [hset] at h
  split at h
  ·cases h
  ·rename_i hne
   obtain ⟨c',h1,h2⟩:=R.mp b' es h
   exact ⟨c',h1,h2.mono (f2 c' (fun e=>R.sep b b' _ _ c d c' 0 hne hb rfl h trivial hi h1 e.symm))⟩
 ·-- apart
  rw [hset] at h1 h2
  have back:∀ bq kq,(if b=bq then some (Blk.cells (Slim.Yz cs o new) true) else m.H[bq]?)=some kq→∃ kq',m.H[bq]?=some kq'∧(kq.wrt→kq'.wrt)∧(kq.live→kq'.live):=by
   intro bq kq hq
   split at hq
   ·rename_i e;subst e;cases hq;exact ⟨_,hb,fun _=>rfl,fun _=>trivial⟩
   ·exact ⟨kq,hq,id,id⟩
  obtain ⟨a1,q1,w1,_⟩:=back _ _ h1
  obtain ⟨a2,q2,_,l2⟩:=back _ _ h2
  exact R.sep b1 b2 a1 a2 c1 d1 c2 d2 hne q1 (w1 hk1) q2 (l2 hk2) h3 h4
 ·obtain ⟨b',k,d',h1,hk,h2⟩:=hr
  left
  rw [hset] at h1
  split at h1
  ·rename_i e;subst e;exact ⟨b,_,d',hb,rfl,h2⟩
  ·exact ⟨b',k,d',h1,hk,h2⟩
 ·exact f2 r (fun e=>hn ⟨b,_,d,hb,rfl,by rw [e];exact hi⟩)
end
end Go.Proofs.YtemcdiajejekoaaGreatDoor.Slim
namespace Go.Proofs.YtemcdiajejekoaaGreatDoor.Slim
open Go
section
variable {ι : Emb} {m : Mem} {w : World}
theorem Rel.kill (R:Rel ι m w) (b:Nat):Rel ι { m with H:=m.H.set b .dead } w∧Ext ι m w ι { m with H:=m.H.set b .dead } w:=by
 have hset:∀ (b':Nat) cs wr,(m.H.set b .dead)[b']?=some (Blk.cells cs wr)→m.H[b']?=some (Blk.cells cs wr):=by
  intro b' cs wr h
  rw [List.getElem?_set] at h
  split at h
  ·split at h <;> cases h
  ·exact h
 have hlive:∀ (b':Nat) (k:Blk),k.live→(m.H.set b .dead)[b']?=some k→m.H[b']?=some k:=by
  intro b' k hk h
  rw [List.getElem?_set] at h
  split at h
  ·split at h
   ·cases h;cases hk
   ·cases h
  ·exact h
 have hwl:∀ k:Blk,k.wrt→k.live:=fun k hk=>by cases k <;> first | trivial | cases hk
 refine R.of0 ⟨⟨by simp [R.len],R.low,fun b' cs wr h=>R.at' b' cs wr (hset _ _ _ h),fun b' es h=>R.mp b' es (hlive _ _ trivial h),fun b1 b2 k1 k2 c d c' d' hne h1 hk1 h2 hk2=>R.sep b1 b2 k1 k2 c d c' d' hne (hlive _ _ (hwl _ hk1) h1) hk1 (hlive _ _ hk2 h2) hk2⟩,
  ⟨Emb.le_refl _,Nat.le_refl _,Nat.le_refl _,YJ.refl _,fun r hr => ?_,fun _ _ _=>rfl,rfl,rfl,rfl⟩⟩
 obtain ⟨b',k,d',h1,hk,h2⟩:=hr
 exact .inl ⟨b',k,d',hlive _ _ (hwl _ hk) h1,hk,h2⟩
theorem Rel.inplace {P:Program} {b:Nat} {old cs:List AV} {new:List AV} {c d x e M:Nat} {us vs:List Value} (R:Rel ι m w) (hb:m.H[b]?=some (.cells old true))
  (hi:ι[b]?=some (some (c,d))) (hM:w.shape? c=some (e,M)) (hu:VL ι w cs us) (hcell:∀ j v,us[j]?=some v→w.cell? ⟨c,x+j,none⟩=some v) (hcs:cs.all AV.isCell=true)
  (hv:VL ι w new vs) (hc:new.all AV.isCell=true) (hx:vs.length=0∨x+us.length+vs.length≤M) :
  (storeCells ⟨c,x+us.length,none⟩ vs).run P w=.ok () (w.setCells c (x+us.length) vs) ∧
  Rel (ι++[some (c,x)]) { m with H:=m.H.set b .dead++[.cells (cs++new) true] } (w.setCells c (x+us.length) vs) ∧
  Ext ι m w (ι++[some (c,x)]) { m with H:=m.H.set b .dead++[.cells (cs++new) true] } (w.setCells c (x+us.length) vs):=by
 obtain ⟨c',d',g,hC⟩:=R.at' b old true hb
 rw [hi] at g
 cases g
 obtain ⟨e',M',hM',hfree⟩:=hC.free rfl
 rw [hM] at hM'
 cases hM'
 obtain ⟨s1,s2,s3⟩:=Zr2 (P:=P) hM hfree hx (Zi7 hv hc)
 obtain ⟨f1,f2,f3,f4,f5,f6⟩:=Zb0 c vs (x+us.length) w
 have hbl:b<m.H.length:=(List.getElem?_eq_some_iff.mp hb).1
 have hle:Emb.le ι (ι++[some (c,x)]):=fun b p hb=>by
  rw [List.getElem?_append_left];exact hb
  exact (List.getElem?_eq_some_iff.mp hb).1
 have key:∀ b':Nat,(ι++[some (c,x)])[b']?=if b'<ι.length then ι[b']? else if b'=ι.length then some (some (c,x)) else none:=by
  intro b'
  by_cases h1:b'<ι.length
  ·rw [if_pos h1,List.getElem?_append_left h1]
  ·rw [if_neg h1,List.getElem?_append_right (by omega)]
   by_cases h2:b'=ι.length
   ·subst h2;simp
   ·rw [if_neg h2];rw [List.getElem?_eq_none];simp;omega
 have keyH:∀ b':Nat,(m.H.set b .dead++[.cells (cs++new) true])[b']?=if b'<ι.length then (if b=b' then some .dead else m.H[b']?) else if b'=ι.length then some (.cells (cs++new) true) else none:=by
  intro b'
  by_cases h1:b'<ι.length
  ·rw [if_pos h1,List.getElem?_append_left (by simp;rw [←R.len];exact h1),List.getElem?_set]
   split
   ·simp [hbl]
   ·rfl
  ·rw [if_neg h1,List.getElem?_append_right (by simp;rw [←R.len];omega)]
   by_cases h2:b'=ι.length
   ·subst h2;simp [R.len]
   ·rw [if_neg h2];rw [List.getElem?_eq_none];simp [←R.len];omega
 have hclt:c<w.heap.size:=R.low b c d hi
 refine R.of1 ⟨s1,⟨?_,?_,?_,?_,?_⟩,⟨hle,?_,?_,f1,?_,?_,f4,f5,f6⟩⟩
 ·simp [R.len]
 ·intro b' c' d' hb'
  rw [key] at hb'
  rw [f3]
  split at hb'
  ·exact R.low b' c' d' hb'
  ·split at hb'
   ·cases hb';exact hclt
   ·cases hb'
 ·intro b' cs' wr hb'
  simp only [] at hb'
  rw [keyH] at hb'
  split at hb'
  ·rename_i hlt
   split at hb'
   ·cases hb'
   ·rename_i hne
    obtain ⟨c',d',h1,h2⟩:=R.at' b' cs' wr hb'
    exact ⟨c',d',hle _ _ h1,h2.mono hle f1 (f2 c' (fun e=>R.inj b b' old cs' wr c d c' d' hne hb hb' hi h1 e.symm))⟩
  ·split at hb'
   ·rename_i hlt heq
    cases hb'
    refine ⟨c,x,by rw [key,if_neg hlt,if_pos heq],⟨us++vs,VL.mono hle f1 _ _ (hu.append hv),fun j v hj => ?_⟩,by rw [List.all_append,hcs,hc];rfl,fun _=>⟨e,M,f1 _ _ hM,fun q hq => ?_⟩⟩
    ·by_cases hj1:j<us.length
     ·rw [List.getElem?_append_left hj1] at hj
      rw [s3 (x+j) (by omega)]
      exact hcell j v hj
     ·rw [List.getElem?_append_right (by omega)] at hj
      have:=s2 (j - us.length) v hj
      rwa [show x+us.length+(j - us.length)=x+j by omega] at this
    ·rw [World.frozen?_setCells c vs (x+us.length) w _]
     exact hfree q hq
   ·cases hb'
 ·intro b' es hb'
  simp only [] at hb'
  rw [keyH] at hb'
  split at hb'
  ·split at hb'
   ·cases hb'
   ·rename_i hne
    obtain ⟨c',h1,h2⟩:=R.mp b' es hb'
    exact ⟨c',hle _ _ h1,h2.mono (f2 c' (fun e=>R.sep b b' _ _ c d c' 0 hne hb rfl hb' trivial hi h1 e.symm))⟩
  ·split at hb' <;> cases hb'
 ·intro b1 b2 k1 k2 c1 d1 c2 d2 hne h1 hk1 h2 hk2 h3 h4
  simp only [] at h1 h2
  rw [keyH] at h1 h2
  rw [key] at h3 h4
  by_cases l1:b1<ι.length <;> by_cases l2:b2<ι.length
  ·rw [if_pos l1] at h1 h3;rw [if_pos l2] at h2 h4
   split at h1
   ·cases h1;cases hk1
   ·split at h2
    ·cases h2;cases hk2
    ·exact R.sep b1 b2 k1 k2 c1 d1 c2 d2 hne h1 hk1 h2 hk2 h3 h4
  ·rw [if_pos l1] at h1 h3;rw [if_neg l2] at h2 h4
   split at h1
   ·cases h1;cases hk1
   ·rename_i hbb
    split at h4
    ·cases h4
     have hk1':k1.live:=by cases k1 <;> first | trivial | cases hk1
     exact fun e=>R.sep b b1 _ k1 c d c1 d1 hbb hb rfl h1 hk1' hi h3 e.symm
    ·cases h4
  ·rw [if_neg l1] at h1 h3;rw [if_pos l2] at h2 h4
   split at h3
   ·split at h2
    ·cases h2;cases hk2
    ·rename_i hbb
     cases h3
     exact R.sep b b2 _ k2 c d c2 d2 hbb hb rfl h2 hk2 hi h4
   ·cases h3
  ·rw [if_neg l1] at h3;rw [if_neg l2] at h4
   split at h3
   ·split at h4
    ·omega
    ·cases h4
   ·cases h3
 ·simp
 ·rw [f3];exact Nat.le_refl _
 ·rintro r ⟨b',k,d',h1,hk,h2⟩
  simp only [] at h1
  rw [keyH] at h1
  rw [key] at h2
  left
  split at h1
  ·rename_i hlt
   rw [if_pos hlt] at h2
   split at h1
   ·cases h1;cases hk
   ·exact ⟨b',k,d',h1,hk,h2⟩
  ·rename_i hlt
   rw [if_neg hlt] at h2
   split at h2
   ·cases h2;exact ⟨b,_,d,hb,rfl,hi⟩
   ·cases h2
 ·intro r hr hn
  exact f2 r (fun e=>hn ⟨b,_,d,hb,rfl,by rw [e];exact hi⟩)
theorem Zfu (w:World) (need old:Nat) (e:TypeId):need≤grownCap w need old e:=by
 show need≤need+_
 omega
theorem Zb1 {P:Program} {t u e:TypeId} {sz by':Nat} {z:Value} (ty:TypeId) (ts:Array TypeId) (args:Array Value) (hts0:ts[0]?=some t) (hts1:ts[1]?=some u)
  (ht:P.underlying t=some (.slice e)) (hu:(∃ e',P.underlying u=some (.slice e'))∨P.underlying u=some .string) (hsz:szT P e=some sz) (hby:Zjn P e=some by') (hpos:0<by')
  (hz:∀ w:World,(zeroValue e).run P w=.ok z w) (base:Option Addr) (sLen sCap:Nat) (x:Value) (k:Nat) (olds news:List Value) (ha0:args[0]?=some (.slice base sLen sCap)) (ha1:args[1]?=some x)
  (hlen:∀ w:World,(Builtin.lenOf x).run P w=.ok k w) (hsrc:∀ w':World,w'.heap=w.heap→(Builtin.firstCells sz k x).run P w'=.ok news.toArray w')
  (hold:∀ w':World,w'.heap=w.heap→(Builtin.firstCells sz sLen (.slice base sLen sCap)).run P w'=.ok olds.toArray w') :
  (sLen+k≤sCap→(Builtin.append_ ts ty args).run P w=((match base with | some a=>storeCells (a.add (sLen*sz)) news | none=>pure ()).run P w).andThen fun _ w'=>.ok (.slice base (sLen+k) sCap) w') ∧
  (sCap<sLen+k→(sLen+k)*by'≤140737488355328→(Builtin.append_ ts ty args).run P w =
   .ok (.slice (some ⟨w.heap.size,0,none⟩) (sLen+k) (grownCap w (sLen+k) sCap e))
    (w.drew.alloc (.cells (olds.toArray++news.toArray++Builtin.zeroCells z.cells (grownCap w (sLen+k) sCap e - (sLen+k))) e))):=by
 cases hi:P.info? e with
 | none=>simp [szT,hi] at hsz
 | some i=>
  have hs:i.size=sz:=by simpa [szT,hi] using hsz
  have hb:i.bytes=by':=by simpa [Zjn,hi] using hby
  have hzs:(do pure ((←underlying u) matches .int _):Sem Bool).run P w=.ok false w:=by
   rcases hu with ⟨e',hu⟩ | hu <;> simp [run_underlying hu]
  have hzs':∀ (w:World),((underlying u).run P w).andThen (fun a w=>(Sem.run P (pure (a matches .int _):Sem Bool) w))=.ok false w:=by
   intro w
   rcases hu with ⟨e',hu⟩ | hu <;> simp [run_underlying hu]
  refine ⟨fun hc => ?_,fun hg hfit => ?_⟩
  ·have h1:=hsrc w rfl
   rcases hu with ⟨e',hu⟩ | hu <;>
   ·simp only [Builtin.append_,hts0,hts1,ha0,ha1,Sem.run_bind,run_underlying ht,run_underlying hu,Result.andThen_ok,YZ hsz,Sem.run_pure,Bool.false_eq_true,if_false,hlen,hc,if_true,Bool.not_false,h1]
    cases base with
    | none=>simp
    | some a=>simp
  ·have hg':¬ (sLen+k≤sCap):=by omega
   have h63':¬ (9223372036854775807<((sLen+k:Nat):Int)):=by
    have:(sLen+k)*1≤(sLen+k)*by':=Nat.mul_le_mul_left _ hpos
    omega
   have h48':¬ (281474976710656<Builtin.nextslicecap (sLen+k) sCap*i.bytes):=by
    have:=growslice_fits (bytes:=by') hg hfit
    rw [hb];omega
   have h1:=hsrc w.drew rfl
   have h2:=hold w.drew rfl
   have hnf:(Question.appendCap (sLen+k) sCap e).forced=false:=rfl
   rcases hu with ⟨e',hu⟩ | hu <;>
   ·simp only [Builtin.append_,hts0,hts1,ha0,ha1,Sem.run_bind,run_underlying ht,run_underlying hu,Result.andThen_ok,YZ hsz,Sem.run_pure,Bool.false_eq_true,if_false,hlen,hg',Zjp hi,hz]
    have h0:¬ (i.bytes=0):=by omega
    simp [h0,h48',Question.forced,h1,h2,newRow,grownCap,Zjp hi,hz]
    try (congr 2;apply Array.ext';simp)
end
end Go.Proofs.YtemcdiajejekoaaGreatDoor.Slim
namespace Go.Proofs.YtemcdiajejekoaaGreatDoor.Slim
open Go
section
variable {ι : Emb} {m : Mem} {w : World}
def Ze4 (P:Program) (ι:Emb) (m:Mem) (w:World) (ρ:Operand→Value) (o:Oper) (v:AV) (m':Mem):Prop :=
 ∃ (n:Next) (w':World) (ι':Emb) (v':Value),(execOp ρ o).run P w=.ok n w'∧(n=.value v'∨(n=.skip∧v'=undef))∧V ι' w' v v'∧Rel ι' m' w'∧Ext ι m w ι' m' w'
theorem Ze4.of_does {P:Program} {ρ:Operand→Value} {o:Oper} {v:AV} (R:Rel ι m w) (h:ZBJ P ι w ρ o v):Ze4 P ι m w ρ o v m:=by
 obtain ⟨v',h1,h2⟩:=h
 exact ⟨.value v',w,ι,v',h1,.inl rfl,h2,R,Ext.refl _ _ _⟩
theorem KX (ι:Emb) (p:Nat×Nat):(ι++[some p])[ι.length]?=some (some p):=by simp
theorem Ze4.of_makes {P:Program} {ρ:Operand→Value} {o:Oper} {cs:List AV} {f:Nat→AV} (R:Rel ι m w) (h:ZAN P ι w ρ o cs f) :
  Ze4 P ι m w ρ o (f m.H.length) (newBlk m cs):=by
 obtain ⟨vs,e,v',h1,h2,h3,h4⟩:=h
 obtain ⟨r1,r2⟩:=R.alloc (e:=e) h2 h3 []
 rw [List.append_nil] at r1 r2
 exact ⟨.value v',_,_,v',h1,.inl rfl,h4 _ _ _ (by rw [←R.len];exact KX _ _) (YJ.refl _),r1,r2⟩
theorem Zf4 (z:Array Value) (n:Nat):(Builtin.zeroCells z n).size=n*z.size:=by simp [Builtin.zeroCells]
theorem Zu1 {P:Program} {str:Bool} {sz k:Nat} {a:AV} {x:Value} {cs:List AV} (R:Rel ι m w) (hv:V ι w a x) (h:YK str m.H a=some (k,cs)) (hsz:cs.length=k*sz) (hstr:str=true→sz=1) :
  ∃ news:List Value,VL ι w cs news∧cs.all AV.isCell=true∧(∀ w:World,(Builtin.lenOf x).run P w=.ok k w) ∧
   (∀ w':World,w'.heap=w.heap→(Builtin.firstCells sz k x).run P w'=.ok news.toArray w'):=by
 unfold YK at h
 split at h
 ·split at h
  ·cases h
  cases h
  obtain ⟨_,rfl⟩:=hv
  exact ⟨[],rfl,rfl,fun w=>by simp [Builtin.lenOf],fun w' _=>by simp [Builtin.firstCells]⟩
 ·rename_i b o sz' n cp
  split at h
  ·cases h
  split at h
  ·cases h
  ·rename_i old hcs
   split at h
   ·rename_i hle
    simp only [Option.some.injEq,Prod.mk.injEq] at h
    obtain ⟨rfl,rfl⟩:=h
    obtain ⟨c,d,xo,k',e',M,g1,rfl,g3,g4,g5,g6,g7⟩:=hv
    obtain ⟨wr,hb⟩:=Zft hcs
    obtain ⟨c',d',g8,hC⟩:=R.at' b old wr hb
    rw [g1] at g8
    cases g8
    obtain ⟨vs,l1,l2,l3⟩:=hC.stretch o (n*sz') hle
    have hl:n*sz'=n*sz:=by rw [←hsz];simp;omega
    refine ⟨vs,l2,all_sub hC.cell _ _,fun w=>by simp [Builtin.lenOf],fun w' hw' => ?_⟩
    have hld:(loadCells ⟨c,xo,none⟩ (n*sz)).run P w'=.ok vs.toArray w':=by
     rcases g4 with rfl | ⟨rfl,rfl⟩
     ·have:=run_loadCells_list (P:=P) w' ⟨c,d+o,none⟩ vs (fun j v hj=>by rw [←l3 j v hj];simp [World.cell?,hw'])
      rwa [l1,hl] at this
     ·have:vs=[]:=by simpa using l1
      subst this
      simp [loadCells,loadCellsFrom]
    simp [Builtin.firstCells,hld]
   ·cases h
 ·rename_i s
  split at h
  case isFalse=>cases h
  rename_i hst
  cases h
  have h1:=hstr hst
  subst h1
  cases hv
  refine ⟨s.data.toList.map fun b=>Value.int .u8 b.toNat,VL.map_of (f:=fun b:UInt8=>AV.int .u8 b.toNat) (g:=fun b:UInt8=>Value.int .u8 b.toNat) _ (fun b _=>rfl),?_,fun w=>by simp [Builtin.lenOf],fun w' _ => ?_⟩
  ·rw [List.all_eq_true];intro y hy;simp only [Zhd,List.mem_map] at hy;obtain ⟨b,_,rfl⟩:=hy;rfl
  ·have hx:s.extract 0 s.size=s:=ByteArray.extract_zero_size
   simp only [Builtin.firstCells,hx,Sem.run_pure]
   congr 1
   apply Array.ext'
   simp
 ·cases h
theorem Zom {P:Program} {str:Bool} {t u e:TypeId} {sz by':Nat} {zs:List AV} (ty:TypeId) (ts:Array TypeId) (args:Array Value) (hts0:ts[0]?=some t) (hts1:ts[1]?=some u)
  (ht:P.underlying t=some (.slice e)) (hu:(str=false∧∃ e',P.underlying u=some (.slice e'))∨(P.underlying u=some .string∧sz=1)) (hsz:szT P e=some sz) (hby:Zjn P e=some by') (hpos:0<by') (hsp:0<sz)
  (hz:Zli P e=some zs) (hzl:zs.length=sz) {s x:AV} {s' x':Value} (ha0:args[0]?=some s') (ha1:args[1]?=some x') (R:Rel ι m w) (hs:V ι w s s') (hx:V ι w x x')
  {f:FuncId→List AV→Mem→Option (AV×Mem)} {g:X→AV} {xs xx:X} (e1:g xs=s) (e2:g xx=x) {v:AV} {m':Mem}
  (h:ZbY f g m (.append str sz by' xs xx)=some (v,m')) :
  ∃ (w':World) (ι':Emb) (v':Value),(Builtin.append_ ts ty args).run P w=.ok v' w'∧V ι' w' v v'∧Rel ι' m' w'∧Ext ι m w ι' m' w':=by
 obtain ⟨z,hz1,hz2,hz3⟩:=Zex (ι:=ι) (w:=w) hz
 have hzs:z.cells.size=sz:=by have:=hz2.length;simp at this;omega
 have hu':(∃ e',P.underlying u=some (.slice e'))∨P.underlying u=some .string:=hu.imp And.right And.left
 have hstr':str=true→sz=1:=fun hq=>by
  rcases hu with ⟨hf,_⟩|⟨_,hu⟩
  ·rw [hq] at hf;cases hf
  ·exact hu
 simp only [ZbY,e1,e2] at h
 split at h
 ·-- nil
  rename_i sz0 n0 cp0
  obtain ⟨rfl,rfl⟩:=hs
  split at h
  ·rename_i k cs hsrc
   split at h
   ·rename_i hk
    subst hk
    cases h
    have hcs:cs.length=0*sz:=by
     unfold YK at hsrc
     split at hsrc
     ·split at hsrc
      ·cases hsrc
      ·cases hsrc;simp
     ·split at hsrc
      ·cases hsrc
      split at hsrc
      ·cases hsrc
      ·split at hsrc
       ·simp only [Option.some.injEq,Prod.mk.injEq] at hsrc
        obtain ⟨rfl,rfl⟩:=hsrc
        simp
       ·cases hsrc
     ·split at hsrc
      case isFalse=>cases hsrc
      simp only [Option.some.injEq,Prod.mk.injEq] at hsrc
      obtain ⟨h1,rfl⟩:=hsrc
      show (List.map _ _).length=_
      rw [List.length_map,Nat.zero_mul]
      exact h1
     ·cases hsrc
    obtain ⟨news,s1,s2,s3,s4⟩:=Zu1 (P:=P) R hx hsrc hcs hstr'
    have hn:news=[]:=by have:=s1.length;simp at hcs;rw [hcs] at this;simpa using this
    subst hn
    obtain ⟨A,_⟩:=Zb1 (P:=P) (w:=w) ty ts args hts0 hts1 ht hu' hsz hby hpos hz1 none 0 0 x' 0 [] [] ha0 ha1 s3 s4 (fun w' _=>by simp [Builtin.firstCells])
    exact ⟨w,ι,.slice none 0 0,by rw [A (Nat.le_refl _)];simp,⟨rfl,rfl⟩,R,Ext.refl _ _ _⟩
   ·split at h
    ·rename_i hk hc
     cases h
     obtain ⟨news,s1,s2,s3,s4⟩:=Zu1 (P:=P) R hx hsrc hc.2 hstr'
     obtain ⟨_,B⟩:=Zb1 (P:=P) (w:=w) ty ts args hts0 hts1 ht hu' hsz hby hpos hz1 none 0 0 x' k [] news ha0 ha1 s3 s4 (fun w' _=>by simp [Builtin.firstCells])
     have hfit:(0+k)*by'≤140737488355328:=by have:=hc.1;unfold maxBytes at this;rw [Nat.zero_add];omega
     have hrun:=B (by omega) hfit
     have hge:=Zfu w (0+k) 0 e
     generalize hcap:grownCap w (0+k) 0 e=cap at *
     have hR:=R.drew
     obtain ⟨r1,r2⟩:=hR.alloc (e:=e) (VL.mono (Emb.le_refl _) (w:=w) (w':=w.drew) (fun _ _ h=>h) _ _ s1) s2 (Builtin.zeroCells z.cells (cap - (0+k))).toList
     refine ⟨_,_,.slice (some ⟨w.heap.size,0,none⟩) (0+k) cap,?_,?_,r1,(Ext.drew ι m w).trans r2⟩
     ·rw [hrun]
      congr 2
      congr 1
      apply Array.ext'
      simp
     ·have hnl:=s1.length
      refine ⟨w.heap.size,0,0,cap,e,_,by rw [←R.len];exact KX _ _,by rw [Nat.zero_add],by omega,.inl rfl,QL w.drew _ e,?_,fun q hq=>by cases hq⟩
      simp only [List.length_append,Array.length_toList,Zf4,hzs,hnl,hc.2]
      rw [Nat.zero_add,←Nat.add_mul]
      right
      apply Nat.mul_le_mul_right
      omega
    ·cases h
  ·cases h
 ·-- a slice in memory
  rename_i b o sz' n cap
  obtain ⟨c,d,xo,kc,e',M,g1,rfl,g3,g4,g5,g6,g7⟩:=hs
  split at h
  ·rename_i old wr k cs hb hsrc
   split at h
   ·rename_i hcond
    obtain ⟨rfl,hmax,hcs,hle⟩:=hcond
    obtain ⟨c',d',g8,hC⟩:=R.at' b old wr hb
    rw [g1] at g8
    cases g8
    obtain ⟨news,s1,s2,s3,s4⟩:=Zu1 (P:=P) R hx hsrc hcs hstr'
    obtain ⟨olds,o1,o2,o3⟩:=hC.stretch o (n*sz') hle
    have hnl:=s1.length
    have hold:∀ w':World,w'.heap=w.heap→(Builtin.firstCells sz' n (.slice (some ⟨c,xo,none⟩) n kc)).run P w'=.ok olds.toArray w':=by
     intro w' hw'
     have hld:(loadCells ⟨c,xo,none⟩ (n*sz')).run P w'=.ok olds.toArray w':=by
      rcases g4 with rfl | ⟨rfl,rfl⟩
      ·have:=run_loadCells_list (P:=P) w' ⟨c,d+o,none⟩ olds (fun j v hj=>by rw [←o3 j v hj];simp [World.cell?,hw'])
       rwa [o1] at this
      ·have:olds=[]:=by simpa using o1
       subst this
       simp [loadCells,loadCellsFrom]
     simp [Builtin.firstCells,hld]
    obtain ⟨A,B⟩:=Zb1 (P:=P) (w:=w) ty ts args hts0 hts1 ht hu' hsz hby hpos hz1 (some ⟨c,xo,none⟩) n kc x' k olds news ha0 ha1 s3 s4 hold
    have hfit:(n+k)*by'≤140737488355328:=by unfold maxBytes at hmax;omega
    -- where it grows
    have grow:∀ (m₁:Mem) (cs₁:List AV),Rel ι m₁ w→kc<n+k→VL ι w cs₁ (olds++news)→cs₁.all AV.isCell=true→m₁.H.length=m.H.length →
      ∃ (w':World) (ι':Emb) (v':Value),(Builtin.append_ ts ty args).run P w=.ok v' w'∧V ι' w' (.slice (some (m.H.length,0)) sz' (n+k) none) v'∧Rel ι' (newBlk m₁ cs₁) w'∧Ext ι m₁ w ι' (newBlk m₁ cs₁) w':=by
     intro m₁ cs₁ R₁ hlt hv₁ hc₁ hlen₁
     have hrun:=B hlt hfit
     have hge:=Zfu w (n+k) kc e
     generalize hcapq:grownCap w (n+k) kc e=cp at *
     obtain ⟨r1,r2⟩:=R₁.drew.alloc (e:=e) (VL.mono (Emb.le_refl _) (w:=w) (w':=w.drew) (fun _ _ h=>h) _ _ hv₁) hc₁ (Builtin.zeroCells z.cells (cp - (n+k))).toList
     refine ⟨_,_,.slice (some ⟨w.heap.size,0,none⟩) (n+k) cp,?_,?_,r1,(Ext.drew ι m₁ w).trans r2⟩
     ·rw [hrun]
      congr 2
      congr 1
      apply Array.ext'
      simp
     ·refine ⟨w.heap.size,0,0,cp,e,_,by rw [←hlen₁,←R₁.len];exact KX _ _,rfl,by omega,.inl rfl,QL w.drew _ e,?_,fun q hq=>by cases hq⟩
      simp only [List.length_append,Array.length_toList,Zf4,hzs,hnl,hcs,o1]
      rw [Nat.zero_add,←Nat.add_mul,←Nat.add_mul]
      right
      apply Nat.mul_le_mul_right
      omega
    split at h
    ·rename_i hcap
     cases h
     have hk0:=g7 0 hcap.1
     have hn0:n=0:=by omega
     subst hn0
     have ho0:olds=[]:=by simpa using o1
     subst ho0
     exact grow m cs R (by omega) s1 s2 rfl
    ·split at h
     ·rename_i hw
      subst hw
      cases h
      by_cases hfitin:n+k≤kc
      ·-- in place
       have hx0:news.length=0∨xo+olds.length+news.length≤M:=by
        rw [o1,hnl,hcs]
        rcases g6 with g6 | g6
        ·left
         have:k=0:=by omega
         rw [this,Nat.zero_mul]
        right
        have:n*sz'+k*sz'≤kc*sz':=by rw [←Nat.add_mul];exact Nat.mul_le_mul_right _ hfitin
        omega
       have hcell:∀ j v,olds[j]?=some v→w.cell? ⟨c,xo+j,none⟩=some v:=by
        intro j v hj
        rcases g4 with rfl | ⟨rfl,_⟩
        ·have:=o3 j v hj
         rwa [Zm2] at this
        ·have:olds=[]:=by simpa using o1
         subst this
         simp at hj
       obtain ⟨r0,r1,r2⟩:=Rel.inplace (P:=P) R hb g1 g5 o2 hcell (all_sub hC.cell _ _) s1 s2 hx0
       refine ⟨_,_,.slice (some ⟨c,xo,none⟩) (n+k) kc,?_,?_,r1,r2⟩
       ·rw [A hfitin]
        show ((storeCells ((⟨c,xo,none⟩:Addr).add (n*sz')) news).run P w).andThen _=_
        rw [Zm2,←o1,r0]
        rfl
       ·exact ⟨c,xo,xo,kc,e',M,by rw [←R.len];exact KX _ _,rfl,hfitin,.inl rfl,r2.shapes _ _ g5,g6,fun q hq=>by cases hq⟩
      ·obtain ⟨R₁,E₁⟩:=R.kill b
       obtain ⟨w',ι',v',q1,q2,q3,q4⟩:=grow { m with H:=m.H.set b .dead } ((old.drop o).take (n*sz')++cs) R₁ (by omega) (o2.append s1) (by rw [List.all_append,all_sub hC.cell,s2];rfl) (by simp)
       exact ⟨w',ι',v',q1,q2,q3,E₁.trans q4⟩
     ·cases h
   ·cases h
  ·cases h
 ·cases h
theorem ZsT (w:World) (c:Array Value) (e:TypeId) (n:Nat):(w.alloc (.cells c e)).freeze ⟨w.heap.size,n,none⟩ 1=w.alloc (.cells c e (n,n+1)):=by
 simp only [World.freeze,Nat.one_ne_zero,if_false,World.alloc]
 congr 1
 apply Array.ext_getElem?
 intro i
 rw [Array.getElem?_modify,Array.getElem?_push,Array.getElem?_push]
 by_cases h:w.heap.size=i
 ·subst h;simp
 ·rw [if_neg h,if_neg (fun e=>h e.symm),if_neg (fun e=>h e.symm)]
def Zbr (s:ByteArray):List Value:=s.data.toList.map fun b=>.int .u8 b.toNat
theorem Zjv (s:ByteArray):(Zbr s).length=s.size:=by simp [Zbr]
theorem ZzH {l:Int} (h0:0≤l) (h1:l≤35184372088832):IntKind.i64.wrap l=l:=by
 unfold IntKind.wrap
 simp only [IntKind.bits,IntKind.signed]
 have:l % (2 ^ 64:Int)=l:=Int.emod_eq_of_lt h0 (by omega)
 simp only [this]
 rw [if_neg]
 simp
 omega
theorem ZaN {f:FuncId→List AV→Mem→Option (AV×Mem)} {g:X→AV} {ao:AO} (h:ao.kind≠3):ZbY f g m ao=none:=by
 cases ao <;> first | rfl | (exact absurd rfl h)
def Zu2 (P:Program) (ι:Emb) (w:World) (ρ:Operand→Value) (o:Oper) (f:FuncId) (args:List AV):Prop :=
 ∃ vs : List Value, VL ι w args vs ∧ ∀ fn, P.funcs[f]? = some fn → fn.body.isSome = true → fn.name ≠ "runtime.NumGoroutine" → (execOp ρ o).run P w = .ok (.enter f vs.toArray) w
theorem ZxV {P:Program} {f:FuncId→List AV→Mem→Option (AV×Mem)} {cx:Zf1} {g:X→AV} {ρ:Operand→Value} (hρ:OkX ι w cx g ρ) (R:Rel ι m w) (o:Oper) {ao:AO} {v:AV} {m':Mem}
  (hc:Zi P cx o.op=some ao) (hl:ZbY f g m ao=some (v,m')) :
  Ze4 P ι m w ρ o v m'∨∃ k args,f k args m=some (v,m')∧Zu2 P ι w ρ o k args:=by
 obtain ⟨dst,op,ty,pos,aft,gd⟩:=o
 cases op with
 | store t a x=>
  left
  simp only [Zi,Option.bind_eq_bind,Option.bind_eq_some_iff,Option.pure_def,Option.some.injEq] at hc
  obtain ⟨sz,hsz,a',ha,x',hx,rfl⟩:=hc
  simp only [ZbY] at hl
  have h1:=hρ _ _ ha
  have h2:=hρ _ _ hx
  split at hl
  ·rename_i b o new e1 e2
   rw [e1] at h1
   obtain ⟨n1,n2⟩:=h2.cells e2
   split at hl
   ·rename_i cs hb
    split at hl
    ·rename_i hcond
     obtain ⟨k1,k2,k3⟩:=hcond
     cases hl
     obtain ⟨c,d,g1,g2⟩:=h1
     have hp:0<new.length:=by omega
     have hle:o+new.length≤cs.length:=by omega
     obtain ⟨s1,s2,s3⟩:=R.store (P:=P) hb g1 n1 n2 hp hle (if (new.all fun v=>v.under (b+1)) then m.esc else Z6 m.esc b)
     have hl2:=n1.length
     refine ⟨.skip,_,ι,undef,?_,.inr ⟨rfl,rfl⟩,⟨[],rfl,rfl⟩,s2,s3⟩
     have hsize:(ρ x).cells.size=sz:=by simp at hl2;omega
     simp only [execOp,Instr.storeAt,g2,Instr.sureAddr,Sem.run_bind,Sem.run_pure,Result.andThen_ok,storeVar,YZ hsz,hsize,ne_eq,not_true_eq_false,if_false,s1]
    ·cases hl
   ·cases hl
  ·cases hl
 | convert src dst x=>
  left
  simp only [Zi] at hc
  split at hc
  ·simp only [Option.map_eq_some_iff] at hc
   obtain ⟨x',hx,rfl⟩:=hc
   cases hl
  ·simp only [Option.map_eq_some_iff] at hc
   obtain ⟨x',hx,rfl⟩:=hc
   cases hl
  ·rename_i e h1 h2
   split at hc
   ·rename_i h3 h4
    simp only [Option.map_eq_some_iff] at hc
    obtain ⟨x',hx,rfl⟩:=hc
    simp only [ZbY] at hl
    have hv:=hρ _ _ hx
    split at hl
    ·rename_i s ee;rw [ee] at hv
     split at hl
     ·rename_i hmax
      cases hl
      have hcap:=Zfu w s.size 0 e
      generalize hcp:grownCap w s.size 0 e=cp at *
      have hnl:=Zjv s
      have hcell:((Zhd s).all AV.isCell)=true:=by
       rw [List.all_eq_true];intro y hy;simp only [Zhd,List.mem_map] at hy;obtain ⟨b,_,rfl⟩:=hy;rfl
      have hbv:VL ι w.drew (Zhd s) (Zbr s):=VL.map_of (f:=fun b:UInt8=>AV.int .u8 b.toNat) (g:=fun b:UInt8=>Value.int .u8 b.toNat) _ (fun b _=>rfl)
      have hlen:(Zbr s++List.replicate (cp - s.size) (Value.int .u8 0)).length=cp:=by
       rw [List.length_append,hnl,List.length_replicate];omega
      obtain ⟨r1,r2⟩:=R.drew.allocF (e:=e) (fz:=(cp,cp+1)) hbv hcell (List.replicate (cp - s.size) (Value.int .u8 0)) (fun o ho=>by rw [hlen] at ho;simp;omega)
      refine ⟨_,_,_,.slice (some ⟨w.heap.size,0,none⟩) s.size cp,?_,.inl rfl,?_,r1,(Ext.drew ι m w).trans r2⟩
      ·have hnf:(Question.appendCap s.size 0 e).forced=false:=rfl
       have hsh:=QL w.drew (Zbr s++List.replicate (cp - s.size) (Value.int .u8 0)) e
       have harr:(s.data.map fun b=>Value.int .u8 b.toNat)++Array.replicate (cp - s.size) (Value.int .u8 0)=(Zbr s++List.replicate (cp - s.size) (Value.int .u8 0)).toArray:=by
        apply Array.ext';simp [Zbr]
       rw [hlen] at hsh
       have hfe:=ZsT w.drew (Zbr s++List.replicate (cp - s.size) (Value.int .u8 0)).toArray e cp
       unfold grownCap at hcp
       simp only [execOp,V.str_inv hv,convert,Sem.run_bind,run_underlying h1,run_underlying h2,run_underlying h3,Result.andThen_ok,Conv.stringToBytes,run_choose,hnf,Bool.false_eq_true,if_false]
       simp only [World.drew_eq,newRow,Sem.run_bind,run_newObj,Result.andThen_ok,Sem.run_pure,World.alloc_eq,markStringish,run_shape]
       simp only [hcp,harr]
       simp only [World.size_drew] at hsh hfe ⊢
       rw [hsh]
       simp only [run_freeze,hfe,Result.andThen_ok,Sem.run_pure]
      ·refine ⟨w.heap.size,0,0,cp,e,cp,by rw [←R.len];exact KX _ _,rfl,hcap,.inl rfl,?_,by omega,fun q hq=>by cases hq⟩
       unfold World.shape?
       rw [show w.heap.size=w.drew.heap.size from rfl,heap_alloc_new]
       simp only [List.size_toArray,hlen]
     ·cases hl
    ·cases hl
   ·cases hc
  ·split at hc
   ·simp only [Option.map_eq_some_iff] at hc
    obtain ⟨_,_,rfl⟩:=hc
    cases hl
   ·cases hc
  ·cases hc
 | mapUpdate t x k y=>
  left
  simp only [Zi] at hc
  split at hc
  ·rename_i hT
   simp only [Option.bind_eq_bind,Option.bind_eq_some_iff,Option.pure_def,Option.some.injEq] at hc
   obtain ⟨x',hx,k',hk,y',hy,rfl⟩:=hc
   obtain ⟨kt,e,ht,K,he,hkk⟩:=Zce hT
   simp only [ZbY] at hl
   have hv:=hρ _ _ hx
   have hvk:=hρ _ _ hk
   have hvy:=hρ _ _ hy
   split at hl
   ·rename_i b z n ex ek ey
    rw [ex] at hv
    rw [ey] at hvy
    obtain ⟨c,d,g1,hxa⟩:=hv
    split at hl
    ·rename_i es hb
     obtain ⟨c',g2,hM⟩:=R.mp b es hb
     rw [g1] at g2
     cases g2
     obtain ⟨h3,h64,hka⟩:=Zqp ek hvk
     obtain ⟨l,hlk⟩:=hkk z h3 h64
     obtain ⟨o,s1,s2⟩:=MapAt.update K ht hM hkk h3 h64 hlk n
     obtain ⟨r1,r2⟩:=R.putMap hb g1 hM s2
     cases hl
     have hyv:ρ y=.int .i64 n:=hvy
     refine ⟨.skip,_,ι,undef,?_,.inr ⟨rfl,rfl⟩,⟨[],rfl,rfl⟩,r1,r2⟩
     simp only [execOp,hxa,hka,hyv,Sem.run_bind,s1,Result.andThen_ok,Sem.run_pure]
    ·cases hl
   ·cases hl
  ·cases hc
 | insert t x k y=>
  left
  simp only [Zi] at hc
  split at hc
  ·rename_i hT
   simp only [Option.bind_eq_bind,Option.bind_eq_some_iff,Option.pure_def,Option.some.injEq] at hc
   obtain ⟨x',hx,k',hk,y',hy,rfl⟩:=hc
   obtain ⟨kt,e,ht,K,he,hkk⟩:=Zce hT
   simp only [ZbY] at hl
   have hv:=hρ _ _ hx
   have hvk:=hρ _ _ hk
   have hvy:=hρ _ _ hy
   split at hl
   ·rename_i b z n ex ek ey
    rw [ex] at hv
    rw [ey] at hvy
    obtain ⟨c,d,g1,hxa⟩:=hv
    split at hl
    ·rename_i es hb
     obtain ⟨c',g2,hM⟩:=R.mp b es hb
     rw [g1] at g2
     cases g2
     obtain ⟨h3,h64,hka⟩:=Zqp ek hvk
     obtain ⟨l,hlk⟩:=hkk z h3 h64
     obtain ⟨o,s1,s2⟩:=MapAt.update K ht hM hkk h3 h64 hlk n
     obtain ⟨r1,r2⟩:=R.putMap hb g1 hM s2
     cases hl
     have hyv:ρ y=.int .i64 n:=hvy
     refine ⟨.skip,_,ι,undef,?_,.inr ⟨rfl,rfl⟩,⟨[],rfl,rfl⟩,r1,r2⟩
     simp only [execOp,hxa,hka,hyv,Sem.run_bind,s1,Result.andThen_ok,Sem.run_pure]
    ·cases hl
   ·cases hl
  ·cases hc
 | makeMap t r=>
  left
  cases r with
  | some r=>cases hc
  | none=>
   simp only [Zi] at hc
   split at hc
   ·rename_i hT
    obtain ⟨kt,e,ht,K,he,hkk⟩:=Zce hT
    cases hc
    cases hl
    obtain ⟨r1,r2⟩:=R.newMap
    refine ⟨_,_,_,.map (some w.heap.size),?_,.inl rfl,⟨_,0,by rw [←R.len];exact KX _ _,rfl⟩,r1,r2⟩
    simp [execOp,Instr.makeMap,run_newObj,World.alloc_eq]
   ·cases hc
 | makeSlice t l c=>
  left
  simp only [Zi] at hc
  split at hc
  ·rename_i e hu
   simp only [Option.bind_eq_bind,Option.bind_eq_some_iff] at hc
   obtain ⟨sz,hsz,by',hby,zero,hz,hc⟩:=hc
   split at hc
   ·rename_i hcond
    simp only [Bool.and_eq_true,decide_eq_true_eq,beq_iff_eq] at hcond
    simp only [Option.bind_eq_some_iff,Option.pure_def,Option.some.injEq] at hc
    obtain ⟨l',hl',c',hc',rfl⟩:=hc
    simp only [ZbY] at hl
    have h1:=hρ _ _ hl'
    have h2:=hρ _ _ hc'
    split at hl
    ·rename_i i j e1 e2
     rw [e1] at h1;rw [e2] at h2
     split at hl
     ·rename_i hb
      obtain ⟨b1,rfl,b3⟩:=hb
      cases hl
      obtain ⟨⟨c0,c1⟩,c2⟩:=hcond
      obtain ⟨z,hz1,hz2,hz3⟩:=Zex (ι:=ι) (w:=w) hz
      have hzl:z.cells.toList.length=sz:=by rw [hz2.length,c2]
      have hb3:i≤35184372088832:=by
       unfold maxBytes at b3
       have:i*1≤i*(by':Int):=Int.mul_le_mul_of_nonneg_left (by omega) b1
       omega
      have hwr:=ZzH b1 hb3
      cases hi:P.info? e with
      | none=>simp [szT,hi] at hsz
      | some inf=>
       have hbb:inf.bytes=by':=by simpa [Zjn,hi] using hby
       have hall:(Zjl i.toNat zero).all AV.isCell=true:=by
        unfold Zjl
        rw [List.all_eq_true]
        intro y hy
        simp only [List.mem_flatten,List.mem_replicate] at hy
        obtain ⟨l,⟨_,rfl⟩,hy⟩:=hy
        exact List.all_eq_true.mp hz3 y hy
       obtain ⟨r1,r2⟩:=R.alloc (e:=e) (VL.flatten hz2 i.toNat) hall []
       rw [List.append_nil] at r1 r2
       have hzeros:=Zr1 z.cells.toList i.toNat
       rw [hzl] at hzeros
       have harr:(Array.range (i.toNat*sz)).map (fun j=>z.cells[j % z.cells.size]!)=(List.replicate i.toNat z.cells.toList).flatten.toArray:=by
        apply Array.ext'
        rw [←hzeros]
       refine ⟨_,_,_,.slice (some ⟨w.heap.size,0,none⟩) i.toNat i.toNat,?_,.inl rfl,?_,r1,r2⟩
       ·have hex:execOp ρ ⟨dst,.makeSlice t l c,ty,pos,aft,gd⟩=(do pure (.value (←Instr.makeSlice t (ρ l) (ρ c)))):=rfl
        have ht:¬ (i<0∨(inf.bytes:Int)*i>2 ^ 48):=by
         rw [hbb,Int.mul_comm]
         unfold maxBytes at b3
         omega
        rw [hex]
        simp only [Instr.makeSlice,Sem.run_bind,run_underlying hu,Result.andThen_ok,V.int_inv h1,V.int_inv h2,asInt,asIntOf,Sem.run_pure,Zjp hi,hwr]
        rw [if_neg (by simp;omega)]
        simp only [Sem.run_bind,run_askRoom,Result.andThen_ok,YZ hsz]
        by_cases h0:i.toNat*sz=0
        ·rw [if_pos h0]
         have e0:(List.replicate i.toNat z.cells.toList).flatten=[]:=by
          apply List.eq_nil_of_length_eq_zero
          simp only [List.length_flatten,List.map_replicate,List.sum_replicate_nat,hzl]
          exact h0
         have e1:∀ q:Array Value,(Array.range (i.toNat*sz)).map (fun j=>q[j % q.size]!) = #[]:=by
          intro q;rw [h0];apply Array.ext';simp
         simp only [Sem.run_bind,Sem.run_pure,Result.andThen_ok,newRow,run_newObj,e1,e0,World.alloc_eq]
        ·rw [if_neg h0]
         simp only [Sem.run_bind,hz1,Sem.run_pure,Result.andThen_ok,newRow,run_newObj,harr,World.alloc_eq]
       ·refine ⟨w.heap.size,0,0,i.toNat,e,_,by rw [←R.len];exact KX _ _,rfl,Nat.le_refl _,.inl rfl,QL w _ e,?_,fun q hq=>by cases hq;rfl⟩
        simp [hzl]
     ·cases hl
    ·cases hl
   ·cases hc
  ·cases hc
 | call c=>
  simp only [Zi,ZcO] at hc
  split at hc
  ·rename_i fo hcal
   right
   simp only [Option.bind_eq_bind,Option.bind_eq_some_iff,Option.pure_def,Option.some.injEq] at hc
   obtain ⟨x,hx,xs,hxs,rfl⟩:=hc
   simp only [ZbY] at hl
   have hv:=hρ _ _ hx
   split at hl
   ·rename_i k first cap e
    rw [e] at hv
    obtain ⟨us,vs,q1,q2,q3⟩:=hv
    obtain ⟨ws,e1,q4⟩:=Zjr hρ hxs
    refine ⟨k,_,hl,us++ws++vs,(q2.append q4).append q3,fun fn hf hb hn => ?_⟩
    obtain ⟨bd,hbd⟩:=Option.isSome_iff_exists.mp hb
    simp only [execOp,resolve,hcal,q1,Deferred.ofValue,pure_bind,invoke,callFunc]
    simp [hf,hbd,hn,e1]
   ·cases hl
  ·-- len
   split at hc
   ·split at hc
    ·simp only [Option.map_eq_some_iff] at hc;obtain ⟨_,_,rfl⟩:=hc;cases hl
    ·simp only [Option.map_eq_some_iff] at hc;obtain ⟨_,_,rfl⟩:=hc;cases hl
    ·cases hc;cases hl
    ·split at hc
     ·simp only [Option.map_eq_some_iff] at hc;obtain ⟨_,_,rfl⟩:=hc;cases hl
     ·cases hc
    ·cases hc
   ·cases hc
  ·-- append
   rename_i hcal
   left
   have hex:execOp ρ ⟨dst,.call c,ty,pos,aft,gd⟩=(do pure (.value (←Builtin.append_ c.argTypes ty (c.args.map ρ)))):=by
    simp only [execOp,resolve,hcal];rfl
   split at hc
   ·rename_i t u s x ht hu hs hx
    have a0:(c.args.map ρ)[0]?=some (ρ s):=by simp [hs]
    have a1:(c.args.map ρ)[1]?=some (ρ x):=by simp [hx]
    split at hc
    ·rename_i e e' hut huu
     simp only [Option.bind_eq_bind,Option.bind_eq_some_iff] at hc
     obtain ⟨sz,hsz,by',hby,s',hs',x',hx',hc⟩:=hc
     split at hc
     ·rename_i hcond
      simp only [Bool.and_eq_true,decide_eq_true_eq,beq_iff_eq,Option.map_eq_some_iff] at hcond
      obtain ⟨⟨c1,c2⟩,zs,c3,c4⟩:=hcond
      cases hc
      obtain ⟨w',ι',v',r1,r2,r3,r4⟩:=Zom (P:=P) (u:=u) ty c.argTypes (c.args.map ρ) ht hu hut (.inl ⟨rfl,e',huu⟩) hsz hby c1 c2 c3 c4 a0 a1 R (hρ _ _ hs') (hρ _ _ hx') rfl rfl hl
      exact ⟨_,w',ι',v',by rw [hex];simp [r1],.inl rfl,r2,r3,r4⟩
     ·cases hc
    ·rename_i e hut huu
     simp only [Option.bind_eq_bind,Option.bind_eq_some_iff] at hc
     obtain ⟨sz,hsz,by',hby,s',hs',x',hx',hc⟩:=hc
     split at hc
     ·rename_i hcond
      simp only [Bool.and_eq_true,decide_eq_true_eq,beq_iff_eq,Option.map_eq_some_iff] at hcond
      obtain ⟨⟨c1,c2⟩,zs,c3,c4⟩:=hcond
      cases hc
      subst c1;subst c2
      obtain ⟨w',ι',v',r1,r2,r3,r4⟩:=Zom (P:=P) (u:=u) ty c.argTypes (c.args.map ρ) ht hu hut (.inr ⟨huu,rfl⟩) hsz hby (by omega) (by omega) c3 c4 a0 a1 R (hρ _ _ hs') (hρ _ _ hx') rfl rfl hl
      exact ⟨_,w',ι',v',by rw [hex];simp [r1],.inl rfl,r2,r3,r4⟩
     ·cases hc
    ·cases hc
   ·cases hc
  ·split at hc
   ·split at hc
    ·cases hc;cases hl
    ·cases hc
   ·cases hc
  ·split at hc
   ·split at hc
    ·cases hc;cases hl
    ·cases hc
   ·cases hc
  ·cases hc
 | _=>exact absurd hl (by rw [ZaN (fun e=>by have h:=Zey hc;rw [e] at h;simp [XF] at h)];simp)
end
end Go.Proofs.YtemcdiajejekoaaGreatDoor.Slim
namespace Go.Proofs.YtemcdiajejekoaaGreatDoor.Slim
open Go
structure St where
 tm:List AV
 m:Mem
open Classical in
noncomputable def Xm (g:X→AV) (loc:List AV) (H:List Blk):List (Nat×YS)→Bool
 | []=>true
 | q::qs=>(decide (Zbp g q.2.guard=some false)||decide (Zao g H q.2.op=some ((loc[q.1]?).getD .undef)))&&Xm g loc H qs
noncomputable def ZeZ (call:FuncId→List AV→Mem→Option (AV×Mem)) (tm:List AV):List DE→List AV→Mem→Option (List AV×Mem)
 | [],loc,m=>some (loc,m)
 | e::rest,loc,m=>
  match Zbp (get tm loc) e.guard with
  | none=>none
  | some false=>if Xm (get tm (loc++[.tup []])) loc m.H e.again=true then ZeZ call tm rest (loc++[.tup []]) m else none
  | some true=>
   match aop call (get tm loc) m e.op with
   | none=>none
   | some (v,m')=>if Xm (get tm (loc++[v])) loc m'.H e.again=true then ZeZ call tm rest (loc++[v]) m' else none
def Zr3 (tm:List AV) (H:List Blk):AR→Option AV
 | .tmp s=>some ((tm[s]?).getD .undef)
 | .cell s agg sz=>ZhX H agg sz ((tm[s]?).getD .undef)
def Yd (tm:List AV) (H:List Blk):List AR→Option (List AV)
 | []=>some []
 | r::rs=>match Zr3 tm H r,Yd tm H rs with
  | some v,some vs=>some (v::vs)
  | _,_=>none
def ZdX:List AV→AV
 | [v]=>v
 | vs=>.tup vs
def clean (lim:Nat):Option Nat→Bool
 | none=>true
 | some e=>lim≤e
def AV.roots (lim:Nat):AV→List Nat
 | .ptr (some (b,_))=>if b<lim then [] else [b]
 | .slice (some (b,_)) _ _ _=>if b<lim then [] else [b]
 | .map (some b)=>if b<lim then [] else [b]
 | .agg cs=>go cs
 | .tup vs=>go vs
 | .fn _ a b=>go a++go b
 | _=>[]
where go:List AV→List Nat
 | []=>[]
 | v::vs=>v.roots lim++go vs
def AV.rename (f:Nat→Nat):AV→AV
 | .ptr (some (b,o))=>.ptr (some (f b,o))
 | .slice (some (b,o)) sz n c=>.slice (some (f b,o)) sz n c
 | .map (some b)=>.map (some (f b))
 | .agg cs=>.agg (go cs)
 | .tup vs=>.tup (go vs)
 | .fn k a b=>.fn k (go a) (go b)
 | v=>v
where go:List AV→List AV
 | []=>[]
 | v::vs=>v.rename f::go vs
def X6:List Nat→List Nat
 | []=>[]
 | b::bs=>b::(X6 bs).filter (·≠ b)
def XG (lim:Nat):Option Blk→Bool
 | some (.cells cs _)=>cs.all fun c=>c.under lim
 | some (.mp _)=>true
 | _=>false
def ZaT (lim:Nat) (rs:List Nat) (b:Nat):Nat:=if b<lim then b else lim+rs.idxOf b
def finish (mode lim:Nat) (esc0:Option Nat) (v:AV) (m:Mem):Option (AV×Mem) :=
 match mode with
 | 0=>some (v,{ m with esc:=joinEsc esc0 m.esc })
 | 1=>if v.under lim=true∧clean lim m.esc=true then some (v,{ H:=m.H.take lim,esc:=esc0 }) else none
 | _=>
  let rs:=X6 (v.roots lim)
  if clean lim m.esc=true∧(rs.all fun b=>XG lim m.H[b]?)=true then
   some (v.rename (ZaT lim rs),{ H:=m.H.take lim++rs.map (fun b=>(m.H[b]?).getD .dead),esc:=esc0 })
  else none
def entry (F:ZZ) (args:List AV):List AV:=F.keep.map fun t=>(args[t]?).getD .undef
def Yp (T:FuncId→Option ZZ) (pr:FuncId→List AV→Mem→Option (AV×Mem)) (R:Zg→St→Option (Ex×St)) (f:FuncId) (args:List AV) (m:Mem):Option (AV×Mem) :=
 match T f with
 | none=>pr f args m
 | some F=>
  match R F.code ⟨entry F args,{ m with esc:=none }⟩ with
  | some (.exit _,_)=>none
  | some (_,st)=>match Yd st.tm st.m.H F.results with
   | some vs=>finish F.mode m.H.length m.esc (ZdX vs) st.m
   | none=>none
  | none=>none
def ZdY (R:Zg→St→Option (Ex×St)) (body:Zg):Nat→St→Option (Ex×St)
 | 0,_=>none
 | n+1,st=>match R body st with
  | some (.normal,st')=>ZdY R body n st'
  | r=>r
def Zqq (p:List Int×Int):AV:=.tup [.bool true,.agg (p.1.map (AV.int .i64)),.int .i64 p.2]
def Zzf (p:List Int×Int):AV:=.tup [.agg (p.1.map (AV.int .i64)),.int .i64 p.2]
def havoc (tm:List AV) (outs:List (Nat×Nat)):List AV:=outs.foldl (fun tm p=>tm.set p.1 .undef) tm
open Classical in
noncomputable def ZcQ (call:FuncId→List AV→Mem→Option (AV×Mem)) (R:Zg→St→Option (Ex×St)) (mk:Mem) (at':Nat) (it it' c:X) (outs2:List (Nat×Nat)) (az:List YS) (outs3:List (Nat×Nat)) (nxt:Nat) (body:Zg) :
  List (List Int×Int)→List AV→Option (List AV)
 | [],tm=>
  if get tm [] it=.ptr (some (at',0))∧get (setOuts tm [.tup [.bool false],.bool false] outs2) [] c=.bool false then some (setOuts tm [.tup [.bool false],.bool false] outs2) else none
 | p::ps,tm=>
  if get tm [] it=.ptr (some (at',0))∧get (setOuts tm [Zqq p,.bool true] outs2) [] c=.bool true∧get (setOuts tm [Zqq p,.bool true] outs2) [] it'=.ptr (some (at',0)) then
   match Zhe call (setOuts tm [Zqq p,.bool true] outs2) az [Zzf p] mk with
   | none=>none
   | some (loc,m)=>match R body ⟨setOuts (setOuts tm [Zqq p,.bool true] outs2) loc outs3,m⟩ with
    | none=>none
    | some (e,st')=>if (e=.normal∨e=.exit nxt)∧st'.m.H.take mk.H.length=mk.H∧clean mk.H.length st'.m.esc=true∧((havoc st'.tm (outs2++outs3)).all fun v=>v.under mk.H.length)=true then ZcQ call R mk at' it it' c outs2 az outs3 nxt body ps (havoc st'.tm (outs2++outs3)) else none
  else none
open Classical in
noncomputable def Zu3 (f:List (List Int×Int)→Option (List AV)) (es:List (List Int×Int)):Option (List AV) :=
 if h:∃ r,∀ π:List (List Int×Int),π.Perm es→f π=some r then some h.choose else none
theorem Zjw {f:List (List Int×Int)→Option (List AV)} {es:List (List Int×Int)} {r:List AV}:Zu3 f es=some r↔∀ π:List (List Int×Int),π.Perm es→f π=some r:=by
 unfold Zu3
 constructor
 ·intro h
  split at h
  ·rename_i hex
   cases h
   exact hex.choose_spec
  ·cases h
 ·intro h
  have hex:∃ r,∀ π:List (List Int×Int),π.Perm es→f π=some r:=⟨r,h⟩
  rw [dif_pos hex]
  have h1:=hex.choose_spec es (List.Perm.refl es)
  have h2:=h es (List.Perm.refl es)
  rw [h2] at h1
  exact h1.symm
noncomputable def Xo (n:Nat) (call:FuncId→List AV→Mem→Option (AV×Mem)) (R:Zg→St→Option (Ex×St)) (c:Zg) (st:St):Option (Ex×St) :=
 match c with
 | .skip=>some (.normal,st)
 | .region ops outs=>match Zhe call st.tm ops [] st.m with
  | none=>none
  | some (loc,m)=>some (.normal,⟨setOuts st.tm loc outs,m⟩)
 | .draw es outs=>match ZeZ call st.tm es [] st.m with
  | none=>none
  | some (loc,m)=>some (.normal,⟨setOuts st.tm loc outs,m⟩)
 | .seq a b=>match R a st with
  | some (.normal,st')=>R b st'
  | r=>r
 | .cond x a b=>match get st.tm [] x with
  | .bool true=>R a st
  | .bool false=>R b st
  | _=>none
 | .block id body=>match R body st with
  | some (.exit k,st')=>if k=id then some (.normal,st') else some (.exit k,st')
  | r=>r
 | .loop body=>ZdY R body n st
 | .exit id=>some (.exit id,st)
 | .ret=>some (.ret,st)
 | .mloop pre outs0 mx it it' c outs2 az outs3 nxt body=>match ZeZ call st.tm pre [] st.m with
  | none=>none
  | some (loc,m)=>match get st.tm loc mx with
   | .map (some b)=>match m.H[b]? with
    | some (.mp es)=>
     if m.esc=none then
     match Zu3 (fun π=>(ZcQ call R { m with H:=m.H.set b .dead++[.dead] } m.H.length it it' c outs2 az outs3 nxt body π (setOuts st.tm (loc++[.ptr (some (m.H.length,0))]) outs0)).map fun tm=>havoc tm (outs2++outs3)) es with
     | some tm=>some (.normal,⟨tm,{ m with H:=m.H++[.dead] }⟩)
     | none=>none
     else none
    | _=>none
   | _=>none
noncomputable def QG (T:FuncId→Option ZZ) (pr:FuncId→List AV→Mem→Option (AV×Mem)):Nat→Zg→St→Option (Ex×St)
 | 0,_,_=>none
 | n+1,c,st=>Xo n (Yp T pr (QG T pr n)) (QG T pr n) c st
def ZcR (b:Nat) (e:Option Nat):Prop:=∀ k,e=some k→b<k
def ZxW (m m':Mem) (b:Nat):Prop:=∀ cs' wr',m'.H[b]?=some (.cells cs' wr')→∃ cs wr,m.H[b]?=some (.cells cs wr)∧∀ c∈cs',c∈cs∨c.under (b+1)=true
structure Grow (m m':Mem):Prop where
 size:m.H.length≤m'.H.length
 esc:∀ b,ZcR b m'.esc→ZcR b m.esc
 old:∀ b,b<m.H.length→ZcR b m'.esc→ZxW m m' b
 ro:∀ (b:Nat) cs,m'.H[b]?=some (.cells cs false)→m.H[b]?=some (.cells cs false)
theorem ZxW.refl (m:Mem) (b:Nat):ZxW m m b:=fun cs wr h=>⟨cs,wr,h,fun c hc=>.inl hc⟩
theorem Grow.refl (m:Mem):Grow m m:=⟨Nat.le_refl _,fun _ h=>h,fun b _ _=>ZxW.refl m b,fun _ _ h=>h⟩
theorem Grow.trans {a b c:Mem} (h:Grow a b) (k:Grow b c):Grow a c where
 size:=Nat.le_trans h.size k.size
 esc:=fun x hx=>h.esc x (k.esc x hx)
 old:=fun x hx he cs wr hc=>by
  obtain ⟨cs1,wr1,h1,h2⟩:=k.old x (Nat.lt_of_lt_of_le hx h.size) he cs wr hc
  obtain ⟨cs2,wr2,h3,h4⟩:=h.old x hx (k.esc x he) cs1 wr1 h1
  refine ⟨cs2,wr2,h3,fun y hy => ?_⟩
  rcases h2 y hy with h5 | h5
  ·exact h4 y h5
  ·exact .inr h5
 ro:=fun x cs hx=>h.ro x cs (k.ro x cs hx)
theorem Grow.newBlk (m:Mem) (cs:List AV):Grow m (newBlk m cs) where
 size:=by simp [Slim.newBlk]
 esc:=fun _ h=>h
 old:=fun b hb _=>by
  intro cs' wr' h
  simp only [Slim.newBlk] at h
  rw [List.getElem?_append_left hb] at h
  exact ⟨cs',wr',h,fun c hc=>.inl hc⟩
 ro:=fun b cs' h=>by
  simp only [Slim.newBlk] at h
  rcases Nat.lt_or_ge b m.H.length with hb | hb
  ·rw [List.getElem?_append_left hb] at h;exact h
  ·rw [List.getElem?_append_right hb] at h
   have h1:=(List.getElem?_eq_some_iff.mp h).1
   simp at h1
   rw [show b - m.H.length=0 by omega] at h
   simp at h
theorem Grow.kill (m:Mem) (b:Nat):Grow m { m with H:=m.H.set b .dead } where
 size:=by simp
 esc:=fun _ h=>h
 old:=fun x hx _=>by
  intro cs' wr' h
  simp only [List.getElem?_set] at h
  split at h
  ·split at h <;> cases h
  ·exact ⟨cs',wr',h,fun c hc=>.inl hc⟩
 ro:=fun x cs h=>by
  simp only [List.getElem?_set] at h
  split at h
  ·split at h <;> cases h
  ·exact h
theorem Zbs {b x:Nat} {e:Option Nat} (h:ZcR x (Z6 e b)):ZcR x e∧x<b:=by
 cases e with
 | none=>exact ⟨fun k hk=>(by cases hk),h b rfl⟩
 | some e=>
  have:=h (min e b) rfl
  exact ⟨fun k hk=>(by cases hk;omega),by omega⟩
theorem Zon {cs new:List AV} {o:Nat} {c:AV} (h:c∈Yz cs o new):c∈cs∨c∈new:=by
 unfold Yz at h
 simp only [List.mem_append] at h
 rcases h with (h | h) | h
 ·exact .inl (List.mem_of_mem_take h)
 ·exact .inr h
 ·exact .inl (List.mem_of_mem_drop h)
theorem Grow.newMap (m:Mem):Grow m { m with H:=m.H++[.mp []] }:=by
 refine ⟨by simp,fun x hx=>hx,fun x hx he => ?_,fun x cs' hx => ?_⟩
 ·intro cs' wr' hc
  simp only [] at hc
  rw [List.getElem?_append_left hx] at hc
  exact ⟨cs',wr',hc,fun c hc=>.inl hc⟩
 ·simp only [List.getElem?_append] at hx
  split at hx
  ·exact hx
  ·rename_i hge
   have h1:=(List.getElem?_eq_some_iff.mp hx).1
   have:x - m.H.length=0:=by simp at h1;omega
   rw [this] at hx
   simp at hx
theorem Grow.dead (m:Mem):Grow m { m with H:=m.H++[.dead] }:=by
 refine ⟨by simp,fun x hx=>hx,fun x hx he => ?_,fun x cs' hx => ?_⟩
 ·intro cs' wr' hc
  simp only [] at hc
  rw [List.getElem?_append_left hx] at hc
  exact ⟨cs',wr',hc,fun c hc=>.inl hc⟩
 ·simp only [List.getElem?_append] at hx
  split at hx
  ·exact hx
  ·rename_i hge
   have h1:=(List.getElem?_eq_some_iff.mp hx).1
   have:x - m.H.length=0:=by simp at h1;omega
   rw [this] at hx
   simp at hx
theorem Grow.putMap (m:Mem) (b:Nat) (es:List (List Int×Int)):Grow m { m with H:=m.H.set b (.mp es) }:=by
 refine ⟨by simp,fun x hx=>hx,fun x hx he => ?_,fun x cs' hx => ?_⟩
 ·intro cs' wr' hc
  simp only [List.getElem?_set] at hc
  split at hc
  ·split at hc <;> cases hc
  ·exact ⟨cs',wr',hc,fun c hc=>.inl hc⟩
 ·simp only [List.getElem?_set] at hx
  split at hx
  ·split at hx <;> cases hx
  ·exact hx
theorem Grow.heavy {call:FuncId→List AV→Mem→Option (AV×Mem)} (hcall:∀ f args m v m',call f args m=some (v,m')→Grow m m') {g:X→AV} {m m':Mem} {ao:AO} {v:AV}
  (h:Slim.ZbY call g m ao=some (v,m')):Grow m m':=by
 unfold Slim.ZbY at h
 split at h
 ·split at h
  ·rename_i b o new e1 e2
   split at h
   ·rename_i cs hb
    split at h
    ·cases h
     refine ⟨by simp,fun x hx => ?_,fun x hx he => ?_,fun x cs' hx => ?_⟩
     ·split at hx
      ·exact hx
      ·exact (Zbs hx).1
     ·intro cs' wr' hc
      simp only [List.getElem?_set] at hc
      split at hc
      ·rename_i hbx
       subst hbx
       split at hc
       ·cases hc
        refine ⟨cs,true,hb,fun c hc => ?_⟩
        rcases Zon hc with h1 | h1
        ·exact .inl h1
        ·right
         simp only [] at he
         split at he
         ·rename_i hall
          exact List.all_eq_true.mp hall c h1
         ·have:=(Zbs he).2
          omega
       ·exact absurd hx (by assumption)
      ·exact ⟨cs',wr',hc,fun c hc=>.inl hc⟩
     ·simp only [List.getElem?_set] at hx
      split at hx
      ·split at hx <;> cases hx
      ·exact hx
    ·cases h
   ·cases h
  ·cases h
 ·split at h
  ·split at h
   ·cases h;exact Grow.newBlk _ _
   ·cases h
  ·cases h
 ·split at h
  ·split at h
   ·cases h;exact Grow.newBlk _ _
   ·cases h
  ·cases h
 ·split at h
  ·split at h
   ·split at h
    ·cases h;exact Grow.refl _
    ·split at h
     ·cases h;exact Grow.newBlk _ _
     ·cases h
   ·cases h
  ·split at h
   ·split at h
    ·split at h
     ·cases h;exact Grow.newBlk _ _
     ·split at h
      ·cases h
       exact (Grow.kill m _).trans (Grow.newBlk { m with H:=m.H.set _ .dead } _)
      ·cases h
    ·cases h
   ·cases h
  ·cases h
 ·cases h;exact Grow.newMap m
 ·split at h
  ·split at h
   ·cases h;exact Grow.putMap m _ _
   ·cases h
  ·cases h
 ·split at h
  ·exact hcall _ _ _ _ _ h
  ·cases h
 ·cases h
theorem Grow.aop {call:FuncId→List AV→Mem→Option (AV×Mem)} (hcall:∀ f args m v m',call f args m=some (v,m')→Grow m m') {g:X→AV} {m m':Mem} {ao:AO} {v:AV}
  (h:Slim.aop call g m ao=some (v,m')):Grow m m':=by
 unfold Slim.aop at h
 split at h
 ·cases h;exact Grow.refl _
 ·split at h
  ·cases h;exact Grow.refl _
  ·split at h
   ·cases h;exact Grow.newBlk _ _
   ·exact Grow.heavy hcall h
theorem Grow.aops {call:FuncId→List AV→Mem→Option (AV×Mem)} (hcall:∀ f args m v m',call f args m=some (v,m')→Grow m m') {tm:List AV} :
  ∀ {ops:List YS} {loc loc':List AV} {m m':Mem},Slim.Zhe call tm ops loc m=some (loc',m')→Grow m m'
 | [],loc,loc',m,m',h=>by cases h;exact Grow.refl _
 | o::rest,loc,loc',m,m',h=>by
  unfold Slim.Zhe at h
  split at h
  ·cases h
  ·exact Grow.aops hcall h
  ·split at h
   ·cases h
   ·rename_i h1
    exact (Grow.aop hcall h1).trans (Grow.aops hcall h)
theorem Grow.dops {call:FuncId→List AV→Mem→Option (AV×Mem)} (hcall:∀ f args m v m',call f args m=some (v,m')→Grow m m') {tm:List AV} :
  ∀ {es:List DE} {loc loc':List AV} {m m':Mem},Slim.ZeZ call tm es loc m=some (loc',m')→Grow m m'
 | [],loc,loc',m,m',h=>by cases h;exact Grow.refl _
 | e::rest,loc,loc',m,m',h=>by
  unfold Slim.ZeZ at h
  split at h
  ·cases h
  ·split at h
   ·exact Grow.dops hcall h
   ·cases h
  ·split at h
   ·cases h
   ·rename_i h1
    split at h
    ·exact (Grow.aop hcall h1).trans (Grow.dops hcall h)
    ·cases h
end Go.Proofs.YtemcdiajejekoaaGreatDoor.Slim
namespace Go.Proofs.YtemcdiajejekoaaGreatDoor.Slim
open Go
section
variable {P : Program}
def Zas (P:Program) (call:FuncId→List AV→Mem→Option (AV×Mem)):Prop :=
 ∀ f args m v m' (ι:Emb) (w:World) (vs:List Value),call f args m=some (v,m')→Rel ι m w→VL ι w args vs →
  (∃ fn, P.funcs[f]? = some fn ∧ fn.body.isSome = true ∧ fn.name ≠ "runtime.NumGoroutine") ∧
  Calls P f vs.toArray w fun e w'=>∃ (ι':Emb) (v':Value),e=.returned v'∧V ι' w' v v'∧Rel ι' m' w'∧Ext ι m w ι' m' w'
structure Inv (ι:Emb) (w:World) (nt:Nat) (keep:List Nat) (tm:List AV) (env:List (Nat×Nat)) (loc:List AV) (a:Act):Prop where
 made:∀ t j,env.lookup t=some j→j<loc.length∧V ι w ((loc[j]?).getD .undef) (a.eval (.tmp t))
 kept:∀ t s,env.lookup t=none→keep.idxOf? t=some s→V ι w ((tm[s]?).getD .undef) (a.eval (.tmp t))
 size:nt≤a.tmps.size
 defers:a.defers=[]
 len:tm.length=keep.length
theorem Inv.mono {ι ι':Emb} {w w':World} {nt:Nat} {keep:List Nat} {tm:List AV} {env:List (Nat×Nat)} {loc:List AV} {a:Act} (h:Inv ι w nt keep tm env loc a) (hι:Emb.le ι ι') (hw:YJ w w') :
  Inv ι' w' nt keep tm env loc a :=
 ⟨fun t j e=>⟨(h.made t j e).1,V.mono hι hw _ _ (h.made t j e).2⟩,fun t s e k=>V.mono hι hw _ _ (h.kept t s e k),h.size,h.defers,h.len⟩
theorem Inv.ok {ι:Emb} {w:World} {nt:Nat} {keep:List Nat} {tm:List AV} {env:List (Nat×Nat)} {loc:List AV} {a:Act} (h:Inv ι w nt keep tm env loc a):OkX ι w (ZxH keep env) (get tm loc) a.eval:=by
 intro o x hx
 cases o with
 | tmp t=>
  simp only [ZxH] at hx
  split at hx
  ·rename_i j hj
   cases hx
   exact (h.made t j hj).2
  ·rename_i hn
   split at hx
   ·rename_i s hs
    cases hx
    exact h.kept t s hn hs
   ·cases hx;trivial
 | const v=>
  simp only [ZxH,Option.map_eq_some_iff] at hx
  obtain ⟨a',ha,rfl⟩:=hx
  exact V.ofConst ha
 | func f=>cases hx;exact ⟨[],[],rfl,rfl,rfl⟩
 | global g=>cases hx
theorem ZcS (a:Act) (d:Tmp) (v:Value) (h:d<a.tmps.size):(a.put (some d) v).eval (.tmp d)=v:=by
 simp [Act.eval,Act.put,h]
theorem Q7 (a:Act) (d t:Tmp) (v:Value) (h:d≠t):(a.put (some d) v).eval (.tmp t)=a.eval (.tmp t):=by
 simp [Act.eval,Act.put,Array.getElem?_setIfInBounds_ne h]
theorem Inv.put {ι:Emb} {w:World} {nt:Nat} {keep:List Nat} {tm:List AV} {env:List (Nat×Nat)} {loc:List AV} {a:Act} (h:Inv ι w nt keep tm env loc a) {dst:Option Tmp} (hd:Zqn nt dst=true) {v:AV} {v':Value}
  (hv:V ι w v v'):Inv ι w nt keep tm (Zl2 env dst loc.length) (loc++[v]) (a.put dst v'):=by
 have old:∀ t j,env.lookup t=some j→j<(loc++[v]).length∧((loc++[v])[j]?).getD .undef=(loc[j]?).getD .undef:=by
  intro t j e
  have:=(h.made t j e).1
  exact ⟨by simp;omega,by rw [List.getElem?_append_left this]⟩
 cases dst with
 | none=>exact ⟨fun t j e=>⟨(old t j e).1,by rw [(old t j e).2];exact (h.made t j e).2⟩,h.kept,h.size,h.defers,h.len⟩
 | some d=>
  have hlt:d<a.tmps.size:=by simp [Zqn] at hd;exact Nat.lt_of_lt_of_le hd h.size
  refine ⟨fun t j e => ?_,fun t s e k => ?_,?_,?_,h.len⟩
  ·simp only [Zl2,List.lookup_cons] at e
   by_cases htd:t=d
   ·subst htd
    simp at e
    subst e
    refine ⟨by simp,?_⟩
    rw [ZcS a t v' hlt]
    simpa using hv
   ·have:(t==d)=false:=by simpa using htd
    simp only [this] at e
    rw [Q7 a d t v' (fun e=>htd e.symm),(old t j e).2]
    exact ⟨(old t j e).1,(h.made t j e).2⟩
  ·simp only [Zl2,List.lookup_cons] at e
   by_cases htd:t=d
   ·subst htd
    simp at e
   ·have:(t==d)=false:=by simpa using htd
    simp only [this] at e
    rw [Q7 a d t v' (fun e=>htd e.symm)]
    exact h.kept t s e k
  ·simp [Act.put];exact h.size
  ·exact h.defers
theorem Zaf {ι:Emb} {w:World} {cx:Zf1} {g:X→AV} {a:Act} (hρ:OkX ι w cx g a.eval) {ops:Array Oper} {o:Oper} {gd:Option (X×Bool)} {b:Bool} (hg:Zjo ops cx o.guard=some gd)
  (hw:Slim.Zbp g gd=some b):Region.wanted o (yielded ops a.tmps)=b:=by
 unfold Region.wanted
 cases hgd:o.guard with
 | none=>
  rw [hgd] at hg
  cases hg
  simpa [Slim.Zbp] using hw
 | some q=>
  obtain ⟨j,want⟩:=q
  rw [hgd] at hg
  simp only [Zjo] at hg
  split at hg
  ·rename_i d hd
   simp only [Option.map_eq_some_iff] at hg
   obtain ⟨x,hx,rfl⟩:=hg
   have hv:=hρ _ _ hx
   simp only [Slim.Zbp] at hw
   have hy:yielded ops a.tmps j=match a.tmps[d]? with | some (.bool c)=>some c | _=>none:=by
    unfold yielded
    rw [hd]
    rfl
   simp only [hy]
   have hev:a.eval (.tmp d)=(a.tmps[d]?).getD undef:=by simp [Act.eval]
   rw [hev] at hv
   split at hw
   ·rename_i c e
    rw [e] at hv
    cases hw
    cases hq:a.tmps[d]? with
    | none=>rw [hq] at hv;exact absurd hv (by simp [V,undef])
    | some z=>
     rw [hq] at hv
     have hz:z=.bool c:=hv
     subst hz
     simp
   ·rename_i e
    rw [e] at hv
    cases hw
    obtain ⟨xs,h1,h2⟩:=hv
    cases h2
    cases hq:a.tmps[d]? with
    | none=>simp
    | some z=>
     rw [hq] at h1
     have hz:z=.tuple #[]:=h1
     subst hz
     simp
   ·cases hw
  ·cases hg
theorem Zhi {ι:Emb} {m m':Mem} {w:World} {call:FuncId→List AV→Mem→Option (AV×Mem)} (hcall:Zas P call) {cx:Zf1} {g:X→AV} {a:Act} (hρ:OkX ι w cx g a.eval) (R:Rel ι m w) (o:Oper)
  {next:Act→World→Prop} {Q:Exit→Act→World→Prop} {v:AV}
  (hdone:Ze4 P ι m w a.eval o v m'∨∃ k args,call k args m=some (v,m')∧Zu2 P ι w a.eval o k args)
  (hnext:∀ ι' w' v',V ι' w' v v'→Rel ι' m' w'→Ext ι m w ι' m' w'→next (a.put o.dst v') w'):o.wp P a w next Q:=by
 unfold Oper.wp
 rcases hdone with ⟨n,w',ι',v',h1,h2,h3,h4,h5⟩|⟨k,args,hc,hoc⟩
 ·rw [h1]
  rcases h2 with rfl | ⟨rfl,rfl⟩
  ·exact hnext _ _ _ h3 h4 h5
  ·exact hnext _ _ _ h3 h4 h5
 ·obtain ⟨vs,hvs,hrun⟩:=hoc
  obtain ⟨⟨fn,q1,q2,q3⟩,hC⟩:=hcall k args m v m' ι w vs hc R hvs
  rw [hrun fn q1 q2 q3,Oper.upon_enter]
  refine hC.mono ?_
  rintro e w' ⟨ι',v',rfl,h1,h2,h3⟩
  exact hnext _ _ _ h1 h2 h3
theorem Zl5 {ι:Emb} {m m':Mem} {w:World} {call:FuncId→List AV→Mem→Option (AV×Mem)} {cx:Zf1} {g:X→AV} {ρ:Operand→Value} (hρ:OkX ι w cx g ρ) (R:Rel ι m w) (o:Oper) {ao:AO} {v:AV}
  (hc:Zi P cx o.op=some ao) (h:aop call g m ao=some (v,m')):Ze4 P ι m w ρ o v m'∨∃ k args,call k args m=some (v,m')∧Zu2 P ι w ρ o k args:=by
 unfold aop at h
 split at h
 ·rename_i hl
  cases h
  exact .inl (Ze4.of_does R (ZxR hρ o hc hl))
 ·split at h
  ·rename_i hl
   cases h
   exact .inl (Ze4.of_does R (ZxU hρ R o hc hl))
  ·split at h
   ·rename_i cs f hl
    cases h
    exact .inl (Ze4.of_makes R (Zol hρ o hc hl))
   ·exact ZxV hρ R o hc h
theorem Zf5 {call:FuncId→List AV→Mem→Option (AV×Mem)} (hcall:Zas P call) {nt:Nat} {keep:List Nat} {all:Array Oper} {tm:List AV} {Q:Exit→Act→World→Prop} {tail:List Nat} :
  ∀ (rest:List Oper) (i:Nat) (env env':List (Nat×Nat)) (az:List YS) (loc loc':List AV) (m m':Mem) (ι:Emb) (w:World) (a:Act),
   (∀ j o,rest[j]?=some o→all[i+j]?=some o)→Xs P nt keep all rest i env=some (az,env')→Zhe call tm az loc m=some (loc',m') →
   Rel ι m w→Inv ι w nt keep tm env loc a→loc.length=i →
   (∀ ι' w' a',Rel ι' m' w'→Ext ι m w ι' m' w'→Inv ι' w' nt keep tm env' loc' a'→wpOps P all Q tail a' w') →
   wpOps P all Q (List.range' i rest.length++tail) a w
 | [],i,env,env',az,loc,loc',m,m',ι,w,a,hall,hc,he,R,I,hl,hQ=>by
  cases hc;cases he
  exact hQ ι w a R (Ext.refl _ _ _) I
 | o::rest,i,env,env',az,loc,loc',m,m',ι,w,a,hall,hc,he,R,I,hl,hQ=>by
  unfold Xs at hc
  split at hc
  ·rename_i ao gd az' env'' hc1 hc2 hc3
   split at hc
   ·rename_i hd
    cases hc
    have ho:all[i]?=some o:=by simpa using hall 0 o rfl
    have hrest:∀ j o',rest[j]?=some o'→all[i+1+j]?=some o':=by
     intro j o' hj
     have:=hall (j+1) o' (by simpa using hj)
     rwa [show i+1+j=i+(j+1) by omega]
    rw [List.length_cons,List.range'_succ,List.cons_append]
    simp only [wpOps,ho]
    unfold Zhe at he
    split at he
    ·cases he
    ·rename_i hw
     have hW:=Zaf I.ok hc2 hw
     rw [if_neg (by rw [hW];simp)]
     have I':=I.put hd (v:=.tup []) (v':=undef) ⟨[],rfl,rfl⟩
     rw [hl] at I'
     exact Zf5 hcall rest (i+1) _ env' az' _ loc' m m' ι w _ hrest hc3 he R I' (by simp [hl]) hQ
    ·rename_i hw
     have hW:=Zaf I.ok hc2 hw
     rw [if_pos hW]
     split at he
     ·cases he
     ·rename_i v m₁ hop
      left
      refine Zhi hcall I.ok R o (Zl5 I.ok R o hc1 hop) fun ι' w' v' hv R' E => ?_
      have I':=(I.mono E.le E.shapes).put hd hv
      rw [hl] at I'
      exact Zf5 hcall rest (i+1) _ env' az' _ loc' m₁ m' ι' w' _ hrest hc3 he R' I' (by simp [hl]) (fun ι'' w'' a'' R'' E'' I''=>hQ ι'' w'' a'' R'' (E.trans E'') I'')
   ·cases hc
  ·cases hc
theorem Zu4 {call:FuncId→List AV→Mem→Option (AV×Mem)} (hcall:Zas P call) {nt:Nat} {keep:List Nat} {all:Array Oper} {tm:List AV} {Q:Exit→Act→World→Prop}
  (rest:List Oper) (i:Nat) (env env':List (Nat×Nat)) (az:List YS) (loc loc':List AV) (m m':Mem) (ι:Emb) (w:World) (a:Act)
  (hall:∀ j o,rest[j]?=some o→all[i+j]?=some o) (hc:Xs P nt keep all rest i env=some (az,env')) (he:Zhe call tm az loc m=some (loc',m'))
  (R:Rel ι m w) (I:Inv ι w nt keep tm env loc a) (hl:loc.length=i)
  (hQ:∀ ι' w' a',Rel ι' m' w'→Ext ι m w ι' m' w'→Inv ι' w' nt keep tm env' loc' a'→Q .normal a' w') :
  wpOps P all Q (List.range' i rest.length) a w:=by
 have:=Zf5 (tail:=[]) hcall rest i env env' az loc loc' m m' ι w a hall hc he R I hl hQ
 rwa [List.append_nil] at this
end
end Go.Proofs.YtemcdiajejekoaaGreatDoor.Slim
namespace Go.Proofs.YtemcdiajejekoaaGreatDoor.Slim
open Go
mutual
theorem V.under {ι:Emb} {w:World}:∀ (a:AV) (v:Value),V ι w a v→a.under ι.length=true
 | .undef,_,_=>rfl
 | .bool _,_,_=>rfl
 | .int _ _,_,_=>rfl
 | .str _,_,_=>rfl
 | .agg cs,v,⟨xs,_,h,_⟩=>VL.under cs xs h
 | .tup vs,v,⟨xs,_,h⟩=>VL.under vs xs h
 | .ptr none,_,_=>rfl
 | .ptr (some (b,o)),v,⟨c,d,h,_⟩=>by simp [AV.under];exact (List.getElem?_eq_some_iff.mp h).1
 | .slice none _ _ _,_,_=>rfl
 | .slice (some (b,o)) sz n cap,v,⟨c,d,x,k,e,m,h1,_⟩=>by simp [AV.under];exact (List.getElem?_eq_some_iff.mp h1).1
 | .fn f a b,v,⟨xs,ys,_,h,k⟩=>by simp only [AV.under,Bool.and_eq_true];exact ⟨VL.under a xs h,VL.under b ys k⟩
 | .nilfn,_,_=>rfl
 | .map none,_,_=>rfl
 | .map (some b),v,⟨c,d,h,_⟩=>by simp [AV.under];exact (List.getElem?_eq_some_iff.mp h).1
 | .nilif,_,_=>rfl
 | .someif,_,_=>rfl
theorem VL.under {ι:Emb} {w:World}:∀ (a:List AV) (v:List Value),VL ι w a v→AV.under.go ι.length a=true
 | [],_,_=>rfl
 | c::cs,xs,⟨y,ys,_,h,k⟩=>by simp only [AV.under.go,Bool.and_eq_true];exact ⟨V.under c y h,VL.under cs ys k⟩
end
mutual
theorem V.sub {ι ι':Emb} {w:World} {n:Nat} (hi:∀ (b:Nat) p,b<n→ι[b]?=some (some p)→ι'[b]?=some (some p)):∀ (a:AV) (v:Value),a.under n=true→V ι w a v→V ι' w a v
 | .undef,_,_,_=>trivial
 | .bool _,_,_,h=>h
 | .int _ _,_,_,h=>h
 | .str _,_,_,h=>h
 | .agg cs,v,u,⟨xs,e,h,c⟩=>⟨xs,e,VL.sub hi cs xs u h,c⟩
 | .tup vs,v,u,⟨xs,e,h⟩=>⟨xs,e,VL.sub hi vs xs u h⟩
 | .ptr none,_,_,h=>h
 | .ptr (some (b,o)),v,u,⟨c,d,h,e⟩=>⟨c,d,hi b _ (by simpa [AV.under] using u) h,e⟩
 | .slice none _ _ _,_,_,h=>h
 | .slice (some (b,o)) sz k cap,v,u,⟨c,d,x,q,e,m,h1,h2⟩=>⟨c,d,x,q,e,m,hi b _ (by simpa [AV.under] using u) h1,h2⟩
 | .fn f a b,v,u,⟨xs,ys,e,h,k⟩=>by
  simp only [AV.under,Bool.and_eq_true] at u
  exact ⟨xs,ys,e,VL.sub hi a xs u.1 h,VL.sub hi b ys u.2 k⟩
 | .nilfn,_,_,h=>h
 | .map none,_,_,h=>h
 | .map (some b),v,u,⟨c,d,h,e⟩=>⟨c,d,hi b _ (by simpa [AV.under] using u) h,e⟩
 | .nilif,_,_,h=>h
 | .someif,_,_,h=>h
theorem VL.sub {ι ι':Emb} {w:World} {n:Nat} (hi:∀ (b:Nat) p,b<n→ι[b]?=some (some p)→ι'[b]?=some (some p)):∀ (a:List AV) (v:List Value),AV.under.go n a=true→VL ι w a v→VL ι' w a v
 | [],_,_,h=>h
 | c::cs,xs,u,⟨y,ys,e,h,k⟩=>by
  simp only [AV.under.go,Bool.and_eq_true] at u
  exact ⟨y,ys,e,V.sub hi c y u.1 h,VL.sub hi cs ys u.2 k⟩
end
mutual
theorem V.rename {ι ι':Emb} {w:World} {lim:Nat} {f:Nat→Nat} {rs:List Nat} (h1:∀ (b:Nat) p,b<lim→ι[b]?=some (some p)→ι'[f b]?=some (some p))
  (h2:∀ (b:Nat) p,b∈rs→ι[b]?=some (some p)→ι'[f b]?=some (some p)):∀ (a:AV) (v:Value),(∀ b∈a.roots lim,b∈rs)→V ι w a v→V ι' w (a.rename f) v
 | .undef,_,_,_=>trivial
 | .bool _,_,_,h=>h
 | .int _ _,_,_,h=>h
 | .str _,_,_,h=>h
 | .agg cs,v,u,⟨xs,e,h,c⟩=>by
  refine ⟨xs,e,VL.rename h1 h2 cs xs u h,?_⟩
  have:∀ l:List AV,l.all AV.isCell=true→(AV.rename.go f l).all AV.isCell=true:=by
   intro l
   induction l with
   | nil=>intro h;rfl
   | cons x l ih=>
    intro h
    simp only [List.all_cons,Bool.and_eq_true] at h
    simp only [AV.rename.go,List.all_cons,Bool.and_eq_true]
    refine ⟨?_,ih h.2⟩
    cases x with
    | ptr p=>cases p <;> rfl
    | slice p=>cases p <;> rfl
    | map p=>cases p <;> rfl
    | _=>first | rfl | exact h.1
  exact this cs c
 | .tup vs,v,u,⟨xs,e,h⟩=>⟨xs,e,VL.rename h1 h2 vs xs u h⟩
 | .ptr none,_,_,h=>h
 | .ptr (some (b,o)),v,u,⟨c,d,h,e⟩=>by
  by_cases hb:b<lim
  ·exact ⟨c,d,h1 b _ hb h,e⟩
  ·exact ⟨c,d,h2 b _ (u b (by simp [AV.roots,hb])) h,e⟩
 | .slice none _ _ _,_,_,h=>h
 | .slice (some (b,o)) sz k cap,v,u,⟨c,d,x,q,e,m,g1,g2⟩=>by
  by_cases hb:b<lim
  ·exact ⟨c,d,x,q,e,m,h1 b _ hb g1,g2⟩
  ·exact ⟨c,d,x,q,e,m,h2 b _ (u b (by simp [AV.roots,hb])) g1,g2⟩
 | .fn k a b,v,u,⟨xs,ys,e,h,q⟩=>
  ⟨xs,ys,e,VL.rename h1 h2 a xs (fun x hx=>u x (by simp only [AV.roots,List.mem_append];exact .inl hx)) h,VL.rename h1 h2 b ys (fun x hx=>u x (by simp only [AV.roots,List.mem_append];exact .inr hx)) q⟩
 | .nilfn,_,_,h=>h
 | .map none,_,_,h=>h
 | .map (some b),v,u,⟨c,d,h,e⟩=>by
  by_cases hb:b<lim
  ·exact ⟨c,d,h1 b _ hb h,e⟩
  ·exact ⟨c,d,h2 b _ (u b (by simp [AV.roots,hb])) h,e⟩
 | .nilif,_,_,h=>h
 | .someif,_,_,h=>h
theorem VL.rename {ι ι':Emb} {w:World} {lim:Nat} {f:Nat→Nat} {rs:List Nat} (h1:∀ (b:Nat) p,b<lim→ι[b]?=some (some p)→ι'[f b]?=some (some p))
  (h2:∀ (b:Nat) p,b∈rs→ι[b]?=some (some p)→ι'[f b]?=some (some p)):∀ (a:List AV) (v:List Value),(∀ b∈AV.roots.go lim a,b∈rs)→VL ι w a v→VL ι' w (AV.rename.go f a) v
 | [],_,_,h=>h
 | c::cs,xs,u,⟨y,ys,e,h,k⟩=>by
  simp only [AV.roots.go,List.mem_append] at u
  exact ⟨y,ys,e,V.rename h1 h2 c y (fun b hb=>u b (.inl hb)) h,VL.rename h1 h2 cs ys (fun b hb=>u b (.inr hb)) k⟩
end
theorem Zr4 {n:Nat}:∀ {cs:List AV},AV.under.go n cs=true↔cs.all (fun c=>c.under n)=true
 | []=>by simp [AV.under.go]
 | c::cs=>by simp only [AV.under.go,List.all_cons,Bool.and_eq_true];rw [Zr4 (cs:=cs)]
mutual
theorem AV.under_le {n k:Nat} (h:n≤k):∀ (a:AV),a.under n=true→a.under k=true
 | .undef,_=>rfl
 | .bool _,_=>rfl
 | .int _ _,_=>rfl
 | .str _,_=>rfl
 | .agg cs,u=>AV.go_le h cs u
 | .tup vs,u=>AV.go_le h vs u
 | .ptr none,_=>rfl
 | .ptr (some (b,o)),u=>by simp [AV.under] at *;omega
 | .slice none _ _ _,_=>rfl
 | .slice (some (b,o)) sz q cap,u=>by simp [AV.under] at *;omega
 | .fn f a b,u=>by simp only [AV.under,Bool.and_eq_true] at *;exact ⟨AV.go_le h a u.1,AV.go_le h b u.2⟩
 | .nilfn,_=>rfl
 | .map none,_=>rfl
 | .map (some b),u=>by simp [AV.under] at *;omega
 | .nilif,_=>rfl
 | .someif,_=>rfl
theorem AV.go_le {n k:Nat} (h:n≤k):∀ (a:List AV),AV.under.go n a=true→AV.under.go k a=true
 | [],_=>rfl
 | c::cs,u=>by simp only [AV.under.go,Bool.and_eq_true] at *;exact ⟨AV.under_le h c u.1,AV.go_le h cs u.2⟩
end
theorem Zf6:∀ {l:List Nat} {b:Nat},b∈X6 l↔b∈l
 | [],b=>by simp [X6]
 | x::xs,b=>by
  simp only [X6,List.mem_cons,List.mem_filter,ne_eq,decide_eq_true_eq,decide_not,Bool.not_eq_true',decide_eq_false_iff_not]
  rw [Zf6 (l:=xs)]
  by_cases h:b=x
  ·simp [h]
  ·simp [h]
theorem Zjx:∀ (l:List Nat),(X6 l).Nodup
 | []=>by simp [X6]
 | x::xs=>by
  simp only [X6,List.nodup_cons,List.mem_filter]
  refine ⟨by simp,?_⟩
  exact (Zjx xs).filter _
theorem Zr5 {lim:Nat}:∀ (a:AV),∀ b∈a.roots lim,lim≤b:=by
 intro a
 induction a using AV.rec (motive_2:=fun l=>∀ b∈AV.roots.go lim l,lim≤b) with
 | ptr p=>
  intro b hb
  cases p with
  | none=>cases hb
  | some p=>obtain ⟨c,o⟩:=p;simp only [AV.roots] at hb;split at hb <;> simp_all
 | slice p=>
  intro b hb
  cases p with
  | none=>cases hb
  | some p=>obtain ⟨c,o⟩:=p;simp only [AV.roots] at hb;split at hb <;> simp_all
 | map p=>
  intro b hb
  cases p with
  | none=>cases hb
  | some p=>simp only [AV.roots] at hb;split at hb <;> simp_all
 | agg cs ih=>exact ih
 | tup cs ih=>exact ih
 | fn f a b ih1 ih2=>
  intro x hx
  simp only [AV.roots,List.mem_append] at hx
  rcases hx with h | h
  ·exact ih1 x h
  ·exact ih2 x h
 | nil=>rename_i b hb;cases hb
 | cons c cs ih1 ih2=>
  rename_i b hb
  simp only [AV.roots.go,List.mem_append] at hb
  rcases hb with h | h
  ·exact ih1 b h
  ·exact ih2 b h
 | _=>intro b hb;cases hb
theorem Zjy {lim:Nat} {e:Option Nat} (h:clean lim e=true) {b:Nat} (hb:b<lim):ZcR b e:=by
 intro k hk
 subst hk
 simp [clean] at h
 omega
theorem Zoo:∀ {l:List Nat},l.Nodup→∀ {i j:Nat} (hi:i<l.length) (hj:j<l.length),l[i]=l[j]→i=j
 | [],_,i,j,hi,_,_=>by simp at hi
 | x::xs,h,0,0,_,_,_=>rfl
 | x::xs,h,0,j+1,_,hj,e=>by
  simp at e
  exact absurd (e ▸ List.getElem_mem _) (List.nodup_cons.mp h).1
 | x::xs,h,i+1,0,hi,_,e=>by
  simp at e
  exact absurd (e ▸ List.getElem_mem _) (List.nodup_cons.mp h).1
 | x::xs,h,i+1,j+1,hi,hj,e=>by
  simp at e
  rw [Zoo (List.nodup_cons.mp h).2 (by simpa using hi) (by simpa using hj) e]
theorem Rel.cut {ι ι₁:Emb} {m m₁:Mem} {w w₁:World} (R:Rel ι m w) (R₁:Rel ι₁ m₁ w₁) (E:Ext ι m w ι₁ m₁ w₁) (G:Grow { m with esc:=none } m₁) (hcl:clean m.H.length m₁.esc=true)
  (rs:List Nat) (hrs:∀ b∈rs,m.H.length≤b) (hnd:rs.Nodup) (hfl:∀ b∈rs,XG m.H.length m₁.H[b]?=true) (esc:Option Nat) :
  Rel (ι₁.take m.H.length++rs.map fun b=>(ι₁[b]?).getD none) { H:=m₁.H.take m.H.length++rs.map (fun b=>(m₁.H[b]?).getD .dead),esc } w₁ ∧
  Ext ι m w (ι₁.take m.H.length++rs.map fun b=>(ι₁[b]?).getD none) { H:=m₁.H.take m.H.length++rs.map (fun b=>(m₁.H[b]?).getD .dead),esc } w₁:=by
 have hsz:m.H.length≤m₁.H.length:=G.size
 have hl1:ι₁.length=m₁.H.length:=R₁.len
 have htl:(ι₁.take m.H.length).length=m.H.length:=by simp;omega
 have htH:(m₁.H.take m.H.length).length=m.H.length:=by simp;omega
 -- the new numbers
 have keyι:∀ b:Nat,(ι₁.take m.H.length++rs.map fun b=>(ι₁[b]?).getD none)[b]?=if b<m.H.length then ι₁[b]? else (rs[b - m.H.length]?).map fun b=>(ι₁[b]?).getD none:=by
  intro b
  by_cases h:b<m.H.length
  ·rw [if_pos h,List.getElem?_append_left (by omega),List.getElem?_take,if_pos h]
  ·rw [if_neg h,List.getElem?_append_right (by omega),htl,List.getElem?_map]
 have keyH:∀ b:Nat,(m₁.H.take m.H.length++rs.map fun b=>(m₁.H[b]?).getD .dead)[b]?=if b<m.H.length then m₁.H[b]? else (rs[b - m.H.length]?).map fun b=>(m₁.H[b]?).getD .dead:=by
  intro b
  by_cases h:b<m.H.length
  ·rw [if_pos h,List.getElem?_append_left (by omega),List.getElem?_take,if_pos h]
  ·rw [if_neg h,List.getElem?_append_right (by omega),htH,List.getElem?_map]
 -- where a block comes from
 have src:∀ (b:Nat) cs wr,(m₁.H.take m.H.length++rs.map fun b=>(m₁.H[b]?).getD .dead)[b]?=some (Blk.cells cs wr)→∃ b',(b'=b∧b<m.H.length∨m.H.length≤b∧rs[b - m.H.length]?=some b')∧m₁.H[b']?=some (.cells cs wr) ∧
   (ι₁.take m.H.length++rs.map fun b=>(ι₁[b]?).getD none)[b]?=some ((ι₁[b']?).getD none)∧cs.all (fun c=>c.under m.H.length)=true:=by
  intro b cs wr h
  rw [keyH] at h
  split at h
  ·rename_i hlt
   refine ⟨b,.inl ⟨rfl,hlt⟩,h,?_,?_⟩
   ·rw [keyι,if_pos hlt]
    have:b<ι₁.length:=by omega
    rw [List.getElem?_eq_getElem this];rfl
   ·rw [List.all_eq_true]
    intro c hc
    obtain ⟨cs0,wr0,h0,h1⟩:=G.old b hlt (Zjy hcl hlt) cs wr h
    rcases h1 c hc with h2 | h2
    ·obtain ⟨c',d',_,hC⟩:=R.at' b cs0 wr0 h0
     obtain ⟨vs,hv,_⟩:=hC.vals
     obtain ⟨j,hj⟩:=List.getElem?_of_mem h2
     obtain ⟨y,_,hy⟩:=hv.get j c hj
     have:=V.under c y hy
     rwa [R.len] at this
    ·exact AV.under_le (by omega) c h2
  ·rename_i hge
   simp only [Option.map_eq_some_iff] at h
   obtain ⟨b',hb',he⟩:=h
   have hm:=List.mem_of_getElem? hb'
   have hf:=hfl b' hm
   cases hq:m₁.H[b']? with
   | none=>rw [hq] at he;cases he
   | some bk=>
    rw [hq] at he hf
    simp at he
    subst he
    refine ⟨b',.inr ⟨by omega,hb'⟩,hq,?_,hf⟩
    rw [keyι,if_neg hge,hb']
    rfl
 have src2:∀ (b:Nat) (k:Blk),k.live→(m₁.H.take m.H.length++rs.map fun b=>(m₁.H[b]?).getD .dead)[b]?=some k→∃ b',(b'=b∧b<m.H.length∨m.H.length≤b∧rs[b - m.H.length]?=some b')∧m₁.H[b']?=some k ∧
   (ι₁.take m.H.length++rs.map fun b=>(ι₁[b]?).getD none)[b]?=some ((ι₁[b']?).getD none):=by
  intro b k hk h
  rw [keyH] at h
  split at h
  ·rename_i hlt
   refine ⟨b,.inl ⟨rfl,hlt⟩,h,?_⟩
   rw [keyι,if_pos hlt]
   have:b<ι₁.length:=by omega
   rw [List.getElem?_eq_getElem this];rfl
  ·rename_i hge
   simp only [Option.map_eq_some_iff] at h
   obtain ⟨b',hb',he⟩:=h
   cases hq:m₁.H[b']? with
   | none=>rw [hq] at he;simp at he;subst he;cases hk
   | some bk=>
    rw [hq] at he
    simp at he
    subst he
    refine ⟨b',.inr ⟨by omega,hb'⟩,hq,?_⟩
    rw [keyι,if_neg hge,hb']
    rfl
 have hwl:∀ k:Blk,k.wrt→k.live:=fun k hk=>by cases k <;> first | trivial | cases hk
 have hle:∀ (b:Nat) p,b<m.H.length→ι₁[b]?=some (some p)→(ι₁.take m.H.length++rs.map fun b=>(ι₁[b]?).getD none)[b]?=some (some p):=by
  intro b p hb h
  rw [keyι,if_pos hb];exact h
 refine R.of0 ⟨⟨?_,?_,?_,?_,?_⟩,⟨?_,?_,E.size,E.shapes,?_,E.frame,E.os,E.tape,E.output⟩⟩
 ·simp;omega
 ·intro b c d h
  rw [keyι] at h
  split at h
  ·exact R₁.low b c d h
  ·simp only [Option.map_eq_some_iff] at h
   obtain ⟨b',_,h⟩:=h
   cases hq:ι₁[b']? with
   | none=>rw [hq] at h;cases h
   | some q=>rw [hq] at h;simp at h;subst h;exact R₁.low b' c d hq
 ·intro b cs wr h
  obtain ⟨b',h1,h2,h3,h4⟩:=src b cs wr h
  obtain ⟨c,d,h5,hC⟩:=R₁.at' b' cs wr h2
  rw [h5] at h3
  refine ⟨c,d,h3,?_⟩
  obtain ⟨⟨vs,v1,v2⟩,v3,v4⟩:=hC
  exact ⟨⟨vs,VL.sub hle cs vs (Zr4.mpr h4) v1,v2⟩,v3,v4⟩
 ·intro b es h
  obtain ⟨b',h1,h2,h3⟩:=src2 b (.mp es) trivial h
  obtain ⟨c,h5,hM⟩:=R₁.mp b' es h2
  rw [h5] at h3
  exact ⟨c,h3,hM⟩
 ·intro b1 b2 k1 k2 c1 d1 c2 d2 hne h1 hk1 h2 hk2 h3 h4
  obtain ⟨e1,p1,p2,p3⟩:=src2 b1 k1 (hwl _ hk1) h1
  obtain ⟨e2,q1,q2,q3⟩:=src2 b2 k2 hk2 h2
  have hee:e1≠e2:=by
   intro e
   subst e
   rcases p1 with ⟨rfl,l1⟩|⟨l1,r1⟩ <;> rcases q1 with ⟨h,l2⟩|⟨l2,r2⟩
   ·exact hne h
   ·have:=hrs _ (List.mem_of_getElem? r2);omega
   ·have:=hrs _ (List.mem_of_getElem? r1);omega
   ·have h5:=(List.getElem?_eq_some_iff.mp r1)
    have h6:=(List.getElem?_eq_some_iff.mp r2)
    obtain ⟨i1,e1'⟩:=h5
    obtain ⟨i2,e2'⟩:=h6
    have:=Zoo hnd i1 i2 (by rw [e1',e2'])
    omega
  rw [h3] at p3
  rw [h4] at q3
  have g1:ι₁[e1]?=some (some (c1,d1)):=by
   cases hq:ι₁[e1]? with
   | none=>rw [hq] at p3;cases p3
   | some x=>rw [hq] at p3;simpa using p3.symm
  have g2:ι₁[e2]?=some (some (c2,d2)):=by
   cases hq:ι₁[e2]? with
   | none=>rw [hq] at q3;cases q3
   | some x=>rw [hq] at q3;simpa using q3.symm
  exact R₁.sep e1 e2 k1 k2 c1 d1 c2 d2 hee p2 hk1 q2 hk2 g1 g2
 ·intro b p h
  have hb:b<m.H.length:=by rw [←R.len];exact (List.getElem?_eq_some_iff.mp h).1
  exact hle b p hb (E.le b p h)
 ·simp;rw [R.len];omega
 ·rintro r ⟨b,k,d,h1,hk,h2⟩
  obtain ⟨b',_,p2,p3⟩:=src2 b k (hwl _ hk) h1
  apply E.img
  refine ⟨b',k,d,p2,hk,?_⟩
  rw [h2] at p3
  cases hq:ι₁[b']? with
  | none=>rw [hq] at p3;cases p3
  | some x=>rw [hq] at p3;simpa using p3.symm
theorem Zu5:∀ (rs:List Nat) (b:Nat),b∈rs→rs[rs.idxOf b]?=some b:=by
 intro rs b h
 have:=List.idxOf_lt_length_of_mem h
 rw [List.getElem?_eq_getElem this]
 simp
theorem Zu6 {ι ι₁:Emb} {m m₁:Mem} {w w₁:World} (R:Rel ι m w) (R₁:Rel ι₁ m₁ w₁) (E:Ext ι m w ι₁ m₁ w₁) (G:Grow { m with esc:=none } m₁) {mode:Nat} {v v₂:AV} {m₂:Mem} {v':Value}
  (hv:V ι₁ w₁ v v') (h:finish mode m.H.length m.esc v m₁=some (v₂,m₂)):∃ ι₂,V ι₂ w₁ v₂ v'∧Rel ι₂ m₂ w₁∧Ext ι m w ι₂ m₂ w₁:=by
 unfold finish at h
 split at h
 ·cases h
  exact ⟨ι₁,hv,⟨⟨R₁.len,R₁.low,R₁.at',R₁.mp,R₁.sep⟩,R₁.glob⟩,⟨E.le,E.grow,E.size,E.shapes,E.img,E.frame,E.os,E.tape,E.output⟩⟩
 ·split at h
  ·rename_i hc
   cases h
   obtain ⟨c1,c2⟩:=R.cut R₁ E G hc.2 [] (fun b hb=>by cases hb) List.nodup_nil (fun b hb=>by cases hb) m.esc
   simp only [List.map_nil,List.append_nil] at c1 c2
   refine ⟨_,V.sub (fun b p hb h => ?_) v v' hc.1 hv,c1,c2⟩
   rw [List.getElem?_take,if_pos hb];exact h
  ·cases h
 ·simp only [] at h
  split at h
  ·rename_i hc
   cases h
   have hrs:∀ b∈X6 (v.roots m.H.length),m.H.length≤b:=fun b hb=>Zr5 v b (Zf6.mp hb)
   obtain ⟨c1,c2⟩:=R.cut R₁ E G hc.1 (X6 (v.roots m.H.length)) hrs (Zjx _) (fun b hb=>List.all_eq_true.mp hc.2 b hb) m.esc
   have hsz:m.H.length≤m₁.H.length:=G.size
   have hl1:ι₁.length=m₁.H.length:=R₁.len
   refine ⟨_,V.rename (lim:=m.H.length) (rs:=X6 (v.roots m.H.length)) (fun b p hb h => ?_) (fun b p hb h => ?_) v v' (fun b hb=>Zf6.mpr hb) hv,c1,c2⟩
   ·rw [ZaT,if_pos hb,List.getElem?_append_left (by simp;omega),List.getElem?_take,if_pos hb];exact h
   ·have hge:=hrs b hb
    rw [ZaT,if_neg (by omega),List.getElem?_append_right (by simp;omega)]
    have:(ι₁.take m.H.length).length=m.H.length:=by simp;omega
    rw [this,Nat.add_sub_cancel_left,List.getElem?_map,Zu5 _ _ hb]
    simp [h]
  ·cases h
theorem Grow.finish {m m₁ m₂:Mem} (G:Grow { m with esc:=none } m₁) {mode:Nat} {v v₂:AV} (h:Slim.finish mode m.H.length m.esc v m₁=some (v₂,m₂)):Grow m m₂:=by
 have hsz:m.H.length≤m₁.H.length:=G.size
 have cut:∀ (more:List Blk),(∀ (b:Nat) cs,more[b]?≠some (.cells cs false))→clean m.H.length m₁.esc=true→Grow m { H:=m₁.H.take m.H.length++more,esc:=m.esc }:=by
  intro more hmore hcl
  refine ⟨by simp;omega,fun b hb=>hb,fun b hb _ => ?_,fun b cs hb => ?_⟩
  rotate_left
  ·simp only [] at hb
   rcases Nat.lt_or_ge b m.H.length with h1 | h1
   ·rw [List.getElem?_append_left (by simp;omega),List.getElem?_take,if_pos h1] at hb
    exact G.ro b cs hb
   ·rw [List.getElem?_append_right (by simp;omega)] at hb
    exact absurd hb (hmore _ _)
  intro cs' wr' hc
  simp only [] at hc
  rw [List.getElem?_append_left (by simp;omega),List.getElem?_take,if_pos hb] at hc
  exact G.old b hb (Zjy hcl hb) cs' wr' hc
 unfold Slim.finish at h
 split at h
 ·cases h
  refine ⟨hsz,fun b hb => ?_,fun b hb he => ?_,fun b cs hb=>G.ro b cs hb⟩
  ·cases h2:m₁.esc with
   | none=>rw [h2] at hb;exact hb
   | some e=>rw [h2] at hb;exact (Zbs hb).1
  ·have:ZcR b m₁.esc:=by
    cases h2:m₁.esc with
    | none=>intro k hk;cases hk
    | some e=>
     simp only [h2] at he
     intro k hk
     cases hk
     exact (Zbs he).2
   exact G.old b hb this
 ·split at h
  ·rename_i hc
   cases h
   have:=cut [] (fun b cs h=>by simp at h) hc.2
   rwa [List.append_nil] at this
  ·cases h
 ·simp only [] at h
  split at h
  ·rename_i hc
   cases h
   refine cut _ (fun b cs hb => ?_) hc.1
   rw [List.getElem?_map,Option.map_eq_some_iff] at hb
   obtain ⟨x,hx,h2⟩:=hb
   have hge:=Zr5 v x (Zf6.mp (List.mem_of_getElem? hx))
   cases h3:m₁.H[x]? with
   | none=>rw [h3] at h2;cases h2
   | some B=>
    rw [h3] at h2
    have h4:=G.ro x cs (by rw [h3];exact congrArg some h2)
    have:=(List.getElem?_eq_some_iff.mp h4).1
    simp only [] at this
    omega
  ·cases h
end Go.Proofs.YtemcdiajejekoaaGreatDoor.Slim
namespace Go.Proofs.YtemcdiajejekoaaGreatDoor.Slim
open Go
abbrev Zqr:=List (Nat×List Nat)
structure X9 where
  idx:Nat
  anc:List Nat
  dst:Option Tmp
  reads:List Tmp
  ao:AO
  gd:Option (X×Bool)
  again:List (Nat×YS)
  late:Bool
def Zfv:AO→Bool
  | .alloc _ | .box _ | .buildSlice .. => true
  | _=>false
theorem KM {ao:AO} (h:Zfv ao=true):2≤ao.kind:=by
  cases ao <;> first | (cases h;done) | exact Nat.le_refl _
theorem Zl6 {call:FuncId→List AV→Mem→Option (AV×Mem)} {g:X→AV} {m m':Mem} {ao:AO} {v:AV} (h:Zfv ao=true) (ha:aop call g m ao=some (v,m')):∃ zero f,Ka g ao=some (zero,f)∧v=f m.H.length∧m'=newBlk m zero:=by
  have key:aop call g m ao=match Ka g ao with | some (cs,f)=>some (f m.H.length,newBlk m cs) | none=>none:=by
    cases ao <;> first | (cases h;done) | skip
    · rfl
    · rename_i x
      show (match Ka g (.box x) with | some (cs,f)=>some (f m.H.length,newBlk m cs) | none=>_)=_
      cases Ka g (.box x) <;> rfl
    · rename_i sz len zero parts
      show (match Ka g (.buildSlice sz len zero parts) with | some (cs,f)=>some (f m.H.length,newBlk m cs) | none=>_)=_
      cases Ka g (.buildSlice sz len zero parts) <;> rfl
  rw [key] at ha
  cases hm:Ka g ao with
  | none=>rw [hm] at ha;cases ha
  | some p=>
    obtain ⟨cs,f⟩:=p
    rw [hm] at ha
    have e:=Option.some.inj ha
    exact ⟨cs,f,rfl,(congrArg Prod.fst e).symm,(congrArg Prod.snd e).symm⟩
def ZdZ (t:Tmp):List X9→Nat→Option (Nat×X9)
  | [],_=>none
  | it::rest,p=>if it.dst=some t then some (p,it) else ZdZ t rest (p+1)
def cxD (keep:List Nat) (dn:List X9) (A:List Nat) (reads:List Tmp):Zf1
  | .tmp t=>if reads.contains t then
      match ZdZ t dn 0 with
      | some (p,it)=>if A.contains it.idx then some (.l p) else none
      | none=>match keep.idxOf? t with
        | some s=>some (.t s)
        | none=>some (.c .undef)
    else none
  | .const v=>(ZuU v).map .c
  | .func f=>some (.c (.fn f [] []))
  | .global _=>none
def XR (o:Oper):List Nat:=(o.after.toList.filter (Region.binds .any ·)).map (·.on)
def Zll (dn:List X9):List Nat→Option (List Nat)
  | []=>some []
  | i::is=>match dn.find? (·.idx==i),Zll dn is with
    | some it,some r=>some ((i::it.anc).filter (fun x => !r.contains x)++r)
    | _,_=>none
def Zqs (ops:Array Oper) (o:Oper):List Tmp :=
  (match o.guard with
    | some (j,_)=>((ops[j]?).bind (·.dst)).toList
    | none=>[])++o.op.operands.toList.filterMap fun | .tmp t=>some t | _=>none
def Zjz (A:List Nat):List X9→Nat→List (Nat×YS)
  | [],_=>[]
  | it::rest,p=>if it.ao.kind=1 ∧ !A.contains it.idx then (p,⟨it.ao,it.gd⟩)::Zjz A rest (p+1) else Zjz A rest (p+1)
def ZcT (A:List Nat) (dn:List X9):Bool:=dn.all fun it=>decide (it.ao.kind<2)||A.contains it.idx
def ZjA (A:List Nat) (dn:List X9):Option Tmp→Bool
  | none=>true
  | some d=>dn.all fun it=>it.dst != some d&&(!it.reads.contains d||A.contains it.idx)
def Zm3 (A:List Nat) (dn:List X9):Bool:=ZcT A dn||dn.all fun it => !it.late || !A.contains it.idx
def KA (P:Program) (nt:Nat) (keep:List Nat) (ops:Array Oper):List Nat→List X9→Option (List X9)
  | [],dn=>some dn
  | j::js,dn=>
    match ops[j]? with
    | none=>none
    | some o=>match Zll dn (XR o) with
      | none=>none
      | some A=>match Zi P (cxD keep dn A (Zqs ops o)) o.op,Zjo ops (cxD keep dn A (Zqs ops o)) o.guard with
        | some ao,some gd=>
          if !dn.any (·.idx==j)&&Zqn nt o.dst&&ZjA A dn o.dst&&(ao.kind==0||ZcT A dn||(Zfv ao&&gd.isNone))&&Zm3 A dn then
            KA P nt keep ops js (dn++[⟨j,A,o.dst,Zqs ops o,ao,gd,if 2≤ao.kind then Zjz A dn 0 else [],Zfv ao&&gd.isNone && !ZcT A dn⟩])
          else none
        | _,_=>none
def ZxI:List X9→Nat→List (Nat×Nat)
  | [],_=>[]
  | it::rest,p=>match it.dst with
    | some d=>(d,p)::ZxI rest (p+1)
    | none=>ZxI rest (p+1)
section
variable {P : Program}
structure Ze5 (P:Program) (nt:Nat) (keep:List Nat) (ops:Array Oper) (dn:List X9) (it:X9) (o:Oper):Prop where
  op:ops[it.idx]?=some o
  guard:Zjo ops (cxD keep dn it.anc it.reads) o.guard=some it.gd
  comp:Zi P (cxD keep dn it.anc it.reads) o.op=some it.ao
  dst:it.dst=o.dst
  again:it.again=if 2≤it.ao.kind then Zjz it.anc dn 0 else []
  anc:Zll dn (XR o)=some it.anc
  new:∀ x∈dn,x.idx≠it.idx
  dok:Zqn nt o.dst=true
  free:ZjA it.anc dn it.dst=true
  chain:it.ao.kind=0∨ZcT it.anc dn=true∨it.late=true
  late:it.late=true→Zfv it.ao=true∧it.gd=none
  lfree:Zm3 it.anc dn=true
theorem Kb {nt:Nat} {keep:List Nat} {ops:Array Oper}:∀ (js:List Nat) (dn items:List X9),KA P nt keep ops js dn=some items →
    (∀ p it,dn[p]?=some it→∃ o,Ze5 P nt keep ops (dn.take p) it o)→∀ p it,items[p]?=some it→∃ o,Ze5 P nt keep ops (items.take p) it o
  | [],dn,items,h,hd=>by cases h;exact hd
  | j::js,dn,items,h,hd=>by
    unfold KA at h
    split at h
    · cases h
    · rename_i o ho
      split at h
      · cases h
      · rename_i A hA
        split at h
        · rename_i ao gd hao hgd
          split at h
          · rename_i hok
            refine Kb js _ items h ?_
            intro p it hp
            rw [Bool.and_eq_true,Bool.and_eq_true,Bool.and_eq_true,Bool.and_eq_true] at hok
            obtain ⟨⟨⟨⟨h2,h3⟩,h4⟩,h5⟩,h6⟩:=hok
            have h2:dn.any (·.idx==j)=false:=by simpa using h2
            by_cases hlt:p<dn.length
            · rw [List.getElem?_append_left hlt] at hp
              rw [List.take_append_of_le_length (Nat.le_of_lt hlt)]
              exact hd p it hp
            · have hpe:p=dn.length:=by
                have:=(List.getElem?_eq_some_iff.mp hp).1
                simp at this;omega
              subst hpe
              simp at hp
              subst hp
              refine ⟨o,⟨ho,by simpa using hgd,by simpa using hao,rfl,?_,?_,?_,h3,?_,?_,?_,?_⟩⟩
              · simp
              · simpa using hA
              · intro x hx
                simp only [List.take_left',List.take_append_of_le_length (Nat.le_refl _),List.take_length] at hx
                intro e
                have:=List.any_eq_false.mp h2 x hx
                simp [e] at this
              · simpa using h4
              · simp only [List.take_left',List.take_append_of_le_length (Nat.le_refl _),List.take_length]
                rw [Bool.or_eq_true,Bool.or_eq_true] at h5
                rcases h5 with (h5 | h5) | h5
                · left;simpa using h5
                · right;left;exact h5
                · cases hch:ZcT A dn with
                  | true=>right;left;rfl
                  | false=>right;right;rw [h5];rfl
              · simp only []
                intro hl
                rw [Bool.and_eq_true,Bool.and_eq_true] at hl
                exact ⟨hl.1.1,by simpa using hl.1.2⟩
              · simpa using h6
          · cases h
        · cases h
theorem Zop {dn:List X9}:∀ {is A:List Nat},Zll dn is=some A→∀ i∈is,i∈A
  | [],A,h=>fun x hx=>by cases hx
  | i::is,A,h=>by
    unfold Zll at h
    split at h
    · rename_i it r h1 h2
      cases h
      intro x hx
      simp only [List.mem_append,List.mem_filter,List.mem_cons]
      by_cases hr:x∈r
      · exact .inr hr
      · rcases List.mem_cons.mp hx with rfl | hx
        · left;exact ⟨.inl rfl,by simpa using hr⟩
        · exact .inr (Zop h2 x hx)
    · cases h
theorem Zi8 {dn:List X9}:∀ {is A:List Nat},Zll dn is=some A→∀ i∈is,∃ it∈dn,it.idx=i
  | [],A,h=>fun x hx=>by cases hx
  | i::is,A,h=>by
    unfold Zll at h
    split at h
    · rename_i it r h1 h2
      intro x hx
      rcases List.mem_cons.mp hx with rfl | hx
      · have:=List.find?_some h1
        simp at this
        exact ⟨it,List.mem_of_find?_eq_some h1,this⟩
      · exact Zi8 h2 x hx
    · cases h
theorem ZjB {dn:List X9}:∀ {is A:List Nat},Zll dn is=some A→∀ x∈A,x∈is∨∃ it∈dn,it.idx∈is∧x∈it.anc
  | [],A,h=>by cases h;intro x hx;cases hx
  | i::is,A,h=>by
    unfold Zll at h
    split at h
    · rename_i it r h1 h2
      cases h
      intro x hx
      simp only [List.mem_append,List.mem_filter,List.mem_cons] at hx
      rcases hx with ⟨hx | hx,_⟩ | hx
      · left;simp [hx]
      · right
        refine ⟨it,List.mem_of_find?_eq_some h1,?_,hx⟩
        have:=List.find?_some h1
        simp at this
        simp [this]
      · rcases ZjB h2 x hx with h3 | ⟨it',h3,h4,h5⟩
        · left;simp [h3]
        · right;exact ⟨it',h3,by simp [h4],h5⟩
    · cases h
theorem ZhZ {g:X→AV} {loc:List AV} {H:List Blk}:∀ {qs:List (Nat×YS)},Xm g loc H qs=true→∀ q∈qs,Slim.Zbp g q.2.guard=some false∨Zao g H q.2.op=some ((loc[q.1]?).getD .undef)
  | [],h,q,hq=>by cases hq
  | q0::qs,h,q,hq=>by
    unfold Xm at h
    simp only [Bool.and_eq_true,Bool.or_eq_true,decide_eq_true_eq] at h
    rcases List.mem_cons.mp hq with rfl | hq
    · exact h.1
    · exact ZhZ h.2 q hq
def ZzI (call:FuncId→List AV→Mem→Option (AV×Mem)) (tm L:List AV) (mm:Nat→Mem) (p:Nat) (ao:AO) (gd:Option (X×Bool)) (again:List (Nat×YS)):Prop :=
  ∃ v,L[p]?=some v ∧
    ((Slim.Zbp (get tm (L.take p)) gd=some true∧aop call (get tm (L.take p)) (mm p) ao=some (v,mm (p+1))) ∨
     (Slim.Zbp (get tm (L.take p)) gd=some false∧v=.tup []∧mm (p+1)=mm p)) ∧
    ∀ q∈again,Slim.Zbp (get tm (L.take (p+1))) q.2.guard=some false∨Zao (get tm (L.take (p+1))) (mm (p+1)).H q.2.op=some (((L.take p)[q.1]?).getD .undef)
theorem Zhj {call:FuncId→List AV→Mem→Option (AV×Mem)} {tm:List AV}:∀ (es:List DE) (loc loc':List AV) (m m':Mem),ZeZ call tm es loc m=some (loc',m') →
    ∃ mm:Nat→Mem,mm loc.length=m∧mm (loc.length+es.length)=m'∧loc'.length=loc.length+es.length∧loc'.take loc.length=loc ∧
      ∀ p e,es[p]?=some e→ZzI call tm loc' mm (loc.length+p) e.op e.guard e.again
  | [],loc,loc',m,m',h=>by
    cases h
    exact ⟨fun _=>m,rfl,rfl,by simp,by simp,fun p e he=>by simp at he⟩
  | e::rest,loc,loc',m,m',h=>by
    have key:∀ (v:AV) (m1:Mem),ZeZ call tm rest (loc++[v]) m1=some (loc',m')→Xm (get tm (loc++[v])) loc m1.H e.again=true →
        ((Slim.Zbp (get tm loc) e.guard=some true∧aop call (get tm loc) m e.op=some (v,m1))∨(Slim.Zbp (get tm loc) e.guard=some false∧v=.tup []∧m1=m)) →
        ∃ mm:Nat→Mem,mm loc.length=m∧mm (loc.length+(e::rest).length)=m'∧loc'.length=loc.length+(e::rest).length∧loc'.take loc.length=loc ∧
          ∀ p e',(e::rest)[p]?=some e'→ZzI call tm loc' mm (loc.length+p) e'.op e'.guard e'.again:=by
      intro v m1 h h2 h1
      obtain ⟨mm,a1,a2,a3,a4,a5⟩:=Zhj rest _ loc' m1 m' h
      have hlen:(loc++[v]).length=loc.length+1:=by simp
      rw [hlen] at a1 a2 a3 a4 a5
      have hv:loc'[loc.length]?=some v:=by
        have:(loc'.take (loc.length+1))[loc.length]?=some v:=by rw [a4];simp
        rwa [List.getElem?_take_of_lt (by omega)] at this
      have ht:loc'.take loc.length=loc:=by
        have:(loc'.take (loc.length+1)).take loc.length=loc:=by rw [a4];simp
        rwa [List.take_take,Nat.min_eq_left (by omega)] at this
      have hne:∀ i,loc.length+1≤i→(if i=loc.length then m else mm i)=mm i:=fun i hi=>by rw [if_neg (by omega)]
      refine ⟨fun i=>if i=loc.length then m else mm i,by simp,?_,by simp;omega,ht,?_⟩
      · rw [List.length_cons]
        show (if loc.length+(rest.length+1)=loc.length then m else mm (loc.length+(rest.length+1)))=m'
        rw [hne _ (by omega),←a2]
        congr 1;omega
      · intro p e' he
        cases p with
        | zero=>
          simp at he
          subst he
          unfold ZzI
          simp only [Nat.add_zero,if_true]
          rw [hne _ (Nat.le_refl _),a1,ht,a4]
          refine ⟨v,hv,?_,fun q hq=>ZhZ h2 q hq⟩
          rcases h1 with h1 | h1
          · exact .inl h1
          · exact .inr h1
        | succ p=>
          have h5:=a5 p e' (by simpa using he)
          unfold ZzI at h5 ⊢
          rw [show loc.length+(p+1)=loc.length+1+p by omega]
          simp only []
          rw [hne _ (by omega),hne _ (by omega)]
          exact h5
    unfold ZeZ at h
    split at h
    · cases h
    · rename_i hw
      split at h
      · rename_i h2
        exact key _ _ h h2 (.inr ⟨hw,rfl,rfl⟩)
      · cases h
    · rename_i hw
      split at h
      · cases h
      · rename_i v m1 h1
        split at h
        · rename_i h2
          exact key v m1 h h2 (.inl ⟨hw,h1⟩)
        · cases h
theorem ZjC {call:FuncId→List AV→Mem→Option (AV×Mem)} {g:X→AV} {m m':Mem} {ao:AO} {v:AV} (hk:ao.kind=0) (h:aop call g m ao=some (v,m')) :
    m'=m∧∀ m2,aop call g m2 ao=some (v,m2):=by
  unfold aop at *
  cases e:Ji g ao with
  | some u=>simp only [e] at h ⊢;cases h;exact ⟨rfl,fun _=>rfl⟩
  | none=>
    simp only [e] at h
    rw [ZaM (by omega),QK (by omega),ZaN (by omega)] at h
    cases h
theorem Zcf {g:X→AV} {ao:AO} (h:ao.kind≠0):Ji g ao=none:=by
  cases ao <;> first | rfl | (exact absurd rfl h)
theorem Zl7 {call:FuncId→List AV→Mem→Option (AV×Mem)} {g:X→AV} {m m':Mem} {ao:AO} {v:AV} (hk:ao.kind=1) (h:aop call g m ao=some (v,m')) :
    m'=m∧Zao g m.H ao=some v:=by
  unfold aop at *
  rw [Zcf (by omega)] at h
  cases e:Zao g m.H ao with
  | some u=>simp only [e] at h;cases h;exact ⟨rfl,rfl⟩
  | none=>
    simp only [e] at h
    rw [QK (by omega),ZaN (by omega)] at h
    cases h
theorem Zl8 {call:FuncId→List AV→Mem→Option (AV×Mem)} {g:X→AV} {m:Mem} {ao:AO} {v:AV} (hk:ao.kind=1) (h:Zao g m.H ao=some v) :
    aop call g m ao=some (v,m):=by
  unfold aop
  rw [Zcf (by omega)]
  simp only [h]
theorem Zez {t:Tmp} (dn:List X9):∀ {p0 p:Nat} {it:X9},ZdZ t dn p0=some (p,it)→p0≤p∧dn[p - p0]?=some it∧it.dst=some t:=by
  induction dn with
  | nil=>intro p0 p it h;cases h
  | cons it0 rest ih=>
    intro p0 p it h
    rw [ZdZ] at h
    by_cases e:it0.dst=some t
    · rw [if_pos e] at h
      have h1:=Option.some.inj h
      have h2:p0=p:=congrArg Prod.fst h1
      have h3:it0=it:=congrArg Prod.snd h1
      subst h2 h3
      exact ⟨Nat.le_refl _,by rw [Nat.sub_self];rfl,e⟩
    · rw [if_neg e] at h
      obtain ⟨h1,h2,h3⟩:=ih h
      refine ⟨by omega,?_,h3⟩
      rw [show p - p0=(p - (p0+1))+1 by omega,List.getElem?_cons_succ]
      exact h2
theorem ZeA {t:Tmp}:∀ {dn:List X9} {p0:Nat},ZdZ t dn p0=none→∀ it∈dn,it.dst≠some t
  | [],p0,h,it,hi=>by cases hi
  | it0::rest,p0,h,it,hi=>by
    unfold ZdZ at h
    split at h
    · cases h
    · rename_i e
      rcases List.mem_cons.mp hi with rfl | hi
      · exact e
      · exact ZeA h it hi
theorem ZsU {A:List Nat} (dn:List X9):∀ {p0 p:Nat} {it:X9},dn[p]?=some it→it.ao.kind=1→it.idx ∉ A→(p0+p,⟨it.ao,it.gd⟩)∈Zjz A dn p0:=by
  induction dn with
  | nil=>intro p0 p it h;rw [List.getElem?_nil] at h;cases h
  | cons it0 rest ih=>
    intro p0 p it h hk hA
    cases p with
    | zero=>
      rw [List.getElem?_cons_zero] at h
      have h1:=Option.some.inj h
      subst h1
      rw [Zjz,if_pos ⟨hk,by simpa using hA⟩]
      exact List.mem_cons_self
    | succ p=>
      rw [List.getElem?_cons_succ] at h
      have:=ih (p0:=p0+1) h hk hA
      rw [show p0+1+p=p0+(p+1) by omega] at this
      rw [Zjz]
      split
      · exact List.mem_cons_of_mem _ this
      · exact this
structure ZxJ (ι:Emb) (m:Mem) (w:World) (c:Nat) (zero:List AV):Prop where
  low:c<w.heap.size
  out:∀ (b:Nat) (k:Blk) d,m.H[b]?=some k→k.live→ι[b]?≠some (some (c,d))
  cells:ZbZ ι w c 0 zero true
  ng:∀ p,p∈ZcP→p.1≠c
theorem ZxJ.notImg {ι:Emb} {m:Mem} {w:World} {c:Nat} {zero:List AV} (h:ZxJ ι m w c zero):¬ Img ι m c:=by
  rintro ⟨b,k,d,h1,hk,h2⟩
  exact h.out b k d h1 (by cases k <;> first | trivial | cases hk) h2
theorem ZxJ.ext {ι ι':Emb} {m m':Mem} {w w':World} {c:Nat} {zero:List AV} (R:Rel ι m w) (E:Ext ι m w ι' m' w') (G:Grow m m') (h:ZxJ ι m w c zero):ZxJ ι' m' w' c zero:=by
  refine ⟨Nat.lt_of_lt_of_le h.low E.size,?_,h.cells.mono E.le E.shapes (E.frame c h.low h.notImg),h.ng⟩
  intro b k d hb hk hi
  have hw:k.wrt→False:=fun hkw=>by
    rcases E.img c ⟨b,k,d,hb,hkw,hi⟩ with h1 | h1
    · exact h.notImg h1
    · have:=h.low;omega
  cases k with
  | dead=>cases hk
  | mp es=>exact hw trivial
  | cells cs wr=>
    cases wr with
    | true=>exact hw rfl
    | false=>
      have h1:=G.ro b cs hb
      obtain ⟨c0,d0,h2,_⟩:=R.at' b cs false h1
      have h3:=E.le b _ h2
      rw [hi] at h3
      cases h3
      exact h.out b _ d h1 trivial h2
theorem Rel.more {ι:Emb} {m:Mem} {w:World} (h:Rel ι m w) (o:Obj):Rel ι m (w.alloc o)∧Ext ι m w ι m (w.alloc o):=by
  have hsh:=Zae w o
  refine h.of0 ⟨⟨h.len,fun b c d hb => ?_,fun b cs wr hb => ?_,fun b es hb => ?_,h.sep⟩,⟨Emb.le_refl _,Nat.le_refl _,?_,hsh,fun r hr=>.inl hr,fun r hr _=>heap_alloc_old w o r hr,rfl,rfl,rfl⟩⟩
  · have:=h.low b c d hb
    rw [World.size_alloc];omega
  · obtain ⟨c,d,h1,h2⟩:=h.at' b cs wr hb
    exact ⟨c,d,h1,h2.mono (Emb.le_refl _) hsh (heap_alloc_old w o c (h.low b c d h1))⟩
  · obtain ⟨c,h1,h2⟩:=h.mp b es hb
    exact ⟨c,h1,h2.mono (heap_alloc_old w o c (h.low b c 0 h1))⟩
  · rw [World.size_alloc];omega
theorem ZxJ.commit {ι:Emb} {m:Mem} {w:World} {c:Nat} {zero:List AV} (R:Rel ι m w) (h:ZxJ ι m w c zero) :
    Emb.le ι (ι++[some (c,0)])∧Rel (ι++[some (c,0)]) (newBlk m zero) w ∧
    (∀ {ι0:Emb} {m0:Mem} {w0:World},Ext ι0 m0 w0 ι m w→w0.heap.size≤c→Ext ι0 m0 w0 (ι++[some (c,0)]) (newBlk m zero) w) ∧
    (∀ {c':Nat} {zero':List AV},ZxJ ι m w c' zero'→c≠c'→ZxJ (ι++[some (c,0)]) (newBlk m zero) w c' zero'):=by
  have hle:Emb.le ι (ι++[some (c,0)]):=fun b p hb=>by
    rw [List.getElem?_append_left];exact hb
    exact (List.getElem?_eq_some_iff.mp hb).1
  have key:∀ b:Nat,(ι++[some (c,0)])[b]?=if b<ι.length then ι[b]? else if b=ι.length then some (some (c,0)) else none:=by
    intro b
    by_cases h1:b<ι.length
    · rw [if_pos h1,List.getElem?_append_left h1]
    · rw [if_neg h1,List.getElem?_append_right (by omega)]
      by_cases h2:b=ι.length
      · subst h2;simp
      · rw [if_neg h2];rw [List.getElem?_eq_none];simp;omega
  have keyH:∀ b:Nat,(newBlk m zero).H[b]?=if b<ι.length then m.H[b]? else if b=ι.length then some (.cells zero true) else none:=by
    intro b
    simp only [newBlk]
    by_cases h1:b<ι.length
    · rw [if_pos h1,List.getElem?_append_left (by rw [←R.len];exact h1)]
    · rw [if_neg h1,List.getElem?_append_right (by rw [←R.len];omega)]
      by_cases h2:b=ι.length
      · subst h2;simp [R.len]
      · rw [if_neg h2];rw [List.getElem?_eq_none];simp [←R.len];omega
  refine ⟨hle,⟨⟨by simp [newBlk,R.len],?_,?_,?_,?_⟩,?_⟩,?_,?_⟩
  · intro b c1 d hb
    rw [key] at hb
    split at hb
    · exact R.low b c1 d hb
    · split at hb
      · cases hb;exact h.low
      · cases hb
  · intro b cs' wr hb
    rw [keyH] at hb
    split at hb
    · obtain ⟨c1,d,h1,h2⟩:=R.at' b cs' wr hb
      exact ⟨c1,d,hle _ _ h1,h2.mono hle (YJ.refl _) rfl⟩
    · split at hb
      · rename_i hlt heq
        cases hb
        exact ⟨c,0,by rw [key,if_neg hlt,if_pos heq],h.cells.mono hle (YJ.refl _) rfl⟩
      · cases hb
  · intro b es hb
    rw [keyH] at hb
    split at hb
    · obtain ⟨c1,h1,h2⟩:=R.mp b es hb
      exact ⟨c1,hle _ _ h1,h2⟩
    · split at hb <;> cases hb
  · intro b b' k₁ k₂ c1 d c' d' hne hb hk hb' hk' hi hi'
    have hwl:∀ k:Blk,k.wrt→k.live:=fun k hk=>by cases k <;> first | trivial | cases hk
    rw [keyH] at hb hb'
    rw [key] at hi hi'
    by_cases h1:b<ι.length <;> by_cases h2:b'<ι.length
    · rw [if_pos h1] at hb hi;rw [if_pos h2] at hb' hi'
      exact R.sep b b' k₁ k₂ c1 d c' d' hne hb hk hb' hk' hi hi'
    · rw [if_pos h1] at hb hi;rw [if_neg h2] at hb' hi'
      split at hi'
      · cases hi'
        intro e
        subst e
        exact h.out b k₁ d hb (hwl _ hk) hi
      · cases hi'
    · rw [if_neg h1] at hb hi;rw [if_pos h2] at hb' hi'
      split at hi
      · cases hi
        intro e
        subst e
        exact h.out b' k₂ d' hb' hk' hi'
      · cases hi
    · rw [if_neg h1] at hb hi;rw [if_neg h2] at hb' hi'
      split at hi
      · split at hi'
        · omega
        · cases hi'
      · cases hi
  · intro p hp
    obtain ⟨g1,g2,g3⟩:=R.glob p hp
    refine ⟨g1,?_,g3⟩
    rintro ⟨b,cs',d,hb,hk,hi⟩
    rw [keyH] at hb
    rw [key] at hi
    split at hb
    · rename_i hlt
      rw [if_pos hlt] at hi
      exact g2 ⟨b,cs',d,hb,hk,hi⟩
    · rename_i hlt
      rw [if_neg hlt] at hi
      split at hi
      · cases hi;exact h.ng p hp rfl
      · cases hi
  · intro ι0 m0 w0 E hc
    refine ⟨Emb.le_trans E.le hle,by simp;have:=E.grow;omega,E.size,E.shapes,?_,E.frame,E.os,E.tape,E.output⟩
    rintro r ⟨b,cs',d,hb,hk,hi⟩
    rw [keyH] at hb
    rw [key] at hi
    split at hb
    · rename_i hlt
      rw [if_pos hlt] at hi
      exact E.img r ⟨b,cs',d,hb,hk,hi⟩
    · rename_i hlt
      rw [if_neg hlt] at hi
      split at hi
      · cases hi;exact .inr hc
      · cases hi
  · intro c' zero' h' hne
    refine ⟨h'.low,?_,h'.cells.mono hle (YJ.refl _) rfl,h'.ng⟩
    intro b k d hb hk hi
    rw [keyH] at hb
    rw [key] at hi
    split at hb
    · rename_i hlt
      rw [if_pos hlt] at hi
      exact h'.out b k d hb hk hi
    · rename_i hlt
      rw [if_neg hlt] at hi
      split at hi
      · cases hi;exact hne rfl
      · cases hi
structure ZeB (nt:Nat) (keep:List Nat) (tm:List AV) (items:List X9) (L:List AV) (mm:Nat→Mem) (ι0:Emb) (w0:World) (n:Nat)
    (listed:Array Bool) (s:Nat) (pend:List (Nat×Nat)) (ι:Emb) (w:World) (a:Act):Prop where
  size:listed.size=n
  rel:Rel ι (mm s) w
  ext:Ext ι0 (mm 0) w0 ι (mm s) w
  closed:∀ (p:Nat) it,items[p]?=some it→listed.getD it.idx false=true→∀ x∈it.anc,listed.getD x false=true
  before:∀ (p:Nat) it,items[p]?=some it→2≤it.ao.kind→(listed.getD it.idx false=true↔(p<s∨∃ c,(p,c)∈pend))
  behind:s=0∨∃ it,items[s - 1]?=some it∧2≤it.ao.kind
  vals:∀ (p:Nat) it d,items[p]?=some it→listed.getD it.idx false=true→(∀ c,(p,c) ∉ pend)→it.dst=some d→V ι w ((L[p]?).getD .undef) (a.eval (.tmp d))
  kept:∀ t k,keep.idxOf? t=some k→(∀ (p:Nat) it,items[p]?=some it→it.dst=some t→listed.getD it.idx false=false)→V ι w ((tm[k]?).getD .undef) (a.eval (.tmp t))
  nts:nt≤a.tmps.size
  defers:a.defers=[]
  pok:∀ (p c:Nat),(p,c)∈pend→s≤p∧w0.heap.size≤c∧∃ it zero f,items[p]?=some it∧it.late=true∧(Zfv it.ao=true∧Ka (get tm (L.take p)) it.ao=some (zero,f))∧listed.getD it.idx false=true∧ZxJ ι (mm s) w c zero ∧
    ∀ d,it.dst=some d→∀ (ι':Emb) (w':World) (n:Nat),ι'[n]?=some (some (c,0))→YJ w w'→V ι' w' (f n) (a.eval (.tmp d))
  pdis:∀ (p c p' c':Nat),(p,c)∈pend→(p',c')∈pend→(p=p'↔c=c')
theorem KY {listed:Array Bool} {i:Nat} (h:i<listed.size):(listed.setIfInBounds i true).getD i false=true:=by simp [h]
section
variable {nt : Nat} {keep : List Nat} {ops : Array Oper} {tm : List AV} {items : List X9} {L : List AV} {mm : Nat → Mem} {ι0 : Emb} {w0 : World}
  (hok:∀ p it,items[p]?=some it→∃ o,Ze5 P nt keep ops (items.take p) it o)
include hok
theorem Zhk {p q:Nat} {it it':X9} (hp:items[p]?=some it) (hq:items[q]?=some it') (he:it.idx=it'.idx):p=q:=by
  rcases Nat.lt_trichotomy p q with h | h | h
  · obtain ⟨o,k⟩:=hok q it' hq
    refine absurd he (k.new it ?_)
    exact List.mem_of_getElem? (i:=p) (by rw [List.getElem?_take_of_lt h];exact hp)
  · exact h
  · obtain ⟨o,k⟩:=hok p it hp
    refine absurd he.symm (k.new it' ?_)
    exact List.mem_of_getElem? (i:=q) (by rw [List.getElem?_take_of_lt h];exact hq)
theorem Zm4 {p q:Nat} {it it':X9} {d:Tmp} (hp:items[p]?=some it) (hq:items[q]?=some it') (h1:it.dst=some d) (h2:it'.dst=some d):p=q:=by
  have key:∀ {p q:Nat} {it it':X9},items[p]?=some it→items[q]?=some it'→it.dst=some d→it'.dst=some d→p<q→False:=by
    intro p q it it' hp hq h1 h2 h
    obtain ⟨o,k⟩:=hok q it' hq
    have hf:=k.free
    rw [h2] at hf
    simp only [ZjA,List.all_eq_true,Bool.and_eq_true,bne_iff_ne] at hf
    exact (hf it (List.mem_of_getElem? (i:=p) (by rw [List.getElem?_take_of_lt h];exact hp))).1 h1
  rcases Nat.lt_trichotomy p q with h | h | h
  · exact (key hp hq h1 h2 h).elim
  · exact h
  · exact (key hq hp h2 h1 h).elim
omit hok in
theorem ZeB.anc {listed:Array Bool} {s:Nat} {pend:List (Nat×Nat)} {ι:Emb} {w:World} {a:Act} (D:ZeB nt keep tm items L mm ι0 w0 ops.size listed s pend ι w a) {p:Nat} {it:X9} {o:Oper}
    (hp:items[p]?=some it) (k:Ze5 P nt keep ops (items.take p) it o) (hw:∀ x∈XR o,listed.getD x false=true):∀ x∈it.anc,listed.getD x false=true:=by
  intro x hx
  rcases ZjB k.anc x hx with h | ⟨it',h1,h2,h3⟩
  · exact hw x h
  · obtain ⟨q,hq⟩:=List.getElem?_of_mem h1
    have hlt:q<p:=by
      have:=(List.getElem?_eq_some_iff.mp hq).1
      simp at this;omega
    rw [List.getElem?_take_of_lt hlt] at hq
    exact D.closed q it' hq (hw _ h2) x h3
theorem ZeB.looks {listed:Array Bool} {s:Nat} {pend:List (Nat×Nat)} {ι:Emb} {w:World} {a:Act} (D:ZeB nt keep tm items L mm ι0 w0 ops.size listed s pend ι w a) {p:Nat} {it:X9} {o:Oper}
    (hp:items[p]?=some it) (k:Ze5 P nt keep ops (items.take p) it o) (hanc:∀ x∈it.anc,listed.getD x false=true) (hun:listed.getD it.idx false=false)
    (hnp:∀ (i:Nat) it',i<p→items[i]?=some it'→it'.idx∈it.anc→∀ c,(i,c) ∉ pend) {q:Nat} (hq:p≤q) :
    OkX ι w (cxD keep (items.take p) it.anc it.reads) (get tm (L.take q)) a.eval:=by
  intro x y hx
  cases x with
  | tmp t=>
    simp only [cxD] at hx
    split at hx
    · rename_i hr
      split at hx
      · rename_i i it' hf
        obtain ⟨_,h2,h3⟩:=Zez _ hf
        rw [Nat.sub_zero] at h2
        have hlt:i<p:=by
          have:=(List.getElem?_eq_some_iff.mp h2).1
          simp at this;omega
        rw [List.getElem?_take_of_lt hlt] at h2
        split at hx
        · rename_i hA
          cases hx
          have:=D.vals i it' t h2 (hanc _ (by simpa using hA)) (hnp i it' hlt h2 (by simpa using hA)) h3
          simp only [get]
          rw [List.getElem?_take_of_lt (by omega)]
          exact this
        · cases hx
      · rename_i hf
        have hnone:=ZeA hf
        split at hx
        · rename_i s' hs
          cases hx
          refine D.kept t s' hs fun i it' hi hd => ?_
          rcases Nat.lt_trichotomy i p with h | h | h
          · exact absurd hd (hnone it' (List.mem_of_getElem? (i:=i) (by rw [List.getElem?_take_of_lt h];exact hi)))
          · subst h
            rw [hp] at hi
            cases hi
            exact hun
          · obtain ⟨o',k'⟩:=hok i it' hi
            have hfr:=k'.free
            rw [hd] at hfr
            simp only [ZjA,List.all_eq_true,Bool.and_eq_true,Bool.or_eq_true,Bool.not_eq_true'] at hfr
            have h4:=(hfr it (List.mem_of_getElem? (i:=p) (by rw [List.getElem?_take_of_lt h];exact hp))).2
            have h5:it.idx∈it'.anc:=by
              rcases h4 with h4 | h4
              · rw [hr] at h4;cases h4
              · simpa using h4
            cases hl:listed.getD it'.idx false with
            | false=>rfl
            | true=>
              have:=D.closed i it' hi hl _ h5
              rw [hun] at this
              cases this
        · cases hx;trivial
    · cases hx
  | const v=>
    simp only [cxD,Option.map_eq_some_iff] at hx
    obtain ⟨a',ha,rfl⟩:=hx
    exact V.ofConst ha
  | func f=>cases hx;exact ⟨[],[],rfl,rfl,rfl⟩
  | global g=>cases hx
theorem ZeB.next {listed:Array Bool} {s s':Nat} {pend:List (Nat×Nat)} {ι ι':Emb} {w w':World} {a:Act} (D:ZeB nt keep tm items L mm ι0 w0 ops.size listed s pend ι w a) {p:Nat} {it:X9} {o:Oper}
    (hp:items[p]?=some it) (k:Ze5 P nt keep ops (items.take p) it o) (hanc:∀ x∈it.anc,listed.getD x false=true) (hun:listed.getD it.idx false=false)
    {v':Value} (hv:V ι' w' ((L[p]?).getD .undef) v') (R:Rel ι' (mm s') w') (E:Ext ι (mm s) w ι' (mm s') w') (G:Grow (mm s) (mm s'))
    (hs:(it.ao.kind<2∧s'=s)∨(2≤it.ao.kind∧s'=p+1∧s≤p∧∀ (q:Nat) it',items[q]?=some it'→2≤it'.ao.kind→s≤q→p≤q)) :
    ZeB nt keep tm items L mm ι0 w0 ops.size (listed.setIfInBounds it.idx true) s' pend ι' w' (a.put o.dst v'):=by
  have hlt:it.idx<listed.size:=by
    rw [D.size]
    exact (Array.getElem?_eq_some_iff.mp k.op).1
  have hput:∀ t,o.dst≠some t→(a.put o.dst v').eval (.tmp t)=a.eval (.tmp t):=by
    intro t ht
    cases hd:o.dst with
    | none=>rfl
    | some d=>exact Q7 a d t v' (fun e=>ht (by rw [hd,e]))
  have hlisted:∀ x,(listed.setIfInBounds it.idx true).getD x false=true→x=it.idx∨listed.getD x false=true:=by
    intro x hx
    by_cases h:x=it.idx
    · exact .inl h
    · rw [getD_set_ne false (fun e=>h e.symm)] at hx;exact .inr hx
  have hnot:∀ q c,(q,c)∈pend→q≠p:=by
    intro q c hq e
    obtain ⟨_,_,it',zero,f,h1,_,_,h2,_⟩:=D.pok q c hq
    rw [e,hp] at h1
    cases h1
    rw [hun] at h2
    cases h2
  refine ⟨by simpa using D.size,R,D.ext.trans E,?_,?_,?_,?_,?_,?_,?_,?_,D.pdis⟩
  · intro q it' hq hl x hx
    rcases hlisted _ hl with h | h
    · have:=Zhk hok hq hp h
      subst this
      rw [hp] at hq;cases hq
      exact getD_set_true (hanc x hx)
    · exact getD_set_true (D.closed q it' hq h x hx)
  · intro q it' hq hk
    by_cases hqp:q=p
    · subst hqp
      rw [hp] at hq;cases hq
      rw [KY hlt]
      rcases hs with ⟨h1,_⟩|⟨_,h2,_⟩
      · omega
      · simp [h2]
    · have hne:it'.idx≠it.idx:=fun e=>hqp (Zhk hok hq hp e)
      rw [getD_set_ne false (fun e=>hne e.symm),D.before q it' hq hk]
      rcases hs with ⟨_,h2⟩|⟨h1,h2,h3,h4⟩
      · rw [h2]
      · subst h2
        constructor
        · rintro (h | h)
          · left;omega
          · exact .inr h
        · rintro (h | h)
          · left
            rcases Nat.lt_or_ge q s with h5 | h5
            · exact h5
            · have:=h4 q it' hq hk h5;omega
          · exact .inr h
  · rcases hs with ⟨_,h2⟩|⟨h1,h2,_⟩
    · rw [h2];exact D.behind
    · right
      subst h2
      exact ⟨it,by simpa using hp,h1⟩
  · intro q it' d hq hl hnp hd
    by_cases hqp:q=p
    · subst hqp
      rw [hp] at hq;cases hq
      have hod:o.dst=some d:=by rw [←k.dst];exact hd
      rw [hod,ZcS a d v' (by have:=k.dok;rw [hod] at this;simp [Zqn] at this;exact Nat.lt_of_lt_of_le this D.nts)]
      exact hv
    · rcases hlisted _ hl with h | h
      · exact absurd (Zhk hok hq hp h) hqp
      · rw [hput d (fun e=>hqp (Zm4 hok hq hp hd (by rw [k.dst];exact e)))]
        exact V.mono E.le E.shapes _ _ (D.vals q it' d hq h hnp hd)
  · intro t i hi hall
    have hnot:o.dst≠some t:=by
      intro e
      have:=hall p it hp (by rw [k.dst];exact e)
      rw [KY hlt] at this
      cases this
    rw [hput t hnot]
    refine V.mono E.le E.shapes _ _ (D.kept t i hi fun q it' hq hd => ?_)
    cases hl:listed.getD it'.idx false with
    | false=>rfl
    | true=>
      have:=hall q it' hq hd
      rw [getD_set_true hl] at this
      cases this
  · have:(a.put o.dst v').tmps.size=a.tmps.size:=by
      cases o.dst <;> simp [Act.put]
    rw [this];exact D.nts
  · have:(a.put o.dst v').defers=a.defers:=by
      cases o.dst <;> rfl
    rw [this];exact D.defers
  · intro q c hq
    obtain ⟨h1,h2,it',zero,f,h3,h4,h5,h6,h7,h8⟩:=D.pok q c hq
    have hqp:=hnot q c hq
    refine ⟨?_,h2,it',zero,f,h3,h4,h5,getD_set_true h6,h7.ext D.rel E G,fun d hd => ?_⟩
    · rcases hs with ⟨_,h⟩|⟨_,h,_,h'⟩
      · rw [h];exact h1
      · have:=h' q it' h3 (KM h5.1) h1
        omega
    · rw [hput d (fun e=>hqp (Zm4 hok h3 hp hd (by rw [k.dst];exact e)))]
      exact fun ι'' w'' n h9 h10=>h8 d hd ι'' w'' n h9 (YJ.trans E.shapes h10)
theorem ZeB.ahead {listed:Array Bool} {s:Nat} {pend:List (Nat×Nat)} {ι:Emb} {w:World} {a:Act} (D:ZeB nt keep tm items L mm ι0 w0 ops.size listed s pend ι w a) {p:Nat} {it:X9} {o:Oper}
    (hp:items[p]?=some it) (k:Ze5 P nt keep ops (items.take p) it o) (hanc:∀ x∈it.anc,listed.getD x false=true) (hun:listed.getD it.idx false=false)
    {zero:List AV} {f:Nat→AV} (hl:it.late=true) (hz:Zfv it.ao=true∧Ka (get tm (L.take p)) it.ao=some (zero,f)) (hsp:s≤p) {vs:List Value} {e:TypeId} (hvs:VL ι w zero vs) (hcell:zero.all AV.isCell=true) {v':Value} (hv':∀ (ι':Emb) (w':World) (n:Nat),ι'[n]?=some (some (w.heap.size,0))→YJ (w.alloc (.cells vs.toArray e)) w'→V ι' w' (f n) v') :
    ZeB nt keep tm items L mm ι0 w0 ops.size (listed.setIfInBounds it.idx true) s ((p,w.heap.size)::pend) ι (w.alloc (.cells vs.toArray e)) (a.put o.dst v'):=by
  obtain ⟨hr,hE⟩:=D.rel.more (.cells vs.toArray e)
  have hlt:it.idx<listed.size:=by
    rw [D.size]
    exact (Array.getElem?_eq_some_iff.mp k.op).1
  have hput:∀ t,o.dst≠some t→(a.put o.dst v').eval (.tmp t)=a.eval (.tmp t):=by
    intro t ht
    cases hd:o.dst with
    | none=>rfl
    | some d=>exact Q7 a d t v' (fun e=>ht (by rw [hd,e]))
  have hlisted:∀ x,(listed.setIfInBounds it.idx true).getD x false=true→x=it.idx∨listed.getD x false=true:=by
    intro x hx
    by_cases h:x=it.idx
    · exact .inl h
    · rw [getD_set_ne false (fun e=>h e.symm)] at hx;exact .inr hx
  have hnot:∀ q c,(q,c)∈pend→q≠p:=by
    intro q c hq e
    obtain ⟨_,_,it',zero,f,h1,_,_,h2,_⟩:=D.pok q c hq
    rw [e,hp] at h1
    cases h1
    rw [hun] at h2
    cases h2
  refine ⟨by simpa using D.size,hr,D.ext.trans hE,?_,?_,D.behind,?_,?_,?_,?_,?_,?_⟩
  · intro q it' hq hl x hx
    rcases hlisted _ hl with h | h
    · have:=Zhk hok hq hp h
      subst this
      rw [hp] at hq;cases hq
      exact getD_set_true (hanc x hx)
    · exact getD_set_true (D.closed q it' hq h x hx)
  · intro q it' hq hk
    by_cases hqp:q=p
    · subst hqp
      rw [hp] at hq;cases hq
      rw [KY hlt]
      simp
    · have hne:it'.idx≠it.idx:=fun e=>hqp (Zhk hok hq hp e)
      rw [getD_set_ne false (fun e=>hne e.symm),D.before q it' hq hk]
      constructor
      · rintro (h | ⟨c,h⟩)
        · exact .inl h
        · exact .inr ⟨c,List.mem_cons_of_mem _ h⟩
      · rintro (h | ⟨c,h⟩)
        · exact .inl h
        · rcases List.mem_cons.mp h with h | h
          · cases h;exact absurd rfl hqp
          · exact .inr ⟨c,h⟩
  · intro q it' d hq hl hnp hd
    by_cases hqp:q=p
    · subst hqp
      exact absurd List.mem_cons_self (hnp w.heap.size)
    · rcases hlisted _ hl with h | h
      · exact absurd (Zhk hok hq hp h) hqp
      · rw [hput d (fun e=>hqp (Zm4 hok hq hp hd (by rw [k.dst];exact e)))]
        exact V.mono hE.le hE.shapes _ _ (D.vals q it' d hq h (fun c hc=>hnp c (List.mem_cons_of_mem _ hc)) hd)
  · intro t i hi hall
    have hnot:o.dst≠some t:=by
      intro e
      have:=hall p it hp (by rw [k.dst];exact e)
      rw [KY hlt] at this
      cases this
    rw [hput t hnot]
    refine V.mono hE.le hE.shapes _ _ (D.kept t i hi fun q it' hq hd => ?_)
    cases hl:listed.getD it'.idx false with
    | false=>rfl
    | true=>
      have:=hall q it' hq hd
      rw [getD_set_true hl] at this
      cases this
  · have:(a.put o.dst v').tmps.size=a.tmps.size:=by
      cases o.dst <;> simp [Act.put]
    rw [this];exact D.nts
  · have:(a.put o.dst v').defers=a.defers:=by
      cases o.dst <;> rfl
    rw [this];exact D.defers
  · intro q c hq
    rcases List.mem_cons.mp hq with h | hq
    · cases h
      have hnew:(w.alloc (.cells vs.toArray e)).heap[w.heap.size]?=some (.cells vs.toArray e):=heap_alloc_new _ _
      refine ⟨hsp,D.ext.size,it,zero,f,hp,hl,hz,KY hlt,⟨by rw [World.size_alloc];omega,?_,⟨⟨vs,VL.mono (Emb.le_refl _) hE.shapes _ _ hvs,fun j v hj => ?_⟩,hcell,fun _=>⟨e,vs.length,?_,fun o ho => ?_⟩⟩,fun p hp e => ?_⟩,fun d hd => ?_⟩
      · intro b k d hb hk hi
        have:=D.rel.low b _ d hi
        omega
      · rw [Nat.zero_add]
        simp only [World.cell?,hnew,Option.isSome_none,Bool.false_eq_true,if_false]
        rw [List.getElem?_toArray]
        exact hj
      · unfold World.shape?;rw [hnew];simp
      · unfold World.frozen?;simp only [hnew]
        simp
      · have h1:=(D.rel.glob p hp).1
        rw [e] at h1
        exact absurd h1 (Nat.lt_irrefl _)
      · have hod:o.dst=some d:=by rw [←k.dst];exact hd
        rw [hod,ZcS a d v' (by have:=k.dok;rw [hod] at this;simp [Zqn] at this;exact Nat.lt_of_lt_of_le this D.nts)]
        exact hv'
    · obtain ⟨h1,h2,it',zero',f',h3,h4,h5,h6,h7,h8⟩:=D.pok q c hq
      have hqp:=hnot q c hq
      refine ⟨h1,h2,it',zero',f',h3,h4,h5,getD_set_true h6,h7.ext D.rel hE (Grow.refl _),fun d hd => ?_⟩
      rw [hput d (fun e=>hqp (Zm4 hok h3 hp hd (by rw [k.dst];exact e)))]
      exact fun ι'' w'' n h9 h10=>h8 d hd ι'' w'' n h9 (YJ.trans hE.shapes h10)
  · intro q c q' c' hq hq'
    rcases List.mem_cons.mp hq with h | hq <;> rcases List.mem_cons.mp hq' with h' | hq'
    · cases h;cases h';simp
    · cases h
      have h1:=hnot q' c' hq'
      obtain ⟨_,_,_,_,_,_,_,_,_,h2,_⟩:=D.pok q' c' hq'
      have h3:=h2.low
      constructor
      · intro e;exact absurd e.symm h1
      · intro e;omega
    · cases h'
      have h1:=hnot q c hq
      obtain ⟨_,_,_,_,_,_,_,_,_,h2,_⟩:=D.pok q c hq
      have h3:=h2.low
      constructor
      · intro e;exact absurd e h1
      · intro e;omega
    · exact D.pdis q c q' c' hq hq'
section
variable {call : FuncId → List AV → Mem → Option (AV × Mem)}
  (htr:∀ (p:Nat) it,items[p]?=some it→ZzI call tm L mm p it.ao it.gd it.again)
include htr
omit hok in
theorem Zhl {s:Nat}:∀ {q:Nat},s≤q→q≤items.length→(∀ (i:Nat) it,items[i]?=some it→2≤it.ao.kind→s≤i→q≤i)→mm q=mm s:=by
  intro q hsq
  induction hsq with
  | refl=>intros;rfl
  | @step q hsq ih=>
    intro hl hno
    have hlt:q<items.length:=by omega
    obtain ⟨v,_,h2,_⟩:=htr q items[q] (List.getElem?_eq_getElem hlt)
    have hk:¬ 2≤items[q].ao.kind:=fun h=>by
      have:=hno q items[q] (List.getElem?_eq_getElem hlt) h hsq;omega
    have h3:mm (q+1)=mm q:=by
      rcases h2 with ⟨_,h2⟩|⟨_,_,h2⟩
      · by_cases h0:items[q].ao.kind=0
        · exact (ZjC h0 h2).1
        · exact (Zl7 (by omega) h2).1
      · exact h2
    rw [h3]
    refine ih (by omega) fun i it hi hk' hsi => ?_
    have:=hno i it hi hk' hsi
    omega
theorem ZeB.commit {listed:Array Bool} {s:Nat} {pend:List (Nat×Nat)} {ι:Emb} {w:World} {a:Act} (D:ZeB nt keep tm items L mm ι0 w0 ops.size listed s pend ι w a) {p c:Nat} (hpc:(p,c)∈pend)
    (hmin:∀ (q:Nat) it',items[q]?=some it'→2≤it'.ao.kind→s≤q→p≤q):∃ ι' pend',ZeB nt keep tm items L mm ι0 w0 ops.size listed (p+1) pend' ι' w a:=by
  obtain ⟨hsp,hc0,it,zero,f,hp,hl,hz,hli,hP,hval⟩:=D.pok p c hpc
  obtain ⟨o,k⟩:=hok p it hp
  have hple:p<items.length:=(List.getElem?_eq_some_iff.mp hp).1
  have hsame:mm p=mm s:=Zhl htr hsp (Nat.le_of_lt hple) hmin
  obtain ⟨v,hv,hop,_⟩:=htr p it hp
  have hgd:=(k.late hl).2
  have hk2:2≤it.ao.kind:=KM hz.1
  have hmake:v=f (mm s).H.length∧mm (p+1)=newBlk (mm s) zero:=by
    rcases hop with ⟨_,hop⟩|⟨hop,_⟩
    · rw [hsame] at hop
      obtain ⟨zero',f',e1,e2,e3⟩:=Zl6 hz.1 hop
      rw [hz.2] at e1
      cases e1
      exact ⟨e2,e3⟩
    · rw [hgd] at hop
      cases hop
  obtain ⟨rfl,hmm⟩:=hmake
  obtain ⟨c1,c2,c3,c4⟩:=hP.commit D.rel
  refine ⟨ι++[some (c,0)],pend.filter (fun x=>x.1≠p),⟨D.size,by rw [hmm];exact c2,by rw [hmm];exact c3 D.ext hc0,D.closed,?_,?_,?_,?_,D.nts,D.defers,?_,?_⟩⟩
  · intro q it' hq hk
    rw [D.before q it' hq hk]
    constructor
    · rintro (h | ⟨c',h⟩)
      · left;omega
      · by_cases hqp:q=p
        · left;omega
        · right;exact ⟨c',List.mem_filter.mpr ⟨h,by simpa using hqp⟩⟩
    · rintro (h | ⟨c',h⟩)
      · rcases Nat.lt_or_ge q s with h5 | h5
        · exact .inl h5
        · have h6:=hmin q it' hq hk h5
          have h7:q=p:=by omega
          subst h7
          exact .inr ⟨c,hpc⟩
      · exact .inr ⟨c',(List.mem_filter.mp h).1⟩
  · right
    exact ⟨it,by simpa using hp,hk2⟩
  · intro q it' d hq hl' hnp hd
    by_cases hqp:q=p
    · subst hqp
      rw [hp] at hq;cases hq
      rw [hv]
      refine hval d hd _ _ _ ?_ (YJ.refl _)
      rw [←D.rel.len]
      exact KX _ _
    · refine V.mono c1 (YJ.refl _) _ _ (D.vals q it' d hq hl' (fun c' hc'=>hnp c' ?_) hd)
      exact List.mem_filter.mpr ⟨hc',by simpa using hqp⟩
  · intro t i hi hall
    exact V.mono c1 (YJ.refl _) _ _ (D.kept t i hi hall)
  · intro q c' hq
    obtain ⟨h0,hne⟩:=List.mem_filter.mp hq
    have hqp:q≠p:=by simpa using hne
    obtain ⟨h1,h2,it',zero',f',h3,h4,h5,h6,h7,h8⟩:=D.pok q c' h0
    have h9:=hmin q it' h3 (KM h5.1) h1
    refine ⟨by omega,h2,it',zero',f',h3,h4,h5,h6,?_,h8⟩
    rw [hmm]
    exact c4 h7 (fun e=>hqp ((D.pdis p c q c' hpc h0).mpr e).symm)
  · intro q c1 q' c1' hq hq'
    exact D.pdis q c1 q' c1' (List.mem_filter.mp hq).1 (List.mem_filter.mp hq').1
theorem ZeB.catch {listed:Array Bool} {w:World} {a:Act}:∀ (q:Nat) {s:Nat} {pend:List (Nat×Nat)} {ι:Emb},ZeB nt keep tm items L mm ι0 w0 ops.size listed s pend ι w a →
    (∀ (i:Nat) it,items[i]?=some it→2≤it.ao.kind→i<q→listed.getD it.idx false=true) →
    ∃ s' pend' ι',ZeB nt keep tm items L mm ι0 w0 ops.size listed s' pend' ι' w a∧∀ (i:Nat) it,items[i]?=some it→2≤it.ao.kind→i<q→i<s'
  | 0,s,pend,ι,D,_=>⟨s,pend,ι,D,fun i it _ _ h=>by omega⟩
  | q+1,s,pend,ι,D,hall=>by
    obtain ⟨s1,pend1,ι1,D1,h1⟩:=ZeB.catch q D (fun i it hi hk hlt=>hall i it hi hk (by omega))
    cases hq:items[q]? with
    | none=>
      refine ⟨s1,pend1,ι1,D1,fun i it hi hk hlt => ?_⟩
      rcases Nat.lt_or_ge i q with h | h
      · exact h1 i it hi hk h
      · have:i=q:=by omega
        subst this
        rw [hq] at hi;cases hi
    | some it=>
      by_cases hk:2≤it.ao.kind
      · rcases (D1.before q it hq hk).mp (hall q it hq hk (by omega)) with h | ⟨c,hc⟩
        · refine ⟨s1,pend1,ι1,D1,fun i it' hi hk' hlt => ?_⟩
          rcases Nat.lt_or_ge i q with h' | h'
          · exact h1 i it' hi hk' h'
          · have:i=q:=by omega
            rw [this];exact h
        · obtain ⟨ι2,pend2,D2⟩:=ZeB.commit hok htr D1 hc (fun i it' hi hk' hsi=>by
            rcases Nat.lt_or_ge i q with h' | h'
            · have:=h1 i it' hi hk' h';omega
            · exact h')
          exact ⟨q+1,pend2,ι2,D2,fun i it' _ _ hlt=>hlt⟩
      · refine ⟨s1,pend1,ι1,D1,fun i it' hi hk' hlt => ?_⟩
        rcases Nat.lt_or_ge i q with h | h
        · exact h1 i it' hi hk' h
        · have:i=q:=by omega
          subst this
          rw [hq] at hi;cases hi
          exact absurd hk' hk
theorem ZeB.run {Q:Exit→Act→World→Prop} (hcall:Zas P call) (hgrow:∀ f args m v m',call f args m=some (v,m')→Grow m m') {listed:Array Bool} {s:Nat} {pend:List (Nat×Nat)} {ι:Emb} {w:World} {a:Act} (D:ZeB nt keep tm items L mm ι0 w0 ops.size listed s pend ι w a) {p:Nat} {it:X9} {o:Oper}
    (hp:items[p]?=some it) (k:Ze5 P nt keep ops (items.take p) it o) (hw:∀ x∈XR o,listed.getD x false=true) (hun:listed.getD it.idx false=false)
    {K:Act→World→Prop} (hK:∀ s' pend' ι' w' a',ZeB nt keep tm items L mm ι0 w0 ops.size (listed.setIfInBounds it.idx true) s' pend' ι' w' a'→K a' w'):wpOp P ops Q it.idx K a w:=by
  have hanc:=D.anc hp k hw
  obtain ⟨v,hv,hop,_⟩:=htr p it hp
  have hget:(L[p]?).getD .undef=v:=by rw [hv];rfl
  have hple:p<items.length:=(List.getElem?_eq_some_iff.mp hp).1
  have hchain:ZcT it.anc (items.take p)=true→∀ (i:Nat) it',items[i]?=some it'→2≤it'.ao.kind→i<p→listed.getD it'.idx false=true:=by
    intro h i it' hi hk' hip
    simp only [ZcT,List.all_eq_true,Bool.or_eq_true,decide_eq_true_eq] at h
    rcases h it' (List.mem_of_getElem? (i:=i) (by rw [List.getElem?_take_of_lt hip];exact hi)) with h1 | h1
    · omega
    · exact hanc _ (by simpa using h1)
  by_cases hall:∀ (i:Nat) it',items[i]?=some it'→2≤it'.ao.kind→i<p→listed.getD it'.idx false=true
  · obtain ⟨s,pend,ι,D,heavies⟩:=ZeB.catch hok htr p D hall
    have hnp:∀ (i:Nat) it',i<p→items[i]?=some it'→it'.idx∈it.anc→∀ c,(i,c) ∉ pend:=by
      intro i it' hip hi _ c hc
      obtain ⟨h1,_,it2,zero,f,h2,_,h3,_⟩:=D.pok i c hc
      have:=heavies i it2 h2 (KM h3.1) hip
      omega
    have hX:=D.looks hok hp k hanc hun hnp (q:=p) (Nat.le_refl _)
    have behindIt:2≤it.ao.kind→s≤p:=fun h2=>by
      rcases Nat.lt_or_ge p s with h | h
      · have:=(D.before p it hp h2).mpr (.inl h)
        rw [hun] at this
        cases this
      · exact h
    have noneThere:∀ (i:Nat) it',items[i]?=some it'→2≤it'.ao.kind→s≤i→p≤i:=fun i it' hi hk' hsi=>by
      rcases Nat.lt_or_ge i p with h | h
      · have:=heavies i it' hi hk' h;omega
      · exact h
    unfold wpOp
    rw [k.op]
    rcases hop with ⟨hwt,hop⟩|⟨hwt,hvt,hmm⟩
    · have hwant:Region.wanted o (yielded ops a.tmps)=true:=Zaf hX k.guard hwt
      simp only [hwant,if_true]
      left
      by_cases h0:it.ao.kind=0
      · obtain ⟨_,h2⟩:=ZjC h0 hop
        refine Zhi hcall hX D.rel o (Zl5 hX D.rel o k.comp (h2 (mm s))) fun ι' w' v' hv' R' E => ?_
        exact hK s pend ι' w' _ (D.next hok hp k hanc hun (by rw [hget];exact hv') R' E (Grow.refl _) (.inl ⟨by omega,rfl⟩))
      · by_cases h1:it.ao.kind=1
        · obtain ⟨hm1,hm2⟩:=Zl7 h1 hop
          by_cases hps:s≤p
          · have hsame:mm p=mm s:=Zhl htr hps (Nat.le_of_lt hple) noneThere
            rw [hsame] at hm2
            refine Zhi hcall hX D.rel o (Zl5 hX D.rel o k.comp (Zl8 h1 hm2)) fun ι' w' v' hv' R' E => ?_
            exact hK s pend ι' w' _ (D.next hok hp k hanc hun (by rw [hget];exact hv') R' E (Grow.refl _) (.inl ⟨by omega,rfl⟩))
          · have hps':p<s:=by omega
            rcases D.behind with h | ⟨hit,hh,hhk⟩
            · omega
            · obtain ⟨ho,kh⟩:=hok _ _ hh
              have hne:p≠s - 1:=by
                intro e
                rw [←e,hp] at hh
                cases hh
                omega
              have hlh:listed.getD hit.idx false=true:=(D.before _ _ hh hhk).mpr (.inl (by omega))
              have hnot:it.idx ∉ hit.anc:=by
                intro e
                have:=D.closed _ _ hh hlh _ e
                rw [hun] at this
                cases this
              have hin:=ZsU (A:=hit.anc) (items.take (s - 1)) (p0:=0) (p:=p) (it:=it) (by rw [List.getElem?_take_of_lt (by omega)];exact hp) h1 hnot
              rw [Nat.zero_add] at hin
              obtain ⟨_,_,_,hag⟩:=htr _ _ hh
              have hag':=hag (p,⟨it.ao,it.gd⟩) (by rw [kh.again,if_pos hhk];exact hin)
              rw [show s - 1+1=s by omega,List.getElem?_take_of_lt (by omega),hget] at hag'
              have hX2:=D.looks hok hp k hanc hun hnp (q:=s) (by omega)
              rcases hag' with hag' | hag'
              · have:=Zaf hX2 k.guard hag'
                rw [hwant] at this
                cases this
              · refine Zhi hcall hX2 D.rel o (Zl5 hX2 D.rel o k.comp (Zl8 h1 hag')) fun ι' w' v' hv' R' E => ?_
                exact hK s pend ι' w' _ (D.next hok hp k hanc hun (by rw [hget];exact hv') R' E (Grow.refl _) (.inl ⟨by omega,rfl⟩))
        · have h2:2≤it.ao.kind:=by omega
          have hps:=behindIt h2
          have hsame:mm p=mm s:=Zhl htr hps (Nat.le_of_lt hple) noneThere
          rw [hsame] at hop
          have hG:=Grow.aop hgrow hop
          refine Zhi hcall hX D.rel o (Zl5 hX D.rel o k.comp hop) fun ι' w' v' hv' R' E => ?_
          exact hK (p+1) pend ι' w' _ (D.next hok hp k hanc hun (by rw [hget];exact hv') R' E hG (.inr ⟨h2,rfl,hps,noneThere⟩))
    · have hwant:Region.wanted o (yielded ops a.tmps)=false:=Zaf hX k.guard hwt
      simp only [hwant,Bool.false_eq_true,if_false]
      have hvu:V ι w ((L[p]?).getD .undef) undef:=by rw [hget,hvt];exact ⟨[],rfl,rfl⟩
      by_cases h2:2≤it.ao.kind
      · have hps:=behindIt h2
        have hsame:mm p=mm s:=Zhl htr hps (Nat.le_of_lt hple) noneThere
        have he:mm (p+1)=mm s:=by rw [hmm,hsame]
        exact hK (p+1) pend ι w _ (D.next hok hp k hanc hun hvu (by rw [he];exact D.rel) (by rw [he];exact Ext.refl _ _ _) (by rw [he];exact Grow.refl _) (.inr ⟨h2,rfl,hps,noneThere⟩))
      · exact hK s pend ι w _ (D.next hok hp k hanc hun hvu D.rel (Ext.refl _ _ _) (Grow.refl _) (.inl ⟨by omega,rfl⟩))
  · have hnc:ZcT it.anc (items.take p)=false:=by
      cases h:ZcT it.anc (items.take p) with
      | false=>rfl
      | true=>exact absurd (hchain h) hall
    have hnp:∀ (i:Nat) it',i<p→items[i]?=some it'→it'.idx∈it.anc→∀ c,(i,c) ∉ pend:=by
      intro i it' hip hi hin c hc
      obtain ⟨_,_,it2,zero,f,h2,h3,_⟩:=D.pok i c hc
      rw [hi] at h2
      cases h2
      have hf:=k.lfree
      unfold Zm3 at hf
      rw [hnc,Bool.false_or,List.all_eq_true] at hf
      have:=hf it' (List.mem_of_getElem? (i:=i) (by rw [List.getElem?_take_of_lt hip];exact hi))
      rw [h3] at this
      simp [hin] at this
    have hX:=D.looks hok hp k hanc hun hnp (q:=p) (Nat.le_refl _)
    unfold wpOp
    rw [k.op]
    by_cases h0:it.ao.kind=0
    · rcases hop with ⟨hwt,hop⟩|⟨hwt,hvt,hmm⟩
      · have hwant:Region.wanted o (yielded ops a.tmps)=true:=Zaf hX k.guard hwt
        simp only [hwant,if_true]
        left
        obtain ⟨_,h2⟩:=ZjC h0 hop
        refine Zhi hcall hX D.rel o (Zl5 hX D.rel o k.comp (h2 (mm s))) fun ι' w' v' hv' R' E => ?_
        exact hK s pend ι' w' _ (D.next hok hp k hanc hun (by rw [hget];exact hv') R' E (Grow.refl _) (.inl ⟨by omega,rfl⟩))
      · have hwant:Region.wanted o (yielded ops a.tmps)=false:=Zaf hX k.guard hwt
        simp only [hwant,Bool.false_eq_true,if_false]
        have hvu:V ι w ((L[p]?).getD .undef) undef:=by rw [hget,hvt];exact ⟨[],rfl,rfl⟩
        exact hK s pend ι w _ (D.next hok hp k hanc hun hvu D.rel (Ext.refl _ _ _) (Grow.refl _) (.inl ⟨by omega,rfl⟩))
    · have hl:it.late=true:=by
        rcases k.chain with h | h | h
        · exact absurd h h0
        · rw [hnc] at h;cases h
        · exact h
      obtain ⟨hia,hgd⟩:=k.late hl
      obtain ⟨zero,f,hz⟩:∃ zero f,Ka (get tm (L.take p)) it.ao=some (zero,f):=by
        rcases hop with ⟨_,hop⟩|⟨hop,_⟩
        · obtain ⟨zero,f,e1,_,_⟩:=Zl6 hia hop
          exact ⟨zero,f,e1⟩
        · rw [hgd] at hop
          cases hop
      have hwant:Region.wanted o (yielded ops a.tmps)=true:=Zaf hX k.guard (b:=true) (by rw [hgd];rfl)
      simp only [hwant,if_true]
      left
      have hsp:s≤p:=by
        rcases Nat.lt_or_ge p s with h | h
        · exfalso
          apply hall
          intro i it' hi hk' hip
          exact (D.before i it' hi hk').mpr (.inl (by omega))
        · exact h
      obtain ⟨vs,e,v',m1,m2,m3,m4⟩:=Zol (w:=w) hX o k.comp (cs:=zero) (f:=f) hz
      unfold Oper.wp
      rw [m1]
      exact hK s ((p,w.heap.size)::pend) ι _ _ (D.ahead hok hp k hanc hun hl ⟨hia,hz⟩ hsp m2 m3 m4)
theorem ZeB.any {Q:Exit→Act→World→Prop} (hcall:Zas P call) (hgrow:∀ f args m v m',call f args m=some (v,m')→Grow m m') (hcover:∀ i,i<ops.size→∃ it∈items,it.idx=i)
    (hQ:∀ s pend ι' w' a',Rel ι' (mm items.length) w'→Ext ι0 (mm 0) w0 ι' (mm items.length) w'→(∀ p c,(p,c) ∉ pend)→ZeB nt keep tm items L mm ι0 w0 ops.size (Array.replicate ops.size true) s pend ι' w' a'→Q .normal a' w') :
    ∀ (fuel:Nat) (listed:Array Bool) (s:Nat) (pend:List (Nat×Nat)) (ι:Emb) (w:World) (a:Act),listed.toList.count false≤fuel→ZeB nt keep tm items L mm ι0 w0 ops.size listed s pend ι w a→wpAny P .any ops Q fuel listed a w:=by
  have done:∀ (listed:Array Bool) (s:Nat) (pend:List (Nat×Nat)) (ι:Emb) (w:World) (a:Act),ZeB nt keep tm items L mm ι0 w0 ops.size listed s pend ι w a→Region.ready .any ops listed=[]→Q .normal a w:=by
    intro listed s pend ι w a D hr
    have hall:∀ (n:Nat) (p:Nat) it,p<n→items[p]?=some it→listed.getD it.idx false=true:=by
      intro n
      induction n with
      | zero=>intro p it h;omega
      | succ n ih=>
        intro p it hlt hp
        cases hl:listed.getD it.idx false with
        | true=>rfl
        | false=>
          obtain ⟨o,k⟩:=hok p it hp
          have hsz:it.idx<listed.size:=by rw [D.size];exact (Array.getElem?_eq_some_iff.mp k.op).1
          have hmem:it.idx∈Region.ready .any ops listed:=by
            rw [mem_ready]
            refine ⟨by simpa [hsz] using hl,o,k.op,fun e he hb => ?_⟩
            have hw:e.on∈XR o:=by
              unfold XR
              rw [List.mem_map]
              exact ⟨e,by rw [List.mem_filter];exact ⟨by simpa using he,hb⟩,rfl⟩
            have:=Zop k.anc _ hw
            have h2:∃ it'∈items.take p,it'.idx=e.on:=Zi8 k.anc _ hw
            obtain ⟨it',h3,h4⟩:=h2
            obtain ⟨q,hq⟩:=List.getElem?_of_mem h3
            have hqp:q<p:=by
              have:=(List.getElem?_eq_some_iff.mp hq).1
              simp at this;omega
            rw [List.getElem?_take_of_lt hqp] at hq
            rw [←h4]
            exact ih q it' (by omega) hq
          rw [hr] at hmem
          cases hmem
    have hlisted:listed=Array.replicate ops.size true:=by
      apply Array.ext
      · rw [D.size];simp
      · intro i h1 h2
        obtain ⟨it,h3,h4⟩:=hcover i (by rw [←D.size];exact h1)
        obtain ⟨p,hp⟩:=List.getElem?_of_mem h3
        have:=hall (p+1) p it (by omega) hp
        rw [h4] at this
        simpa [h1] using this
    obtain ⟨s,pend,ι,D,hdone⟩:=ZeB.catch hok htr items.length D (fun i it hi _ _=>hall (i+1) i it (by omega) hi)
    have hs:s≤items.length:=by
      rcases D.behind with h | ⟨it,h,_⟩
      · omega
      · have:=(List.getElem?_eq_some_iff.mp h).1;omega
    have hnone:∀ p c,(p,c) ∉ pend:=by
      intro p c hpc
      obtain ⟨h1,_,it,zero,f,h2,_,h3,_⟩:=D.pok p c hpc
      have:=hdone p it h2 (KM h3.1) (List.getElem?_eq_some_iff.mp h2).1
      omega
    have hsame:mm items.length=mm s:=Zhl htr hs (Nat.le_refl _) fun i it hi hk hsi=>by
      have h1:=hdone i it hi hk (List.getElem?_eq_some_iff.mp hi).1
      omega
    refine hQ s pend ι w a (by rw [hsame];exact D.rel) (by rw [hsame];exact D.ext) hnone ?_
    rw [←hlisted]
    exact D
  intro fuel
  induction fuel with
  | zero=>
    intro listed s pend ι w a hc D
    have hr:Region.ready .any ops listed=[]:=by
      rw [List.eq_nil_iff_forall_not_mem]
      intro j hj
      obtain ⟨h1,o,ho,_⟩:=mem_ready.1 hj
      have hlt:j<listed.size:=by rw [D.size];exact (Array.getElem?_eq_some_iff.mp ho).1
      have:false∈listed.toList:=by
        have h2:listed.toList[j]?=some false:=by simpa [hlt] using h1
        exact List.mem_of_getElem? h2
      have:=List.count_pos_iff.mpr this
      omega
    exact ⟨hr,done listed s pend ι w a D hr⟩
  | succ fuel ih=>
    intro listed s pend ι w a hc D
    refine ⟨done listed s pend ι w a D,fun j hj => ?_⟩
    obtain ⟨h1,o,ho,hwait⟩:=mem_ready.1 hj
    have hjlt:j<ops.size:=(Array.getElem?_eq_some_iff.mp ho).1
    have hlt:j<listed.size:=by rw [D.size];exact hjlt
    obtain ⟨it,h3,h4⟩:=hcover j hjlt
    obtain ⟨p,hp⟩:=List.getElem?_of_mem h3
    obtain ⟨o',k⟩:=hok p it hp
    have hoo:o'=o:=by
      have:=k.op
      rw [h4,ho] at this
      cases this;rfl
    subst hoo
    have hw:∀ x∈XR o',listed.getD x false=true:=by
      intro x hx
      unfold XR at hx
      rw [List.mem_map] at hx
      obtain ⟨e,he,rfl⟩:=hx
      rw [List.mem_filter] at he
      exact hwait e (by simpa using he.1) he.2
    have hun:listed.getD it.idx false=false:=by rw [h4];simpa [hlt] using h1
    have hcount:(listed.setIfInBounds j true).toList.count false≤fuel:=by
      have h2:listed.toList[j]?=some false:=by simpa [hlt] using h1
      have hlt':j<listed.toList.length:=by simpa using hlt
      have hg:listed.toList[j]=false:=by
        rw [List.getElem?_eq_getElem hlt'] at h2
        exact Option.some.inj h2
      rw [Array.toList_setIfInBounds,List.count_set hlt',hg,if_pos (by decide),if_neg (by decide)]
      omega
    have:=D.run hok htr (Q:=Q) hcall hgrow hp k hw hun (K:=wpAny P .any ops Q fuel (listed.setIfInBounds j true)) fun s' pend' ι' w' a' D'=>ih _ s' pend' ι' w' a' hcount (by rw [←h4];exact D')
    rw [h4] at this
    exact this
theorem ZeB.anyZ {Q:Exit→Act→World→Prop} (hcall:Zas P call) (hgrow:∀ f args m v m',call f args m=some (v,m')→Grow m m') {z:Nat} {oz:Oper} (hz:ops[z]?=some oz) (hgz:oz.guard=none) (hcover:∀ i,i<ops.size→i≠z→∃ it∈items,it.idx=i) (hzn:∀ it∈items,it.idx≠z)
    {A:List Nat} (hA:Zll items (XR oz)=some A) (hAA:∀ it∈items,it.idx∈A)
    (hQ:∀ listed s pend ι' w' a',Rel ι' (mm items.length) w'→Ext ι0 (mm 0) w0 ι' (mm items.length) w'→(∀ p c,(p,c) ∉ pend)→(∀ it∈items,listed.getD it.idx false=true)→ZeB nt keep tm items L mm ι0 w0 ops.size listed s pend ι' w' a'→oz.wp P a' w' (fun a w=>Q .normal a w) Q) :
    ∀ (fuel:Nat) (listed:Array Bool) (s:Nat) (pend:List (Nat×Nat)) (ι:Emb) (w:World) (a:Act),listed.toList.count false≤fuel→listed.getD z false=false→ZeB nt keep tm items L mm ι0 w0 ops.size listed s pend ι w a→wpAny P .any ops Q fuel listed a w:=by
  have hzlt:z<ops.size:=(Array.getElem?_eq_some_iff.mp hz).1
  have hitems:∀ (listed:Array Bool) (s:Nat) (pend:List (Nat×Nat)) (ι:Emb) (w:World) (a:Act),ZeB nt keep tm items L mm ι0 w0 ops.size listed s pend ι w a→(∀ x∈XR oz,listed.getD x false=true)→∀ it∈items,listed.getD it.idx false=true:=by
    intro listed s pend ι w a D hw it hit
    rcases ZjB hA _ (hAA it hit) with h | ⟨it',h1,h2,h3⟩
    · exact hw _ h
    · obtain ⟨q,hq⟩:=List.getElem?_of_mem h1
      exact D.closed q it' hq (hw _ h2) _ h3
  intro fuel
  induction fuel with
  | zero=>
    intro listed s pend ι w a hc hun D
    exfalso
    have hlt:z<listed.size:=by rw [D.size];exact hzlt
    have:false∈listed.toList:=by
      have h2:listed.toList[z]?=some false:=by simpa [hlt] using hun
      exact List.mem_of_getElem? h2
    have:=List.count_pos_iff.mpr this
    omega
  | succ fuel ih=>
    intro listed s pend ι w a hc hun D
    have hlt:z<listed.size:=by rw [D.size];exact hzlt
    refine ⟨fun hr => ?_,fun j hj => ?_⟩
    · exfalso
      have hall:∀ (n:Nat) (p:Nat) it,p<n→items[p]?=some it→listed.getD it.idx false=true:=by
        intro n
        induction n with
        | zero=>intro p it h;omega
        | succ n ih=>
          intro p it hlt hp
          cases hl:listed.getD it.idx false with
          | true=>rfl
          | false=>
            obtain ⟨o,k⟩:=hok p it hp
            have hsz:it.idx<listed.size:=by rw [D.size];exact (Array.getElem?_eq_some_iff.mp k.op).1
            have hmem:it.idx∈Region.ready .any ops listed:=by
              rw [mem_ready]
              refine ⟨by simpa [hsz] using hl,o,k.op,fun e he hb => ?_⟩
              have hw:e.on∈XR o:=by
                unfold XR
                rw [List.mem_map]
                exact ⟨e,by rw [List.mem_filter];exact ⟨by simpa using he,hb⟩,rfl⟩
              have h2:∃ it'∈items.take p,it'.idx=e.on:=Zi8 k.anc _ hw
              obtain ⟨it',h3,h4⟩:=h2
              obtain ⟨q,hq⟩:=List.getElem?_of_mem h3
              have hqp:q<p:=by
                have:=(List.getElem?_eq_some_iff.mp hq).1
                simp at this;omega
              rw [List.getElem?_take_of_lt hqp] at hq
              rw [←h4]
              exact ih q it' (by omega) hq
            rw [hr] at hmem
            cases hmem
      have hmem:z∈Region.ready .any ops listed:=by
        rw [mem_ready]
        refine ⟨by simpa [hlt] using hun,oz,hz,fun e he hb => ?_⟩
        have hw:e.on∈XR oz:=by
          unfold XR
          rw [List.mem_map]
          exact ⟨e,by rw [List.mem_filter];exact ⟨by simpa using he,hb⟩,rfl⟩
        obtain ⟨it',h3,h4⟩:=Zi8 hA _ hw
        obtain ⟨q,hq⟩:=List.getElem?_of_mem h3
        rw [←h4]
        exact hall (q+1) q it' (by omega) hq
      rw [hr] at hmem
      cases hmem
    obtain ⟨h1,o,ho,hwait⟩:=mem_ready.1 hj
    have hjlt:j<ops.size:=(Array.getElem?_eq_some_iff.mp ho).1
    have hjl:j<listed.size:=by rw [D.size];exact hjlt
    have hw:∀ x∈XR o,listed.getD x false=true:=by
      intro x hx
      unfold XR at hx
      rw [List.mem_map] at hx
      obtain ⟨e,he,rfl⟩:=hx
      rw [List.mem_filter] at he
      exact hwait e (by simpa using he.1) he.2
    have hcount:(listed.setIfInBounds j true).toList.count false≤fuel:=by
      have h2:listed.toList[j]?=some false:=by simpa [hjl] using h1
      have hlt':j<listed.toList.length:=by simpa using hjl
      have hg:listed.toList[j]=false:=by
        rw [List.getElem?_eq_getElem hlt'] at h2
        exact Option.some.inj h2
      rw [Array.toList_setIfInBounds,List.count_set hlt',hg,if_pos (by decide),if_neg (by decide)]
      omega
    by_cases hjz:j=z
    · subst hjz
      rw [hz] at ho
      cases ho
      have hall:=hitems listed s pend ι w a D hw
      obtain ⟨s,pend,ι,D,hdone⟩:=ZeB.catch hok htr items.length D (fun i it hi _ _=>hall it (List.mem_of_getElem? hi))
      have hs:s≤items.length:=by
        rcases D.behind with h | ⟨it,h,_⟩
        · omega
        · have:=(List.getElem?_eq_some_iff.mp h).1;omega
      have hnone:∀ p c,(p,c) ∉ pend:=by
        intro p c hpc
        obtain ⟨h1,_,it,zero,f,h2,_,h3,_⟩:=D.pok p c hpc
        have:=hdone p it h2 (KM h3.1) (List.getElem?_eq_some_iff.mp h2).1
        omega
      have hsame:mm items.length=mm s:=Zhl htr hs (Nat.le_refl _) fun i it hi hk hsi=>by
        have h1:=hdone i it hi hk (List.getElem?_eq_some_iff.mp hi).1
        omega
      have hfin:=hQ listed s pend ι w a (by rw [hsame];exact D.rel) (by rw [hsame];exact D.ext) hnone hall D
      unfold wpOp
      rw [hz]
      simp only []
      rw [if_pos (by unfold Region.wanted;rw [hgz])]
      left
      refine Oper.wp_mono (fun a' w' h => ?_) hfin
      have hready:Region.ready .any ops (listed.setIfInBounds j true)=[]:=by
        rw [List.eq_nil_iff_forall_not_mem]
        intro i hi
        obtain ⟨g1,o',g2,_⟩:=mem_ready.1 hi
        have hil:i<ops.size:=(Array.getElem?_eq_some_iff.mp g2).1
        by_cases hij:i=j
        · subst hij
          simp [hjl] at g1
        · obtain ⟨it,g3,g4⟩:=hcover i hil hij
          have:=hall it g3
          rw [g4] at this
          rw [Array.getD_eq_getD_getElem?] at this
          rw [Array.getD_eq_getD_getElem?,Array.getElem?_setIfInBounds_ne (fun e=>hij e.symm)] at g1
          generalize listed[i]?=q at this g1
          cases q with
          | none=>cases this
          | some b=>simp at this g1;rw [this] at g1;cases g1
      cases fuel with
      | zero=>exact ⟨hready,h⟩
      | succ f=>exact ⟨fun _=>h,fun i hi=>by rw [hready] at hi;cases hi⟩
    · obtain ⟨it,h3,h4⟩:=hcover j hjlt hjz
      obtain ⟨p,hp⟩:=List.getElem?_of_mem h3
      obtain ⟨o',k⟩:=hok p it hp
      have hoo:o'=o:=by
        have:=k.op
        rw [h4,ho] at this
        cases this;rfl
      subst hoo
      have hun':listed.getD it.idx false=false:=by rw [h4];simpa [hjl] using h1
      have:=D.run hok htr (Q:=Q) hcall hgrow hp k hw hun' (K:=wpAny P .any ops Q fuel (listed.setIfInBounds j true)) fun s' pend' ι' w' a' D'=>ih _ s' pend' ι' w' a' hcount (by
        rw [Array.getD_eq_getD_getElem?,Array.getElem?_setIfInBounds_ne hjz,←Array.getD_eq_getD_getElem?]
        exact hun) (by rw [←h4];exact D')
      rw [h4] at this
      exact this
end
end
theorem XH {t:Tmp}:∀ {items:List X9} {p0:Nat},(ZxI items p0).lookup t=(ZdZ t items p0).map (·.1)
  | [],p0=>rfl
  | it::rest,p0=>by
    unfold ZxI ZdZ
    split
    · rename_i d e
      rw [List.lookup_cons]
      by_cases h:t=d
      · subst h
        rw [if_pos e]
        simp
      · have h1:(t==d)=false:=by simpa using h
        rw [h1,if_neg (by rw [e];intro h2;cases h2;exact h rfl)]
        exact XH
    · rename_i e
      rw [if_neg (by rw [e];simp)]
      exact XH
theorem ZzJ {call:FuncId→List AV→Mem→Option (AV×Mem)} (hm:P.follows .mixedOrders=true) (hcall:Zas P call) (hgrow:∀ f args m v m',call f args m=some (v,m')→Grow m m') {nt:Nat} {keep:List Nat} {ops:Array Oper} {order:List Nat} {items:List X9}
    (hc:KA P nt keep ops order []=some items) (hcov:(List.range ops.size).all (fun i=>items.any (·.idx==i))=true) {tm loc:List AV} {m m':Mem}
    (he:ZeZ call tm (items.map fun it=>⟨it.ao,it.gd,it.again⟩) [] m=some (loc,m')) {ι:Emb} {w:World} {a:Act} (R:Rel ι m w) (I:Inv ι w nt keep tm [] [] a) {id:Nat} {Q:Exit→Act→World→Prop}
    (hQ:∀ ι' w' a',Rel ι' m' w'→Ext ι m w ι' m' w'→Inv ι' w' nt keep tm (ZxI items 0) loc a'→Q .normal a' w'):(Code.region id ops true).wp P Q a w:=by
  refine wp_region_any hm ?_
  obtain ⟨mm,a1,a2,a3,_,a5⟩:=Zhj _ _ _ _ _ he
  simp only [List.length_map,List.length_nil,Nat.zero_add] at a1 a2 a3 a5
  have hok:=Kb order [] items hc (fun p it h=>by simp at h)
  have htr:∀ (p:Nat) it,items[p]?=some it→ZzI call tm loc mm p it.ao it.gd it.again:=by
    intro p it hp
    exact a5 p ⟨it.ao,it.gd,it.again⟩ (by rw [List.getElem?_map,hp];rfl)
  have hcover:∀ i,i<ops.size→∃ it∈items,it.idx=i:=by
    intro i hi
    have:=List.all_eq_true.mp hcov i (by simpa using hi)
    obtain ⟨it,h1,h2⟩:=List.any_eq_true.mp this
    exact ⟨it,h1,by simpa using h2⟩
  have hrep:∀ i,(Array.replicate ops.size false).getD i false=false:=by
    intro i
    simp [Array.getElem?_replicate]
    split <;> rfl
  refine ZeB.any (call:=call) (nt:=nt) (keep:=keep) (tm:=tm) (items:=items) (L:=loc) (mm:=mm) (ι0:=ι) (w0:=w) hok htr hcall hgrow hcover ?_ ops.size _ 0 [] ι w.drew a (by simp [List.count_replicate]) ?_
  · intro s pend ι' w' a' R' E' hnone D
    rw [a2] at R' E'
    rw [a1] at E'
    refine hQ ι' w' a' R' E' ⟨?_,?_,D.nts,D.defers,I.len⟩
    · intro t j hl
      rw [XH,Option.map_eq_some_iff] at hl
      obtain ⟨⟨p,it⟩,hf,rfl⟩:=hl
      obtain ⟨_,h2,h3⟩:=Zez _ hf
      rw [Nat.sub_zero] at h2
      refine ⟨by rw [a3];exact (List.getElem?_eq_some_iff.mp h2).1,D.vals p it t h2 ?_ (fun c=>hnone p c) h3⟩
      obtain ⟨o,k⟩:=hok p it h2
      have hlt:=(Array.getElem?_eq_some_iff.mp k.op).1
      simp [hlt]
    · intro t s hl hs
      rw [XH,Option.map_eq_none_iff] at hl
      refine D.kept t s hs fun p it hp hd => ?_
      exact absurd hd (ZeA hl it (List.mem_of_getElem? hp))
  · refine ⟨by simp,by rw [a1];exact R.drew,by rw [a1];exact Ext.drew _ _ _,?_,?_,.inl rfl,?_,?_,I.size,I.defers,fun p c h=>by simp at h,fun p c p' c' h=>by simp at h⟩
    · intro p it _ h;rw [hrep] at h;cases h
    · intro p it _ _;rw [hrep];simp
    · intro p it d _ h;rw [hrep] at h;cases h
    · intro t k hk _
      exact V.mono (Emb.le_refl _) (w:=w) (w':=w.drew) (fun _ _ h=>h) _ _ (I.kept t k rfl hk)
theorem Zh0 {t:Tmp} {itz:X9}:∀ {dn:List X9} {p0:Nat},ZdZ t (dn++[itz]) p0=match ZdZ t dn p0 with | some r=>some r | none=>if itz.dst=some t then some (p0+dn.length,itz) else none
  | [],p0=>by simp only [List.nil_append,ZdZ,List.length_nil,Nat.add_zero]
  | it::dn,p0=>by
    rw [List.cons_append,ZdZ,ZdZ]
    split
    · rfl
    · rw [Zh0]
      simp only [List.length_cons,show p0+1+dn.length=p0+(dn.length+1) by omega]
theorem ZAO {keep:List Nat} {dn:List X9} {A:List Nat} {reads:List Tmp} {o:Operand} {x:X} (h:cxD keep dn A reads o=some x):ZxH keep (ZxI dn 0) o=some x:=by
  cases o with
  | tmp t=>
    simp only [cxD] at h
    split at h
    · simp only [ZxH,XH]
      split at h
      · rename_i p it hf
        rw [hf]
        split at h
        · exact h
        · cases h
      · rename_i hf
        rw [hf]
        exact h
    · cases h
  | const v=>exact h
  | func f=>exact h
  | global g=>exact h
theorem Inv.env {ι:Emb} {w:World} {nt:Nat} {keep:List Nat} {tm:List AV} {env env':List (Nat×Nat)} {loc:List AV} {a:Act} (h:Inv ι w nt keep tm env loc a) (he:∀ t,env'.lookup t=env.lookup t):Inv ι w nt keep tm env' loc a :=
  ⟨fun t j e=>h.made t j (by rw [←he];exact e),fun t s e k=>h.kept t s (by rw [←he];exact e) k,h.size,h.defers,h.len⟩
theorem ZxX {call:FuncId→List AV→Mem→Option (AV×Mem)} (hm:P.follows .mixedOrders=true) (hcall:Zas P call) (hgrow:∀ f args m v m',call f args m=some (v,m')→Grow m m') {nt:Nat} {keep:List Nat} {ops:Array Oper} {order:List Nat} {items:List X9} {itz:X9}
    (hc:KA P nt keep ops order []=some (items++[itz])) (hcov:(List.range ops.size).all (fun i=>(items++[itz]).any (·.idx==i))=true) (hanc:∀ it∈items,it.idx∈itz.anc) (hgd:∀ oz,ops[itz.idx]?=some oz→oz.guard=none) {tm loc:List AV} {m m':Mem}
    (he:ZeZ call tm (items.map fun it=>⟨it.ao,it.gd,it.again⟩) [] m=some (loc,m')) {ι:Emb} {w:World} {a:Act} (R:Rel ι m w) (I:Inv ι w nt keep tm [] [] a) {id:Nat} {Q:Exit→Act→World→Prop}
    (hQ:∀ ι' w' a' oz,Rel ι' m' w'→Ext ι m w ι' m' w'→Inv ι' w' nt keep tm (ZxI items 0) loc a'→ops[itz.idx]?=some oz→Ze5 P nt keep ops items itz oz→loc.length=items.length→oz.wp P a' w' (fun a w=>Q .normal a w) Q):(Code.region id ops true).wp P Q a w:=by
  refine wp_region_any hm ?_
  obtain ⟨mm,a1,a2,a3,_,a5⟩:=Zhj _ _ _ _ _ he
  simp only [List.length_map,List.length_nil,Nat.zero_add] at a1 a2 a3 a5
  have hok0:=Kb order [] _ hc (fun p it h=>by simp at h)
  have hok:∀ p it,items[p]?=some it→∃ o,Ze5 P nt keep ops (items.take p) it o:=by
    intro p it hp
    have hlt:=(List.getElem?_eq_some_iff.mp hp).1
    have:=hok0 p it (by rw [List.getElem?_append_left hlt];exact hp)
    rwa [List.take_append_of_le_length (Nat.le_of_lt hlt)] at this
  obtain ⟨oz,kz⟩:=hok0 items.length itz (by simp)
  rw [List.take_append_of_le_length (Nat.le_refl _),List.take_length] at kz
  have htr:∀ (p:Nat) it,items[p]?=some it→ZzI call tm loc mm p it.ao it.gd it.again:=by
    intro p it hp
    exact a5 p ⟨it.ao,it.gd,it.again⟩ (by rw [List.getElem?_map,hp];rfl)
  have hcover:∀ i,i<ops.size→i≠itz.idx→∃ it∈items,it.idx=i:=by
    intro i hi hne
    have:=List.all_eq_true.mp hcov i (by simpa using hi)
    obtain ⟨it,h1,h2⟩:=List.any_eq_true.mp this
    rcases List.mem_append.mp h1 with h1 | h1
    · exact ⟨it,h1,by simpa using h2⟩
    · simp only [List.mem_singleton] at h1
      rw [h1] at h2
      have h3:itz.idx=i:=by simpa using h2
      exact absurd h3.symm hne
  have hrep:∀ i,(Array.replicate ops.size false).getD i false=false:=by
    intro i
    simp [Array.getElem?_replicate]
    split <;> rfl
  refine ZeB.anyZ (call:=call) (nt:=nt) (keep:=keep) (tm:=tm) (items:=items) (L:=loc) (mm:=mm) (ι0:=ι) (w0:=w) hok htr hcall hgrow kz.op (hgd oz kz.op) hcover (fun it hit=>kz.new it hit) kz.anc hanc ?_ ops.size _ 0 [] ι w.drew a (by simp [List.count_replicate]) (hrep _) ?_
  · intro listed s pend ι' w' a' R' E' hnone hall D
    rw [a2] at R' E'
    rw [a1] at E'
    refine hQ ι' w' a' oz R' E' ⟨?_,?_,D.nts,D.defers,I.len⟩ kz.op kz a3
    · intro t j hl
      rw [XH,Option.map_eq_some_iff] at hl
      obtain ⟨⟨p,it⟩,hf,rfl⟩:=hl
      obtain ⟨_,h2,h3⟩:=Zez _ hf
      rw [Nat.sub_zero] at h2
      refine ⟨by rw [a3];exact (List.getElem?_eq_some_iff.mp h2).1,D.vals p it t h2 ?_ (fun c=>hnone p c) h3⟩
      exact hall it (List.mem_of_getElem? h2)
    · intro t s hl hs
      rw [XH,Option.map_eq_none_iff] at hl
      refine D.kept t s hs fun p it hp hd => ?_
      exact absurd hd (ZeA hl it (List.mem_of_getElem? hp))
  · refine ⟨by simp,by rw [a1];exact R.drew,by rw [a1];exact Ext.drew _ _ _,?_,?_,.inl rfl,?_,?_,I.size,I.defers,fun p c h=>by simp at h,fun p c p' c' h=>by simp at h⟩
    · intro p it _ h;rw [hrep] at h;cases h
    · intro p it _ _;rw [hrep];simp
    · intro p it d _ h;rw [hrep] at h;cases h
    · intro t k hk _
      exact V.mono (Emb.le_refl _) (w:=w) (w':=w.drew) (fun _ _ h=>h) _ _ (I.kept t k rfl hk)
end
end Go.Proofs.YtemcdiajejekoaaGreatDoor.Slim
