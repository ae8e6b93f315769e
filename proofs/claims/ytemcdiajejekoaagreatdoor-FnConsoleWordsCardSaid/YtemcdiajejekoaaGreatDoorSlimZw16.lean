/- Parts of the proof. -/
import Derived.Test.YtemcdiajejekoaaGreatDoorSlimZw15
import Derived.Lib.BitFns
import Derived.Lib.SplitLaws
import Derived.Lib.Join
import Derived.Lib.AtoiAll
import Derived.Lib.SlicesCompact
import Derived.Sort.AssemblyPlain
import Derived.Shelf.Strings.Split
set_option linter.unusedSimpArgs false
set_option linter.unusedVariables false
namespace Go.Proofs.YtemcdiajejekoaaGreatDoor.Slim
open Go
open Option renaming some.injEq → RH, map_eq_some_iff → Wj
def Zut (args:List AV) (m:Mem):Option (AV×Mem):=match args with
 | [.str s,.str t]=>(match t.data.toList with
  | [c]=>if s.data.toList.length≤1073741824 then some (slX m.H.length (Yy c s.data.toList).length none,⟨m.H++[.cells (Zfo (Yy c s.data.toList)) true],m.esc⟩) else none
  | _=>none)
 | _=>none
def ZkY:List AV→Option (List ByteArray)
 | []=>some []
 | .str s::r=>(ZkY r).map (s :: ·)
 | _=>none
def ZpR (args:List AV) (m:Mem):Option (AV×Mem):=match args with
 | [.slice (some (b,0)) 1 n _,.str t]=>(match Za m.H b with
  | some cs=>(match ZkY cs with
   | some xs=>if xs.length=n∧n≤1073741824∧(Lib.join (xs.map (·.data.toList)) t.data.toList).length≤1073741824 then some (.str ⟨(Lib.join (xs.map (·.data.toList)) t.data.toList).toArray⟩,m) else none
   | none=>none)
  | none=>none)
 | _=>none
def Zuu (args:List AV) (m:Mem):Option (AV×Mem):=match args with
 | [.str s]=>if s.data.toList.length≤1073741824 then (match Lib.atoiAll s.data.toList with
  | .ok v=>some (.tup [.int .i64 v,.nilif],m)
  | .range=>some (.tup [.int .i64 (Lib.atoiSat s.data.toList),.someif],m)
  | _=>some (.tup [.int .i64 0,.someif],m)) else none
 | _=>none
def ZgU:List AV→Option (List Int)
 | []=>some []
 | .int .i64 x::r=>(ZgU r).map (x :: ·)
 | _=>none
def ZpS (args:List AV) (m:Mem):Option (AV×Mem):=match args with
 | [.slice (some (b,0)) 1 n _]=>(match m.H[b]? with
  | some (.cells cs true)=>(match ZgU cs with
   | some zs=>if zs.length=n∧0<n∧n≤1073741824 then some (.tup [],⟨m.H.set b (.cells ((zs.mergeSort fun x y=>decide (x≤y)).map (.int .i64)) true),m.esc⟩) else none
   | none=>none)
  | _=>none)
 | _=>none
def ZpT (args:List AV) (m:Mem):Option (AV×Mem):=match args with
 | [.slice (some (b,0)) 1 n cap]=>(match m.H[b]? with
  | some (.cells cs true)=>(match ZgU cs with
   | some zs=>if zs.length=n∧0<n∧n≤1073741824 then some (.slice (some (b,0)) 1 (Lib.compact zs).length none,⟨m.H.set b (.cells ((Lib.compact zs++List.replicate (zs.length - (Lib.compact zs).length) 0).map (.int .i64)) true),m.esc⟩) else none
   | none=>none)
  | _=>none)
 | _=>none
def Zek (H:List Blk):List AV→Option (List (List Int))
 | []=>some []
 | .slice (some (q,0)) 1 k _::r=>(match Za H q with
  | some cs=>(match ZgU cs with
   | some zs=>if zs.length=k∧k≤1073741824 then (Zek H r).map (zs :: ·) else none
   | none=>none)
  | none=>none)
 | _=>none
def cfI (ks:List (List Int)) (i j:Nat):Int:=cfG (ks.getD (i % ks.length) []) (ks.getD (j % ks.length) [])
def ltI (ks:List (List Int)) (i j:Nat):Bool:=decide (cfI ks i j<0)
def ZrK (ks:List (List Int)):List Nat:=(Sort.pdq (ltI ks) (Array.range ks.length) 0 ks.length (Lib.bitLen ks.length) true true).toList
def ZpU (args:List AV) (m:Mem):Option (AV×Mem):=match args with
 | [.slice (some (b,0)) 1 n _,.fn f [] []]=>if f=ZE then (match m.H[b]? with
  | some (.cells cs true)=>(match Zek m.H cs with
   | some ks=>if ks.length=n∧0<n∧n≤1073741824 then some (.tup [],⟨m.H.set b (.cells ((ZrK ks).map fun i=>(cs[i]?).getD .undef) true),m.esc⟩) else none
   | none=>none)
  | _=>none) else none
 | _=>none
def Zsq (pr:Zq):Prop:=∀ (l:By) (c:UInt8) (L:List Blk) (e:Option Nat),l.length≤1073741824→call T pr K1 [sV l,sV [c]] ⟨L,e⟩=some (slX L.length (Yy c l).length none,⟨L++[.cells (Zfo (Yy c l)) true],e⟩)
def ZfU (pr:Zq):Prop:=∀ (xs:List By) (c:UInt8) (b:Nat) (cap:Option Nat) (L:List Blk) (e:Option Nat),Za L b=some (Zfo xs)→xs.length≤1073741824→(Lib.join xs [c]).length≤1073741824→call T pr Jq [slX b xs.length cap,sV [c]] ⟨L,e⟩=some (sV (Lib.join xs [c]),⟨L,e⟩)
def ZrL (pr:Zq):Prop:=∀ (l:By) (m:Mem),l.length≤1073741824→call T pr Q9 [sV l] m=(match Lib.atoiAll l with
 | .ok v=>some (.tup [.int .i64 v,.nilif],m)
 | .range=>some (.tup [.int .i64 (Lib.atoiSat l),.someif],m)
 | _=>some (.tup [.int .i64 0,.someif],m))
def ZwH (pr:Zq):Prop:=∀ (zs:List Int) (b:Nat) (cap:Option Nat) (L:List Blk) (e:Option Nat),L[b]?=some (.cells (zs.map (.int .i64)) true)→0<zs.length→zs.length≤1073741824 →
 call T pr Xn [slX b zs.length cap] ⟨L,e⟩=some (.tup [],⟨L.set b (.cells ((zs.mergeSort fun x y=>decide (x≤y)).map (.int .i64)) true),e⟩)
def ZmQ (pr:Zq):Prop:=∀ (zs:List Int) (b:Nat) (cap:Option Nat) (L:List Blk) (e:Option Nat),L[b]?=some (.cells (zs.map (.int .i64)) true)→0<zs.length→zs.length≤1073741824 →
 call T pr YM [slX b zs.length cap] ⟨L,e⟩=some (slX b (Lib.compact zs).length none,⟨L.set b (.cells ((Lib.compact zs++List.replicate (zs.length - (Lib.compact zs).length) 0).map (.int .i64)) true),e⟩)
def Zsr (pr:Zq):Prop:=∀ (cs:List AV) (ks:List (List Int)) (b:Nat) (cap:Option Nat) (L:List Blk) (e:Option Nat),L[b]?=some (.cells cs true)→Zek L cs=some ks→0<ks.length→ks.length≤1073741824 →
 call T pr Yn [slX b ks.length cap,.fn ZE [] []] ⟨L,e⟩=some (.tup [],⟨L.set b (.cells ((ZrK ks).map fun i=>(cs[i]?).getD .undef) true),e⟩)
theorem ZkZ:∀ (xs:List By),ZkY (Zfo xs)=some (xs.map fun l=>⟨l.toArray⟩)
 | []=>rfl
 | x::xs=>by
  have ih:=ZkZ xs
  unfold Zfo at ih ⊢
  simp only [List.map_cons,ZkY,ih,Option.map_some]
theorem ZeX:∀ (zs:List Int),ZgU (zs.map (.int .i64))=some zs
 | []=>rfl
 | x::xs=>by simp only [List.map_cons,ZgU,ZeX xs,Option.map_some]
theorem ZdA:∀ {cs:List AV} {zs:List Int},ZgU cs=some zs→cs=zs.map (.int .i64)
 | [],zs,h=>by
  simp only [ZgU,RH] at h
  subst h;rfl
 | c::cs,zs,h=>by
  unfold ZgU at h
  split at h
  ·cases h;rename_i e;cases e
  ·rename_i x r e
   cases e
   simp only [Wj] at h
   obtain ⟨ys,h1,rfl⟩:=h
   rw [ZdA h1];rfl
  ·cases h
theorem Zk0:∀ {cs:List AV} {xs:List ByteArray},ZkY cs=some xs→cs=xs.map .str
 | [],zs,h=>by
  simp only [ZkY,RH] at h
  subst h;rfl
 | c::cs,zs,h=>by
  unfold ZkY at h
  split at h
  ·cases h;rename_i e;cases e
  ·rename_i x r e
   cases e
   simp only [Wj] at h
   obtain ⟨ys,h1,rfl⟩:=h
   rw [Zk0 h1];rfl
  ·cases h
def ZBc (H:List Blk) (c:AV) (zs:List Int):Prop:=∃ q cap,c=slX q zs.length cap∧Za H q=some (zs.map (.int .i64))∧zs.length≤1073741824
theorem ZfV {H:List Blk}:∀ {cs:List AV} {ks:List (List Int)},Zek H cs=some ks→cs.length=ks.length∧∀ (i:Nat) (c:AV),cs[i]?=some c→∃ zs,ks[i]?=some zs∧ZBc H c zs
 | [],ks,h=>by
  simp only [Zek,RH] at h
  subst h
  exact ⟨rfl,fun i c h=>by simp at h⟩
 | c::cs,ks,h=>by
  unfold Zek at h
  split at h
  ·cases h;rename_i e;cases e
  ·rename_i q k cap r e
   cases e
   split at h
   ·rename_i bs hb
    split at h
    ·rename_i zs hz
     split at h
     ·rename_i hk
      simp only [Wj] at h
      obtain ⟨ys,h1,rfl⟩:=h
      obtain ⟨g1,g2⟩:=ZfV h1
      refine ⟨by simp [g1],fun i c hi => ?_⟩
      cases i with
      | zero=>
       simp only [List.getElem?_cons_zero,RH] at hi
       subst hi
       exact ⟨zs,rfl,q,cap,by rw [hk.1],by rw [hb,ZdA hz],by omega⟩
      | succ i=>exact g2 i c (by simpa using hi)
     ·cases h
    ·cases h
   ·cases h
  ·cases h
theorem ZpV {H:List Blk}:∀ {cs:List AV} {ks:List (List Int)},cs.length=ks.length→(∀ (i:Nat) (c:AV) (zs:List Int),cs[i]?=some c→ks[i]?=some zs→ZBc H c zs)→Zek H cs=some ks
 | [],[],_,_=>rfl
 | [],_::_,h,_=>by simp at h
 | _::_,[],h,_=>by simp at h
 | c::cs,k::ks,h,hc=>by
  obtain ⟨q,cap,rfl,h1,h2⟩:=hc 0 c k rfl rfl
  have ih:=ZpV (H:=H) (cs:=cs) (ks:=ks) (by simpa using h) fun i c zs hi hz=>hc (i+1) c zs (by simpa using hi) (by simpa using hz)
  unfold Zek
  simp only [h1,ZeX,ih]
  rw [if_pos ⟨trivial,h2⟩]
  rfl
theorem ZwI (ks:List (List Int)):Sort.SWO (ltI ks):=by
 have e:∀ i j,ltI ks i j=true↔ltG (ks.getD (i % ks.length) []) (ks.getD (j % ks.length) []):=fun i j=>by
  unfold ltI cfI
  rw [decide_eq_true_eq,Zzu]
  rfl
 refine ⟨fun x => ?_,fun x y z h1 h2=>(e x z).mpr (ZkW _ _ _ ((e x y).mp h1) ((e y z).mp h2)),fun x y z h1 h2 => ?_⟩
 ·cases h:ltI ks x x
  ·rfl
  ·exact absurd ((e x x).mp h) (ZwB _)
 ·cases h:ltI ks x z
  ·rfl
  ·have h3:=(e x z).mp h
   have n1:¬ ltG (ks.getD (x % ks.length) []) (ks.getD (y % ks.length) []):=fun g=>by rw [(e x y).mpr g] at h1;cases h1
   have n2:¬ ltG (ks.getD (y % ks.length) []) (ks.getD (z % ks.length) []):=fun g=>by rw [(e y z).mpr g] at h2;cases h2
   by_cases g:ltG (ks.getD (y % ks.length) []) (ks.getD (x % ks.length) [])
   ·exact absurd (ZkW _ _ _ g h3) n2
   ·rw [ZwC _ _ n1 g] at h3
    exact absurd h3 n2
theorem Zel (ks:List (List Int)):(ZrK ks).Perm (List.range ks.length)∧(ZrK ks).Pairwise fun i j=>¬ ltG (ks.getD j []) (ks.getD i []):=by
 have h:=Sort.pdq_sorts (ltI ks) (ZwI ks) (Array.range ks.length) 0 ks.length (Lib.bitLen ks.length) true true (Nat.zero_le _) (by simp) (Or.inl rfl)
 unfold ZrK
 generalize Sort.pdq (ltI ks) (Array.range ks.length) 0 ks.length (Lib.bitLen ks.length) true true=d at h
 obtain ⟨⟨h1,_,h3⟩,h4⟩:=h
 have hs:d.size=ks.length:=by rw [h1];simp
 have hp:d.toList.Perm (List.range ks.length):=by
  have e1:d.extract 0 ks.length=d:=by rw [←hs];simp
  have e2:(Array.range ks.length).extract 0 ks.length=Array.range ks.length:=by
   have:(Array.range ks.length).size=ks.length:=by simp
   conv=>lhs;rw [←this]
   simp
  rw [e1,e2] at h3
  simpa using h3
 refine ⟨hp,?_⟩
 rw [List.pairwise_iff_getElem]
 intro i j hi hj hij hlt
 have hi':i<d.size:=by simpa using hi
 have hj':j<d.size:=by simpa using hj
 have h5:=h4 i j (Nat.zero_le _) hij (by omega)
 have m1:d.toList[i]<ks.length:=List.mem_range.mp (hp.mem_iff.mp (List.getElem_mem hi))
 have m2:d.toList[j]<ks.length:=List.mem_range.mp (hp.mem_iff.mp (List.getElem_mem hj))
 have e1:d[i]! = d.toList[i]:=by simp [hi']
 have e2:d[j]! = d.toList[j]:=by simp [hj']
 rw [e1,e2] at h5
 have:ltI ks d.toList[j] d.toList[i]=true:=by
  unfold ltI cfI
  rw [decide_eq_true_eq,Zzu,Nat.mod_eq_of_lt m1,Nat.mod_eq_of_lt m2]
  exact hlt
 rw [this] at h5
 cases h5
structure ZlW (pr:Zq):Prop where
 ito:Jg pr
 con:YH pr
 idx:QC pr
 spl:Zsq pr
 joi:ZfU pr
 ato:ZrL pr
 sor:ZwH pr
 com:ZmQ pr
 srt:Zsr pr
theorem ZyI {xs:List By} {c:UInt8} {b:Nat} {cap:Option Nat} {L:List Blk} {e:Option Nat} (h1:Za L b=some (Zfo xs)) (h2:xs.length≤1073741824) (h3:(Lib.join xs [c]).length≤1073741824):ZpR [slX b xs.length cap,sV [c]] ⟨L,e⟩=some (sV (Lib.join xs [c]),⟨L,e⟩):=by
 have e1:(xs.map fun l=>(⟨l.toArray⟩:ByteArray)).map (·.data.toList)=xs:=by
  rw [List.map_map]
  conv=>rhs;rw [←List.map_id xs]
  rfl
 unfold ZpR
 simp only [h1,ZkZ,e1,List.length_map]
 rw [if_pos ⟨trivial,h2,h3⟩]
theorem ZyJ {zs:List Int} {b:Nat} {cap:Option Nat} {L:List Blk} {e:Option Nat} (h1:L[b]?=some (.cells (zs.map (.int .i64)) true)) (h2:0<zs.length) (h3:zs.length≤1073741824) :
  ZpS [slX b zs.length cap] ⟨L,e⟩=some (.tup [],⟨L.set b (.cells ((zs.mergeSort fun x y=>decide (x≤y)).map (.int .i64)) true),e⟩):=by
 unfold ZpS
 simp only [h1,ZeX]
 rw [if_pos ⟨trivial,h2,h3⟩]
theorem ZyK {zs:List Int} {b:Nat} {cap:Option Nat} {L:List Blk} {e:Option Nat} (h1:L[b]?=some (.cells (zs.map (.int .i64)) true)) (h2:0<zs.length) (h3:zs.length≤1073741824) :
  ZpT [slX b zs.length cap] ⟨L,e⟩=some (slX b (Lib.compact zs).length none,⟨L.set b (.cells ((Lib.compact zs++List.replicate (zs.length - (Lib.compact zs).length) 0).map (.int .i64)) true),e⟩):=by
 unfold ZpT
 simp only [h1,ZeX]
 rw [if_pos ⟨trivial,h2,h3⟩]
theorem ZyL {cs:List AV} {ks:List (List Int)} {b:Nat} {cap:Option Nat} {L:List Blk} {e:Option Nat} (h1:L[b]?=some (.cells cs true)) (h2:Zek L cs=some ks) (h3:0<ks.length) (h4:ks.length≤1073741824) :
  ZpU [slX b ks.length cap,.fn ZE [] []] ⟨L,e⟩=some (.tup [],⟨L.set b (.cells ((ZrK ks).map fun i=>(cs[i]?).getD .undef) true),e⟩):=by
 unfold ZpU
 simp only [if_true,h1,h2]
 rw [if_pos ⟨trivial,h3,h4⟩]
theorem ZnY {m:Mem} {b:Nat} {cs new:List AV} (h:m.H[b]?=some (.cells cs true)) (hn:∀ c∈new,c∈cs∨c.under (b+1)=true):Grow m ⟨m.H.set b (.cells new true),m.esc⟩:=by
 refine ⟨by simp,fun _ h=>h,fun x hx _ cs' wr' hc => ?_,fun x cs' hx => ?_⟩
 ·simp only [List.getElem?_set] at hc
  split at hc
  ·rename_i e
   subst e
   rw [if_pos hx] at hc
   cases hc
   exact ⟨cs,true,h,hn⟩
  ·exact ⟨cs',wr',hc,fun c hc=>.inl hc⟩
 ·simp only [List.getElem?_set] at hx
  split at hx
  ·split at hx <;> cases hx
  ·exact hx
theorem ZwJ {args:List AV} {m m':Mem} {v:AV} (h:Zut args m=some (v,m')):Grow m m':=by
 unfold Zut at h
 split at h
 ·split at h
  ·split at h
   ·cases h
    exact Grow.newBlk m _
   ·cases h
  ·cases h
 ·cases h
theorem ZwK {args:List AV} {m m':Mem} {v:AV} (h:ZpR args m=some (v,m')):Grow m m':=by
 unfold ZpR at h
 split at h
 ·split at h
  ·split at h
   ·split at h
    ·cases h
     exact Grow.refl _
    ·cases h
   ·cases h
  ·cases h
 ·cases h
theorem ZwL {args:List AV} {m m':Mem} {v:AV} (h:Zuu args m=some (v,m')):Grow m m':=by
 unfold Zuu at h
 split at h
 ·split at h
  ·split at h <;> cases h <;> exact Grow.refl _
  ·cases h
 ·cases h
theorem ZwM {args:List AV} {m m':Mem} {v:AV} (h:ZpS args m=some (v,m')):Grow m m':=by
 unfold ZpS at h
 split at h
 ·split at h
  ·rename_i hb
   split at h
   ·split at h
    ·cases h
     refine ZnY hb fun c hc=>.inr ?_
     obtain ⟨z,_,rfl⟩:=List.mem_map.mp hc
     rfl
    ·cases h
   ·cases h
  ·cases h
 ·cases h
theorem ZwN {args:List AV} {m m':Mem} {v:AV} (h:ZpT args m=some (v,m')):Grow m m':=by
 unfold ZpT at h
 split at h
 ·split at h
  ·rename_i hb
   split at h
   ·split at h
    ·cases h
     refine ZnY hb fun c hc=>.inr ?_
     obtain ⟨z,_,rfl⟩:=List.mem_map.mp hc
     rfl
    ·cases h
   ·cases h
  ·cases h
 ·cases h
theorem ZwO {args:List AV} {m m':Mem} {v:AV} (h:ZpU args m=some (v,m')):Grow m m':=by
 unfold ZpU at h
 split at h
 ·split at h
  ·split at h
   ·rename_i cs hb
    split at h
    ·split at h
     ·cases h
      refine ZnY hb fun c hc => ?_
      obtain ⟨i,_,rfl⟩:=List.mem_map.mp hc
      cases hi:cs[i]? with
      | none=>exact .inr rfl
      | some x=>exact .inl (List.mem_of_getElem? hi)
     ·cases h
    ·cases h
   ·cases h
  ·cases h
 ·cases h
end Go.Proofs.YtemcdiajejekoaaGreatDoor.Slim
namespace Go.Proofs.YtemcdiajejekoaaGreatDoor.Slim
open Go Go.Sort Go.Shelf Go.RowKit
theorem Ziy {H:List Blk} {b:Nat} {cs:List AV} (h:Za H b=some cs):∃ wr,H[b]?=some (.cells cs wr):=by
 unfold Za at h
 split at h
 ·rename_i cs' wr e
  cases h
  exact ⟨wr,e⟩
 ·cases h
theorem Zss (c:UInt8):∀ (k:Nat) (l:By),l.count c≤k→Lib.splitK [c] 0 k l=Yy c l
 | 0,l,h=>by
  have h0:∀ b∈l,b≠c:=fun b hb e=>by
   subst e
   have:=List.count_pos_iff.mpr hb
   omega
  rw [ZkS h0];rfl
 | k+1,l,h=>by
  unfold Lib.splitK
  rw [Lib.index_one]
  rcases Zej l c with ⟨e1,e2,e3,e4⟩|⟨i,e1,e2,e3,e4,e5⟩
  ·rw [e1]
   have h0:∀ b∈l,b≠c:=fun b hb e=>by
    subst e
    rw [List.contains_eq_mem] at e2
    simp [hb] at e2
   rw [ZkS h0];rfl
  ·rw [e1]
   have hw:=ZgO c l e3
   have hne:¬ ((i:Int) == -1)=true:=by simp
   rw [if_neg hne]
   have h1:(Zfn l c).count c≤k:=by
    rw [hw] at h
    simp only [List.count_append,List.count_cons_self] at h
    omega
   have ih:=Zss c k (Zfn l c) h1
   conv=>rhs;rw [hw]
   rw [ZpM _ (ZnT c l),←ih,e4,e5]
   simp
theorem Zst (s:ByteArray) (c:UInt8):Lib.splitB ⟨#[c]⟩ 0 (Lib.countB s ⟨#[c]⟩) s=(Yy c s.data.toList).map fun l=>⟨l.toArray⟩:=by
 have h:=Lib.splitB_data ⟨#[c]⟩ 0 (Lib.countB s ⟨#[c]⟩) s
 have e:Lib.countB s ⟨#[c]⟩=s.data.toList.count c:=Lib.count_one c s.data.toList
 rw [show (⟨#[c]⟩:ByteArray).data.toList=[c] from rfl,Zss c _ _ (Nat.le_of_eq e.symm)] at h
 rw [←h,List.map_map]
 conv=>lhs;rw [←List.map_id (Lib.splitB ⟨#[c]⟩ 0 (Lib.countB s ⟨#[c]⟩) s)]
 congr 1
set_option maxHeartbeats 1000000 in
theorem ZwP {P:Program} {ρ:Ren} (L:Lays.n146 P ρ) (hi9:(P.info? (ρ.t 9)).map (fun i=>(i.zero,i.size,i.bytes))=some (some (.string ByteArray.empty),1,16)) (s:ByteArray) (c0:UInt8) (w:World) (hs:s.size<4294967281) :
  Calls P (ρ.f 146) #[.string s,.string ⟨#[c0]⟩] w fun e w'=>
   e=.returned (.slice (some ⟨w.heap.size,0,none⟩) (Lib.countB s ⟨#[c0]⟩+1) (Lib.countB s ⟨#[c0]⟩+1))∧w'=w.alloc (.cells ((Lib.splitB ⟨#[c0]⟩ 0 (Lib.countB s ⟨#[c0]⟩) s).map Value.string).toArray (ρ.t 9)):=by
 have h1:1≤(⟨#[c0]⟩:ByteArray).size:=Nat.le_refl 1
 have hle:=Lib.countB_le ⟨#[c0]⟩ h1 s.size s (Nat.le_refl _)
 have hlen:=Lib.splitB_all ⟨#[c0]⟩ h1 0 _ s rfl
 have hI:∀ (x:ByteArray) (cc:Array Value),x.size≤s.size→Calls P (ρ.f 143) #[.string x,.string ⟨#[c0]⟩] (w.alloc (.cells cc (ρ.t 9))) fun e w'=>e=.returned (.int .i64 (Lib.indexB x ⟨#[c0]⟩))∧w'=w.alloc (.cells cc (ρ.t 9)):=fun x cc _=>by
  have e:Lib.indexB x ⟨#[c0]⟩=Lib.indexByte x.data.toList c0:=Lib.index_one _ _
  rw [e]
  exact Any.strings_Index_one { L with } x c0 _
 have hC:Calls P (ρ.f 138) #[.string s,.string ⟨#[c0]⟩] w fun e w'=>e=.returned (.int .i64 (Lib.countB s ⟨#[c0]⟩))∧w'=w:=by
  have e:Lib.countB s ⟨#[c0]⟩=Lib.countByte s.data.toList c0:=Lib.count_one c0 s.data.toList
  rw [e]
  exact Any.strings_Count_one { L with } s c0 w
 have c:=Any.strings_genSplit_core { L with } hi9 s ⟨#[c0]⟩ 0 (-1) (Lib.countB s ⟨#[c0]⟩+1) w hs h1 (Nat.zero_le _) hI hC (by decide) (by decide) (by rw [if_pos (by decide)];omega)
 rw [Nat.add_sub_cancel,hlen] at c
 have e2:Lib.cellsOf (Lib.splitB ⟨#[c0]⟩ 0 (Lib.countB s ⟨#[c0]⟩) s) (Lib.countB s ⟨#[c0]⟩+1)=((Lib.splitB ⟨#[c0]⟩ 0 (Lib.countB s ⟨#[c0]⟩) s).map Value.string).toArray:=by rw [←hlen];exact Lib.cellsOf_full _
 rw [e2] at c
 have t3:=L.t3;have t9:=L.t9;have t31:=L.t31
 have a3:=L.a3;have a9:=L.a9;have a31:=L.a31
 have z3:=L.z3;have v3:=L.v3;have z9:=L.z9;have v9:=L.v9;have z31:=L.z31;have v31:=L.v31
 have e221:∀ args w,(callFunc (ρ.f 221) args).run P w=.ok (.enter (ρ.f 221) args) w:=enters_of L.f221 (by kernel_rfl) rfl
 have mixed:=L.mixed
 go_enter L.f146,Body.n146_ntmps ρ
 go_wp2_with (go_at_fn (ρ.f 221);refine c.mono ?_;rintro e w' ⟨rfl,hw⟩;rw [hw])
 go_ret
 exact ⟨rfl,rfl⟩
def Zuv (P:Program) (f:FuncId) (ι:Emb) (m:Mem) (w:World) (vs:List Value) (v:AV) (m':Mem):Prop :=
 Calls P f vs.toArray w fun e w'=>∃ (ι':Emb) (v':Value),e=.returned v'∧V ι' w' v v'∧Rel ι' m' w'∧Ext ι m w ι' m' w'
theorem Rel.below {ι:Emb} {m:Mem} {w w':World} (R:Rel ι m w) (B:Below w.heap.size w w'):Rel ι m w'∧Ext ι m w ι m w' :=
 R.later B.size (fun r hr=>B.block r hr) B.os B.tape B.output
theorem Zsu (xs:List By):Zfo xs=(xs.map fun l=>(⟨l.toArray⟩:ByteArray)).map .str:=by
 unfold Zfo
 rw [List.map_map]
 rfl
theorem Zuw (xs:List ByteArray):(xs.map AV.str).all AV.isCell=true:=by
 simp [AV.isCell]
theorem ZB4 {ι:Emb} {m m':Mem} {w:World} {args:List AV} {vs:List Value} {v:AV} (h:Zut args m=some (v,m')) (R:Rel ι m w) (hv:VL ι w args vs):Zuv Tryz.prog K1 ι m w vs v m':=by
 unfold Zut at h
 split at h
 ·rename_i s t
  split at h
  ·rename_i c hc
   split at h
   ·rename_i hn
    cases h
    obtain ⟨v1,vs1,rfl,rfl,v2,vs2,rfl,rfl,rfl⟩:=hv
    obtain rfl:t=⟨#[c]⟩:=by
     cases t with
     | mk d=>
      cases d
      simp at hc
      subst hc
      rfl
    have hs:s.size<4294967281:=by
     have:s.size=s.data.toList.length:=Lib.size_eq s
     omega
    have hlen:=Lib.splitB_all ⟨#[c]⟩ (Nat.le_refl 1) 0 _ s rfl
    rw [Zst,List.length_map] at hlen
    refine (ZwP Tryz.lays146 (by kernel_rfl) s c w hs).mono ?_
    rintro e w' ⟨rfl,rfl⟩
    rw [Zst,←hlen]
    have hvl:VL ι w (Zfo (Yy c s.data.toList)) (((Yy c s.data.toList).map fun l=>(⟨l.toArray⟩:ByteArray)).map .string):=by
     rw [Zsu]
     exact VL.of_strs ι w _
    have hcl:(Zfo (Yy c s.data.toList)).all AV.isCell=true:=by
     rw [Zsu]
     exact Zuw _
    obtain ⟨R',E'⟩:=R.alloc (e:=(Tryz.lays146_ren.t 9)) hvl hcl []
    simp only [List.append_nil] at R' E'
    have hsh:=QL w (((Yy c s.data.toList).map fun l=>(⟨l.toArray⟩:ByteArray)).map Value.string) ((Tryz.lays146_ren.t 9))
    refine ⟨_,_,rfl,⟨w.heap.size,0,0,(Yy c s.data.toList).length,_,_,?_,rfl,Nat.le_refl _,.inl rfl,hsh,.inr (by simp),fun q hq=>by cases hq⟩,R',E'⟩
    rw [←R.len]
    exact KX _ _
   ·cases h
  ·cases h
 ·cases h
theorem ZB5 {ι:Emb} {m m':Mem} {w:World} {args:List AV} {vs:List Value} {v:AV} (h:ZpR args m=some (v,m')) (R:Rel ι m w) (hv:VL ι w args vs):Zuv Tryz.prog Jq ι m w vs v m':=by
 unfold ZpR at h
 split at h
 ·rename_i b n cap t
  split at h
  ·rename_i cs hcs
   split at h
   ·rename_i xs hxs
    split at h
    ·rename_i hn
     obtain ⟨rfl,hn1,hn2⟩:=hn
     cases h
     obtain ⟨v1,vs1,rfl,hs,v2,vs2,rfl,rfl,rfl⟩:=hv
     obtain ⟨c,d,x,k,e,M,g1,rfl,g3,g4,g5,g6,g7⟩:=hs
     obtain ⟨wr,hb⟩:=Ziy hcs
     obtain ⟨c',d',g1',hC⟩:=R.at' b cs wr hb
     rw [g1] at g1'
     cases g1'
     obtain ⟨us,h1,h2⟩:=hC.vals
     rw [Zk0 hxs] at h1
     have hus:=VL.strs h1
     subst hus
     refine (Tryz.strings_Join c x k xs t w (fun j y hj => ?_) (R.low b c d g1) (by omega) g3 (by omega)).mono ?_
     ·have hx:x=d:=by
       rcases g4 with g4 | ⟨g4,_⟩
       ·simpa using g4
       ·rw [List.length_eq_zero_iff.mp g4] at hj;simp at hj
      subst hx
      exact h2 j (.string y) (by simp [hj])
     ·rintro e w' ⟨rfl,B⟩
      obtain ⟨R',E'⟩:=R.below B
      exact ⟨ι,_,rfl,rfl,R',E'⟩
    ·cases h
   ·cases h
  ·cases h
 ·cases h
theorem ZxN.iface {ι:Emb} {m:Mem} {w:World} {g:Nat} (h:ZxN ι m w) (hm:(g,fun cs:Array Value=>∃ te pe,cs = #[.iface te pe])∈ZcP):∃ te pe,w.cell? ⟨g,0,none⟩=some (.iface te pe):=by
 obtain ⟨_,_,cs,e,fz,h1,te,pe,rfl⟩:=h _ hm
 refine ⟨te,pe,?_⟩
 unfold World.cell?
 simp only at h1
 rw [h1]
 rfl
theorem ZB6 {ι:Emb} {m m':Mem} {w:World} {args:List AV} {vs:List Value} {v:AV} (h:Zuu args m=some (v,m')) (R:Rel ι m w) (hv:VL ι w args vs):Zuv Tryz.prog Q9 ι m w vs v m':=by
 unfold Zuu at h
 split at h
 ·rename_i s
  split at h
  ·rename_i hn
   have hs:s.size=s.data.toList.length:=Lib.size_eq s
   obtain ⟨v1,vs1,rfl,rfl,rfl⟩:=hv
   obtain ⟨te,pe,g3⟩:=R.glob.iface (g:=3) (by simp [ZcP])
   obtain ⟨te',pe',g4⟩:=R.glob.iface (g:=4) (by simp [ZcP])
   cases hh:Lib.atoiAll s.data.toList
   ·rename_i z
    rw [hh] at h
    cases h
    refine (Tryz.strconv_Atoi_ok s (by omega) z hh w).mono ?_
    rintro e w' ⟨rfl,hw⟩
    have B:Below w.heap.size w w':=by
     rcases hw with rfl | ⟨t,rfl⟩
     ·exact Below.refl _ _
     ·exact Lib.bytesWorld_below _ _ _
    obtain ⟨R',E'⟩:=R.below B
    exact ⟨ι,_,rfl,⟨_,rfl,_,_,rfl,rfl,_,_,rfl,rfl,rfl⟩,R',E'⟩
   ·rw [hh] at h
    cases h
    refine (Tryz.strconv_Atoi_syntax s (by omega) hh _ w g3 (.inr ⟨_,_,rfl⟩)).mono ?_
    rintro e w' ⟨N,rfl,_,_,B⟩
    obtain ⟨R',E'⟩:=R.below B
    exact ⟨ι,_,rfl,⟨_,rfl,_,_,rfl,rfl,_,_,rfl,⟨_,_,rfl⟩,rfl⟩,R',E'⟩
   ·rw [hh] at h
    cases h
    refine (Tryz.strconv_Atoi_range s (by omega) hh _ w g4 (.inr ⟨_,_,rfl⟩)).mono ?_
    rintro e w' ⟨N,rfl,_,_,B⟩
    obtain ⟨R',E'⟩:=R.below B
    exact ⟨ι,_,rfl,⟨_,rfl,_,_,rfl,rfl,_,_,rfl,⟨_,_,rfl⟩,rfl⟩,R',E'⟩
  ·cases h
 ·cases h
theorem ZB7 {ι:Emb} {m m':Mem} {w:World} {args:List AV} {vs:List Value} {v:AV} (h:ZpS args m=some (v,m')) (R:Rel ι m w) (hv:VL ι w args vs):Zuv Tryz.prog Xn ι m w vs v m':=by
 unfold ZpS at h
 split at h
 ·rename_i b n cap
  split at h
  ·rename_i cs hb
   split at h
   ·rename_i zs hz
    split at h
    ·rename_i hn
     obtain ⟨rfl,hn0,hn1⟩:=hn
     cases h
     obtain ⟨v1,vs1,rfl,hs,rfl⟩:=hv
     obtain ⟨c,d,x,k,e,M,g1,rfl,g3,g4,g5,g6,g7⟩:=hs
     have hcs:=ZdA hz
     subst hcs
     obtain ⟨c',d',g1',hC⟩:=R.at' b _ true hb
     rw [g1] at g1'
     cases g1'
     obtain ⟨us,u1,u2,u3⟩:=hC.holds
     rw [VL.ints u1] at u3
     have hx:x=d:=by rcases g4 with h | ⟨h,_⟩ <;> omega
     subst hx
     refine (Tryz.slices_Sort_int c x k zs w (ZmL u3) (R.low b c x g1) (by omega)).mono ?_
     rintro e w' ⟨rfl,q,os,rfl⟩
     rw [ZhQ]
     have hl:(zs.mergeSort fun x y=>decide (x≤y)).length=zs.length:=List.length_mergeSort _
     obtain ⟨R',E'⟩:=R.row (P:=Tryz.prog) (new:=(zs.mergeSort fun x y=>decide (x≤y)).map (.int .i64)) hb g1 (VL.of_ints ι w _) (ZmK _) (by simp) (by simpa using hn0) q os
     simp only [List.map_toArray]
     exact ⟨ι,_,rfl,⟨[],rfl,rfl⟩,R',E'⟩
    ·cases h
   ·cases h
  ·cases h
 ·cases h
theorem ZB8 {ι:Emb} {m m':Mem} {w:World} {args:List AV} {vs:List Value} {v:AV} (h:ZpT args m=some (v,m')) (R:Rel ι m w) (hv:VL ι w args vs):Zuv Tryz.prog YM ι m w vs v m':=by
 unfold ZpT at h
 split at h
 ·rename_i b n cap
  split at h
  ·rename_i cs hb
   split at h
   ·rename_i zs hz
    split at h
    ·rename_i hn
     obtain ⟨rfl,hn0,hn1⟩:=hn
     cases h
     obtain ⟨v1,vs1,rfl,hs,rfl⟩:=hv
     obtain ⟨c,d,x,k,e,M,g1,rfl,g3,g4,g5,g6,g7⟩:=hs
     have hcs:=ZdA hz
     subst hcs
     obtain ⟨c',d',g1',hC⟩:=R.at' b _ true hb
     rw [g1] at g1'
     cases g1'
     obtain ⟨us,u1,u2,u3⟩:=hC.holds
     rw [VL.ints u1] at u3
     have hx:x=d:=by rcases g4 with h | ⟨h,_⟩ <;> omega
     subst hx
     have hle:=Lib.compact_length_le zs
     refine (Tryz.slices_Compact_int c x k zs w (ZmL u3) (by omega) g3).mono ?_
     rintro e w' ⟨rfl,q,rfl⟩
     rw [ZhQ]
     obtain ⟨R',E'⟩:=R.row (P:=Tryz.prog) (new:=(Lib.compact zs++List.replicate (zs.length - (Lib.compact zs).length) 0).map (.int .i64)) hb g1 (VL.of_ints ι w _) (ZmK _) (by simp;omega) (by simpa using hn0) q #[]
     rw [grow_empty] at R' E'
     simp only [List.map_toArray]
     refine ⟨ι,_,rfl,⟨c,x,x,k,e,M,g1,rfl,by omega,.inl rfl,E'.shapes _ _ g5,g6,fun q hq=>by cases hq⟩,R',E'⟩
    ·cases h
   ·cases h
  ·cases h
 ·cases h
def ZwQ (P:Program):Prop:=∀ (w:World) (b1 o1 k1 b2 o2 k2:Nat) (A B:List Int),A.length≤1073741824→B.length≤1073741824→(∀ j,j<A.length→w.cell? ⟨b1,o1+j,none⟩=some (.int .i64 (A.getD j 0)))→(∀ j,j<B.length→w.cell? ⟨b2,o2+j,none⟩=some (.int .i64 (B.getD j 0))) →
 Calls P ZE #[.slice (some ⟨b1,o1,none⟩) A.length k1,.slice (some ⟨b2,o2,none⟩) B.length k2] w fun e w'=>e=.returned (.int .i64 (cfG A B))∧∃ q,w'=w.drewN q
theorem ZpW {ι:Emb} {m:Mem} {w:World} (R:Rel ι m w) {b c d:Nat} {cs:List AV} {us:List Value} {ks:List (List Int)} (hb:m.H[b]?=some (.cells cs true)) (g1:ι[b]?=some (some (c,d))) (hk:Zek m.H cs=some ks) (u1:VL ι w cs us) {i:Nat} (hi:i<ks.length) :
  ∃ (c1 x1 k1:Nat),us[i]?=some (.slice (some ⟨c1,x1,none⟩) (ks.getD i []).length k1)∧(ks.getD i []).length≤1073741824∧∀ j,j<(ks.getD i []).length→c1≠c∧c1<w.heap.size∧w.cell? ⟨c1,x1+j,none⟩=some (.int .i64 ((ks.getD i []).getD j 0)):=by
 obtain ⟨hl,hc⟩:=ZfV hk
 obtain ⟨ci,hci⟩:∃ ci,cs[i]?=some ci:=⟨cs[i]'(by omega),List.getElem?_eq_getElem (by omega)⟩
 obtain ⟨zs,hzs,q,cap,rfl,hq,hz1⟩:=hc i ci hci
 obtain ⟨y,hy,hV⟩:=u1.get i _ hci
 obtain ⟨c1,d1,x1,k1,e,M,q1,rfl,q3,q4,q5,q6,q7⟩:=hV
 have hg:ks.getD i []=zs:=by simp [List.getD_eq_getElem?_getD,hzs]
 rw [hg]
 refine ⟨c1,x1,k1,hy,hz1,fun j hj => ?_⟩
 have hx:x1=d1:=by rcases q4 with h | ⟨h,_⟩ <;> omega
 subst hx
 obtain ⟨wr,hqb⟩:=Ziy hq
 have hne:b≠q:=by
  intro h
  subst h
  rw [hb] at hqb
  cases hqb
  rw [List.getElem?_map] at hci
  obtain ⟨z,_,hz⟩:=Option.map_eq_some_iff.mp hci
  cases hz
 obtain ⟨c',d',q1',hC⟩:=R.at' q _ wr hqb
 rw [q1] at q1'
 cases q1'
 obtain ⟨ws,w1,w2⟩:=hC.vals
 rw [VL.ints w1] at w2
 refine ⟨fun h => ?_,R.low q c1 x1 q1,w2 j _ (by rw [List.getElem?_map,List.getElem?_eq_getElem hj];simp [List.getD_eq_getElem?_getD,hj])⟩
 exact R.sep b q _ _ c d c1 x1 hne hb rfl hqb trivial g1 q1 h.symm
theorem Zux (args:Array Value) (w:World):(callFunc ZE args).run Tryz.prog w=.ok (.enter ZE args) w:=by
 have h : ((Tryz.prog.funcs[ZE]?).map fun fn => fn.body.isSome && decide (fn.name ≠ "runtime.NumGoroutine")) = some true := by kernel_rfl
 obtain ⟨fn,h1,h2⟩:=Option.map_eq_some_iff.mp h
 simp only [Bool.and_eq_true,decide_eq_true_eq] at h2
 obtain ⟨c,hc⟩:=Option.isSome_iff_exists.mp h2.1
 exact enters_of h1 (by simpa using h2.2) hc args w
theorem ZB9 (hcmp:ZwQ Tryz.prog) {ι:Emb} {m m':Mem} {w:World} {args:List AV} {vs:List Value} {v:AV} (h:ZpU args m=some (v,m')) (R:Rel ι m w) (hv:VL ι w args vs):Zuv Tryz.prog Yn ι m w vs v m':=by
 unfold ZpU at h
 split at h
 ·rename_i b n cap f
  split at h
  ·rename_i hf
   subst hf
   split at h
   ·rename_i cs hb
    split at h
    ·rename_i ks hk
     split at h
     ·rename_i hn
      obtain ⟨rfl,hn0,hn1⟩:=hn
      cases h
      obtain ⟨v1,vs1,rfl,hs,v2,vs2,rfl,hf,rfl⟩:=hv
      obtain ⟨c,d,x,k,e,M,g1,rfl,g3,g4,g5,g6,g7⟩:=hs
      obtain ⟨fx,fy,rfl,hfx,hfy⟩:=hf
      obtain rfl:fx=[]:=hfx
      obtain rfl:fy=[]:=hfy
      obtain ⟨hl,_⟩:=ZfV hk
      obtain ⟨c',d',g1',hC⟩:=R.at' b _ true hb
      rw [g1] at g1'
      cases g1'
      obtain ⟨us,u1,u2,u3⟩:=hC.holds
      have hx:x=d:=by rcases g4 with h | ⟨h,_⟩ <;> omega
      subst hx
      have hul:us.length=ks.length:=by omega
      have h1c:=Zi7 u1 hC.cell
      have hH:Go.Sort.Holds (fun i:Nat=>us.getD (i % ks.length) .nilIface) w c x (Array.range ks.length):=by
       intro j hj
       have hj':j<ks.length:=by simpa using hj
       have:=u3 j (by simp;omega)
       have e1:(us.toArray)[j]! = us.getD (j % ks.length) .nilIface:=by
        rw [getElem!_pos _ j (by simp;omega),Nat.mod_eq_of_lt hj']
        simp [List.getD_eq_getElem?_getD,show j<us.length by omega]
       have e2:(Array.range ks.length)[j]! = j:=by
        rw [getElem!_pos _ j (by simpa using hj')]
        simp
       rw [e2]
       simp only [id_eq] at this
       rw [e1] at this
       exact this
      have hO:OneCell (fun i:Nat=>us.getD (i % ks.length) .nilIface):=by
       intro i
       have hi:i % ks.length<us.length:=by rw [hul];exact Nat.mod_lt _ hn0
       simp only [List.getD_eq_getElem?_getD,List.getElem?_eq_getElem hi,Option.getD_some]
       exact h1c _ (List.getElem_mem hi)
      have hcr:CmpReads Tryz.prog ZE #[] (fun i:Nat=>us.getD (i % ks.length) .nilIface) (cfI ks) c x (Array.range ks.length).size w:=by
       intro mm os dk hdk i j
       have hi:i % ks.length<ks.length:=Nat.mod_lt _ hn0
       have hj:j % ks.length<ks.length:=Nat.mod_lt _ hn0
       obtain ⟨c1,x1,k1,y1,l1,z1⟩:=ZpW R hb g1 hk u1 hi
       obtain ⟨c2,x2,k2,y2,l2,z2⟩:=ZpW R hb g1 hk u1 hj
       have hcell:∀ (c1 x1 j:Nat) (y:Value),(c1≠c∧c1<w.heap.size∧w.cell? ⟨c1,x1+j,none⟩=some y)→(sortWorld (fun i:Nat=>us.getD (i % ks.length) .nilIface) w c x mm dk os).cell? ⟨c1,x1+j,none⟩=some y:=by
        rintro c1 x1 j y ⟨p1,p2,p3⟩
        unfold sortWorld
        rw [cell?_grow _ _ _ (by simpa using p2),cell?_putRow_other _ _ _ _ _ _ (.inl p1),cell?_ahead]
        exact p3
       have e1:us.getD (i % ks.length) .nilIface=.slice (some ⟨c1,x1,none⟩) (ks.getD (i % ks.length) []).length k1:=by simp [List.getD_eq_getElem?_getD,y1]
       have e2:us.getD (j % ks.length) .nilIface=.slice (some ⟨c2,x2,none⟩) (ks.getD (j % ks.length) []).length k2:=by simp [List.getD_eq_getElem?_getD,y2]
       show Calls Tryz.prog ZE (#[us.getD (i % ks.length) .nilIface,us.getD (j % ks.length) .nilIface] ++ #[]) _ _
       rw [e1,e2]
       exact hcmp _ c1 x1 k1 c2 x2 k2 _ _ l1 l2 (fun t ht=>hcell c1 x1 t _ (z1 t ht)) (fun t ht=>hcell c2 x2 t _ (z2 t ht))
      refine (show Calls _ _ #[.slice (some ⟨c,x,none⟩) ks.length k,.func (.func ZE) #[] #[]] w _ from ?_)
      have hsort:=Tryz.slices_SortFunc_eq (fun i:Nat=>us.getD (i % ks.length) .nilIface) hO (cfI ks) (ZwI ks) ZE #[] c x k (Array.range ks.length) w Zux hcr.lays hH (R.low b c x g1) (by simp;omega)
      have hsz:(Array.range ks.length).size=ks.length:=by simp
      rw [hsz] at hsort
      refine hsort.mono ?_
      rintro e w' ⟨rfl,q,os,rfl⟩
      unfold sortWorld
      rw [ZhQ]
      have hidx:=Zel ks
      have harr:(pdq (ltOf (cfI ks)) (Array.range ks.length) 0 ks.length (Lib.bitLen ks.length) true true).map (fun i:Nat=>us.getD (i % ks.length) .nilIface)=((ZrK ks).map fun i=>us.getD (i % ks.length) .nilIface).toArray:=by
       apply Array.ext'
       simp only [Array.toList_map]
       rfl
      rw [harr]
      have hvl:∀ (L:List Nat),(∀ i∈L,i<ks.length)→VL ι w (L.map fun i=>(cs[i]?).getD .undef) (L.map fun i=>us.getD (i % ks.length) .nilIface)∧(L.map fun i=>(cs[i]?).getD .undef).all AV.isCell=true:=by
       intro L
       induction L with
       | nil=>intro _;exact ⟨rfl,rfl⟩
       | cons a L ih=>
        intro hL
        obtain ⟨i1,i2⟩:=ih fun i hi=>hL i (List.mem_cons_of_mem _ hi)
        have ha:=hL a List.mem_cons_self
        have hca:cs[a]?=some (cs[a]'(by omega)):=List.getElem?_eq_getElem (by omega)
        obtain ⟨y,hy,hV⟩:=u1.get a _ hca
        refine ⟨⟨_,_,rfl,?_,i1⟩,?_⟩
        ·show V ι w ((cs[a]?).getD .undef) (us.getD (a % ks.length) .nilIface)
         rw [hca,Nat.mod_eq_of_lt ha]
         simpa [List.getD_eq_getElem?_getD,hy] using hV
        ·simp only [List.map_cons,List.all_cons,i2,Bool.and_true,hca,Option.getD_some]
         exact List.all_eq_true.mp hC.cell _ (List.getElem_mem _)
      obtain ⟨v3,v4⟩:=hvl (ZrK ks) fun i hi=>List.mem_range.mp (hidx.1.mem_iff.mp hi)
      obtain ⟨R',E'⟩:=R.row (P:=Tryz.prog) hb g1 v3 v4 (by rw [List.length_map,hidx.1.length_eq,List.length_range];exact hl.symm) (by omega) q os
      exact ⟨ι,_,rfl,⟨[],rfl,rfl⟩,R',E'⟩
     ·cases h
    ·cases h
   ·cases h
  ·cases h
 ·cases h
end Go.Proofs.YtemcdiajejekoaaGreatDoor.Slim
