/- FnExactExecuteCommand returns true for all arguments, without conditions: the law holds as it is stated; the arguments read as they did. -/
import Derived.Test.YtemcdiajejekoaaGreatDoorSlimZ20
import Derived.Test.YtemcdiajejekoaaGreatDoorTie
import Derived.Test.YtemcdiajejekoaaGreatDoorCards
import Derived.LaidMore
import Derived.SevenTiedAt
import Derived.Stop.Joined
import Derived.Stop.LaidErr
import Derived.Lay
import Derived.Test.YtemcdiajejekoaaGreatDoorRows
import Derived.SizedLaws
import Derived.ChangeOld
import Derived.Handed
import Derived.JoinedOf
import Derived.ChangeMaps5
set_option linter.unusedSimpArgs false
set_option linter.unusedVariables false
/- FnExactExecuteCommand returns true for all arguments, without conditions: the law holds as it is stated; the arguments read as they did. -/
namespace Go.Proofs.YtemcdiajejekoaaGreatDoor.fnExactExecuteCommand
open Go.ChangeShapes Go.WideShapes Go.ChangeAt Go.RowKit Go.Joins Go.Deep Slim
set_option linter.unusedVariables false

theorem ZK7 {H:List Blk} {av0_0:AV} {es0_0:List (List Int)} (h0_0:Zmg H av0_0 .i64 2 es0_0) {av0_3:AV} {es0_3:List (List Int)} (h0_3:Zmg H av0_3 .i64 3 es0_3) {t0_6:ByteArray} (ht0_6:t0_6.size≤maxLen) {t0_7:ByteArray} (ht0_7:t0_7.size≤maxLen) {t1:ByteArray} (ht1:t1.size≤maxLen)(x0_1:Int) (x0_2:Int) (x0_4:Int) (x0_5:Int) (x0_8:Int):∃ m',call T prC 8 [.agg [av0_0,.int .i64 x0_1,.int .i64 x0_2,av0_3,.int .i64 x0_4,.int .i64 x0_5,.str t0_6,.str t0_7,.int .i64 x0_8],.str t1] ⟨H,none⟩=some (.bool true,m'):=by
 obtain ⟨ls0_0,ha0_0⟩:=ZIs h0_0
 obtain ⟨ls0_3,ha0_3⟩:=ZIt h0_3
 exact Zl1 ZHC ha0_0 ha0_3 ht0_6 ht0_7 ht1 x0_1 x0_2 x0_4 x0_5 x0_8

theorem own:ownKnob Tryz.prog.godebug=none:=by kernel_rfl
theorem ZGt:laidOutB Tryz.prog=true:=by kernel_rfl

theorem ZGu : "*" ++ "errors.errorString" = "*errors.errorString" := by decide
theorem ZH7 (u : TypeId) (h : Tryz.prog.typeName? 3 u = some "*errors.errorString") : u = 306 :=
 typeName_ptr_named (nm := "errors.errorString") (by rw [ZGu]; kernel_rfl) (by kernel_rfl) (by decide) u (by rw [ZGu]; exact h)
def ZuI:List UInt8:=[105,110,118,97,108,105,100,32,115,121,110,116,97,120]
def ZxM:List UInt8:=[118,97,108,117,101,32,111,117,116,32,111,102,32,114,97,110,103,101]

set_option maxRecDepth 100000 in
theorem ZxN {W:World} (h:laidMetH Tryz.prog Rows.fnExactExecuteCommandRow.laid W):Zm2 W:=by
 rw [MakeChecks.laidMetH_plain _ _ _ (by kernel_rfl)] at h
 have h3:=Lib.tabIs_of_head (k:=.u64) (zs:=Lib.pow10Tab) (g:=5) (t:=301) (e:=90) (n:=20) (by kernel_rfl) (by kernel_rfl) (by kernel_rfl) (by kernel_rfl) (by kernel_rfl) (by kernel_rfl) h.tail.tail
 have fErrSyntax:=h.tail.tail.tail.tail.tail
 obtain ⟨aErrSyntax, _, vErrSyntax, _⟩ := laid_sentinel (n := "strconv.ErrSyntax") (nm := "*errors.errorString") (text := ZuI) (g := 3) (ti := 180) (tp := 306) (te := 308) (ts := 9) fErrSyntax (by kernel_rfl) (by kernel_rfl) Tryz.underlying180 ZH7 Tryz.underlying306 Tryz.underlying308 rfl rfl Tryz.underlying9 (by kernel_rfl) (by kernel_rfl)
 have fErrRange:=h.tail.tail.tail.tail
 obtain ⟨aErrRange, _, vErrRange, _⟩ := laid_sentinel (n := "strconv.ErrRange") (nm := "*errors.errorString") (text := ZxM) (g := 4) (ti := 180) (tp := 306) (te := 308) (ts := 9) fErrRange (by kernel_rfl) (by kernel_rfl) Tryz.underlying180 ZH7 Tryz.underlying306 Tryz.underlying308 rfl rfl Tryz.underlying9 (by kernel_rfl) (by kernel_rfl)
 intro p hp
 unfold Zfx at hp
 simp only [List.mem_cons,List.mem_nil_iff,or_false] at hp
 rcases hp with rfl | rfl | rfl
 ·unfold Lib.TabIs World.var? at h3
  rw [show Tryz.prog.globalNamed _=some 5 by kernel_rfl] at h3
  simp only [Option.bind_some] at h3
  split at h3
  ·rename_i cs e fz hc
   cases h3
   exact ⟨(Array.getElem?_eq_some_iff.mp hc).1,_,_,_,hc,rfl⟩
  ·cases h3
 ·unfold World.var? at vErrSyntax
  rw [show Tryz.prog.globalNamed "strconv.ErrSyntax" = some 3 by kernel_rfl] at vErrSyntax
  simp only [Option.bind_some] at vErrSyntax
  split at vErrSyntax
  ·rename_i cs e fz hc
   cases vErrSyntax
   exact ⟨(Array.getElem?_eq_some_iff.mp hc).1,_,_,_,hc,_,_,rfl⟩
  ·cases vErrSyntax
 ·unfold World.var? at vErrRange
  rw [show Tryz.prog.globalNamed "strconv.ErrRange" = some 4 by kernel_rfl] at vErrRange
  simp only [Option.bind_some] at vErrRange
  split at vErrRange
  ·rename_i cs e fz hc
   cases vErrRange
   exact ⟨(Array.getElem?_eq_some_iff.mp hc).1,_,_,_,hc,_,_,rfl⟩
  ·cases vErrRange

set_option maxRecDepth 100000 in
theorem ZKg (os:Os) (started:os.Started) (H:Type) (enc:TypeId×Value→H) :
  ReturnsInHanded {} Tryz.checked os 8 .any (fun w args=>(Rows.fnExactExecuteCommandSpec.pre enc Tryz.prog Tryz.f8 [] false w args∧laidMetH Tryz.prog Rows.fnExactExecuteCommandRow.laid w)∧sizedMet enc Tryz.prog Tryz.f8 (OpenSpec.ofChange Rows.fnExactExecuteCommandSpec) false w args) (Rows.fnExactExecuteCommandSpec.post enc Tryz.prog Tryz.f8 false true false false):=by
 refine returnsInHanded_of_change_and (C:=Tryz.checked) (X:=fun w _=>laidMetH Tryz.prog Rows.fnExactExecuteCommandRow.laid w) (fun _ _ _ hh h=>h.of_heap hh) own started (by kernel_rfl) Tryz.func8
  (ChangeSpec.witness_shaped (enc:=enc) (C:=Tryz.checked) (os:=os) (X:=fun w _=>laidMetH Tryz.prog Rows.fnExactExecuteCommandRow.laid w) false (ZKW os) ZKd 8 (World.laidAll_os _ _ _) (ZGr os) (ZKX os) (ZKf os enc) (ZHI os enc) (by rw [MakeChecks.laidMetH_plain _ _ _ (by kernel_rfl)];exact ZI9 os)) ?_
 intro W base args ds gs before hval0 hW _ _ hL _
 have hGW:Zm2 W:=ZxN hL
 have hval:∀ (j:Nat) t v,Tryz.f8.params[j]?=some t→args[j]?=some v→Value.okWide Tryz.prog W .any base t v:=hval0
 have hW':=hW
 obtain ⟨p,q,hA0,hV,rfl,hfz,hnd⟩:=hW
 have hA:DataW.TrodAll enc Tryz.prog W 0 (fun _=>true) true Tryz.f8.params.toList args.toList ds p:=hA0
 rw [Tryz.params8] at hA hval
 obtain ⟨v0,vs0,d0,ds0,p0,q0,hargs,rfl,rfl,h0,r0⟩:=trodAll_cons hA
 obtain ⟨v1,vs1,d1,ds1,p1,q1,rfl,rfl,rfl,h1,r1⟩:=trodAll_cons r0
 obtain ⟨rfl,rfl,rfl⟩:=trodAll_nil r1
 obtain rfl:args = #[v0,v1]:=by cases args;simp_all
 obtain ⟨rfl,rfl⟩:=trodVars_none hV
 have o0:=hval 0 29 v0 rfl rfl
 have o1:=hval 1 9 v1 rfl rfl
 have k0:=h0
 have k1:=h1
 have lt0:∀ x∈p0,x.block<W.heap.size:=by obtain ⟨m,hm⟩:=k0;exact DataW.trod_lt m _ _ _ hm
 have lt1:∀ x∈p1,x.block<W.heap.size:=by obtain ⟨m,hm⟩:=k1;exact DataW.trod_lt m _ _ _ hm
 obtain ⟨cs0,n0,rfl,sz0,tr0⟩:=Zyb Tryz.underlying29 o0 h0
 have ok0:=Zu4 Tryz.underlying29 (show Tryz.prog.cellTypes Tryz.prog.depth 29=some [22,3,3,23,3,3,9,9,3] by kernel_rfl) o0
 have ct0:Tryz.prog.cellsOf 29=9:=by kernel_rfl
 obtain ⟨c0_0,c0_1,c0_2,c0_3,c0_4,c0_5,c0_6,c0_7,c0_8,rfl⟩:=ZJr (sz0.trans ct0)
 obtain ⟨ys0_0,hs0_0⟩:=tr0 0 _ rfl
 have cs0_0:Tryz.prog.cellsOf 25=6:=by kernel_rfl
 have hq0_0:DataW.trod enc Tryz.prog W 0 (fun _=>true) true n0 25 [c0_0,c0_1,c0_2,c0_3,c0_4,c0_5]=some ys0_0:=by simpa [cs0_0] using hs0_0
 obtain ⟨m0_0,ts0_0⟩:=ZAz Tryz.underlying25 hq0_0
 obtain ⟨y0_0,hy0_0⟩:=ts0_0 0 _ rfl
 have cf0_0:Tryz.prog.cellsOf 22=1:=by kernel_rfl
 have hz0_0:DataW.trod enc Tryz.prog W 0 (fun _=>true) true m0_0 22 [c0_0]=some y0_0:=by simpa [cf0_0] using hy0_0
 obtain ⟨ι0_0,H0_0,av0_0,es0_0,O0_0,hv0_0,ha0_0⟩:=ZAy (ZkB.nil hGW) (k:=.i64) (nf:=2) Tryz.underlying22 (by kernel_rfl) (by decide)
  (ZkC Tryz.underlying186 (by kernel_rfl) (by kernel_rfl) (fun j f hj=>by
   match j with
   | 0=>cases hj;exact Tryz.underlying3
   | 1=>cases hj;exact Tryz.underlying3
   | j+2=>simp at hj)) (ok0 0 _ _ rfl rfl) hz0_0
 obtain ⟨y0_1,hy0_1⟩:=ts0_0 1 _ rfl
 have cf0_1:Tryz.prog.cellsOf 3=1:=by kernel_rfl
 have hz0_1:DataW.trod enc Tryz.prog W 0 (fun _=>true) true m0_0 3 [c0_1]=some y0_1:=by simpa [cf0_1] using hy0_1
 obtain ⟨a0_1,e0_1,_,_⟩:=DataW.trod_int Tryz.underlying3 hz0_1
 obtain ⟨y0_2,hy0_2⟩:=ts0_0 2 _ rfl
 have cf0_2:Tryz.prog.cellsOf 3=1:=by kernel_rfl
 have hz0_2:DataW.trod enc Tryz.prog W 0 (fun _=>true) true m0_0 3 [c0_2]=some y0_2:=by simpa [cf0_2] using hy0_2
 obtain ⟨a0_2,e0_2,_,_⟩:=DataW.trod_int Tryz.underlying3 hz0_2
 obtain ⟨y0_3,hy0_3⟩:=ts0_0 3 _ rfl
 have cf0_3:Tryz.prog.cellsOf 23=1:=by kernel_rfl
 have hz0_3:DataW.trod enc Tryz.prog W 0 (fun _=>true) true m0_0 23 [c0_3]=some y0_3:=by simpa [cf0_3] using hy0_3
 obtain ⟨ι0_3,H0_3,av0_3,es0_3,O0_3,hv0_3,ha0_3⟩:=ZAy O0_0 (k:=.i64) (nf:=3) Tryz.underlying23 (by kernel_rfl) (by decide)
  (ZkC Tryz.underlying188 (by kernel_rfl) (by kernel_rfl) (fun j f hj=>by
   match j with
   | 0=>cases hj;exact Tryz.underlying3
   | 1=>cases hj;exact Tryz.underlying3
   | 2=>cases hj;exact Tryz.underlying3
   | j+3=>simp at hj)) (ok0 3 _ _ rfl rfl) hz0_3
 obtain ⟨y0_4,hy0_4⟩:=ts0_0 4 _ rfl
 have cf0_4:Tryz.prog.cellsOf 3=1:=by kernel_rfl
 have hz0_4:DataW.trod enc Tryz.prog W 0 (fun _=>true) true m0_0 3 [c0_4]=some y0_4:=by simpa [cf0_4] using hy0_4
 obtain ⟨a0_4,e0_4,_,_⟩:=DataW.trod_int Tryz.underlying3 hz0_4
 obtain ⟨y0_5,hy0_5⟩:=ts0_0 5 _ rfl
 have cf0_5:Tryz.prog.cellsOf 3=1:=by kernel_rfl
 have hz0_5:DataW.trod enc Tryz.prog W 0 (fun _=>true) true m0_0 3 [c0_5]=some y0_5:=by simpa [cf0_5] using hy0_5
 obtain ⟨a0_5,e0_5,_,_⟩:=DataW.trod_int Tryz.underlying3 hz0_5
 obtain ⟨ys0_1,hs0_1⟩:=tr0 1 _ rfl
 have cs0_1:Tryz.prog.cellsOf 27=3:=by kernel_rfl
 have hq0_1:DataW.trod enc Tryz.prog W 0 (fun _=>true) true n0 27 [c0_6,c0_7,c0_8]=some ys0_1:=by simpa [cs0_1] using hs0_1
 obtain ⟨m0_1,ts0_1⟩:=ZAz Tryz.underlying27 hq0_1
 obtain ⟨y0_6,hy0_6⟩:=ts0_1 0 _ rfl
 have cf0_6:Tryz.prog.cellsOf 9=1:=by kernel_rfl
 have hz0_6:DataW.trod enc Tryz.prog W 0 (fun _=>true) true m0_1 9 [c0_6]=some y0_6:=by simpa [cf0_6] using hy0_6
 obtain ⟨a0_6,e0_6,_,b0_6⟩:=DataW.trod_string Tryz.underlying9 hz0_6
 obtain ⟨y0_7,hy0_7⟩:=ts0_1 1 _ rfl
 have cf0_7:Tryz.prog.cellsOf 9=1:=by kernel_rfl
 have hz0_7:DataW.trod enc Tryz.prog W 0 (fun _=>true) true m0_1 9 [c0_7]=some y0_7:=by simpa [cf0_7] using hy0_7
 obtain ⟨a0_7,e0_7,_,b0_7⟩:=DataW.trod_string Tryz.underlying9 hz0_7
 obtain ⟨y0_8,hy0_8⟩:=ts0_1 2 _ rfl
 have cf0_8:Tryz.prog.cellsOf 3=1:=by kernel_rfl
 have hz0_8:DataW.trod enc Tryz.prog W 0 (fun _=>true) true m0_1 3 [c0_8]=some y0_8:=by simpa [cf0_8] using hy0_8
 obtain ⟨a0_8,e0_8,_,_⟩:=DataW.trod_int Tryz.underlying3 hz0_8
 cases e0_1
 cases e0_2
 cases e0_4
 cases e0_5
 cases e0_6
 cases e0_7
 cases e0_8
 obtain ⟨a1,rfl,_,_,b1⟩:=Go.ChangeMaps.open_string Tryz.underlying9 o1 h1
 have hw0_0:=(V.mono (ZIh _ ι0_3) (YM.refl W) _ _ hv0_0)
 have hb0_0:=(Zmg.more ha0_0 H0_3)
 have hw0_3:=hv0_3
 have hb0_3:=ha0_3
 obtain ⟨m',hm⟩:=ZK7 hb0_0 hb0_3 b0_6 b0_7 b1 a0_1 a0_2 a0_4 a0_5 a0_8
 have hvl:VL _ W [.agg [av0_0,.int .i64 a0_1,.int .i64 a0_2,av0_3,.int .i64 a0_4,.int .i64 a0_5,.str a0_6,.str a0_7,.int .i64 a0_8],.str a1] [.agg #[c0_0,.int .i64 a0_1,.int .i64 a0_2,c0_3,.int .i64 a0_4,.int .i64 a0_5,.string a0_6,.string a0_7,.int .i64 a0_8],.string a1] :=
  ⟨_,_,rfl,⟨[c0_0,.int .i64 a0_1,.int .i64 a0_2,c0_3,.int .i64 a0_4,.int .i64 a0_5,.string a0_6,.string a0_7,.int .i64 a0_8],rfl,⟨_,_,rfl,hw0_0,_,_,rfl,rfl,_,_,rfl,rfl,_,_,rfl,hw0_3,_,_,rfl,rfl,_,_,rfl,rfl,_,_,rfl,rfl,_,_,rfl,rfl,_,_,rfl,rfl,rfl⟩,by simp only [List.all_cons,List.all_nil,Zmg.cell hb0_0,Zmg.cell hb0_3];rfl⟩,_,_,rfl,rfl,rfl⟩
 refine (ZGZ (P:=Tryz.prog) (Checked.mixed Tryz.checked) ZKv ZJO O0_3 hvl hm).mono fun e W' ⟨he,bel⟩ => ?_
 subst he
 exact ⟨_,rfl,_,_,_,[],_,[],hW',trodAll_mk1 (shut_bool Tryz.underlying4 _),(trodAll_cons_mk (Below.trod ZGt (by kernel_rfl) (of_decide_eq_true (by kernel_rfl)) k0 bel lt0) (trodAll_cons_mk (Below.trod ZGt (by kernel_rfl) (of_decide_eq_true (by kernel_rfl)) k1 bel lt1) trodAll_mk0)),rfl,bel.frame _,fun h=>by cases h⟩

theorem Zkt {a b:Bool} (h:a=true) (k:b=true):(a&&b)=true:=by rw [h,k];rfl
set_option maxRecDepth 1000000 in
theorem ZKZ:joinedFacts Tryz.prog 8 Tryz.f8 Rows.fnExactExecuteCommandSpec Rows.fnExactExecuteCommandRow=true:=(Zkt (Zkt (Zkt (Zkt (Zkt (Zkt (Zkt (Zkt (Zkt (Zkt (Zkt (Zkt (Zkt (Zkt (Zkt (Zkt (Zkt (Zkt (Zkt (Zkt (Zkt (Zkt (Zkt (Zkt (Zkt (Zkt (Zkt (Zkt (Zkt (Zkt (Zkt ZKM ZKN) ZKO) ZKP) ZKQ) ZKR) ZKS) ZKT) ZKU) ZKV) ZJR) ZJS) ZJT) ZJU) ZJV) ZJW) ZJX) ZJY) ZJZ) ZJ0) ZJ1) ZJ2) ZJ3) ZJ4) ZJ5) ZJ6) ZJ7) ZJ8) ZJ9) ZKa) ZKb) ZKc)

theorem ZK8:Rows.fnExactExecuteCommandRow.holds Tryz.pinned (OpenSpec.ofChange Rows.fnExactExecuteCommandSpec) :=
 OpenClaim.holds_of_wide 8 Tryz.f8 rfl rfl rfl rfl rfl rfl rfl ⟨rfl,rfl,rfl,rfl,rfl⟩ rfl rfl rfl rfl rfl (by kernel_rfl) Tryz.func8 (ZKZ)
  (of_decide_eq_true (by kernel_rfl)) (by unfold Func.isWrapper;first | (rw [if_pos (by decide +kernel)];kernel_rfl) | (rw [if_neg (by decide +kernel)];exact ⟨rfl,rfl⟩))
  (fun os started H enc _=>ZKg os started H enc)
theorem proved:Rows.FnExactExecuteCommandCardSaid :=
 Claim7.holds_tied_plain_at .later [] [.data,.data,.data,.data,.sentinel,.sentinel,.pinned] true Rows.fnExactExecuteCommandCard.stood.harness true
  ZK8 (fun _ h=>by cases h) ZKY (fun _ h=>by cases h) fnExactExecuteCommand_row_tie rfl ⟨rfl,rfl⟩ ZJa rfl
  (fun f fn hf hfn=>by
   obtain rfl:f=8:=Option.some.inj (ZJb.symm.trans hf) |>.symm
   obtain rfl:fn=Tryz.f8:=(Option.some.inj (Tryz.func8.symm.trans hfn)).symm
   exact ⟨ZHJ,fun j t ht=>by
    rw [Tryz.params8] at ht
    have hm:t∈[29,9]:=by simpa using Array.mem_of_getElem? ht
    have hall:=ZHK
    exact (show Tryz.pinned.checked.prog.wantsStandIn t=false by simpa using List.all_eq_true.1 hall t hm)⟩)
  ZJc
#print axioms proved
end Go.Proofs.YtemcdiajejekoaaGreatDoor.fnExactExecuteCommand
