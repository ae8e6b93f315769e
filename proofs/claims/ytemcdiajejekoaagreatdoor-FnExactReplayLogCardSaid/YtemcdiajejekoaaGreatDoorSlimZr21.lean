/- FnExactReplayLog returns true for all arguments, without conditions: the law holds as it is stated; the arguments read as they did. -/
import Derived.Test.YtemcdiajejekoaaGreatDoorSlimZr20
import Derived.Test.YtemcdiajejekoaaGreatDoorTie
import Derived.Test.YtemcdiajejekoaaGreatDoorCards
import Derived.LaidMore
import Derived.SevenTiedAt
import Derived.Stop.Joined
import Derived.Stop.LaidErr
import Derived.Lay
import Derived.Test.YtemcdiajejekoaaGreatDoorRows
import Derived.SizedLaws
import Derived.ChangeOld
import Derived.Handed
import Derived.JoinedOf
set_option linter.unusedSimpArgs false
set_option linter.unusedVariables false
/- FnExactReplayLog returns true for all arguments, without conditions: the law holds as it is stated; the arguments read as they did. -/
namespace Go.Proofs.YtemcdiajejekoaaGreatDoor.fnExactReplayLog
open Go.ChangeShapes Go.WideShapes Go.ChangeAt Go.RowKit Go.Joins Go.Deep Slim
set_option linter.unusedVariables false

theorem ZKF {H:List Blk} {av0_0:AV} {es0_0:List (List Int)} (h0_0:Zl2 H av0_0 .i64 2 es0_0) {av0_3:AV} {es0_3:List (List Int)} (h0_3:Zl2 H av0_3 .i64 3 es0_3) {t1_0:ByteArray} (ht1_0:t1_0.size≤maxLen) {t1_1:ByteArray} (ht1_1:t1_1.size≤maxLen)(x0_1:Int) (x0_2:Int) (x0_4:Int) (x0_5:Int) (x1_2:Int):∃ m',call T prC 7 [.agg [av0_0,.int .i64 x0_1,.int .i64 x0_2,av0_3,.int .i64 x0_4,.int .i64 x0_5],.agg [.str t1_0,.str t1_1,.int .i64 x1_2]] ⟨H,none⟩=some (.bool true,m'):=by
 obtain ⟨ls0_0,ha0_0⟩:=ZHU h0_0
 obtain ⟨ls0_3,ha0_3⟩:=ZHW h0_3
 exact Zub ZG2 ha0_0 ha0_3 ht1_0 ht1_1 x0_1 x0_2 x0_4 x0_5 x1_2

theorem own:ownKnob Tryz.prog.godebug=none:=by kernel_rfl
theorem ZFS:laidOutB Tryz.prog=true:=by kernel_rfl

theorem ZFT : "*" ++ "errors.errorString" = "*errors.errorString" := by decide
theorem ZHy (u : TypeId) (h : Tryz.prog.typeName? 3 u = some "*errors.errorString") : u = 306 :=
 typeName_ptr_named (nm := "errors.errorString") (by rw [ZFT]; kernel_rfl) (by kernel_rfl) (by decide) u (by rw [ZFT]; exact h)
def Zuc:List UInt8:=[105,110,118,97,108,105,100,32,115,121,110,116,97,120]
def Zxl:List UInt8:=[118,97,108,117,101,32,111,117,116,32,111,102,32,114,97,110,103,101]

set_option maxRecDepth 100000 in
theorem Zxm {W:World} (h:laidMetH Tryz.prog Rows.fnExactReplayLogRow.laid W):ZmQ W:=by
 rw [MakeChecks.laidMetH_plain _ _ _ (by kernel_rfl)] at h
 have h3:=Lib.tabIs_of_head (k:=.u64) (zs:=Lib.pow10Tab) (g:=5) (t:=301) (e:=90) (n:=20) (by kernel_rfl) (by kernel_rfl) (by kernel_rfl) (by kernel_rfl) (by kernel_rfl) (by kernel_rfl) h.tail.tail
 have fErrSyntax:=h.tail.tail.tail.tail.tail
 obtain ⟨aErrSyntax, _, vErrSyntax, _⟩ := laid_sentinel (n := "strconv.ErrSyntax") (nm := "*errors.errorString") (text := Zuc) (g := 3) (ti := 180) (tp := 306) (te := 308) (ts := 9) fErrSyntax (by kernel_rfl) (by kernel_rfl) Tryz.underlying180 ZHy Tryz.underlying306 Tryz.underlying308 rfl rfl Tryz.underlying9 (by kernel_rfl) (by kernel_rfl)
 have fErrRange:=h.tail.tail.tail.tail
 obtain ⟨aErrRange, _, vErrRange, _⟩ := laid_sentinel (n := "strconv.ErrRange") (nm := "*errors.errorString") (text := Zxl) (g := 4) (ti := 180) (tp := 306) (te := 308) (ts := 9) fErrRange (by kernel_rfl) (by kernel_rfl) Tryz.underlying180 ZHy Tryz.underlying306 Tryz.underlying308 rfl rfl Tryz.underlying9 (by kernel_rfl) (by kernel_rfl)
 intro p hp
 unfold Zfs at hp
 simp only [List.mem_cons,List.mem_nil_iff,or_false] at hp
 rcases hp with rfl | rfl | rfl
 ·unfold Lib.TabIs World.var? at h3
  rw [show Tryz.prog.globalNamed _=some 5 by kernel_rfl] at h3
  simp only [Option.bind_some] at h3
  split at h3
  ·rename_i cs e fz hc
   cases h3
   exact ⟨(Array.getElem?_eq_some_iff.mp hc).1,_,_,_,hc,rfl⟩
  ·cases h3
 ·unfold World.var? at vErrSyntax
  rw [show Tryz.prog.globalNamed "strconv.ErrSyntax" = some 3 by kernel_rfl] at vErrSyntax
  simp only [Option.bind_some] at vErrSyntax
  split at vErrSyntax
  ·rename_i cs e fz hc
   cases vErrSyntax
   exact ⟨(Array.getElem?_eq_some_iff.mp hc).1,_,_,_,hc,_,_,rfl⟩
  ·cases vErrSyntax
 ·unfold World.var? at vErrRange
  rw [show Tryz.prog.globalNamed "strconv.ErrRange" = some 4 by kernel_rfl] at vErrRange
  simp only [Option.bind_some] at vErrRange
  split at vErrRange
  ·rename_i cs e fz hc
   cases vErrRange
   exact ⟨(Array.getElem?_eq_some_iff.mp hc).1,_,_,_,hc,_,_,rfl⟩
  ·cases vErrRange

set_option maxRecDepth 100000 in
theorem ZJM (os:Os) (started:os.Started) (H:Type) (enc:TypeId×Value→H) :
  ReturnsInHanded {} Tryz.checked os 7 .any (fun w args=>(Rows.fnExactReplayLogSpec.pre enc Tryz.prog Tryz.f7 [] false w args∧laidMetH Tryz.prog Rows.fnExactReplayLogRow.laid w)∧sizedMet enc Tryz.prog Tryz.f7 (OpenSpec.ofChange Rows.fnExactReplayLogSpec) false w args) (Rows.fnExactReplayLogSpec.post enc Tryz.prog Tryz.f7 false true false false):=by
 refine returnsInHanded_of_change_and (C:=Tryz.checked) (X:=fun w _=>laidMetH Tryz.prog Rows.fnExactReplayLogRow.laid w) (fun _ _ _ hh h=>h.of_heap hh) own started (by kernel_rfl) Tryz.func7
  (ChangeSpec.witness_shaped (enc:=enc) (C:=Tryz.checked) (os:=os) (X:=fun w _=>laidMetH Tryz.prog Rows.fnExactReplayLogRow.laid w) false (ZKu os) ZJJ 8 (World.laidAll_os _ _ _) (ZFQ os) (ZKv os) (ZJL os enc) (ZHb os enc) (by rw [MakeChecks.laidMetH_plain _ _ _ (by kernel_rfl)];exact ZIE os)) ?_
 intro W base args ds gs before hval0 hW _ _ hL _
 have hGW:ZmQ W:=Zxm hL
 have hval:∀ (j:Nat) t v,Tryz.f7.params[j]?=some t→args[j]?=some v→Value.okWide Tryz.prog W .any base t v:=hval0
 have hW':=hW
 obtain ⟨p,q,hA0,hV,rfl,hfz,hnd⟩:=hW
 have hA:DataW.TrodAll enc Tryz.prog W 0 (fun _=>true) true Tryz.f7.params.toList args.toList ds p:=hA0
 rw [Tryz.params7] at hA hval
 obtain ⟨v0,vs0,d0,ds0,p0,q0,hargs,rfl,rfl,h0,r0⟩:=trodAll_cons hA
 obtain ⟨v1,vs1,d1,ds1,p1,q1,rfl,rfl,rfl,h1,r1⟩:=trodAll_cons r0
 obtain ⟨rfl,rfl,rfl⟩:=trodAll_nil r1
 obtain rfl:args = #[v0,v1]:=by cases args;simp_all
 obtain ⟨rfl,rfl⟩:=trodVars_none hV
 have o0:=hval 0 25 v0 rfl rfl
 have o1:=hval 1 27 v1 rfl rfl
 have k0:=h0
 have k1:=h1
 have lt0:∀ x∈p0,x.block<W.heap.size:=by obtain ⟨m,hm⟩:=k0;exact DataW.trod_lt m _ _ _ hm
 have lt1:∀ x∈p1,x.block<W.heap.size:=by obtain ⟨m,hm⟩:=k1;exact DataW.trod_lt m _ _ _ hm
 obtain ⟨cs0,n0,rfl,sz0,tr0⟩:=Zrv Tryz.underlying25 (by kernel_rfl) (by kernel_rfl) o0 h0
 have ok0:=ZmR Tryz.underlying25 (show Tryz.prog.cellTypes Tryz.prog.depth 25=some [22,3,3,23,3,3] by kernel_rfl) o0
 obtain ⟨c0_0,c0_1,c0_2,c0_3,c0_4,c0_5,rfl⟩:=ZIW sz0
 obtain ⟨y0_0,hy0_0⟩:=tr0 0 _ _ rfl rfl
 obtain ⟨ι0_0,H0_0,av0_0,es0_0,O0_0,hv0_0,ha0_0⟩:=Zz1 (Zkr.nil hGW) (k:=.i64) (nf:=2) Tryz.underlying22 (by kernel_rfl) (by decide)
  (Zks Tryz.underlying186 (by kernel_rfl) (by kernel_rfl) (fun j f hj=>by
   match j with
   | 0=>cases hj;exact Tryz.underlying3
   | 1=>cases hj;exact Tryz.underlying3
   | j+2=>simp at hj)) (ok0 0 _ _ rfl rfl) hy0_0
 obtain ⟨y0_1,hy0_1⟩:=tr0 1 _ _ rfl rfl
 obtain ⟨a0_1,e0_1,_,_⟩:=DataW.trod_int Tryz.underlying3 hy0_1
 cases e0_1
 obtain ⟨y0_2,hy0_2⟩:=tr0 2 _ _ rfl rfl
 obtain ⟨a0_2,e0_2,_,_⟩:=DataW.trod_int Tryz.underlying3 hy0_2
 cases e0_2
 obtain ⟨y0_3,hy0_3⟩:=tr0 3 _ _ rfl rfl
 obtain ⟨ι0_3,H0_3,av0_3,es0_3,O0_3,hv0_3,ha0_3⟩:=Zz1 O0_0 (k:=.i64) (nf:=3) Tryz.underlying23 (by kernel_rfl) (by decide)
  (Zks Tryz.underlying188 (by kernel_rfl) (by kernel_rfl) (fun j f hj=>by
   match j with
   | 0=>cases hj;exact Tryz.underlying3
   | 1=>cases hj;exact Tryz.underlying3
   | 2=>cases hj;exact Tryz.underlying3
   | j+3=>simp at hj)) (ok0 3 _ _ rfl rfl) hy0_3
 obtain ⟨y0_4,hy0_4⟩:=tr0 4 _ _ rfl rfl
 obtain ⟨a0_4,e0_4,_,_⟩:=DataW.trod_int Tryz.underlying3 hy0_4
 cases e0_4
 obtain ⟨y0_5,hy0_5⟩:=tr0 5 _ _ rfl rfl
 obtain ⟨a0_5,e0_5,_,_⟩:=DataW.trod_int Tryz.underlying3 hy0_5
 cases e0_5
 obtain ⟨cs1,n1,rfl,sz1,tr1⟩:=Zrv Tryz.underlying27 (by kernel_rfl) (by kernel_rfl) o1 h1
 have ok1:=ZmR Tryz.underlying27 (show Tryz.prog.cellTypes Tryz.prog.depth 27=some [9,9,3] by kernel_rfl) o1
 obtain ⟨c1_0,c1_1,c1_2,rfl⟩:=array3 sz1
 obtain ⟨y1_0,hy1_0⟩:=tr1 0 _ _ rfl rfl
 obtain ⟨a1_0,e1_0,_,b1_0⟩:=DataW.trod_string Tryz.underlying9 hy1_0
 cases e1_0
 obtain ⟨y1_1,hy1_1⟩:=tr1 1 _ _ rfl rfl
 obtain ⟨a1_1,e1_1,_,b1_1⟩:=DataW.trod_string Tryz.underlying9 hy1_1
 cases e1_1
 obtain ⟨y1_2,hy1_2⟩:=tr1 2 _ _ rfl rfl
 obtain ⟨a1_2,e1_2,_,_⟩:=DataW.trod_int Tryz.underlying3 hy1_2
 cases e1_2
 have hw0_0:=(V.mono (ZHI _ ι0_3) (YP.refl W) _ _ hv0_0)
 have hb0_0:=(Zl2.more ha0_0 H0_3)
 have hw0_3:=hv0_3
 have hb0_3:=ha0_3
 obtain ⟨m',hm⟩:=ZKF hb0_0 hb0_3 b1_0 b1_1 a0_1 a0_2 a0_4 a0_5 a1_2
 have hvl:VL _ W [.agg [av0_0,.int .i64 a0_1,.int .i64 a0_2,av0_3,.int .i64 a0_4,.int .i64 a0_5],.agg [.str a1_0,.str a1_1,.int .i64 a1_2]] [.agg #[c0_0,.int .i64 a0_1,.int .i64 a0_2,c0_3,.int .i64 a0_4,.int .i64 a0_5],.agg #[.string a1_0,.string a1_1,.int .i64 a1_2]] :=
  ⟨_,_,rfl,⟨[c0_0,.int .i64 a0_1,.int .i64 a0_2,c0_3,.int .i64 a0_4,.int .i64 a0_5],rfl,⟨_,_,rfl,hw0_0,_,_,rfl,rfl,_,_,rfl,rfl,_,_,rfl,hw0_3,_,_,rfl,rfl,_,_,rfl,rfl,rfl⟩,by simp only [List.all_cons,List.all_nil,Zl2.cell hb0_0,Zl2.cell hb0_3];rfl⟩,_,_,rfl,⟨[.string a1_0,.string a1_1,.int .i64 a1_2],rfl,⟨_,_,rfl,rfl,_,_,rfl,rfl,_,_,rfl,rfl,rfl⟩,by simp only [List.all_cons,List.all_nil];rfl⟩,rfl⟩
 refine (ZGo (P:=Tryz.prog) (Checked.mixed Tryz.checked) ZJ1 ZJk O0_3 hvl hm).mono fun e W' ⟨he,bel⟩ => ?_
 subst he
 exact ⟨_,rfl,_,_,_,[],_,[],hW',trodAll_mk1 (shut_bool Tryz.underlying4 _),(trodAll_cons_mk (Below.trod ZFS (by kernel_rfl) (of_decide_eq_true (by kernel_rfl)) k0 bel lt0) (trodAll_cons_mk (Below.trod ZFS (by kernel_rfl) (of_decide_eq_true (by kernel_rfl)) k1 bel lt1) trodAll_mk0)),rfl,bel.frame _,fun h=>by cases h⟩

theorem Zkj {a b:Bool} (h:a=true) (k:b=true):(a&&b)=true:=by rw [h,k];rfl
set_option maxRecDepth 1000000 in
theorem ZKx:joinedFacts Tryz.prog 7 Tryz.f7 Rows.fnExactReplayLogSpec Rows.fnExactReplayLogRow=true:=(Zkj (Zkj (Zkj (Zkj (Zkj (Zkj (Zkj (Zkj (Zkj (Zkj (Zkj (Zkj (Zkj (Zkj (Zkj (Zkj (Zkj (Zkj (Zkj (Zkj (Zkj (Zkj (Zkj (Zkj (Zkj (Zkj (Zkj (Zkj (Zkj (Zkj (Zkj ZKk ZKl) ZKm) ZKn) ZKo) ZKp) ZKq) ZKr) ZKs) ZKt) ZJn) ZJo) ZJp) ZJq) ZJr) ZJs) ZJt) ZJu) ZJv) ZJw) ZJx) ZJy) ZJz) ZJA) ZJB) ZJC) ZJD) ZJE) ZJF) ZJG) ZJH) ZJI)

theorem ZKG:Rows.fnExactReplayLogRow.holds Tryz.pinned (OpenSpec.ofChange Rows.fnExactReplayLogSpec) :=
 OpenClaim.holds_of_wide 7 Tryz.f7 rfl rfl rfl rfl rfl rfl rfl ⟨rfl,rfl,rfl,rfl,rfl⟩ rfl rfl rfl rfl rfl (by kernel_rfl) Tryz.func7 (ZKx)
  (of_decide_eq_true (by kernel_rfl)) (by unfold Func.isWrapper;first | (rw [if_pos (by decide +kernel)];kernel_rfl) | (rw [if_neg (by decide +kernel)];exact ⟨rfl,rfl⟩))
  (fun os started H enc _=>ZJM os started H enc)
theorem proved:Rows.FnExactReplayLogCardSaid :=
 Claim7.holds_tied_plain_at .later [] [.data,.data,.data,.data,.sentinel,.sentinel,.pinned] true Rows.fnExactReplayLogCard.stood.harness true
  ZKG (fun _ h=>by cases h) ZKw (fun _ h=>by cases h) fnExactReplayLog_row_tie rfl ⟨rfl,rfl⟩ ZIF rfl
  (fun f fn hf hfn=>by
   obtain rfl:f=7:=Option.some.inj (ZIG.symm.trans hf) |>.symm
   obtain rfl:fn=Tryz.f7:=(Option.some.inj (Tryz.func7.symm.trans hfn)).symm
   exact ⟨ZHc,fun j t ht=>by
    rw [Tryz.params7] at ht
    have hm:t∈[25,27]:=by simpa using Array.mem_of_getElem? ht
    have hall:=ZHd
    exact (show Tryz.pinned.checked.prog.wantsStandIn t=false by simpa using List.all_eq_true.1 hall t hm)⟩)
  ZIH
#print axioms proved
end Go.Proofs.YtemcdiajejekoaaGreatDoor.fnExactReplayLog
