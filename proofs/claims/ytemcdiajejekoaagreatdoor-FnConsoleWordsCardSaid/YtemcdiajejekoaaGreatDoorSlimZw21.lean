/- FnConsoleWords returns true for all arguments, without conditions: the law holds as it is stated; the arguments read as they did. -/
import Derived.Test.YtemcdiajejekoaaGreatDoorSlimZw20
import Derived.Test.YtemcdiajejekoaaGreatDoorTie
import Derived.Test.YtemcdiajejekoaaGreatDoorCards
import Derived.LaidMore
import Derived.SevenTiedAt
import Derived.Stop.Joined
import Derived.Stop.LaidErr
import Derived.Lay
import Derived.Test.YtemcdiajejekoaaGreatDoorRows
import Derived.SizedLaws
import Derived.ChangeOld
import Derived.Handed
import Derived.JoinedOf
set_option linter.unusedSimpArgs false
set_option linter.unusedVariables false
/- FnConsoleWords returns true for all arguments, without conditions: the law holds as it is stated; the arguments read as they did. -/
namespace Go.Proofs.YtemcdiajejekoaaGreatDoor.fnConsoleWords
open Go.ChangeShapes Go.WideShapes Go.ChangeAt Go.RowKit Go.Joins Go.Deep Slim
set_option linter.unusedVariables false

theorem ZCB {H:List Blk} {av0:AV} {es0:List (List Int)} (h0:Zoy H av0 .u8 1 es0)  : ∃ m',call T prC 6 [av0] ⟨H,none⟩=some (.bool true,m'):=by
 obtain ⟨ls0,ha0⟩:=Zz3 h0
 exact Zi5 Zy1 ha0

theorem own:ownKnob Tryz.prog.godebug=none:=by kernel_rfl
theorem ZAH:laidOutB Tryz.prog=true:=by kernel_rfl

theorem ZxE : "*" ++ "errors.errorString" = "*errors.errorString" := by decide
theorem ZzD (u : TypeId) (h : Tryz.prog.typeName? 3 u = some "*errors.errorString") : u = 306 :=
 typeName_ptr_named (nm := "errors.errorString") (by rw [ZxE]; kernel_rfl) (by kernel_rfl) (by decide) u (by rw [ZxE]; exact h)
def Zod:List UInt8:=[105,110,118,97,108,105,100,32,115,121,110,116,97,120]
def Zqi:List UInt8:=[118,97,108,117,101,32,111,117,116,32,111,102,32,114,97,110,103,101]

set_option maxRecDepth 100000 in
theorem Zqj {W:World} (h:laidMetH Tryz.prog Rows.fnConsoleWordsRow.laid W):Zia W:=by
 rw [MakeChecks.laidMetH_plain _ _ _ (by kernel_rfl)] at h
 have h3:=Lib.tabIs_of_head (k:=.u64) (zs:=Lib.pow10Tab) (g:=5) (t:=301) (e:=90) (n:=20) (by kernel_rfl) (by kernel_rfl) (by kernel_rfl) (by kernel_rfl) (by kernel_rfl) (by kernel_rfl) h.tail.tail
 have fErrSyntax:=h.tail.tail.tail.tail.tail
 obtain ⟨aErrSyntax, _, vErrSyntax, _⟩ := laid_sentinel (n := "strconv.ErrSyntax") (nm := "*errors.errorString") (text := Zod) (g := 3) (ti := 180) (tp := 306) (te := 308) (ts := 9) fErrSyntax (by kernel_rfl) (by kernel_rfl) Tryz.underlying180 ZzD Tryz.underlying306 Tryz.underlying308 rfl rfl Tryz.underlying9 (by kernel_rfl) (by kernel_rfl)
 have fErrRange:=h.tail.tail.tail.tail
 obtain ⟨aErrRange, _, vErrRange, _⟩ := laid_sentinel (n := "strconv.ErrRange") (nm := "*errors.errorString") (text := Zqi) (g := 4) (ti := 180) (tp := 306) (te := 308) (ts := 9) fErrRange (by kernel_rfl) (by kernel_rfl) Tryz.underlying180 ZzD Tryz.underlying306 Tryz.underlying308 rfl rfl Tryz.underlying9 (by kernel_rfl) (by kernel_rfl)
 intro p hp
 unfold ZcP at hp
 simp only [List.mem_cons,List.mem_nil_iff,or_false] at hp
 rcases hp with rfl | rfl | rfl
 ·unfold Lib.TabIs World.var? at h3
  rw [show Tryz.prog.globalNamed _=some 5 by kernel_rfl] at h3
  simp only [Option.bind_some] at h3
  split at h3
  ·rename_i cs e fz hc
   cases h3
   exact ⟨(Array.getElem?_eq_some_iff.mp hc).1,_,_,_,hc,rfl⟩
  ·cases h3
 ·unfold World.var? at vErrSyntax
  rw [show Tryz.prog.globalNamed "strconv.ErrSyntax" = some 3 by kernel_rfl] at vErrSyntax
  simp only [Option.bind_some] at vErrSyntax
  split at vErrSyntax
  ·rename_i cs e fz hc
   cases vErrSyntax
   exact ⟨(Array.getElem?_eq_some_iff.mp hc).1,_,_,_,hc,_,_,rfl⟩
  ·cases vErrSyntax
 ·unfold World.var? at vErrRange
  rw [show Tryz.prog.globalNamed "strconv.ErrRange" = some 4 by kernel_rfl] at vErrRange
  simp only [Option.bind_some] at vErrRange
  split at vErrRange
  ·rename_i cs e fz hc
   cases vErrRange
   exact ⟨(Array.getElem?_eq_some_iff.mp hc).1,_,_,_,hc,_,_,rfl⟩
  ·cases vErrRange

set_option maxRecDepth 100000 in
theorem ZBI (os:Os) (started:os.Started) (H:Type) (enc:TypeId×Value→H) :
  ReturnsInHanded {} Tryz.checked os 6 .any (fun w args=>(Rows.fnConsoleWordsSpec.pre enc Tryz.prog Tryz.f6 [] false w args∧laidMetH Tryz.prog Rows.fnConsoleWordsRow.laid w)∧sizedMet enc Tryz.prog Tryz.f6 (OpenSpec.ofChange Rows.fnConsoleWordsSpec) false w args) (Rows.fnConsoleWordsSpec.post enc Tryz.prog Tryz.f6 false true false false):=by
 refine returnsInHanded_of_change_and (C:=Tryz.checked) (X:=fun w _=>laidMetH Tryz.prog Rows.fnConsoleWordsRow.laid w) (fun _ _ _ hh h=>h.of_heap hh) own started (by kernel_rfl) Tryz.func6
  (ChangeSpec.witness_shaped (enc:=enc) (C:=Tryz.checked) (os:=os) (X:=fun w _=>laidMetH Tryz.prog Rows.fnConsoleWordsRow.laid w) false (ZCr os) ZBF 8 (World.laidAll_os _ _ _) (ZxC os) (ZCs os) (ZBH os enc) (Zza os enc) (by rw [MakeChecks.laidMetH_plain _ _ _ (by kernel_rfl)];exact ZAD os)) ?_
 intro W base args ds gs before hval0 hW _ _ hL _
 have hGW:Zia W:=Zqj hL
 have hval:∀ (j:Nat) t v,Tryz.f6.params[j]?=some t→args[j]?=some v→Value.okWide Tryz.prog W .any base t v:=hval0
 have hW':=hW
 obtain ⟨p,q,hA0,hV,rfl,hfz,hnd⟩:=hW
 have hA:DataW.TrodAll enc Tryz.prog W 0 (fun _=>true) true Tryz.f6.params.toList args.toList ds p:=hA0
 rw [Tryz.params6] at hA hval
 obtain ⟨v0,vs0,d0,ds0,p0,q0,hargs,rfl,rfl,h0,r0⟩:=trodAll_cons hA
 obtain ⟨rfl,rfl,rfl⟩:=trodAll_nil r0
 obtain rfl:args = #[v0]:=by cases args;simp_all
 obtain ⟨rfl,rfl⟩:=trodVars_none hV
 have o0:=hval 0 47 v0 rfl rfl
 have k0:=h0
 have lt0:∀ x∈p0,x.block<W.heap.size:=by obtain ⟨m,hm⟩:=k0;exact DataW.trod_lt m _ _ _ hm
 obtain ⟨sa0,sl0,sc0,rfl⟩:=okWide_slice Tryz.underlying47 o0
 obtain ⟨fu0,hf0⟩:=h0
 obtain ⟨ι0,H0,av0,es0,O0,hv0,ha0⟩:=Zyb (Zf8.nil hGW) (k:=.u8) (nf:=1) Tryz.underlying47 (by kernel_rfl) (by decide)
  (Ztc Tryz.underlying5) (by simpa [Value.okWide,Tryz.underlying47] using o0) hf0
 have hw0:=hv0
 have hb0:=ha0
 obtain ⟨m',hm⟩:=ZCB hb0
 have hvl:VL _ W [av0] [.slice sa0 sl0 sc0] :=
  ⟨_,_,rfl,hw0,rfl⟩
 refine (Zyc (P:=Tryz.prog) (Checked.mixed Tryz.checked) ZB0 ZBf O0 hvl hm).mono fun e W' ⟨he,bel⟩ => ?_
 subst he
 exact ⟨_,rfl,_,_,_,[],_,[],hW',trodAll_mk1 (shut_bool Tryz.underlying4 _),(trodAll_cons_mk (Below.trod ZAH (by kernel_rfl) (of_decide_eq_true (by kernel_rfl)) k0 bel lt0) trodAll_mk0),rfl,bel.frame _,fun h=>by cases h⟩

theorem Zf0 {a b:Bool} (h:a=true) (k:b=true):(a&&b)=true:=by rw [h,k];rfl
set_option maxRecDepth 1000000 in
theorem ZCu:joinedFacts Tryz.prog 6 Tryz.f6 Rows.fnConsoleWordsSpec Rows.fnConsoleWordsRow=true:=(Zf0 (Zf0 (Zf0 (Zf0 (Zf0 (Zf0 (Zf0 (Zf0 (Zf0 (Zf0 (Zf0 (Zf0 (Zf0 (Zf0 (Zf0 (Zf0 (Zf0 (Zf0 (Zf0 (Zf0 (Zf0 (Zf0 (Zf0 (Zf0 (Zf0 (Zf0 (Zf0 (Zf0 (Zf0 (Zf0 (Zf0 ZCh ZCi) ZCj) ZCk) ZCl) ZCm) ZCn) ZCo) ZCp) ZCq) ZBj) ZBk) ZBl) ZBm) ZBn) ZBo) ZBp) ZBq) ZBr) ZBs) ZBt) ZBu) ZBv) ZBw) ZBx) ZBy) ZBz) ZBA) ZBB) ZBC) ZBD) ZBE)

theorem ZCC:Rows.fnConsoleWordsRow.holds Tryz.pinned (OpenSpec.ofChange Rows.fnConsoleWordsSpec) :=
 OpenClaim.holds_of_wide 6 Tryz.f6 rfl rfl rfl rfl rfl rfl rfl ⟨rfl,rfl,rfl,rfl,rfl⟩ rfl rfl rfl rfl rfl (by kernel_rfl) Tryz.func6 (ZCu)
  (of_decide_eq_true (by kernel_rfl)) (by unfold Func.isWrapper;first | (rw [if_pos (by decide +kernel)];kernel_rfl) | (rw [if_neg (by decide +kernel)];exact ⟨rfl,rfl⟩))
  (fun os started H enc _=>ZBI os started H enc)
theorem proved:Rows.FnConsoleWordsCardSaid :=
 Claim7.holds_tied_plain_at .later [] [.data,.data,.data,.data,.sentinel,.sentinel,.pinned] true Rows.fnConsoleWordsCard.stood.harness true
  ZCC (fun _ h=>by cases h) ZCt (fun _ h=>by cases h) fnConsoleWords_row_tie rfl ⟨rfl,rfl⟩ ZAE rfl
  (fun f fn hf hfn=>by
   obtain rfl:f=6:=Option.some.inj (ZAF.symm.trans hf) |>.symm
   obtain rfl:fn=Tryz.f6:=(Option.some.inj (Tryz.func6.symm.trans hfn)).symm
   exact ⟨Zzb,fun j t ht=>by
    rw [Tryz.params6] at ht
    have hm:t∈[47]:=by simpa using Array.mem_of_getElem? ht
    have hall:=Zzc
    exact (show Tryz.pinned.checked.prog.wantsStandIn t=false by simpa using List.all_eq_true.1 hall t hm)⟩)
  ZAG
#print axioms proved
end Go.Proofs.YtemcdiajejekoaaGreatDoor.fnConsoleWords
