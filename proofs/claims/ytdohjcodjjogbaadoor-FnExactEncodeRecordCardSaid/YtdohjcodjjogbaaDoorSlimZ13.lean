/- FnExactEncodeRecord returns true for all arguments, without conditions: the law holds as it is stated; the arguments read as they did. -/
import Derived.Test.YtdohjcodjjogbaaDoorSlimZ12
import Derived.Test.YtdohjcodjjogbaaDoorTie
import Derived.Test.YtdohjcodjjogbaaDoorCards
import Derived.LaidMore
import Derived.SevenTiedAt
import Derived.Stop.Joined
import Derived.Test.YtdohjcodjjogbaaDoorRows
import Derived.SizedLaws
import Derived.ChangeOld
import Derived.Handed
import Derived.JoinedOf
/- FnExactEncodeRecord returns true for all arguments, without conditions: the law holds as it is stated; the arguments read as they did. -/
namespace Go.Proofs.YtdohjcodjjogbaaDoor.fnExactEncodeRecord
open Go.ChangeShapes Go.WideShapes Go.ChangeAt Go.RowKit Go.Joins Go.Deep Slim
set_option linter.unusedVariables false

theorem main {H : List Blk}  {t1_0 : ByteArray} (ht1_0 : t1_0.size ≤ maxLen) {t1_1 : ByteArray} (ht1_1 : t1_1.size ≤ maxLen)(x0 : Int) : ∃ m', call T prC 3 [.int .i64 x0, .agg [.str t1_0, .str t1_1]] ⟨H, none⟩ = some (.bool true, m') := by
  exact law_EncodeRecord prC_ito prC_con  ht1_0 ht1_1 x0

theorem own : ownKnob Tryd.prog.godebug = none := by kernel_rfl
theorem laidOut : laidOutB Tryd.prog = true := by kernel_rfl

theorem glob_of_laid {W : World} (h : laidMetH Tryd.prog Rows.fnExactEncodeRecordRow.laid W) : GlobAt W := by
  rw [MakeChecks.laidMetH_plain _ _ _ (by kernel_rfl)] at h
  have h2 := laidMet.filter (fun x => match x.2 with | .agg l => l.length == 20 | _ => false) h
  have h3 := Lib.tabIs_of_head (k := .u64) (zs := Lib.pow10Tab) (name := (Rows.fnExactEncodeRecordRow.laid.filter (fun x => match x.2 with | .agg l => l.length == 20 | _ => false)).head!.1) (rest := []) (g := 1) (t := 113) (e := 76) (n := 20) (by kernel_rfl) (by kernel_rfl) (by kernel_rfl) (by kernel_rfl) (by kernel_rfl) (by kernel_rfl) h2
  intro p hp
  obtain rfl : p = _ := List.mem_singleton.mp hp
  unfold Lib.TabIs World.var? at h3
  rw [show Tryd.prog.globalNamed _ = some 1 by kernel_rfl] at h3
  simp only [Option.bind_some] at h3
  split at h3
  · rename_i cs e fz hc
    cases h3
    exact ⟨(Array.getElem?_eq_some_iff.mp hc).1, _, _, _, hc, rfl⟩
  · cases h3

set_option maxRecDepth 100000 in
theorem lifted (os : Os) (started : os.Started) (H : Type) (enc : TypeId × Value → H) :
    ReturnsInHanded {} Tryd.checked os 3 .any (fun w args => (Rows.fnExactEncodeRecordSpec.pre enc Tryd.prog Tryd.f3 [] false w args ∧ laidMetH Tryd.prog Rows.fnExactEncodeRecordRow.laid w) ∧ sizedMet enc Tryd.prog Tryd.f3 (OpenSpec.ofChange Rows.fnExactEncodeRecordSpec) false w args) (Rows.fnExactEncodeRecordSpec.post enc Tryd.prog Tryd.f3 false true false false) := by
  refine returnsInHanded_of_change_and (C := Tryd.checked) (X := fun w _ => laidMetH Tryd.prog Rows.fnExactEncodeRecordRow.laid w) (fun _ _ _ hh h => h.of_heap hh) own started (by kernel_rfl) Tryd.func3
    (ChangeSpec.witness_shaped (enc := enc) (C := Tryd.checked) (os := os) (X := fun w _ => laidMetH Tryd.prog Rows.fnExactEncodeRecordRow.laid w) false (World.doorLaid Tryd.prog 4000 os) #[.int .i64 0, .agg #[.string ⟨#[]⟩, .string ⟨#[]⟩]] 8 rfl (World.shaped_of_RefB (by kernel_rfl) (by kernel_rfl)) (by kernel_rfl) (by kernel_rfl) (by kernel_rfl) (laidMetH_of_parts3 (fuel := 8) (laidMet_of_run' 8 (by kernel_rfl) (by kernel_rfl)) (by kernel_rfl) (by kernel_rfl))) ?_
  intro W base args ds gs before hval0 hW _ _ hL _
  have hGW : GlobAt W := glob_of_laid hL
  have hval : ∀ (j : Nat) t v, Tryd.f3.params[j]? = some t → args[j]? = some v → Value.okWide Tryd.prog W .any base t v := hval0
  have hW' := hW
  obtain ⟨p, q, hA0, hV, rfl, hfz, hnd⟩ := hW
  have hA : DataW.TrodAll enc Tryd.prog W 0 (fun _ => true) true Tryd.f3.params.toList args.toList ds p := hA0
  rw [Tryd.params3] at hA hval
  obtain ⟨v0, vs0, d0, ds0, p0, q0, hargs, rfl, rfl, h0, r0⟩ := trodAll_cons hA
  obtain ⟨v1, vs1, d1, ds1, p1, q1, rfl, rfl, rfl, h1, r1⟩ := trodAll_cons r0
  obtain ⟨rfl, rfl, rfl⟩ := trodAll_nil r1
  obtain rfl : args = #[v0, v1] := by cases args; simp_all
  obtain ⟨rfl, rfl⟩ := trodVars_none hV
  have o0 := hval 0 3 v0 rfl rfl
  have o1 := hval 1 23 v1 rfl rfl
  have k0 := h0
  have k1 := h1
  have lt0 : ∀ x ∈ p0, x.block < W.heap.size := by obtain ⟨m, hm⟩ := k0; exact DataW.trod_lt m _ _ _ hm
  have lt1 : ∀ x ∈ p1, x.block < W.heap.size := by obtain ⟨m, hm⟩ := k1; exact DataW.trod_lt m _ _ _ hm
  obtain ⟨a0, rfl, _, _, _⟩ := open_int Tryd.underlying3 o0 h0
  obtain ⟨cs1, n1, rfl, sz1, tr1⟩ := open_cells Tryd.underlying23 (by kernel_rfl) (by kernel_rfl) o1 h1
  have ok1 := okWide_cells Tryd.underlying23 (show Tryd.prog.cellTypes Tryd.prog.depth 23 = some [9, 9] by kernel_rfl) o1
  obtain ⟨c1_0, c1_1, rfl⟩ := array2 sz1
  obtain ⟨y1_0, hy1_0⟩ := tr1 0 _ _ rfl rfl
  obtain ⟨a1_0, e1_0, _, b1_0⟩ := DataW.trod_string Tryd.underlying9 hy1_0
  cases e1_0
  obtain ⟨y1_1, hy1_1⟩ := tr1 1 _ _ rfl rfl
  obtain ⟨a1_1, e1_1, _, b1_1⟩ := DataW.trod_string Tryd.underlying9 hy1_1
  cases e1_1
  obtain ⟨m', hm⟩ := main  b1_0 b1_1 a0
  have hvl : VL ([] : Emb) W [.int .i64 a0, .agg [.str a1_0, .str a1_1]] [.int .i64 a0, .agg #[.string a1_0, .string a1_1]] :=
    ⟨_, _, rfl, rfl, _, _, rfl, ⟨[.string a1_0, .string a1_1], rfl, ⟨_, _, rfl, rfl, _, _, rfl, rfl, rfl⟩, by simp only [List.all_cons, List.all_nil]; rfl⟩, rfl⟩
  refine (law_told (P := Tryd.prog) (Checked.mixed Tryd.checked) tabOk prC_ok (Opened.nil hGW) hvl hm).mono fun e W' ⟨he, bel⟩ => ?_
  subst he
  exact ⟨_, rfl, _, _, _, [], _, [], hW', trodAll_mk1 (shut_bool Tryd.underlying4 _), (trodAll_cons_mk (Below.trod laidOut (by kernel_rfl) (of_decide_eq_true (by kernel_rfl)) k0 bel lt0) (trodAll_cons_mk (Below.trod laidOut (by kernel_rfl) (of_decide_eq_true (by kernel_rfl)) k1 bel lt1) trodAll_mk0)), rfl, bel.frame _, fun h => by cases h⟩

theorem over : Rows.fnExactEncodeRecordRow.holds Tryd.pinned (OpenSpec.ofChange Rows.fnExactEncodeRecordSpec) :=
  OpenClaim.holds_of_wide 3 Tryd.f3 rfl rfl rfl rfl rfl rfl rfl ⟨rfl, rfl, rfl, rfl, rfl⟩ rfl rfl rfl rfl rfl (by kernel_rfl) Tryd.func3 (by kernel_rfl)
    (of_decide_eq_true (by kernel_rfl)) (by unfold Func.isWrapper; first | (rw [if_pos (by decide +kernel)]; kernel_rfl) | (rw [if_neg (by decide +kernel)]; exact ⟨rfl, rfl⟩))
    (fun os started H enc _ => lifted os started H enc)
theorem proved : Rows.FnExactEncodeRecordCardSaid :=
  Claim7.holds_tied_plain_at .later [] [.data, .data, .data] true Rows.fnExactEncodeRecordCard.stood.harness false
    over (fun _ h => by cases h) (by kernel_rfl) (fun _ h => by cases h) fnExactEncodeRecord_row_tie rfl ⟨rfl, rfl⟩ (by kernel_rfl) rfl
    (fun f fn hf hfn => by
      obtain rfl : f = 3 := Option.some.inj ((show Tryd.prog.funcNamed Rows.fnExactEncodeRecordRow.func = some 3 by kernel_rfl).symm.trans hf) |>.symm
      obtain rfl : fn = Tryd.f3 := (Option.some.inj (Tryd.func3.symm.trans hfn)).symm
      exact ⟨by kernel_rfl, fun j t ht => by
        rw [Tryd.params3] at ht
        have hm : t ∈ [3, 23] := by simpa using Array.mem_of_getElem? ht
        have hall : ([3, 23].all fun u => !Tryd.prog.wantsStandIn u) = true := by kernel_rfl
        exact (show Tryd.prog.wantsStandIn t = false by simpa using List.all_eq_true.1 hall t hm)⟩)
    (by kernel_rfl)
#print axioms proved
end Go.Proofs.YtdohjcodjjogbaaDoor.fnExactEncodeRecord
