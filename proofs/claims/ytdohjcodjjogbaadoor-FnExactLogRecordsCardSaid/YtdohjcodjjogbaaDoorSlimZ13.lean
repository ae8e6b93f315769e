/- FnExactLogRecords returns true for all arguments, without conditions: the law holds as it is stated; the arguments read as they did. -/
import Derived.Test.YtdohjcodjjogbaaDoorSlimZ12
import Derived.Test.YtdohjcodjjogbaaDoorTie
import Derived.Test.YtdohjcodjjogbaaDoorCards
import Derived.LaidMore
import Derived.SevenTiedAt
import Derived.Stop.Joined
import Derived.Test.YtdohjcodjjogbaaDoorRows
import Derived.SizedLaws
import Derived.ChangeOld
import Derived.Handed
import Derived.JoinedOf
/- FnExactLogRecords returns true for all arguments, without conditions: the law holds as it is stated; the arguments read as they did. -/
namespace Go.Proofs.YtdohjcodjjogbaaDoor.fnExactLogRecords
open Go.ChangeShapes Go.WideShapes Go.ChangeAt Go.RowKit Go.Joins Go.Deep Slim
set_option linter.unusedVariables false

theorem main {H : List Blk}  {t0_0 : ByteArray} (ht0_0 : t0_0.size ≤ maxLen) {t0_1 : ByteArray} (ht0_1 : t0_1.size ≤ maxLen)(x0_2 : Int) : ∃ m', call T prC 9 [.agg [.str t0_0, .str t0_1, .int .i64 x0_2]] ⟨H, none⟩ = some (.bool true, m') := by
  exact law_LogRecords prC_ito prC_con prC_idx  ht0_0 ht0_1 x0_2

theorem own : ownKnob Tryd.prog.godebug = none := by kernel_rfl
theorem laidOut : laidOutB Tryd.prog = true := by kernel_rfl

theorem glob_of_laid {W : World} (h : laidMetH Tryd.prog Rows.fnExactLogRecordsRow.laid W) : GlobAt W := by
  rw [MakeChecks.laidMetH_plain _ _ _ (by kernel_rfl)] at h
  have h2 := laidMet.filter (fun x => match x.2 with | .agg l => l.length == 20 | _ => false) h
  have h3 := Lib.tabIs_of_head (k := .u64) (zs := Lib.pow10Tab) (name := (Rows.fnExactLogRecordsRow.laid.filter (fun x => match x.2 with | .agg l => l.length == 20 | _ => false)).head!.1) (rest := []) (g := 1) (t := 113) (e := 76) (n := 20) (by kernel_rfl) (by kernel_rfl) (by kernel_rfl) (by kernel_rfl) (by kernel_rfl) (by kernel_rfl) h2
  intro p hp
  obtain rfl : p = _ := List.mem_singleton.mp hp
  unfold Lib.TabIs World.var? at h3
  rw [show Tryd.prog.globalNamed _ = some 1 by kernel_rfl] at h3
  simp only [Option.bind_some] at h3
  split at h3
  · rename_i cs e fz hc
    cases h3
    exact ⟨(Array.getElem?_eq_some_iff.mp hc).1, _, _, _, hc, rfl⟩
  · cases h3

set_option maxRecDepth 100000 in
theorem lifted (os : Os) (started : os.Started) (H : Type) (enc : TypeId × Value → H) :
    ReturnsInHanded {} Tryd.checked os 9 .any (fun w args => (Rows.fnExactLogRecordsSpec.pre enc Tryd.prog Tryd.f9 [] false w args ∧ laidMetH Tryd.prog Rows.fnExactLogRecordsRow.laid w) ∧ sizedMet enc Tryd.prog Tryd.f9 (OpenSpec.ofChange Rows.fnExactLogRecordsSpec) false w args) (Rows.fnExactLogRecordsSpec.post enc Tryd.prog Tryd.f9 false true false false) := by
  refine returnsInHanded_of_change_and (C := Tryd.checked) (X := fun w _ => laidMetH Tryd.prog Rows.fnExactLogRecordsRow.laid w) (fun _ _ _ hh h => h.of_heap hh) own started (by kernel_rfl) Tryd.func9
    (ChangeSpec.witness_shaped (enc := enc) (C := Tryd.checked) (os := os) (X := fun w _ => laidMetH Tryd.prog Rows.fnExactLogRecordsRow.laid w) false (World.doorLaid Tryd.prog 4000 os) #[.agg #[.string ⟨#[]⟩, .string ⟨#[]⟩, .int .i64 0]] 8 rfl (World.shaped_of_RefB (by kernel_rfl) (by kernel_rfl)) (by kernel_rfl) (by kernel_rfl) (by kernel_rfl) (laidMetH_of_parts3 (fuel := 8) (laidMet_of_run' 8 (by kernel_rfl) (by kernel_rfl)) (by kernel_rfl) (by kernel_rfl))) ?_
  intro W base args ds gs before hval0 hW _ _ hL _
  have hGW : GlobAt W := glob_of_laid hL
  have hval : ∀ (j : Nat) t v, Tryd.f9.params[j]? = some t → args[j]? = some v → Value.okWide Tryd.prog W .any base t v := hval0
  have hW' := hW
  obtain ⟨p, q, hA0, hV, rfl, hfz, hnd⟩ := hW
  have hA : DataW.TrodAll enc Tryd.prog W 0 (fun _ => true) true Tryd.f9.params.toList args.toList ds p := hA0
  rw [Tryd.params9] at hA hval
  obtain ⟨v0, vs0, d0, ds0, p0, q0, hargs, rfl, rfl, h0, r0⟩ := trodAll_cons hA
  obtain ⟨rfl, rfl, rfl⟩ := trodAll_nil r0
  obtain rfl : args = #[v0] := by cases args; simp_all
  obtain ⟨rfl, rfl⟩ := trodVars_none hV
  have o0 := hval 0 36 v0 rfl rfl
  have k0 := h0
  have lt0 : ∀ x ∈ p0, x.block < W.heap.size := by obtain ⟨m, hm⟩ := k0; exact DataW.trod_lt m _ _ _ hm
  obtain ⟨cs0, n0, rfl, sz0, tr0⟩ := open_cells Tryd.underlying36 (by kernel_rfl) (by kernel_rfl) o0 h0
  have ok0 := okWide_cells Tryd.underlying36 (show Tryd.prog.cellTypes Tryd.prog.depth 36 = some [9, 9, 3] by kernel_rfl) o0
  obtain ⟨c0_0, c0_1, c0_2, rfl⟩ := array3 sz0
  obtain ⟨y0_0, hy0_0⟩ := tr0 0 _ _ rfl rfl
  obtain ⟨a0_0, e0_0, _, b0_0⟩ := DataW.trod_string Tryd.underlying9 hy0_0
  cases e0_0
  obtain ⟨y0_1, hy0_1⟩ := tr0 1 _ _ rfl rfl
  obtain ⟨a0_1, e0_1, _, b0_1⟩ := DataW.trod_string Tryd.underlying9 hy0_1
  cases e0_1
  obtain ⟨y0_2, hy0_2⟩ := tr0 2 _ _ rfl rfl
  obtain ⟨a0_2, e0_2, _, _⟩ := DataW.trod_int Tryd.underlying3 hy0_2
  cases e0_2
  obtain ⟨m', hm⟩ := main  b0_0 b0_1 a0_2 
  have hvl : VL ([] : Emb) W [.agg [.str a0_0, .str a0_1, .int .i64 a0_2]] [.agg #[.string a0_0, .string a0_1, .int .i64 a0_2]] :=
    ⟨_, _, rfl, ⟨[.string a0_0, .string a0_1, .int .i64 a0_2], rfl, ⟨_, _, rfl, rfl, _, _, rfl, rfl, _, _, rfl, rfl, rfl⟩, by simp only [List.all_cons, List.all_nil]; rfl⟩, rfl⟩
  refine (law_told (P := Tryd.prog) (Checked.mixed Tryd.checked) tabOk prC_ok (Opened.nil hGW) hvl hm).mono fun e W' ⟨he, bel⟩ => ?_
  subst he
  exact ⟨_, rfl, _, _, _, [], _, [], hW', trodAll_mk1 (shut_bool Tryd.underlying4 _), (trodAll_cons_mk (Below.trod laidOut (by kernel_rfl) (of_decide_eq_true (by kernel_rfl)) k0 bel lt0) trodAll_mk0), rfl, bel.frame _, fun h => by cases h⟩

theorem over : Rows.fnExactLogRecordsRow.holds Tryd.pinned (OpenSpec.ofChange Rows.fnExactLogRecordsSpec) :=
  OpenClaim.holds_of_wide 9 Tryd.f9 rfl rfl rfl rfl rfl rfl rfl ⟨rfl, rfl, rfl, rfl, rfl⟩ rfl rfl rfl rfl rfl (by kernel_rfl) Tryd.func9 (by kernel_rfl)
    (of_decide_eq_true (by kernel_rfl)) (by unfold Func.isWrapper; first | (rw [if_pos (by decide +kernel)]; kernel_rfl) | (rw [if_neg (by decide +kernel)]; exact ⟨rfl, rfl⟩))
    (fun os started H enc _ => lifted os started H enc)
theorem proved : Rows.FnExactLogRecordsCardSaid :=
  Claim7.holds_tied_plain_at .later [] [.data, .data, .data] true Rows.fnExactLogRecordsCard.stood.harness false
    over (fun _ h => by cases h) (by kernel_rfl) (fun _ h => by cases h) fnExactLogRecords_row_tie rfl ⟨rfl, rfl⟩ (by kernel_rfl) rfl
    (fun f fn hf hfn => by
      obtain rfl : f = 9 := Option.some.inj ((show Tryd.prog.funcNamed Rows.fnExactLogRecordsRow.func = some 9 by kernel_rfl).symm.trans hf) |>.symm
      obtain rfl : fn = Tryd.f9 := (Option.some.inj (Tryd.func9.symm.trans hfn)).symm
      exact ⟨by kernel_rfl, fun j t ht => by
        rw [Tryd.params9] at ht
        have hm : t ∈ [36] := by simpa using Array.mem_of_getElem? ht
        have hall : ([36].all fun u => !Tryd.prog.wantsStandIn u) = true := by kernel_rfl
        exact (show Tryd.prog.wantsStandIn t = false by simpa using List.all_eq_true.1 hall t hm)⟩)
    (by kernel_rfl)
#print axioms proved
end Go.Proofs.YtdohjcodjjogbaaDoor.fnExactLogRecords
