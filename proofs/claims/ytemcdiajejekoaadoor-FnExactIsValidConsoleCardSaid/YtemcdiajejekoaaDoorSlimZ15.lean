/- FnExactIsValidConsole returns true for all arguments, without conditions: the law holds as it is stated; the arguments read as they did. -/
import Derived.Test.YtemcdiajejekoaaDoorSlimZ14
import Derived.Test.YtemcdiajejekoaaDoorTie
import Derived.Test.YtemcdiajejekoaaDoorCards
import Derived.LaidMore
import Derived.SevenTiedAt
import Derived.Stop.Joined
import Derived.Test.YtemcdiajejekoaaDoorRows
import Derived.SizedLaws
import Derived.ChangeOld
import Derived.Handed
import Derived.JoinedOf
/- FnExactIsValidConsole returns true for all arguments, without conditions: the law holds as it is stated; the arguments read as they did. -/
namespace Go.Proofs.YtemcdiajejekoaaDoor.fnExactIsValidConsole
open Go.ChangeShapes Go.WideShapes Go.ChangeAt Go.RowKit Go.Joins Go.Deep Slim
set_option linter.unusedVariables false

theorem main {H : List Blk} {av0_0 : AV} {es0_0 : List (List Int)} (h0_0 : IsArg H av0_0 .i64 2 es0_0) {av0_3 : AV} {es0_3 : List (List Int)} (h0_3 : IsArg H av0_3 .i64 3 es0_3) {t0_6 : ByteArray} (ht0_6 : t0_6.size ≤ maxLen) {t0_7 : ByteArray} (ht0_7 : t0_7.size ≤ maxLen)(x0_1 : Int) (x0_2 : Int) (x0_4 : Int) (x0_5 : Int) (x0_8 : Int) : ∃ m', call T prC 3 [.agg [av0_0, .int .i64 x0_1, .int .i64 x0_2, av0_3, .int .i64 x0_4, .int .i64 x0_5, .str t0_6, .str t0_7, .int .i64 x0_8]] ⟨H, none⟩ = some (.bool true, m') := by
  obtain ⟨ls0_0, ha0_0⟩ := argL_of h0_0
  obtain ⟨ls0_3, ha0_3⟩ := argS_of h0_3
  exact law_IsValidConsole prC_ito prC_con prC_idx ha0_0 ha0_3 ht0_6 ht0_7 x0_1 x0_2 x0_4 x0_5 x0_8

theorem own : ownKnob Tryd.prog.godebug = none := by kernel_rfl
theorem laidOut : laidOutB Tryd.prog = true := by kernel_rfl

theorem glob_of_laid {W : World} (h : laidMetH Tryd.prog Rows.fnExactIsValidConsoleRow.laid W) : GlobAt W := by
  rw [MakeChecks.laidMetH_plain _ _ _ (by kernel_rfl)] at h
  have h2 := laidMet.filter (fun x => match x.2 with | .agg l => l.length == 20 | _ => false) h
  have h3 := Lib.tabIs_of_head (k := .u64) (zs := Lib.pow10Tab) (name := (Rows.fnExactIsValidConsoleRow.laid.filter (fun x => match x.2 with | .agg l => l.length == 20 | _ => false)).head!.1) (rest := []) (g := 1) (t := 126) (e := 119) (n := 20) (by kernel_rfl) (by kernel_rfl) (by kernel_rfl) (by kernel_rfl) (by kernel_rfl) (by kernel_rfl) h2
  intro p hp
  obtain rfl : p = _ := List.mem_singleton.mp hp
  unfold Lib.TabIs World.var? at h3
  rw [show Tryd.prog.globalNamed _ = some 1 by kernel_rfl] at h3
  simp only [Option.bind_some] at h3
  split at h3
  · rename_i cs e fz hc
    cases h3
    exact ⟨(Array.getElem?_eq_some_iff.mp hc).1, _, _, _, hc, rfl⟩
  · cases h3

set_option maxRecDepth 100000 in
theorem lifted (os : Os) (started : os.Started) (H : Type) (enc : TypeId × Value → H) :
    ReturnsInHanded {} Tryd.checked os 3 .any (fun w args => (Rows.fnExactIsValidConsoleSpec.pre enc Tryd.prog Tryd.f3 [] false w args ∧ laidMetH Tryd.prog Rows.fnExactIsValidConsoleRow.laid w) ∧ sizedMet enc Tryd.prog Tryd.f3 (OpenSpec.ofChange Rows.fnExactIsValidConsoleSpec) false w args) (Rows.fnExactIsValidConsoleSpec.post enc Tryd.prog Tryd.f3 false true false false) := by
  refine returnsInHanded_of_change_and (C := Tryd.checked) (X := fun w _ => laidMetH Tryd.prog Rows.fnExactIsValidConsoleRow.laid w) (fun _ _ _ hh h => h.of_heap hh) own started (by kernel_rfl) Tryd.func3
    (ChangeSpec.witness_shaped (enc := enc) (C := Tryd.checked) (os := os) (X := fun w _ => laidMetH Tryd.prog Rows.fnExactIsValidConsoleRow.laid w) false (World.doorLaid Tryd.prog 4000 os) #[.agg #[.slice none 0 0, .int .i64 0, .int .i64 0, .slice none 0 0, .int .i64 0, .int .i64 0, .string ⟨#[]⟩, .string ⟨#[]⟩, .int .i64 0]] 8 rfl (World.shaped_of_RefB (by kernel_rfl) (by kernel_rfl)) (by kernel_rfl) (by kernel_rfl) (by kernel_rfl) (laidMetH_of_parts3 (fuel := 8) (laidMet_of_run' 8 (by kernel_rfl) (by kernel_rfl)) (by kernel_rfl) (by kernel_rfl))) ?_
  intro W base args ds gs before hval0 hW _ _ hL _
  have hGW : GlobAt W := glob_of_laid hL
  have hval : ∀ (j : Nat) t v, Tryd.f3.params[j]? = some t → args[j]? = some v → Value.okWide Tryd.prog W .any base t v := hval0
  have hW' := hW
  obtain ⟨p, q, hA0, hV, rfl, hfz, hnd⟩ := hW
  have hA : DataW.TrodAll enc Tryd.prog W 0 (fun _ => true) true Tryd.f3.params.toList args.toList ds p := hA0
  rw [Tryd.params3] at hA hval
  obtain ⟨v0, vs0, d0, ds0, p0, q0, hargs, rfl, rfl, h0, r0⟩ := trodAll_cons hA
  obtain ⟨rfl, rfl, rfl⟩ := trodAll_nil r0
  obtain rfl : args = #[v0] := by cases args; simp_all
  obtain ⟨rfl, rfl⟩ := trodVars_none hV
  have o0 := hval 0 29 v0 rfl rfl
  have k0 := h0
  have lt0 : ∀ x ∈ p0, x.block < W.heap.size := by obtain ⟨m, hm⟩ := k0; exact DataW.trod_lt m _ _ _ hm
  obtain ⟨cs0, n0, rfl, sz0, tr0⟩ := open_fields Tryd.underlying29 o0 h0
  have ok0 := okWide_cells Tryd.underlying29 (show Tryd.prog.cellTypes Tryd.prog.depth 29 = some [22, 3, 3, 23, 3, 3, 9, 9, 3] by kernel_rfl) o0
  have ct0 : Tryd.prog.cellsOf 29 = 9 := by kernel_rfl
  obtain ⟨c0_0, c0_1, c0_2, c0_3, c0_4, c0_5, c0_6, c0_7, c0_8, rfl⟩ := array9 (sz0.trans ct0)
  obtain ⟨ys0_0, hs0_0⟩ := tr0 0 _ rfl
  have cs0_0 : Tryd.prog.cellsOf 25 = 6 := by kernel_rfl
  have hq0_0 : DataW.trod enc Tryd.prog W 0 (fun _ => true) true n0 25 [c0_0, c0_1, c0_2, c0_3, c0_4, c0_5] = some ys0_0 := by simpa [cs0_0] using hs0_0
  obtain ⟨m0_0, ts0_0⟩ := open_sub Tryd.underlying25 hq0_0
  obtain ⟨y0_0, hy0_0⟩ := ts0_0 0 _ rfl
  have cf0_0 : Tryd.prog.cellsOf 22 = 1 := by kernel_rfl
  have hz0_0 : DataW.trod enc Tryd.prog W 0 (fun _ => true) true m0_0 22 [c0_0] = some y0_0 := by simpa [cf0_0] using hy0_0
  obtain ⟨ι0_0, H0_0, av0_0, es0_0, O0_0, hv0_0, ha0_0⟩ := open_arg (Opened.nil hGW) (k := .i64) (nf := 2) Tryd.underlying22 (by kernel_rfl) (by decide)
    (intsAt_struct Tryd.underlying79 (by kernel_rfl) (by kernel_rfl) (fun j f hj => by
      match j with
      | 0 => cases hj; exact Tryd.underlying3
      | 1 => cases hj; exact Tryd.underlying3
      | j + 2 => simp at hj)) (ok0 0 _ _ rfl rfl) hz0_0
  obtain ⟨y0_1, hy0_1⟩ := ts0_0 1 _ rfl
  have cf0_1 : Tryd.prog.cellsOf 3 = 1 := by kernel_rfl
  have hz0_1 : DataW.trod enc Tryd.prog W 0 (fun _ => true) true m0_0 3 [c0_1] = some y0_1 := by simpa [cf0_1] using hy0_1
  obtain ⟨a0_1, e0_1, _, _⟩ := DataW.trod_int Tryd.underlying3 hz0_1
  obtain ⟨y0_2, hy0_2⟩ := ts0_0 2 _ rfl
  have cf0_2 : Tryd.prog.cellsOf 3 = 1 := by kernel_rfl
  have hz0_2 : DataW.trod enc Tryd.prog W 0 (fun _ => true) true m0_0 3 [c0_2] = some y0_2 := by simpa [cf0_2] using hy0_2
  obtain ⟨a0_2, e0_2, _, _⟩ := DataW.trod_int Tryd.underlying3 hz0_2
  obtain ⟨y0_3, hy0_3⟩ := ts0_0 3 _ rfl
  have cf0_3 : Tryd.prog.cellsOf 23 = 1 := by kernel_rfl
  have hz0_3 : DataW.trod enc Tryd.prog W 0 (fun _ => true) true m0_0 23 [c0_3] = some y0_3 := by simpa [cf0_3] using hy0_3
  obtain ⟨ι0_3, H0_3, av0_3, es0_3, O0_3, hv0_3, ha0_3⟩ := open_arg O0_0 (k := .i64) (nf := 3) Tryd.underlying23 (by kernel_rfl) (by decide)
    (intsAt_struct Tryd.underlying81 (by kernel_rfl) (by kernel_rfl) (fun j f hj => by
      match j with
      | 0 => cases hj; exact Tryd.underlying3
      | 1 => cases hj; exact Tryd.underlying3
      | 2 => cases hj; exact Tryd.underlying3
      | j + 3 => simp at hj)) (ok0 3 _ _ rfl rfl) hz0_3
  obtain ⟨y0_4, hy0_4⟩ := ts0_0 4 _ rfl
  have cf0_4 : Tryd.prog.cellsOf 3 = 1 := by kernel_rfl
  have hz0_4 : DataW.trod enc Tryd.prog W 0 (fun _ => true) true m0_0 3 [c0_4] = some y0_4 := by simpa [cf0_4] using hy0_4
  obtain ⟨a0_4, e0_4, _, _⟩ := DataW.trod_int Tryd.underlying3 hz0_4
  obtain ⟨y0_5, hy0_5⟩ := ts0_0 5 _ rfl
  have cf0_5 : Tryd.prog.cellsOf 3 = 1 := by kernel_rfl
  have hz0_5 : DataW.trod enc Tryd.prog W 0 (fun _ => true) true m0_0 3 [c0_5] = some y0_5 := by simpa [cf0_5] using hy0_5
  obtain ⟨a0_5, e0_5, _, _⟩ := DataW.trod_int Tryd.underlying3 hz0_5
  obtain ⟨ys0_1, hs0_1⟩ := tr0 1 _ rfl
  have cs0_1 : Tryd.prog.cellsOf 27 = 3 := by kernel_rfl
  have hq0_1 : DataW.trod enc Tryd.prog W 0 (fun _ => true) true n0 27 [c0_6, c0_7, c0_8] = some ys0_1 := by simpa [cs0_1] using hs0_1
  obtain ⟨m0_1, ts0_1⟩ := open_sub Tryd.underlying27 hq0_1
  obtain ⟨y0_6, hy0_6⟩ := ts0_1 0 _ rfl
  have cf0_6 : Tryd.prog.cellsOf 9 = 1 := by kernel_rfl
  have hz0_6 : DataW.trod enc Tryd.prog W 0 (fun _ => true) true m0_1 9 [c0_6] = some y0_6 := by simpa [cf0_6] using hy0_6
  obtain ⟨a0_6, e0_6, _, b0_6⟩ := DataW.trod_string Tryd.underlying9 hz0_6
  obtain ⟨y0_7, hy0_7⟩ := ts0_1 1 _ rfl
  have cf0_7 : Tryd.prog.cellsOf 9 = 1 := by kernel_rfl
  have hz0_7 : DataW.trod enc Tryd.prog W 0 (fun _ => true) true m0_1 9 [c0_7] = some y0_7 := by simpa [cf0_7] using hy0_7
  obtain ⟨a0_7, e0_7, _, b0_7⟩ := DataW.trod_string Tryd.underlying9 hz0_7
  obtain ⟨y0_8, hy0_8⟩ := ts0_1 2 _ rfl
  have cf0_8 : Tryd.prog.cellsOf 3 = 1 := by kernel_rfl
  have hz0_8 : DataW.trod enc Tryd.prog W 0 (fun _ => true) true m0_1 3 [c0_8] = some y0_8 := by simpa [cf0_8] using hy0_8
  obtain ⟨a0_8, e0_8, _, _⟩ := DataW.trod_int Tryd.underlying3 hz0_8
  cases e0_1
  cases e0_2
  cases e0_4
  cases e0_5
  cases e0_6
  cases e0_7
  cases e0_8
  have hw0_0 := (V.mono (emb_app _ ι0_3) (Shapes.refl W) _ _ hv0_0)
  have hb0_0 := (IsArg.more ha0_0 H0_3)
  have hw0_3 := hv0_3
  have hb0_3 := ha0_3
  obtain ⟨m', hm⟩ := main hb0_0 hb0_3 b0_6 b0_7 a0_1 a0_2 a0_4 a0_5 a0_8 
  have hvl : VL _ W [.agg [av0_0, .int .i64 a0_1, .int .i64 a0_2, av0_3, .int .i64 a0_4, .int .i64 a0_5, .str a0_6, .str a0_7, .int .i64 a0_8]] [.agg #[c0_0, .int .i64 a0_1, .int .i64 a0_2, c0_3, .int .i64 a0_4, .int .i64 a0_5, .string a0_6, .string a0_7, .int .i64 a0_8]] :=
    ⟨_, _, rfl, ⟨[c0_0, .int .i64 a0_1, .int .i64 a0_2, c0_3, .int .i64 a0_4, .int .i64 a0_5, .string a0_6, .string a0_7, .int .i64 a0_8], rfl, ⟨_, _, rfl, hw0_0, _, _, rfl, rfl, _, _, rfl, rfl, _, _, rfl, hw0_3, _, _, rfl, rfl, _, _, rfl, rfl, _, _, rfl, rfl, _, _, rfl, rfl, _, _, rfl, rfl, rfl⟩, by simp only [List.all_cons, List.all_nil, IsArg.cell hb0_0, IsArg.cell hb0_3]; rfl⟩, rfl⟩
  refine (law_told (P := Tryd.prog) (Checked.mixed Tryd.checked) tabOk prC_ok O0_3 hvl hm).mono fun e W' ⟨he, bel⟩ => ?_
  subst he
  exact ⟨_, rfl, _, _, _, [], _, [], hW', trodAll_mk1 (shut_bool Tryd.underlying4 _), (trodAll_cons_mk (Below.trod laidOut (by kernel_rfl) (of_decide_eq_true (by kernel_rfl)) k0 bel lt0) trodAll_mk0), rfl, bel.frame _, fun h => by cases h⟩

theorem over : Rows.fnExactIsValidConsoleRow.holds Tryd.pinned (OpenSpec.ofChange Rows.fnExactIsValidConsoleSpec) :=
  OpenClaim.holds_of_wide 3 Tryd.f3 rfl rfl rfl rfl rfl rfl rfl ⟨rfl, rfl, rfl, rfl, rfl⟩ rfl rfl rfl rfl rfl (by kernel_rfl) Tryd.func3 (by kernel_rfl)
    (of_decide_eq_true (by kernel_rfl)) (by unfold Func.isWrapper; first | (rw [if_pos (by decide +kernel)]; kernel_rfl) | (rw [if_neg (by decide +kernel)]; exact ⟨rfl, rfl⟩))
    (fun os started H enc _ => lifted os started H enc)
theorem proved : Rows.FnExactIsValidConsoleCardSaid :=
  Claim7.holds_tied_plain_at .later [] [.data, .data, .data] true Rows.fnExactIsValidConsoleCard.stood.harness false
    over (fun _ h => by cases h) (by kernel_rfl) (fun _ h => by cases h) fnExactIsValidConsole_row_tie rfl ⟨rfl, rfl⟩ (by kernel_rfl) rfl
    (fun f fn hf hfn => by
      obtain rfl : f = 3 := Option.some.inj ((show Tryd.prog.funcNamed Rows.fnExactIsValidConsoleRow.func = some 3 by kernel_rfl).symm.trans hf) |>.symm
      obtain rfl : fn = Tryd.f3 := (Option.some.inj (Tryd.func3.symm.trans hfn)).symm
      exact ⟨by kernel_rfl, fun j t ht => by
        rw [Tryd.params3] at ht
        have hm : t ∈ [29] := by simpa using Array.mem_of_getElem? ht
        have hall : ([29].all fun u => !Tryd.prog.wantsStandIn u) = true := by kernel_rfl
        exact (show Tryd.prog.wantsStandIn t = false by simpa using List.all_eq_true.1 hall t hm)⟩)
    (by kernel_rfl)
#print axioms proved
end Go.Proofs.YtemcdiajejekoaaDoor.fnExactIsValidConsole
