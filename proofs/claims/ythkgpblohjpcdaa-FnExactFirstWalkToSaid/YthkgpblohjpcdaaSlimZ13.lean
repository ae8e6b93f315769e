/- FnExactFirstWalkTo returns true for all arguments, without conditions: the law holds as it is stated; the arguments read as they did. -/
import Derived.Test.YthkgpblohjpcdaaSlimZ12
import Derived.Test.YthkgpblohjpcdaaRows
import Derived.SizedLaws
import Derived.ChangeOld
import Derived.Handed
import Derived.JoinedOf
/- FnExactFirstWalkTo returns true for all arguments, without conditions: the law holds as it is stated; the arguments read as they did. -/
namespace Go.Proofs.Ythkgpblohjpcdaa.fnExactFirstWalkTo
open Go.ChangeShapes Go.WideShapes Go.ChangeAt Go.RowKit Go.Joins Go.Deep Slim
set_option linter.unusedVariables false

theorem main {H : List Blk} {av0_3 : AV} {es0_3 : List (List Int)} (h0_3 : IsArg H av0_3 .i64 2 es0_3) {av1 : AV} {es1 : List (List Int)} (h1 : IsArg H av1 .i64 1 es1) (x0_0 : Int) (x0_1 : Int) (x0_2 : Int) (x0_4 : Int) : ∃ m', call T (fun _ _ _ => none) 13 [.agg [.int .i64 x0_0, .int .i64 x0_1, .int .i64 x0_2, av0_3, .int .i64 x0_4], av1] ⟨H, none⟩ = some (.bool true, m') := by
  obtain ⟨ls0_3, ha0_3⟩ := argL_of h0_3
  obtain ⟨ls1, ha1⟩ := argI_of h1
  exact law_FirstWalkTo  ha0_3 ha1  x0_0 x0_1 x0_2 x0_4

theorem own : ownKnob Try.prog.godebug = none := by kernel_rfl
theorem laidOut : laidOutB Try.prog = true := by kernel_rfl

set_option maxRecDepth 100000 in
theorem lifted (os : Os) (started : os.Started) (H : Type) (enc : TypeId × Value → H) :
    ReturnsInHanded {} Try.checked os 13 .any (Rows.fnExactFirstWalkToSpec.pre6 enc Try.prog Try.f13 Rows.fnExactFirstWalkToRow.domain false) (Rows.fnExactFirstWalkToSpec.post enc Try.prog Try.f13 false true false false) := by
  refine returnsInHanded_of_change_sized (C := Try.checked) own started (by kernel_rfl) Try.func13
    (ChangeSpec.witness6 (enc := enc) (C := Try.checked) false ⟨#[], #[.agg #[.int .i64 0, .int .i64 0, .int .i64 0, .slice none 0 0, .int .i64 0], .slice none 0 0], []⟩ 8 (by kernel_rfl) (by kernel_rfl) (by kernel_rfl) (by kernel_rfl)) ?_
  intro W base args ds gs before hval0 hW hcnd hsz0 _
  have hval : ∀ (j : Nat) t v, Try.f13.params[j]? = some t → args[j]? = some v → Value.okWide Try.prog W .any base t v := hval0
  have hW' := hW
  obtain ⟨p, q, hA0, hV, rfl, hfz, hnd⟩ := hW
  have hA : DataW.TrodAll enc Try.prog W 0 (fun _ => true) true Try.f13.params.toList args.toList ds p := hA0
  rw [Try.params13] at hA hval
  obtain ⟨v0, vs0, d0, ds0, p0, q0, hargs, rfl, rfl, h0, r0⟩ := trodAll_cons hA
  obtain ⟨v1, vs1, d1, ds1, p1, q1, rfl, rfl, rfl, h1, r1⟩ := trodAll_cons r0
  obtain ⟨rfl, rfl, rfl⟩ := trodAll_nil r1
  obtain rfl : args = #[v0, v1] := by cases args; simp_all
  obtain ⟨rfl, rfl⟩ := trodVars_none hV
  have o0 := hval 0 26 v0 rfl rfl
  have o1 := hval 1 58 v1 rfl rfl
  have k0 := h0
  have k1 := h1
  have lt0 : ∀ x ∈ p0, x.block < W.heap.size := by obtain ⟨m, hm⟩ := k0; exact DataW.trod_lt m _ _ _ hm
  have lt1 : ∀ x ∈ p1, x.block < W.heap.size := by obtain ⟨m, hm⟩ := k1; exact DataW.trod_lt m _ _ _ hm
  obtain ⟨cs0, n0, rfl, sz0, tr0⟩ := open_fields Try.underlying26 o0 h0
  have ok0 := okWide_cells Try.underlying26 (show Try.prog.cellTypes Try.prog.depth 26 = some [3, 3, 3, 24, 3] by kernel_rfl) o0
  have ct0 : Try.prog.cellsOf 26 = 5 := by kernel_rfl
  obtain ⟨c0_0, c0_1, c0_2, c0_3, c0_4, rfl⟩ := array5 (sz0.trans ct0)
  obtain ⟨y0_0, hy0_0⟩ := tr0 0 _ rfl
  have cf0_0 : Try.prog.cellsOf 23 = 3 := by kernel_rfl
  have hz0_0 : DataW.trod enc Try.prog W 0 (fun _ => true) true n0 23 [c0_0, c0_1, c0_2] = some y0_0 := by simpa [cf0_0] using hy0_0
  obtain ⟨zs0_0, ez0_0, _⟩ := (intsAt_struct Try.underlying23 (by kernel_rfl) (by kernel_rfl) (fun j f hj => by
      match j with
      | 0 => cases hj; exact Try.underlying3
      | 1 => cases hj; exact Try.underlying3
      | 2 => cases hj; exact Try.underlying3
      | j + 3 => simp at hj)) _ _ _ hz0_0
  obtain ⟨a0_0, a0_1, a0_2, ec0_0, ec0_1, ec0_2⟩ := ints3 (k := .i64) ez0_0
  obtain ⟨y0_3, hy0_3⟩ := tr0 1 _ rfl
  have cf0_3 : Try.prog.cellsOf 24 = 1 := by kernel_rfl
  have hz0_3 : DataW.trod enc Try.prog W 0 (fun _ => true) true n0 24 [c0_3] = some y0_3 := by simpa [cf0_3] using hy0_3
  obtain ⟨ι0_3, H0_3, av0_3, es0_3, O0_3, hv0_3, ha0_3⟩ := open_arg (Opened.nil (GlobAt.no W rfl)) (k := .i64) (nf := 2) Try.underlying24 (by kernel_rfl) (by decide)
    (intsAt_struct Try.underlying116 (by kernel_rfl) (by kernel_rfl) (fun j f hj => by
      match j with
      | 0 => cases hj; exact Try.underlying3
      | 1 => cases hj; exact Try.underlying3
      | j + 2 => simp at hj)) (ok0 3 _ _ rfl rfl) hz0_3
  obtain ⟨y0_4, hy0_4⟩ := tr0 2 _ rfl
  have cf0_4 : Try.prog.cellsOf 3 = 1 := by kernel_rfl
  have hz0_4 : DataW.trod enc Try.prog W 0 (fun _ => true) true n0 3 [c0_4] = some y0_4 := by simpa [cf0_4] using hy0_4
  obtain ⟨a0_4, e0_4, _, _⟩ := DataW.trod_int Try.underlying3 hz0_4
  cases ec0_0
  cases ec0_1
  cases ec0_2
  cases e0_4
  obtain ⟨sa1, sl1, sc1, rfl⟩ := okWide_slice Try.underlying58 o1
  obtain ⟨fu1, hf1⟩ := h1
  obtain ⟨ι1, H1, av1, es1, O1, hv1, ha1⟩ := open_arg O0_3 (k := .i64) (nf := 1) Try.underlying58 (by kernel_rfl) (by decide)
    (intsAt_int Try.underlying3) (by simpa [Value.okWide, Try.underlying58] using o1) hf1
  have hw0_3 := (V.mono (emb_app _ ι1) (Shapes.refl W) _ _ hv0_3)
  have hb0_3 := (IsArg.more ha0_3 H1)
  have hw1 := hv1
  have hb1 := ha1
  obtain ⟨m', hm⟩ := main hb0_3 hb1  a0_0 a0_1 a0_2 a0_4 
  have hvl : VL _ W [.agg [.int .i64 a0_0, .int .i64 a0_1, .int .i64 a0_2, av0_3, .int .i64 a0_4], av1] [.agg #[.int .i64 a0_0, .int .i64 a0_1, .int .i64 a0_2, c0_3, .int .i64 a0_4], .slice sa1 sl1 sc1] :=
    ⟨_, _, rfl, ⟨[.int .i64 a0_0, .int .i64 a0_1, .int .i64 a0_2, c0_3, .int .i64 a0_4], rfl, ⟨_, _, rfl, rfl, _, _, rfl, rfl, _, _, rfl, rfl, _, _, rfl, hw0_3, _, _, rfl, rfl, rfl⟩, by simp only [List.all_cons, List.all_nil, IsArg.cell hb0_3]; rfl⟩, _, _, rfl, hw1, rfl⟩
  refine (law_told (P := Try.prog) (Checked.mixed Try.checked) tabOk (noPrims_ok Try.prog) O1 hvl hm).mono fun e W' ⟨he, bel⟩ => ?_
  subst he
  exact ⟨_, rfl, _, _, _, [], _, [], hW', trodAll_mk1 (shut_bool Try.underlying4 _), (trodAll_cons_mk (Below.trod laidOut (by kernel_rfl) (of_decide_eq_true (by kernel_rfl)) k0 bel lt0) (trodAll_cons_mk (Below.trod laidOut (by kernel_rfl) (of_decide_eq_true (by kernel_rfl)) k1 bel lt1) trodAll_mk0)), rfl, bel.frame _, fun h => by cases h⟩

theorem over : Rows.fnExactFirstWalkToRow.holds Try.pinned (OpenSpec.ofChange Rows.fnExactFirstWalkToSpec) :=
  OpenClaim.holds_of_wide 13 Try.f13 rfl rfl rfl rfl rfl rfl rfl ⟨rfl, rfl, rfl, rfl, rfl⟩ rfl rfl rfl rfl rfl (by kernel_rfl) Try.func13 (by kernel_rfl)
    (of_decide_eq_true (by kernel_rfl)) (by unfold Func.isWrapper; first | (rw [if_pos (by decide +kernel)]; kernel_rfl) | (rw [if_neg (by decide +kernel)]; exact ⟨rfl, rfl⟩))
    (fun os started H enc _ => lifted os started H enc)
theorem proved : Rows.FnExactFirstWalkToSaid := over
#print axioms proved
end Go.Proofs.Ythkgpblohjpcdaa.fnExactFirstWalkTo
