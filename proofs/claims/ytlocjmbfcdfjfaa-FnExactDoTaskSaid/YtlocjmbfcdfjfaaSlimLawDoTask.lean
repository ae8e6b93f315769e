/- FnExactDoTask returns true for all arguments, without conditions: the law holds as it is stated; the arguments read as they did. -/
import Derived.Test.YtlocjmbfcdfjfaaSlimW2
import Derived.Test.YtlocjmbfcdfjfaaSlimPrims
import Derived.Test.YtlocjmbfcdfjfaaSlimE52
import Derived.Test.YtlocjmbfcdfjfaaRows
import Derived.SizedLaws
import Derived.ChangeOld
import Derived.Handed
import Derived.JoinedOf
namespace Go.Proofs.Ytlocjmbfcdfjfaa.fnExactDoTask
open Go.ChangeShapes Go.WideShapes Go.ChangeAt Go.RowKit Go.Joins Go.Deep Slim
set_option linter.unusedVariables false

theorem main {H : List Blk} {av0_0 : AV} {es0_0 : List (List Int)} (h0_0 : IsArg H av0_0 .i64 2 es0_0) {av0_3 : AV} {es0_3 : List (List Int)} (h0_3 : IsArg H av0_3 .i64 3 es0_3) (x0_1 : Int) (x0_2 : Int) (x0_4 : Int) (x0_5 : Int) (x1_0 : Int) (x1_1 : Int) (x1_2 : Int) (x1_3 : Int) : ∃ m', call T prC 7 [.agg [av0_0, .int .i64 x0_1, .int .i64 x0_2, av0_3, .int .i64 x0_4, .int .i64 x0_5], .agg [.int .i64 x1_0, .int .i64 x1_1, .int .i64 x1_2, .int .i64 x1_3]] ⟨H, none⟩ = some (.bool true, m') := by
  obtain ⟨ls0_0, ha0_0⟩ := argL_of h0_0
  obtain ⟨ls0_3, ha0_3⟩ := argS_of h0_3
  exact law_DoTask prC_has ha0_0 ha0_3  x0_1 x0_2 x0_4 x0_5 x1_0 x1_1 x1_2 x1_3

theorem own : ownKnob Try.prog.godebug = none := by kernel_rfl
theorem laidOut : laidOutB Try.prog = true := by kernel_rfl

set_option maxRecDepth 100000 in
theorem lifted (os : Os) (started : os.Started) (H : Type) (enc : TypeId × Value → H) :
    ReturnsInHanded {} Try.checked os 7 .any (Rows.fnExactDoTaskSpec.pre6 enc Try.prog Try.f7 Rows.fnExactDoTaskRow.domain false) (Rows.fnExactDoTaskSpec.post enc Try.prog Try.f7 false true false false) := by
  refine returnsInHanded_of_change_sized (C := Try.checked) own started (by kernel_rfl) Try.func7
    (ChangeSpec.witness6 (enc := enc) (C := Try.checked) false ⟨#[], #[.agg #[.slice none 0 0, .int .i64 0, .int .i64 0, .slice none 0 0, .int .i64 0, .int .i64 0], .agg #[.int .i64 0, .int .i64 0, .int .i64 0, .int .i64 0]], []⟩ 8 (by kernel_rfl) (by kernel_rfl) (by kernel_rfl) (by kernel_rfl)) ?_
  intro W base args ds gs before hval0 hW hcnd hsz0 _
  have hval : ∀ (j : Nat) t v, Try.f7.params[j]? = some t → args[j]? = some v → Value.okWide Try.prog W .any base t v := hval0
  have hW' := hW
  obtain ⟨p, q, hA0, hV, rfl, hfz, hnd⟩ := hW
  have hA : DataW.TrodAll enc Try.prog W 0 (fun _ => true) true Try.f7.params.toList args.toList ds p := hA0
  rw [Try.params7] at hA hval
  obtain ⟨v0, vs0, d0, ds0, p0, q0, hargs, rfl, rfl, h0, r0⟩ := trodAll_cons hA
  obtain ⟨v1, vs1, d1, ds1, p1, q1, rfl, rfl, rfl, h1, r1⟩ := trodAll_cons r0
  obtain ⟨rfl, rfl, rfl⟩ := trodAll_nil r1
  obtain rfl : args = #[v0, v1] := by cases args; simp_all
  obtain ⟨rfl, rfl⟩ := trodVars_none hV
  have o0 := hval 0 34 v0 rfl rfl
  have o1 := hval 1 50 v1 rfl rfl
  have k0 := h0
  have k1 := h1
  have lt0 : ∀ x ∈ p0, x.block < W.heap.size := by obtain ⟨m, hm⟩ := k0; exact DataW.trod_lt m _ _ _ hm
  have lt1 : ∀ x ∈ p1, x.block < W.heap.size := by obtain ⟨m, hm⟩ := k1; exact DataW.trod_lt m _ _ _ hm
  obtain ⟨cs0, n0, rfl, sz0, tr0⟩ := open_cells Try.underlying34 (by kernel_rfl) (by kernel_rfl) o0 h0
  have ok0 := okWide_cells Try.underlying34 (show Try.prog.cellTypes Try.prog.depth 34 = some [31, 3, 3, 32, 3, 3] by kernel_rfl) o0
  obtain ⟨c0_0, c0_1, c0_2, c0_3, c0_4, c0_5, rfl⟩ := array6 sz0
  obtain ⟨y0_0, hy0_0⟩ := tr0 0 _ _ rfl rfl
  obtain ⟨ι0_0, H0_0, av0_0, es0_0, O0_0, hv0_0, ha0_0⟩ := open_arg (Opened.nil W) (k := .i64) (nf := 2) Try.underlying31 (by kernel_rfl) (by decide)
    (intsAt_struct Try.underlying118 (by kernel_rfl) (by kernel_rfl) (fun j f hj => by
      match j with
      | 0 => cases hj; exact Try.underlying3
      | 1 => cases hj; exact Try.underlying3
      | j + 2 => simp at hj)) (ok0 0 _ _ rfl rfl) hy0_0
  obtain ⟨y0_1, hy0_1⟩ := tr0 1 _ _ rfl rfl
  obtain ⟨a0_1, e0_1, _, _⟩ := DataW.trod_int Try.underlying3 hy0_1
  cases e0_1
  obtain ⟨y0_2, hy0_2⟩ := tr0 2 _ _ rfl rfl
  obtain ⟨a0_2, e0_2, _, _⟩ := DataW.trod_int Try.underlying3 hy0_2
  cases e0_2
  obtain ⟨y0_3, hy0_3⟩ := tr0 3 _ _ rfl rfl
  obtain ⟨ι0_3, H0_3, av0_3, es0_3, O0_3, hv0_3, ha0_3⟩ := open_arg O0_0 (k := .i64) (nf := 3) Try.underlying32 (by kernel_rfl) (by decide)
    (intsAt_struct Try.underlying120 (by kernel_rfl) (by kernel_rfl) (fun j f hj => by
      match j with
      | 0 => cases hj; exact Try.underlying3
      | 1 => cases hj; exact Try.underlying3
      | 2 => cases hj; exact Try.underlying3
      | j + 3 => simp at hj)) (ok0 3 _ _ rfl rfl) hy0_3
  obtain ⟨y0_4, hy0_4⟩ := tr0 4 _ _ rfl rfl
  obtain ⟨a0_4, e0_4, _, _⟩ := DataW.trod_int Try.underlying3 hy0_4
  cases e0_4
  obtain ⟨y0_5, hy0_5⟩ := tr0 5 _ _ rfl rfl
  obtain ⟨a0_5, e0_5, _, _⟩ := DataW.trod_int Try.underlying3 hy0_5
  cases e0_5
  obtain ⟨f1_0, f1_1, f1_2, f1_3, y1_0, y1_1, y1_2, y1_3, n1, rfl, _, _, g1_0, g1_1, g1_2, g1_3⟩ := open_agg4 Try.underlying50 (by kernel_rfl) (by kernel_rfl) o1 h1
  obtain ⟨a1_0, e1_0, _, _⟩ := DataW.trod_int Try.underlying3 g1_0
  obtain ⟨a1_1, e1_1, _, _⟩ := DataW.trod_int Try.underlying3 g1_1
  obtain ⟨a1_2, e1_2, _, _⟩ := DataW.trod_int Try.underlying3 g1_2
  obtain ⟨a1_3, e1_3, _, _⟩ := DataW.trod_int Try.underlying3 g1_3
  cases e1_0; cases e1_1; cases e1_2; cases e1_3
  have hw0_0 := (V.mono (emb_app _ ι0_3) (Shapes.refl W) _ _ hv0_0)
  have hb0_0 := (IsArg.more ha0_0 H0_3)
  have hw0_3 := hv0_3
  have hb0_3 := ha0_3
  obtain ⟨m', hm⟩ := main hb0_0 hb0_3  a0_1 a0_2 a0_4 a0_5 a1_0 a1_1 a1_2 a1_3
  have hvl : VL _ W [.agg [av0_0, .int .i64 a0_1, .int .i64 a0_2, av0_3, .int .i64 a0_4, .int .i64 a0_5], .agg [.int .i64 a1_0, .int .i64 a1_1, .int .i64 a1_2, .int .i64 a1_3]] [.agg #[c0_0, .int .i64 a0_1, .int .i64 a0_2, c0_3, .int .i64 a0_4, .int .i64 a0_5], .agg #[.int .i64 a1_0, .int .i64 a1_1, .int .i64 a1_2, .int .i64 a1_3]] :=
    ⟨_, _, rfl, ⟨[c0_0, .int .i64 a0_1, .int .i64 a0_2, c0_3, .int .i64 a0_4, .int .i64 a0_5], rfl, ⟨_, _, rfl, hw0_0, _, _, rfl, rfl, _, _, rfl, rfl, _, _, rfl, hw0_3, _, _, rfl, rfl, _, _, rfl, rfl, rfl⟩, by simp only [List.all_cons, List.all_nil, IsArg.cell hb0_0, IsArg.cell hb0_3]; rfl⟩, _, _, rfl, ⟨[.int .i64 a1_0, .int .i64 a1_1, .int .i64 a1_2, .int .i64 a1_3], rfl, ⟨_, _, rfl, rfl, _, _, rfl, rfl, _, _, rfl, rfl, _, _, rfl, rfl, rfl⟩, rfl⟩, rfl⟩
  refine (law_told (P := Try.prog) (Checked.mixed Try.checked) tabOk prC_ok O0_3 hvl hm).mono fun e W' ⟨he, bel⟩ => ?_
  subst he
  exact ⟨_, rfl, _, _, _, [], _, [], hW', trodAll_mk1 (shut_bool Try.underlying4 _), (trodAll_cons_mk (Below.trod laidOut (by kernel_rfl) (of_decide_eq_true (by kernel_rfl)) k0 bel lt0) (trodAll_cons_mk (Below.trod laidOut (by kernel_rfl) (of_decide_eq_true (by kernel_rfl)) k1 bel lt1) trodAll_mk0)), rfl, bel.frame _, fun h => by cases h⟩

theorem over : Rows.fnExactDoTaskRow.holds Try.pinned (OpenSpec.ofChange Rows.fnExactDoTaskSpec) :=
  OpenClaim.holds_of_wide 7 Try.f7 rfl rfl rfl rfl rfl rfl rfl ⟨rfl, rfl, rfl, rfl, rfl⟩ rfl rfl rfl rfl rfl (by kernel_rfl) Try.func7 (by kernel_rfl)
    (of_decide_eq_true (by kernel_rfl)) (by unfold Func.isWrapper; first | (rw [if_pos (by decide +kernel)]; kernel_rfl) | (rw [if_neg (by decide +kernel)]; exact ⟨rfl, rfl⟩))
    (fun os started H enc _ => lifted os started H enc)
theorem proved : Rows.FnExactDoTaskSaid := over
#print axioms proved
end Go.Proofs.Ytlocjmbfcdfjfaa.fnExactDoTask
