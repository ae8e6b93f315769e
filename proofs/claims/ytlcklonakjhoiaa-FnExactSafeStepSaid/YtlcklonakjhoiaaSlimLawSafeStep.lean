/- FnExactSafeStep returns true for all arguments, without conditions: the law holds as it is stated; the arguments read as they did. -/
import Derived.Test.YtlcklonakjhoiaaSlimW
import Derived.Test.YtlcklonakjhoiaaSlimOk
import Derived.Test.YtlcklonakjhoiaaSlimE27
import Derived.Test.YtlcklonakjhoiaaRows
import Derived.SizedLaws
import Derived.ChangeOld
import Derived.Handed
import Derived.JoinedOf
namespace Go.Proofs.Ytlcklonakjhoiaa.fnExactSafeStep
open Go.ChangeShapes Go.WideShapes Go.ChangeAt Go.RowKit Go.Joins Go.Deep Slim
set_option linter.unusedVariables false

theorem main {H : List Blk} {av1 : AV} {es1 : List (List Int)} (h1 : IsArg H av1 .i64 2 es1) {av2 : AV} {es2 : List (List Int)} (h2 : IsArg H av2 .i64 1 es2) (x0_0 : Int) (x0_1 : Int) (x0_2 : Int) : ∃ m', call T (fun _ _ _ => none) 7 [.agg [.int .i64 x0_0, .int .i64 x0_1, .int .i64 x0_2], av1, av2] ⟨H, none⟩ = some (.bool true, m') := by
  obtain ⟨ls1, ha1⟩ := argL_of h1
  obtain ⟨ls2, ha2⟩ := argI_of h2
  exact law_SafeStep ha1 ha2 x0_0 x0_1 x0_2

theorem emb_app (a b : Emb) : Emb.le a (a ++ b) := fun i p hb => by
  rw [List.getElem?_append_left]; exact hb
  exact (List.getElem?_eq_some_iff.mp hb).1

theorem own : ownKnob Try.prog.godebug = none := by kernel_rfl
theorem laidOut : laidOutB Try.prog = true := by kernel_rfl

set_option maxRecDepth 100000 in
theorem lifted (os : Os) (started : os.Started) (H : Type) (enc : TypeId × Value → H) :
    ReturnsInHanded {} Try.checked os 7 .any (Rows.fnExactSafeStepSpec.pre6 enc Try.prog Try.f7 Rows.fnExactSafeStepRow.domain false) (Rows.fnExactSafeStepSpec.post enc Try.prog Try.f7 false true false false) := by
  refine returnsInHanded_of_change_sized (C := Try.checked) own started (by kernel_rfl) Try.func7
    (ChangeSpec.witness6 (enc := enc) (C := Try.checked) false ⟨#[], #[.agg #[.int .i64 0, .int .i64 0, .int .i64 0], .slice none 0 0, .slice none 0 0], []⟩ 8 (by kernel_rfl) (by kernel_rfl) (by kernel_rfl) (by kernel_rfl)) ?_
  intro W base args ds gs before hval0 hW hcnd hsz0 _
  have hval : ∀ (j : Nat) t v, Try.f7.params[j]? = some t → args[j]? = some v → Value.okWide Try.prog W .any base t v := hval0
  have hW' := hW
  obtain ⟨p, q, hA0, hV, rfl, hfz, hnd⟩ := hW
  have hA : DataW.TrodAll enc Try.prog W 0 (fun _ => true) true Try.f7.params.toList args.toList ds p := hA0
  rw [Try.params7] at hA hval
  obtain ⟨v0, vs0, d0, ds0, p0, q0, hargs, rfl, rfl, h0, r0⟩ := trodAll_cons hA
  obtain ⟨v1, vs1, d1, ds1, p1, q1, rfl, rfl, rfl, h1, r1⟩ := trodAll_cons r0
  obtain ⟨v2, vs2, d2, ds2, p2, q2, rfl, rfl, rfl, h2, r2⟩ := trodAll_cons r1
  obtain ⟨rfl, rfl, rfl⟩ := trodAll_nil r2
  obtain rfl : args = #[v0, v1, v2] := by cases args; simp_all
  obtain ⟨rfl, rfl⟩ := trodVars_none hV
  have o0 := hval 0 23 v0 rfl rfl
  have o1 := hval 1 24 v1 rfl rfl
  have o2 := hval 2 25 v2 rfl rfl
  have k0 := h0
  have k1 := h1
  have k2 := h2
  have lt0 : ∀ x ∈ p0, x.block < W.heap.size := by obtain ⟨m, hm⟩ := k0; exact DataW.trod_lt m _ _ _ hm
  have lt1 : ∀ x ∈ p1, x.block < W.heap.size := by obtain ⟨m, hm⟩ := k1; exact DataW.trod_lt m _ _ _ hm
  have lt2 : ∀ x ∈ p2, x.block < W.heap.size := by obtain ⟨m, hm⟩ := k2; exact DataW.trod_lt m _ _ _ hm
  obtain ⟨f0_0, f0_1, f0_2, y0_0, y0_1, y0_2, n0, rfl, _, _, g0_0, g0_1, g0_2⟩ := open_agg3 Try.underlying23 (by kernel_rfl) (by kernel_rfl) o0 h0
  obtain ⟨a0_0, e0_0, _, _⟩ := DataW.trod_int Try.underlying3 g0_0
  obtain ⟨a0_1, e0_1, _, _⟩ := DataW.trod_int Try.underlying3 g0_1
  obtain ⟨a0_2, e0_2, _, _⟩ := DataW.trod_int Try.underlying3 g0_2
  cases e0_0; cases e0_1; cases e0_2
  obtain ⟨sa1, sl1, sc1, rfl⟩ := okWide_slice Try.underlying24 o1
  obtain ⟨fu1, hf1⟩ := h1
  obtain ⟨ι1, H1, av1, es1, O1, hv1, ha1⟩ := open_arg (Opened.nil W) (k := .i64) (nf := 2) Try.underlying24 (by kernel_rfl) (by decide)
    (intsAt_struct Try.underlying62 (by kernel_rfl) (by kernel_rfl) (fun j f hj => by
      match j with
      | 0 => cases hj; exact Try.underlying3
      | 1 => cases hj; exact Try.underlying3
      | j + 2 => simp at hj)) (by simpa [Value.okWide, Try.underlying24] using o1) hf1
  obtain ⟨sa2, sl2, sc2, rfl⟩ := okWide_slice Try.underlying25 o2
  obtain ⟨fu2, hf2⟩ := h2
  obtain ⟨ι2, H2, av2, es2, O2, hv2, ha2⟩ := open_arg O1 (k := .i64) (nf := 1) Try.underlying25 (by kernel_rfl) (by decide)
    (intsAt_int Try.underlying3) (by simpa [Value.okWide, Try.underlying25] using o2) hf2
  have hw1 := (V.mono (emb_app _ ι2) (Shapes.refl W) _ _ hv1)
  have hb1 := (IsArg.more ha1 H2)
  have hw2 := hv2
  have hb2 := ha2
  obtain ⟨m', hm⟩ := main hb1 hb2 a0_0 a0_1 a0_2
  have hvl : VL _ W [.agg [.int .i64 a0_0, .int .i64 a0_1, .int .i64 a0_2], av1, av2] [.agg #[.int .i64 a0_0, .int .i64 a0_1, .int .i64 a0_2], .slice sa1 sl1 sc1, .slice sa2 sl2 sc2] :=
    ⟨_, _, rfl, ⟨[.int .i64 a0_0, .int .i64 a0_1, .int .i64 a0_2], rfl, ⟨_, _, rfl, rfl, _, _, rfl, rfl, _, _, rfl, rfl, rfl⟩, rfl⟩, _, _, rfl, hw1, _, _, rfl, hw2, rfl⟩
  refine (law_told (P := Try.prog) (Checked.mixed Try.checked) tabOk (noPrims_ok Try.prog) O2 hvl hm).mono fun e W' ⟨he, bel⟩ => ?_
  subst he
  exact ⟨_, rfl, _, _, _, [], _, [], hW', trodAll_mk1 (shut_bool Try.underlying4 _), (trodAll_cons_mk (Below.trod laidOut (by kernel_rfl) (of_decide_eq_true (by kernel_rfl)) k0 bel lt0) (trodAll_cons_mk (Below.trod laidOut (by kernel_rfl) (of_decide_eq_true (by kernel_rfl)) k1 bel lt1) (trodAll_cons_mk (Below.trod laidOut (by kernel_rfl) (of_decide_eq_true (by kernel_rfl)) k2 bel lt2) trodAll_mk0))), rfl, bel.frame _, fun h => by cases h⟩

theorem over : Rows.fnExactSafeStepRow.holds Try.pinned (OpenSpec.ofChange Rows.fnExactSafeStepSpec) :=
  OpenClaim.holds_of_wide 7 Try.f7 rfl rfl rfl rfl rfl rfl rfl ⟨rfl, rfl, rfl, rfl, rfl⟩ rfl rfl rfl rfl rfl (by kernel_rfl) Try.func7 (by kernel_rfl)
    (of_decide_eq_true (by kernel_rfl)) (by unfold Func.isWrapper; first | (rw [if_pos (by decide +kernel)]; kernel_rfl) | (rw [if_neg (by decide +kernel)]; exact ⟨rfl, rfl⟩))
    (fun os started H enc _ => lifted os started H enc)
theorem proved : Rows.FnExactSafeStepSaid := over
#print axioms proved
end Go.Proofs.Ytlcklonakjhoiaa.fnExactSafeStep
