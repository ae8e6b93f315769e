/- FnExactCanCross returns true for all arguments, without conditions: the program's CanCross returns what the reference's returns; the arguments read as they did. -/
import Derived.Test.YtaikmfldjkbmmaaSlimW
import Derived.Test.YtaikmfldjkbmmaaSlimOk
import Derived.Test.YtaikmfldjkbmmaaSlimE10
import Derived.Test.YtaikmfldjkbmmaaRows
import Derived.SizedLaws
import Derived.ChangeOld
import Derived.Handed
import Derived.JoinedOf
namespace Go.Proofs.Ytaikmfldjkbmmaa.fnExactCanCross
open Go.ChangeShapes Go.WideShapes Go.ChangeAt Go.RowKit Go.Joins Go.Deep Slim
set_option linter.unusedVariables false

theorem main {H : List Blk} {av : AV} {es : List (List Int)} {x a b : Int} (h : IsArg H av .i64 2 es) : ∃ m', call T (fun _ _ _ => none) 4 [.agg [.int .i64 x, .int .i64 a, .int .i64 b], av] ⟨H, none⟩ = some (.bool true, m') := by
  obtain ⟨ls, ha⟩ := argL_of h
  exact law_CanCross ha x a b

theorem own : ownKnob Try.prog.godebug = none := by kernel_rfl
theorem laidOut : laidOutB Try.prog = true := by kernel_rfl

set_option maxRecDepth 100000 in
theorem lifted (os : Os) (started : os.Started) (H : Type) (enc : TypeId × Value → H) :
    ReturnsInHanded {} Try.checked os 4 .any (Rows.fnExactCanCrossSpec.pre6 enc Try.prog Try.f4 Rows.fnExactCanCrossRow.domain false) (Rows.fnExactCanCrossSpec.post enc Try.prog Try.f4 false true false false) := by
  refine returnsInHanded_of_change_sized (C := Try.checked) own started (by kernel_rfl) Try.func4
    (ChangeSpec.witness6 (enc := enc) (C := Try.checked) false ⟨#[], #[.agg #[.int .i64 0, .int .i64 0, .int .i64 0], .slice none 0 0], []⟩ 8 (by kernel_rfl) (by kernel_rfl) (by kernel_rfl) (by kernel_rfl)) ?_
  intro W base args ds gs before hval0 hW hcnd hsz0 _
  have hval : ∀ (j : Nat) t v, Try.f4.params[j]? = some t → args[j]? = some v → Value.okWide Try.prog W .any base t v := hval0
  have hW' := hW
  obtain ⟨p, q, hA0, hV, rfl, hfz, hnd⟩ := hW
  have hA : DataW.TrodAll enc Try.prog W 0 (fun _ => true) true Try.f4.params.toList args.toList ds p := hA0
  rw [Try.params4] at hA hval
  obtain ⟨v0, vs0, d0, ds0, p0, q0, hargs, rfl, rfl, h0, r0⟩ := trodAll_cons hA
  obtain ⟨v1, vs1, d1, ds1, p1, q1, rfl, rfl, rfl, h1, r1⟩ := trodAll_cons r0
  obtain ⟨rfl, rfl, rfl⟩ := trodAll_nil r1
  obtain rfl : args = #[v0, v1] := by cases args; simp_all
  obtain ⟨rfl, rfl⟩ := trodVars_none hV
  have o0 := hval 0 23 v0 rfl rfl
  have o1 := hval 1 24 v1 rfl rfl
  have k0 := h0
  have k1 := h1
  have lt0 : ∀ x ∈ p0, x.block < W.heap.size := by obtain ⟨m, hm⟩ := k0; exact DataW.trod_lt m _ _ _ hm
  have lt1 : ∀ x ∈ p1, x.block < W.heap.size := by obtain ⟨m, hm⟩ := k1; exact DataW.trod_lt m _ _ _ hm
  obtain ⟨f0, f1, f2, y0, y1, y2, n, rfl, _, _, g0, g1, g2⟩ := open_agg3 Try.underlying23 (by kernel_rfl) (by kernel_rfl) o0 h0
  obtain ⟨a0, e0, _, _⟩ := DataW.trod_int Try.underlying3 g0
  obtain ⟨a1, e1, _, _⟩ := DataW.trod_int Try.underlying3 g1
  obtain ⟨a2, e2, _, _⟩ := DataW.trod_int Try.underlying3 g2
  cases e0; cases e1; cases e2
  obtain ⟨sa, sl, sc, rfl⟩ := okWide_slice Try.underlying24 o1
  obtain ⟨fuel, hf⟩ := h1
  obtain ⟨ι, H', av, es, O, hv, ha⟩ := open_arg (Opened.nil W) (k := .i64) (nf := 2) Try.underlying24 (by kernel_rfl) (by decide)
    (intsAt_struct Try.underlying65 (by kernel_rfl) (by kernel_rfl) (fun j f hj => by
      match j with
      | 0 => cases hj; exact Try.underlying3
      | 1 => cases hj; exact Try.underlying3
      | j + 2 => simp at hj)) (by simpa [Value.okWide, Try.underlying24] using o1) hf
  obtain ⟨m', hm⟩ := main (x := a0) (a := a1) (b := a2) ha
  have hvl : VL ι W [.agg [.int .i64 a0, .int .i64 a1, .int .i64 a2], av] [.agg #[.int .i64 a0, .int .i64 a1, .int .i64 a2], .slice sa sl sc] :=
    ⟨_, _, rfl, ⟨[.int .i64 a0, .int .i64 a1, .int .i64 a2], rfl, ⟨_, _, rfl, rfl, _, _, rfl, rfl, _, _, rfl, rfl, rfl⟩, rfl⟩, _, _, rfl, hv, rfl⟩
  refine (law_told (P := Try.prog) (Checked.mixed Try.checked) tabOk (noPrims_ok Try.prog) O hvl hm).mono fun e W' ⟨he, bel⟩ => ?_
  subst he
  exact ⟨_, rfl, _, _, _, [], _, [], hW', trodAll_mk1 (shut_bool Try.underlying4 _), (trodAll_cons_mk (Below.trod laidOut (by kernel_rfl) (of_decide_eq_true (by kernel_rfl)) k0 bel lt0) (trodAll_cons_mk (Below.trod laidOut (by kernel_rfl) (of_decide_eq_true (by kernel_rfl)) k1 bel lt1) trodAll_mk0)), rfl, bel.frame _, fun h => by cases h⟩

theorem over : Rows.fnExactCanCrossRow.holds Try.pinned (OpenSpec.ofChange Rows.fnExactCanCrossSpec) :=
  OpenClaim.holds_of_wide 4 Try.f4 rfl rfl rfl rfl rfl rfl rfl ⟨rfl, rfl, rfl, rfl, rfl⟩ rfl rfl rfl rfl rfl (by kernel_rfl) Try.func4 (by kernel_rfl)
    (of_decide_eq_true (by kernel_rfl)) (by unfold Func.isWrapper; first | (rw [if_pos (by decide +kernel)]; kernel_rfl) | (rw [if_neg (by decide +kernel)]; exact ⟨rfl, rfl⟩))
    (fun os started H enc _ => lifted os started H enc)
theorem proved : Rows.FnExactCanCrossSaid := over
#print axioms proved
end Go.Proofs.Ytaikmfldjkbmmaa.fnExactCanCross
