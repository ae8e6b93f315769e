/- FnParties returns true for all arguments, without conditions: the law holds as it is stated; the arguments read as they did. -/
import Derived.Test.YthkgpblohjpcdaaSlimZ13
import Derived.Test.YthkgpblohjpcdaaRows
import Derived.SizedLaws
import Derived.ChangeOld
import Derived.Handed
import Derived.JoinedOf
/- FnParties returns true for all arguments, without conditions: the law holds as it is stated; the arguments read as they did. -/
namespace Go.Proofs.Ythkgpblohjpcdaa.fnParties
open Go.ChangeShapes Go.WideShapes Go.ChangeAt Go.RowKit Go.Joins Go.Deep Slim
set_option linter.unusedVariables false

theorem main {H : List Blk} {av0 : AV} {es0 : List (List Int)} (h0 : IsArg H av0 .u8 1 es0)  : ∃ m', call T (fun _ _ _ => none) 15 [av0] ⟨H, none⟩ = some (.bool true, m') := by
  obtain ⟨ls0, ha0⟩ := argB_of h0
  exact law_Parties  ha0  

theorem own : ownKnob Try.prog.godebug = none := by kernel_rfl
theorem laidOut : laidOutB Try.prog = true := by kernel_rfl

set_option maxRecDepth 100000 in
theorem lifted (os : Os) (started : os.Started) (H : Type) (enc : TypeId × Value → H) :
    ReturnsInHanded {} Try.checked os 15 .any (Rows.fnPartiesSpec.pre6 enc Try.prog Try.f15 Rows.fnPartiesRow.domain false) (Rows.fnPartiesSpec.post enc Try.prog Try.f15 false true false false) := by
  refine returnsInHanded_of_change_sized (C := Try.checked) own started (by kernel_rfl) Try.func15
    (ChangeSpec.witness6 (enc := enc) (C := Try.checked) false ⟨#[], #[.slice none 0 0], []⟩ 8 (by kernel_rfl) (by kernel_rfl) (by kernel_rfl) (by kernel_rfl)) ?_
  intro W base args ds gs before hval0 hW hcnd hsz0 _
  have hval : ∀ (j : Nat) t v, Try.f15.params[j]? = some t → args[j]? = some v → Value.okWide Try.prog W .any base t v := hval0
  have hW' := hW
  obtain ⟨p, q, hA0, hV, rfl, hfz, hnd⟩ := hW
  have hA : DataW.TrodAll enc Try.prog W 0 (fun _ => true) true Try.f15.params.toList args.toList ds p := hA0
  rw [Try.params15] at hA hval
  obtain ⟨v0, vs0, d0, ds0, p0, q0, hargs, rfl, rfl, h0, r0⟩ := trodAll_cons hA
  obtain ⟨rfl, rfl, rfl⟩ := trodAll_nil r0
  obtain rfl : args = #[v0] := by cases args; simp_all
  obtain ⟨rfl, rfl⟩ := trodVars_none hV
  have o0 := hval 0 65 v0 rfl rfl
  have k0 := h0
  have lt0 : ∀ x ∈ p0, x.block < W.heap.size := by obtain ⟨m, hm⟩ := k0; exact DataW.trod_lt m _ _ _ hm
  obtain ⟨sa0, sl0, sc0, rfl⟩ := okWide_slice Try.underlying65 o0
  obtain ⟨fu0, hf0⟩ := h0
  obtain ⟨ι0, H0, av0, es0, O0, hv0, ha0⟩ := open_arg (Opened.nil (GlobAt.no W rfl)) (k := .u8) (nf := 1) Try.underlying65 (by kernel_rfl) (by decide)
    (intsAt_int Try.underlying5) (by simpa [Value.okWide, Try.underlying65] using o0) hf0
  have hw0 := hv0
  have hb0 := ha0
  obtain ⟨m', hm⟩ := main hb0   
  have hvl : VL _ W [av0] [.slice sa0 sl0 sc0] :=
    ⟨_, _, rfl, hw0, rfl⟩
  refine (law_told (P := Try.prog) (Checked.mixed Try.checked) tabOk (noPrims_ok Try.prog) O0 hvl hm).mono fun e W' ⟨he, bel⟩ => ?_
  subst he
  exact ⟨_, rfl, _, _, _, [], _, [], hW', trodAll_mk1 (shut_bool Try.underlying4 _), (trodAll_cons_mk (Below.trod laidOut (by kernel_rfl) (of_decide_eq_true (by kernel_rfl)) k0 bel lt0) trodAll_mk0), rfl, bel.frame _, fun h => by cases h⟩

theorem over : Rows.fnPartiesRow.holds Try.pinned (OpenSpec.ofChange Rows.fnPartiesSpec) :=
  OpenClaim.holds_of_wide 15 Try.f15 rfl rfl rfl rfl rfl rfl rfl ⟨rfl, rfl, rfl, rfl, rfl⟩ rfl rfl rfl rfl rfl (by kernel_rfl) Try.func15 (by kernel_rfl)
    (of_decide_eq_true (by kernel_rfl)) (by unfold Func.isWrapper; first | (rw [if_pos (by decide +kernel)]; kernel_rfl) | (rw [if_neg (by decide +kernel)]; exact ⟨rfl, rfl⟩))
    (fun os started H enc _ => lifted os started H enc)
theorem proved : Rows.FnPartiesSaid := over
#print axioms proved
end Go.Proofs.Ythkgpblohjpcdaa.fnParties
