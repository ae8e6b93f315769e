/- FnExactIsValidRecord returns true for all arguments, without conditions: the law holds as it is stated; the arguments read as they did. -/
import Derived.Test.YtdohjcodjjogbaaSlimW2
import Derived.Test.YtdohjcodjjogbaaSlimPrims
import Derived.Test.YtdohjcodjjogbaaSlimE36
import Derived.Test.YtdohjcodjjogbaaRows
import Derived.SizedLaws
import Derived.ChangeOld
import Derived.Handed
import Derived.JoinedOf
namespace Go.Proofs.Ytdohjcodjjogbaa.fnExactIsValidRecord
open Go.ChangeShapes Go.WideShapes Go.ChangeAt Go.RowKit Go.Joins Go.Deep Slim
set_option linter.unusedVariables false

theorem main {H : List Blk}  {t0_0 : ByteArray} (ht0_0 : t0_0.size ≤ maxLen) {t0_1 : ByteArray} (ht0_1 : t0_1.size ≤ maxLen) : ∃ m', call T prC 3 [.agg [.str t0_0, .str t0_1]] ⟨H, none⟩ = some (.bool true, m') := by
  exact law_IsValidRecord prC_has  ht0_0 ht0_1 

theorem own : ownKnob Try.prog.godebug = none := by kernel_rfl
theorem laidOut : laidOutB Try.prog = true := by kernel_rfl

set_option maxRecDepth 100000 in
theorem lifted (os : Os) (started : os.Started) (H : Type) (enc : TypeId × Value → H) :
    ReturnsInHanded {} Try.checked os 3 .any (Rows.fnExactIsValidRecordSpec.pre6 enc Try.prog Try.f3 Rows.fnExactIsValidRecordRow.domain false) (Rows.fnExactIsValidRecordSpec.post enc Try.prog Try.f3 false true false false) := by
  refine returnsInHanded_of_change_sized (C := Try.checked) own started (by kernel_rfl) Try.func3
    (ChangeSpec.witness6 (enc := enc) (C := Try.checked) false ⟨#[], #[.agg #[.string ⟨#[]⟩, .string ⟨#[]⟩]], []⟩ 8 (by kernel_rfl) (by kernel_rfl) (by kernel_rfl) (by kernel_rfl)) ?_
  intro W base args ds gs before hval0 hW hcnd hsz0 _
  have hval : ∀ (j : Nat) t v, Try.f3.params[j]? = some t → args[j]? = some v → Value.okWide Try.prog W .any base t v := hval0
  have hW' := hW
  obtain ⟨p, q, hA0, hV, rfl, hfz, hnd⟩ := hW
  have hA : DataW.TrodAll enc Try.prog W 0 (fun _ => true) true Try.f3.params.toList args.toList ds p := hA0
  rw [Try.params3] at hA hval
  obtain ⟨v0, vs0, d0, ds0, p0, q0, hargs, rfl, rfl, h0, r0⟩ := trodAll_cons hA
  obtain ⟨rfl, rfl, rfl⟩ := trodAll_nil r0
  obtain rfl : args = #[v0] := by cases args; simp_all
  obtain ⟨rfl, rfl⟩ := trodVars_none hV
  have o0 := hval 0 23 v0 rfl rfl
  have k0 := h0
  have lt0 : ∀ x ∈ p0, x.block < W.heap.size := by obtain ⟨m, hm⟩ := k0; exact DataW.trod_lt m _ _ _ hm
  obtain ⟨cs0, n0, rfl, sz0, tr0⟩ := open_cells Try.underlying23 (by kernel_rfl) (by kernel_rfl) o0 h0
  have ok0 := okWide_cells Try.underlying23 (show Try.prog.cellTypes Try.prog.depth 23 = some [9, 9] by kernel_rfl) o0
  obtain ⟨c0_0, c0_1, rfl⟩ := array2 sz0
  obtain ⟨y0_0, hy0_0⟩ := tr0 0 _ _ rfl rfl
  obtain ⟨a0_0, e0_0, _, b0_0⟩ := DataW.trod_string Try.underlying9 hy0_0
  cases e0_0
  obtain ⟨y0_1, hy0_1⟩ := tr0 1 _ _ rfl rfl
  obtain ⟨a0_1, e0_1, _, b0_1⟩ := DataW.trod_string Try.underlying9 hy0_1
  cases e0_1
  obtain ⟨m', hm⟩ := main  b0_0 b0_1 
  have hvl : VL ([] : Emb) W [.agg [.str a0_0, .str a0_1]] [.agg #[.string a0_0, .string a0_1]] :=
    ⟨_, _, rfl, ⟨[.string a0_0, .string a0_1], rfl, ⟨_, _, rfl, rfl, _, _, rfl, rfl, rfl⟩, by simp only [List.all_cons, List.all_nil]; rfl⟩, rfl⟩
  refine (law_told (P := Try.prog) (Checked.mixed Try.checked) tabOk prC_ok (Opened.nil W) hvl hm).mono fun e W' ⟨he, bel⟩ => ?_
  subst he
  exact ⟨_, rfl, _, _, _, [], _, [], hW', trodAll_mk1 (shut_bool Try.underlying4 _), (trodAll_cons_mk (Below.trod laidOut (by kernel_rfl) (of_decide_eq_true (by kernel_rfl)) k0 bel lt0) trodAll_mk0), rfl, bel.frame _, fun h => by cases h⟩

theorem over : Rows.fnExactIsValidRecordRow.holds Try.pinned (OpenSpec.ofChange Rows.fnExactIsValidRecordSpec) :=
  OpenClaim.holds_of_wide 3 Try.f3 rfl rfl rfl rfl rfl rfl rfl ⟨rfl, rfl, rfl, rfl, rfl⟩ rfl rfl rfl rfl rfl (by kernel_rfl) Try.func3 (by kernel_rfl)
    (of_decide_eq_true (by kernel_rfl)) (by unfold Func.isWrapper; first | (rw [if_pos (by decide +kernel)]; kernel_rfl) | (rw [if_neg (by decide +kernel)]; exact ⟨rfl, rfl⟩))
    (fun os started H enc _ => lifted os started H enc)
theorem proved : Rows.FnExactIsValidRecordSaid := over
#print axioms proved
end Go.Proofs.Ytdohjcodjjogbaa.fnExactIsValidRecord
