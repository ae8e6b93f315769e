/- The contracts that the evaluator takes: strings.Contains at one byte. -/
import Derived.Test.YtdohjcodjjogbaaSlimShelf
import Derived.Test.YtdohjcodjjogbaaSlimOk
import Derived.Test.YtdohjcodjjogbaaSlimE36
namespace Go.Proofs.Ytdohjcodjjogbaa.Slim
open Go
set_option linter.unusedVariables false

def prC : Prims := fun f args m => if f = f_strings_Contains then (match args with
  | [.str s, .str t] => (match t.data.toList with
    | [c] => some (.bool (decide (0 ≤ Lib.indexByte s.data.toList c)), m)
    | _ => none)
  | _ => none) else none

theorem prC_told {f : FuncId} {args : List AV} {m : Mem} {v : AV} {m' : Mem} (h : prC f args m = some (v, m')) :
    f = f_strings_Contains ∧ m' = m ∧ ∃ (s : ByteArray) (c : UInt8), args = [.str s, .str ⟨#[c]⟩] ∧ v = .bool (decide (0 ≤ Lib.indexByte s.data.toList c)) := by
  unfold prC at h
  split at h
  · rename_i hf
    split at h
    · rename_i s t
      split at h
      · rename_i c hc
        cases h
        refine ⟨hf, rfl, s, c, ?_, rfl⟩
        cases t with
        | mk d =>
          cases d
          simp at hc
          subst hc
          rfl
      · cases h
    · cases h
  · cases h

theorem contains_fn : ∃ fn, Try.prog.funcs[f_strings_Contains]? = some fn ∧ fn.body.isSome = true ∧ fn.name ≠ "runtime.NumGoroutine" := by
  have h : ((Try.prog.funcs[f_strings_Contains]?).map fun fn => fn.body.isSome && decide (fn.name ≠ "runtime.NumGoroutine")) = some true := by kernel_rfl
  obtain ⟨fn, h1, h2⟩ := Option.map_eq_some_iff.mp h
  simp only [Bool.and_eq_true, decide_eq_true_eq] at h2
  exact ⟨fn, h1, h2.1, h2.2⟩

theorem prC_ok : PrimsOk Try.prog prC := by
  refine ⟨fun f args m v m' ι w vs h hr hv => ?_, fun f args m v m' h => ?_⟩
  · obtain ⟨rfl, rfl, s, c, rfl, rfl⟩ := prC_told h
    obtain ⟨v1, vs1, rfl, rfl, v2, vs2, rfl, rfl, rfl⟩ := hv
    refine ⟨contains_fn, (sh_strings_Contains_one s c w).mono ?_⟩
    · rintro e w' ⟨rfl, rfl⟩
      exact ⟨ι, _, rfl, rfl, hr, Ext.refl _ _ _⟩
  · obtain ⟨rfl, rfl, _⟩ := prC_told h
    exact Grow.refl _

theorem prC_has : HasContains prC := fun s c m => by
  rw [call_prim rfl]
  rfl

end Go.Proofs.Ytdohjcodjjogbaa.Slim
