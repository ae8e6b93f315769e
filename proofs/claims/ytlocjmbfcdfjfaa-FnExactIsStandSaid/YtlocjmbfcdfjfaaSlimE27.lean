/- Rafts: the law of the next safe steps. -/
import Derived.Test.YtlocjmbfcdfjfaaSlimE26
namespace Go.Proofs.Ytlocjmbfcdfjfaa.Slim

open Go

set_option linter.unusedSimpArgs false

set_option linter.unusedVariables false

variable {pr : Prims} {H : List Blk} {e : Option Nat}

theorem code_lt {ls : List Ld} {os : List Int} (hn8 : ls.length ≤ 8) (h : rises ls.length (-1) os = true) : codeN 0 os < 2 ^ ls.length ∧ bitsF 0 os = ((codeN 0 os : Nat) : Int) := by
  obtain ⟨h1, h2⟩ := bitsF_code (n := ls.length) hn8 os (-1) 0 (by omega) (by omega) (by decide) h
  exact ⟨h2, h1⟩

end Go.Proofs.Ytlocjmbfcdfjfaa.Slim
