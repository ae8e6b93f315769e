/- Convoys, told whole; crossing. -/
import Derived.Test.YtlocjmbfcdfjfaaSlimE8
namespace Go.Proofs.Ytlocjmbfcdfjfaa.Slim
open Go
set_option linter.unusedSimpArgs false
set_option linter.unusedVariables false

variable {pr : Prims} {H : List Blk} {e : Option Nat}

/-- a convoy -/
def convOk (ls : List Ld) : Bool := cvAll none ls && ((decide (1 ≤ ls.length) && decide (ls.length ≤ 6)) && (match ls with | [] => false | l :: _ => decide (l.1 = 0)))

def cvOkI (prev : Option Int) (l : Ld) : Bool := ((decide (0 ≤ l.1) && decide (l.1 ≤ 20)) && (decide (1 ≤ l.2) && decide (l.2 ≤ 99))) && (match prev with | none => decide (l.1 = 0) | some p => decide (p ≤ l.1))
def cvAllI (prev : Option Int) : List Ld → Bool
  | [] => true
  | l :: ls => cvOkI prev l && cvAllI (some l.1) ls

theorem cvAllI_some (p : Int) : ∀ ls, cvAllI (some p) ls = cvAll (some p) ls
  | [] => rfl
  | l :: ls => by simp only [cvAllI, cvAll, cvOkI, cvOk, cvAllI_some l.1 ls]

theorem convOk_eq (ls : List Ld) : convOk ls = (cvAllI none ls && (decide (1 ≤ ls.length) && decide (ls.length ≤ 6))) := by
  unfold convOk
  cases ls with
  | nil => simp
  | cons l ls =>
    simp only [cvAll, cvAllI, cvOk, cvOkI, cvAllI_some]
    cases decide (l.1 = 0) <;> cases (decide (0 ≤ l.1) && decide (l.1 ≤ 20)) <;> cases (decide (1 ≤ l.2) && decide (l.2 ≤ 99)) <;> simp

/-- all positions from a to b -/
def crossFrom (ls : List Ld) (a b : Int) : Nat → Nat → Bool
  | 0, _ => true
  | k + 1, x => decide (sideW (rowAt x ls) a b = 0) && crossFrom ls a b k (x + 1)

end Go.Proofs.Ytlocjmbfcdfjfaa.Slim
