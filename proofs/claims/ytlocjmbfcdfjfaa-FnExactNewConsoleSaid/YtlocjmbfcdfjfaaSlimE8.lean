/- Convoys. -/
import Derived.Test.YtlocjmbfcdfjfaaSlimE7
namespace Go.Proofs.Ytlocjmbfcdfjfaa.Slim
open Go
set_option linter.unusedSimpArgs false
set_option linter.unusedVariables false

variable {pr : Prims} {H : List Blk} {e : Option Nat}

theorem rowAt_cons (x : Int) (l : Ld) (ls : List Ld) : rowAt x (l :: ls) = if l.1 ≤ x then (IntKind.i64.wrap (x - l.1), l.2) :: rowAt x ls else rowAt x ls := by
  unfold rowAt
  by_cases hx : l.1 ≤ x <;> simp [hx]

/-- may it come behind a load at prev? -/
def cvOk (prev : Option Int) (l : Ld) : Bool := ((decide (0 ≤ l.1) && decide (l.1 ≤ 20)) && (decide (1 ≤ l.2) && decide (l.2 ≤ 99))) && (match prev with | none => true | some p => decide (p ≤ l.1))
def cvAll (prev : Option Int) : List Ld → Bool
  | [] => true
  | l :: ls => cvOk prev l && cvAll (some l.1) ls
/-- the load before -/
def prevAt (ls : List Ld) : Nat → Option Int
  | 0 => none
  | i + 1 => (ls[i]?).map (·.1)

theorem wrap_pred {i : Nat} (h : i < 9223372036854775807) : IntKind.i64.wrap (((i + 1 : Nat) : Int) - 1) = (i : Int) := by
  rw [wrap64 (by omega) (by omega)]; omega

end Go.Proofs.Ytlocjmbfcdfjfaa.Slim
