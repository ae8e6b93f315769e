/- Beams: what rests on them. -/
import Derived.Test.YtlocjmbfcdfjfaaSlimE4
namespace Go.Proofs.Ytlocjmbfcdfjfaa.Slim
open Go
set_option linter.unusedSimpArgs false
set_option linter.unusedVariables false

variable {pr : Prims} {H : List Blk} {e : Option Nat}

def beamOk (x a b : Int) : Bool := decide (1 ≤ x ∧ x ≤ 60 ∧ 0 ≤ a ∧ a < b ∧ b ≤ x)
abbrev bmV (x a b : Int) : AV := .agg [.int .i64 x, .int .i64 a, .int .i64 b]

/-- a beam and what is on it -/
def onOk (x a b : Int) (ls : List Ld) : Bool := beamOk x a b && rowOk ls && !(ls.any fun l => decide (x < l.1))

end Go.Proofs.Ytlocjmbfcdfjfaa.Slim
