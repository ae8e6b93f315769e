/- Rafts: the law of the first safe order. -/
import Derived.Test.YtlocjmbfcdfjfaaSlimE21
namespace Go.Proofs.Ytlocjmbfcdfjfaa.Slim

open Go

set_option linter.unusedSimpArgs false

set_option linter.unusedVariables false

variable {pr : Prims} {H : List Blk} {e : Option Nat}

theorem soW_length (a b o : Int) (ls : List Ld) : (soW a b o ls).length = ls.length := orderW_length _ _ _ _

end Go.Proofs.Ytlocjmbfcdfjfaa.Slim
