/- Rafts: safe sets. -/
import Derived.Test.YthkgpblohjpcdaaSlimE13
namespace Go.Proofs.Ythkgpblohjpcdaa.Slim

open Go

set_option linter.unusedSimpArgs false

set_option linter.unusedVariables false

variable {pr : Prims} {H : List Blk} {e : Option Nat}

def own0 (a b o : Int) : Int := wr (o * wr (b - a))

def safeW (a b o : Int) (ls : List Ld) (n : Int) : Bool := decide (0 ≤ overBits (resL a) n 0 ls (own0 a b o)) && decide (0 ≤ overBits (resR b) n 0 ls (own0 a b o))

end Go.Proofs.Ythkgpblohjpcdaa.Slim
