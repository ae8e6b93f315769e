/- Rafts: the unloading's law. -/
import Derived.Test.YtlocjmbfcdfjfaaSlimE24
namespace Go.Proofs.Ytlocjmbfcdfjfaa.Slim

open Go

set_option linter.unusedSimpArgs false

set_option linter.unusedVariables false

variable {pr : Prims} {H : List Blk} {e : Option Nat}

theorem backW_length (a b o : Int) (ls : List Ld) : (backW a b o ls).length = 2 ^ ls.length := backL_length _ _ _

/-- can all be taken? -/
def canU (a b o : Int) (ls : List Ld) : Bool := cargoOk a b o ls && (backW a b o ls).getD (2 ^ ls.length - 1) false

/-- the first order in which all can be taken -/
def uoW (a b o : Int) (ls : List Ld) : List Int := unloadL (backW a b o ls) ls.length ls.length (2 ^ ls.length - 1)

theorem uoW_length (a b o : Int) (ls : List Ld) : (uoW a b o ls).length = ls.length := unloadL_length _ _ _ _

theorem backF {a b o : Int} {ls : List Ld} (sz : Nat) : part false (encB (backW a b o ls)) (2 ^ ls.length - 1) sz = some (.bool ((backW a b o ls).getD (2 ^ ls.length - 1) false)) :=
  part_encB sz (by rw [backW_length]; have := Nat.two_pow_pos ls.length; omega)

end Go.Proofs.Ytlocjmbfcdfjfaa.Slim
