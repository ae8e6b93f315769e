/- Orders, walked; the first tip. -/
import Derived.Test.YtlocjmbfcdfjfaaSlimE15
namespace Go.Proofs.Ytlocjmbfcdfjfaa.Slim

open Go

set_option linter.unusedSimpArgs false

set_option linter.unusedVariables false

variable {pr : Prims} {H : List Blk} {e : Option Nat}

theorem shl_nat (x : Int) (i : Nat) : binop 0 .shl (.int .i64 x) (.int .i64 (i : Int)) = some (.int .i64 (shlI .i64 x i)) := by
  rw [binop_shl, if_neg (by omega)]

/-- none twice, and no other, m being those that were -/
def ordOk (n : Nat) : Nat → List Int → Bool
  | _, [] => true
  | m, x :: xs => ((decide (0 ≤ x) && decide (x ≤ (n : Int) - 1)) && !m.testBit x.toNat) && ordOk n (m + 2 ^ x.toNat) xs

end Go.Proofs.Ytlocjmbfcdfjfaa.Slim
