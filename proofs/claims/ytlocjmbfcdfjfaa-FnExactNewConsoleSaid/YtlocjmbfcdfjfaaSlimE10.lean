/- Crossing, and its law. -/
import Derived.Test.YtlocjmbfcdfjfaaSlimE9
namespace Go.Proofs.Ytlocjmbfcdfjfaa.Slim
open Go
set_option linter.unusedSimpArgs false
set_option linter.unusedVariables false

variable {pr : Prims} {H : List Blk} {e : Option Nat}

theorem rowAt_length (x : Int) (ls : List Ld) : (rowAt x ls).length ≤ ls.length := by
  unfold rowAt
  rw [List.length_map]
  exact List.length_filter_le _ _

theorem cells_at (G : List Blk) (cs : List AV) (wr : Bool) : cellsAt (H ++ (G ++ [Blk.cells cs wr])) (H.length + G.length) = some cs := by
  rw [cellsAt_newk, cellsAt_new0, cellsAt_cons0]

/-- may it cross, and is that asked well? -/
def crossOk (x a b : Int) (ls : List Ld) : Bool := beamOk x a b && convOk ls

end Go.Proofs.Ytlocjmbfcdfjfaa.Slim
