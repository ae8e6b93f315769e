/- Rafts: what is valid, and the reserves. -/
import Derived.Test.YtlocjmbfcdfjfaaSlimE11
namespace Go.Proofs.Ytlocjmbfcdfjfaa.Slim

open Go

set_option linter.unusedSimpArgs false

set_option linter.unusedVariables false

variable {pr : Prims} {H : List Blk} {e : Option Nat}

def baseOk (a b : Int) : Bool := ((decide (0 ≤ a) && decide (a ≤ 60)) && (decide (0 ≤ b) && decide (b ≤ 60))) && decide (a ≤ b)

theorem e_i_isBase (a b : Int) : call T pr f_i_isBase [.int .i64 a, .int .i64 b] ⟨H, e⟩ = some (.bool (baseOk a b), ⟨H, e⟩) := by
  rw [call_eq t_i_isBase]
  simp +contextual only [a_i_isBase, c_i_isBase, e_i_isPlace, go_sem, entry, joinEsc, if_pos, reduceIte, Nat.reduceAdd, Nat.reduceLeDiff, Nat.reduceLT, Nat.reduceEqDiff]
  rfl

theorem e_s_l2Base (a b : Int) : call T pr f_s_l2Base [.int .i64 a, .int .i64 b] ⟨H, e⟩ = some (.bool (baseOk a b), ⟨H, e⟩) := by
  rw [call_eq t_s_l2Base]
  simp +contextual only [a_s_l2Base, c_s_l2Base, e_s_l2In, go_sem, entry, joinEsc, if_pos, reduceIte, Nat.reduceAdd, Nat.reduceLeDiff, Nat.reduceLT, Nat.reduceEqDiff]
  rfl

abbrev rfV (a b o : Int) : AV := .agg [.int .i64 a, .int .i64 b, .int .i64 o]

def raftOk (a b o : Int) : Bool := baseOk a b && (decide (1 ≤ o) && decide (o ≤ 99))

def cargoOk (a b o : Int) (ls : List Ld) : Bool := (raftOk a b o && rowOk ls) && decide (ls.length ≤ 8)

end Go.Proofs.Ytlocjmbfcdfjfaa.Slim
