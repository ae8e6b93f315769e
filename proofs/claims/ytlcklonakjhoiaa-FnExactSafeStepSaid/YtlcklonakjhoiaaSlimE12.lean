/- Rafts: what is valid, and the reserves. -/
import Derived.Test.YtlcklonakjhoiaaSlimE11
namespace Go.Proofs.Ytlcklonakjhoiaa.Slim

open Go

set_option linter.unusedSimpArgs false

set_option linter.unusedVariables false

variable {pr : Prims} {H : List Blk} {e : Option Nat}

def baseOk (a b : Int) : Bool := ((decide (0 ≤ a) && decide (a ≤ 60)) && (decide (0 ≤ b) && decide (b ≤ 60))) && decide (a ≤ b)

theorem e_i_isBase (a b : Int) : call T pr f_i_isBase [.int .i64 a, .int .i64 b] ⟨H, e⟩ = some (.bool (baseOk a b), ⟨H, e⟩) := by
  rw [call_eq t_i_isBase]
  simp +contextual only [a_i_isBase, c_i_isBase, e_i_isPlace, go_sem, entry, joinEsc, if_pos, reduceIte, Nat.reduceAdd, Nat.reduceLeDiff, Nat.reduceLT, Nat.reduceEqDiff]
  rfl

theorem e_s_l2Base (a b : Int) : call T pr f_s_l2Base [.int .i64 a, .int .i64 b] ⟨H, e⟩ = some (.bool (baseOk a b), ⟨H, e⟩) := by
  rw [call_eq t_s_l2Base]
  simp +contextual only [a_s_l2Base, c_s_l2Base, e_s_l2In, go_sem, entry, joinEsc, if_pos, reduceIte, Nat.reduceAdd, Nat.reduceLeDiff, Nat.reduceLT, Nat.reduceEqDiff]
  rfl

abbrev rfV (a b o : Int) : AV := .agg [.int .i64 a, .int .i64 b, .int .i64 o]

def raftOk (a b o : Int) : Bool := baseOk a b && (decide (1 ≤ o) && decide (o ≤ 99))

theorem e_i_IsRaft (a b o : Int) : call T pr f_i_IsRaft [rfV a b o] ⟨H, e⟩ = some (.bool (raftOk a b o), ⟨H, e⟩) := by
  rw [call_eq t_i_IsRaft]
  simp +contextual only [a_i_IsRaft, c_i_IsRaft, e_i_isBase, e_i_within, go_sem, entry, joinEsc, if_pos, reduceIte, Nat.reduceAdd, Nat.reduceLeDiff, Nat.reduceLT, Nat.reduceEqDiff]
  rfl

theorem e_s_l10Raft (a b o : Int) : call T pr f_s_l10Raft [rfV a b o] ⟨H, e⟩ = some (.bool (raftOk a b o), ⟨H, e⟩) := by
  rw [call_eq t_s_l10Raft]
  simp +contextual only [a_s_l10Raft, c_s_l10Raft, e_s_l2Base, e_s_l1In, go_sem, entry, joinEsc, if_pos, reduceIte, Nat.reduceAdd, Nat.reduceLeDiff, Nat.reduceLT, Nat.reduceEqDiff]
  rfl

theorem e_l_toRaft (a b o : Int) : call T pr f_l_toRaft [rfV a b o] ⟨H, e⟩ = some (rfV a b o, ⟨H, e⟩) := by
  rw [call_eq t_l_toRaft]
  simp +contextual only [a_l_toRaft, c_l_toRaft, go_sem, entry, joinEsc, if_pos, reduceIte, Nat.reduceAdd, Nat.reduceLeDiff, Nat.reduceLT, Nat.reduceEqDiff]

def cargoOk (a b o : Int) (ls : List Ld) : Bool := (raftOk a b o && rowOk ls) && decide (ls.length ≤ 8)

theorem e_i_areCargo {q : Nat} {c : Option Nat} {ls : List Ld} (h : cellsAt H q = some (encL ls)) (a b o : Int) : call T pr f_i_areCargo [rfV a b o, slL q ls.length c] ⟨H, e⟩ = some (.bool (cargoOk a b o ls), ⟨H, e⟩) := by
  rw [call_eq t_i_areCargo]
  have hi : decide (((ls.length : Nat) : Int) ≤ 8) = decide (ls.length ≤ 8) := decide_eq_decide.mpr (by omega)
  simp +contextual only [a_i_areCargo, c_i_areCargo, e_i_IsRaft, e_i_IsRow (cells_mono h _), hi, go_sem, entry, joinEsc, if_pos, reduceIte, Nat.reduceAdd, Nat.reduceLeDiff, Nat.reduceLT, Nat.reduceEqDiff]
  rfl

theorem e_s_l10Cargo {q : Nat} {c : Option Nat} {ls : List Ld} (h : cellsAt H q = some (encL ls)) (a b o : Int) : call T pr f_s_l10Cargo [rfV a b o, slL q ls.length c] ⟨H, e⟩ = some (.bool (cargoOk a b o ls), ⟨H, e⟩) := by
  rw [call_eq t_s_l10Cargo]
  have hi : decide (((ls.length : Nat) : Int) ≤ 8) = decide (ls.length ≤ 8) := decide_eq_decide.mpr (by omega)
  simp +contextual only [a_s_l10Cargo, c_s_l10Cargo, e_s_l10Raft, e_s_l2Row (cells_mono h _), hi, go_sem, entry, joinEsc, if_pos, reduceIte, Nat.reduceAdd, Nat.reduceLeDiff, Nat.reduceLT, Nat.reduceEqDiff]
  rfl

end Go.Proofs.Ytlcklonakjhoiaa.Slim
