/- Rows of loads: how they lie in memory, and the laws' own small functions. -/
import Derived.Test.YtlocjmbfcdfjfaaSlimR
import Derived.Test.YtlocjmbfcdfjfaaSlimW
import Derived.Test.YtlocjmbfcdfjfaaSlimFns
namespace Go.Proofs.Ytlocjmbfcdfjfaa.Slim
open Go
set_option linter.unusedSimpArgs false
set_option linter.unusedVariables false

/-- a load: its place and its weight -/
abbrev Ld := Int × Int
def encL : List Ld → List AV
  | [] => []
  | l :: ls => .int .i64 l.1 :: .int .i64 l.2 :: encL ls

theorem encL_length : ∀ ls : List Ld, (encL ls).length = ls.length * 2
  | [] => rfl
  | l :: ls => by simp [encL, encL_length ls]; omega

theorem encL_append : ∀ a b : List Ld, encL (a ++ b) = encL a ++ encL b
  | [], b => rfl
  | l :: a, b => by simp [encL, encL_append a b]

theorem part_encL {ls : List Ld} {i : Nat} {l : Ld} (h : ls[i]? = some l) : part true (encL ls) (i * 2) 2 = some (.agg [.int .i64 l.1, .int .i64 l.2]) := by
  induction ls generalizing i with
  | nil => simp at h
  | cons a ls ih =>
    cases i with
    | zero => simp at h; subst h; simp [encL, part]
    | succ i =>
      simp at h
      rw [show (i + 1) * 2 = i * 2 + 1 + 1 by omega, encL, part_tk, part_tk]
      exact ih h
theorem part_encL0 {ls : List Ld} {i : Nat} {l : Ld} (sz : Nat) (h : ls[i]? = some l) : part false (encL ls) (i * 2) sz = some (.int .i64 l.1) := by
  induction ls generalizing i with
  | nil => simp at h
  | cons a ls ih =>
    cases i with
    | zero => simp at h; subst h; simp [encL, part]
    | succ i =>
      simp at h
      rw [show (i + 1) * 2 = i * 2 + 1 + 1 by omega, encL, part_fk, part_fk]
      exact ih h
theorem part_encL1 {ls : List Ld} {i : Nat} {l : Ld} (sz : Nat) (h : ls[i]? = some l) : part false (encL ls) (i * 2 + 1) sz = some (.int .i64 l.2) := by
  induction ls generalizing i with
  | nil => simp at h
  | cons a ls ih =>
    cases i with
    | zero => simp at h; subst h; simp [encL, part]
    | succ i =>
      simp at h
      rw [show (i + 1) * 2 + 1 = i * 2 + 1 + 1 + 1 by omega, encL, part_fk, part_fk]
      exact ih h

/-- a slice of loads, wherever it lies -/
abbrev slL (b n : Nat) (c : Option Nat) : AV := .slice (some (b, 0)) 2 n c

theorem cells_mono {H : List Blk} {b : Nat} {cs : List AV} (h : cellsAt H b = some cs) (G : List Blk) : cellsAt (H ++ G) b = some cs := cellsAt_old G h

theorem wrap_succ {i : Nat} (h : i < 9223372036854775807) : IntKind.i64.wrap ((i : Int) + 1) = ((i + 1 : Nat) : Int) := by
  rw [wrap64 (by omega) (by omega)]; omega

variable {pr : Prims} {H : List Blk} {e : Option Nat}

theorem e_l_toLoad (x a : Int) : call T pr f_l_toLoad [.agg [.int .i64 x, .int .i64 a]] ⟨H, e⟩ = some (.agg [.int .i64 x, .int .i64 a], ⟨H, e⟩) := by
  rw [call_eq t_l_toLoad]
  simp +contextual only [a_l_toLoad, c_l_toLoad, go_sem, entry, joinEsc, if_pos, reduceIte, Nat.reduceAdd, Nat.reduceLeDiff, Nat.reduceLT, Nat.reduceEqDiff]

theorem e_l_eqLoad (x a y b : Int) : call T pr f_l_eqLoad [.agg [.int .i64 x, .int .i64 a], .agg [.int .i64 y, .int .i64 b]] ⟨H, e⟩ = some (.bool (decide (x = y) && decide (a = b)), ⟨H, e⟩) := by
  rw [call_eq t_l_eqLoad]
  simp +contextual only [a_l_eqLoad, c_l_eqLoad, go_sem, entry, joinEsc, if_pos, reduceIte, Nat.reduceAdd, Nat.reduceLeDiff, Nat.reduceLT, Nat.reduceEqDiff]
  by_cases h1 : x = y <;> by_cases h2 : a = b <;> simp [h1, h2]

theorem e_l_szLoadS (n : Nat) (p : Option (Nat × Nat)) (sz : Nat) (c : Option Nat) (hn : n ≤ maxLen) : call T pr f_l_szLoadS [.slice p sz n c, .int .i64 1048576] ⟨H, e⟩ = some (.int .i64 (if n ≤ 1048576 then 1048576 - n else -1), ⟨H, e⟩) := by
  rw [call_eq t_l_szLoadS]
  have hm : maxLen = 9223372036854775807 := by decide
  simp +contextual only [a_l_szLoadS, c_l_szLoadS, go_sem, entry, joinEsc, if_pos, reduceIte, Nat.reduceAdd, Nat.reduceLeDiff, Nat.reduceLT, Nat.reduceEqDiff]
  rw [wrap64 (by omega) (by omega)]
  by_cases h1 : n ≤ 1048576
  · rw [if_neg (by omega), if_pos h1]
  · rw [if_pos (by omega), if_neg h1]

/-- the loop of eqLoadS -/
theorem loop_l_eqLoadS {b1 b2 : Nat} {c1 c2 : Option Nat} {ls : List Ld} (h1 : cellsAt H b1 = some (encL ls)) (h2 : cellsAt H b2 = some (encL ls)) (hn : ls.length ≤ 9223372036854775806) :
    ∀ (k i : Nat) (x5 x6 x7 : AV), k + i = ls.length → ∃ y5 y6, run T pr (.loop w_l_eqLoadS_1) ⟨[slL b1 ls.length c1, slL b2 ls.length c2, .bool false, .int .i64 i, x7, x5, x6], ⟨H, e⟩⟩ =
      some (.exit 0, ⟨[slL b1 ls.length c1, slL b2 ls.length c2, .bool false, .int .i64 ls.length, x7, y5, y6], ⟨H, e⟩⟩)
  | 0, i, x5, x6, x7, hk => by
    have hi : i = ls.length := by omega
    subst hi
    refine ⟨.bool false, x6, ?_⟩
    rw [run_loop]
    simp +contextual only [w_l_eqLoadS_1, Nat.lt_irrefl, decide_false, go_sem, entry, joinEsc, if_pos, reduceIte, Nat.reduceAdd, Nat.reduceLeDiff, Nat.reduceLT, Nat.reduceEqDiff]
  | k + 1, i, x5, x6, x7, hk => by
    have hi : i < ls.length := by omega
    obtain ⟨y5, y6, ih⟩ := loop_l_eqLoadS (c1 := c1) (c2 := c2) h1 h2 hn k (i + 1) (.bool true) (.bool false) x7 (by omega)
    refine ⟨y5, y6, ?_⟩
    rw [run_loop]
    have hl : ls[i]? = some ls[i] := List.getElem?_eq_getElem hi
    simp +contextual only [w_l_eqLoadS_1, h1, h2, hi, hl, part_encL hl, e_l_eqLoad, wrap_succ (show i < 9223372036854775807 by omega), decide_true, Bool.not_true, go_sem, entry, joinEsc, if_pos, reduceIte, Nat.reduceAdd, Nat.reduceLeDiff, Nat.reduceLT, Nat.reduceEqDiff]
    exact ih

end Go.Proofs.Ytlocjmbfcdfjfaa.Slim
