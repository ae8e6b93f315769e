/- Rows of loads: how they lie in memory, and the laws' own small functions. -/
import Derived.Test.YtdohjcodjjogbaaSlimR
import Derived.Test.YtdohjcodjjogbaaSlimW
import Derived.Test.YtdohjcodjjogbaaSlimFns
namespace Go.Proofs.Ytdohjcodjjogbaa.Slim
open Go
set_option linter.unusedSimpArgs false
set_option linter.unusedVariables false

/-- a load: its place and its weight -/
abbrev Ld := Int × Int
def encL : List Ld → List AV
  | [] => []
  | l :: ls => .int .i64 l.1 :: .int .i64 l.2 :: encL ls

theorem encL_length : ∀ ls : List Ld, (encL ls).length = ls.length * 2
  | [] => rfl
  | l :: ls => by simp [encL, encL_length ls]; omega

theorem encL_append : ∀ a b : List Ld, encL (a ++ b) = encL a ++ encL b
  | [], b => rfl
  | l :: a, b => by simp [encL, encL_append a b]

theorem part_encL {ls : List Ld} {i : Nat} {l : Ld} (h : ls[i]? = some l) : part true (encL ls) (i * 2) 2 = some (.agg [.int .i64 l.1, .int .i64 l.2]) := by
  induction ls generalizing i with
  | nil => simp at h
  | cons a ls ih =>
    cases i with
    | zero => simp at h; subst h; simp [encL, part]
    | succ i =>
      simp at h
      rw [show (i + 1) * 2 = i * 2 + 1 + 1 by omega, encL, part_tk, part_tk]
      exact ih h
theorem part_encL0 {ls : List Ld} {i : Nat} {l : Ld} (sz : Nat) (h : ls[i]? = some l) : part false (encL ls) (i * 2) sz = some (.int .i64 l.1) := by
  induction ls generalizing i with
  | nil => simp at h
  | cons a ls ih =>
    cases i with
    | zero => simp at h; subst h; simp [encL, part]
    | succ i =>
      simp at h
      rw [show (i + 1) * 2 = i * 2 + 1 + 1 by omega, encL, part_fk, part_fk]
      exact ih h
theorem part_encL1 {ls : List Ld} {i : Nat} {l : Ld} (sz : Nat) (h : ls[i]? = some l) : part false (encL ls) (i * 2 + 1) sz = some (.int .i64 l.2) := by
  induction ls generalizing i with
  | nil => simp at h
  | cons a ls ih =>
    cases i with
    | zero => simp at h; subst h; simp [encL, part]
    | succ i =>
      simp at h
      rw [show (i + 1) * 2 + 1 = i * 2 + 1 + 1 + 1 by omega, encL, part_fk, part_fk]
      exact ih h

/-- a slice of loads, wherever it lies -/
abbrev slL (b n : Nat) (c : Option Nat) : AV := .slice (some (b, 0)) 2 n c

theorem cells_mono {H : List Blk} {b : Nat} {cs : List AV} (h : cellsAt H b = some cs) (G : List Blk) : cellsAt (H ++ G) b = some cs := cellsAt_old G h

theorem wrap_succ {i : Nat} (h : i < 9223372036854775807) : IntKind.i64.wrap ((i : Int) + 1) = ((i + 1 : Nat) : Int) := by
  rw [wrap64 (by omega) (by omega)]; omega

variable {pr : Prims} {H : List Blk} {e : Option Nat}

end Go.Proofs.Ytdohjcodjjogbaa.Slim
