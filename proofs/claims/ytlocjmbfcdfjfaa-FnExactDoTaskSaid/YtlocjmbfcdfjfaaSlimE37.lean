/- People at other places. -/
import Derived.Test.YtlocjmbfcdfjfaaSlimE34
namespace Go.Proofs.Ytlocjmbfcdfjfaa.Slim

open Go

set_option linter.unusedSimpArgs false

set_option linter.unusedVariables false

variable {pr : Prims} {H : List Blk} {e : Option Nat}

/-- people at other places -/
def putL : List Ld → List Int → List Ld
  | [], _ => []
  | l :: ls, ss => (ss.headD 0, l.2) :: putL ls ss.tail

theorem putL_length : ∀ (ls : List Ld) (ss : List Int), (putL ls ss).length = ls.length
  | [], _ => rfl
  | l :: ls, ss => by simp [putL, putL_length ls]

theorem drop_head (ss : List Int) (i : Nat) (h : i < ss.length) : ss[i]? = some ((ss.drop i).headD 0) ∧ (ss.drop i).tail = ss.drop (i + 1) := by
  rw [List.drop_eq_getElem_cons h]
  exact ⟨List.getElem?_eq_getElem h, rfl⟩

theorem cellsAt_set_ne {L : List Blk} {b u : Nat} {x : Blk} {cs : List AV} (h : cellsAt L u = some cs) (hne : b ≠ u) : cellsAt (L.set b x) u = some cs := by
  unfold cellsAt at *
  rw [List.getElem?_set_ne hne]
  exact h

theorem cellsAt_get {L : List Blk} {j : Nat} {cs : List AV} {w : Bool} (h : L[j]? = some (.cells cs w)) : cellsAt L j = some cs := by
  unfold cellsAt
  rw [h]

abbrev spV (s0 s1 s2 : Int) : AV := .agg [.int .i64 s0, .int .i64 s1, .int .i64 s2]

/-- the digits of a number, the last one first -/
def digs (m : Nat) : Nat → Nat → List Nat
  | 0, _ => []
  | n + 1, k => k % m :: digs m n (k / m)

theorem digs_length (m : Nat) : ∀ n k, (digs m n k).length = n
  | 0, _ => rfl
  | n + 1, k => by simp [digs, digs_length m n]

def ints (l : List Nat) : List Int := l.map fun (i : Nat) => (i : Int)

theorem tmodN (k m : Nat) : Int.tmod (k : Int) (m : Int) = ((k % m : Nat) : Int) := rfl

theorem tdivN (k m : Nat) : Int.tdiv (k : Int) (m : Int) = ((k / m : Nat) : Int) := rfl

theorem putL_app : ∀ (P : List Ld) (Q : List Ld) (ss ts : List Int), P.length = ss.length → putL (P ++ Q) (ss ++ ts) = putL P ss ++ putL Q ts
  | [], Q, [], ts, _ => rfl
  | p :: P, Q, s :: ss, ts, h => by simp [putL, putL_app P Q ss ts (by simpa using h)]

end Go.Proofs.Ytlocjmbfcdfjfaa.Slim
