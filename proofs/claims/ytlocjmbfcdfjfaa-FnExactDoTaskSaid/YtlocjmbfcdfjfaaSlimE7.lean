/- Rows that grow. -/
import Derived.Test.YtlocjmbfcdfjfaaSlimE6
namespace Go.Proofs.Ytlocjmbfcdfjfaa.Slim
open Go
set_option linter.unusedSimpArgs false
set_option linter.unusedVariables false

variable {pr : Prims} {H : List Blk} {e : Option Nat}

/-- what an append leaves of the blocks before it -/
def killIf (cap : Option Nat) (j : Nat) (G : List Blk) : List Blk := if cap = some 0 then G else G.set j .dead
theorem killIf_length (cap : Option Nat) (j : Nat) (G : List Blk) : (killIf cap j G).length = G.length := by unfold killIf; split <;> simp

theorem appendV_more {G : List Blk} {j k n sz bytes : Nat} {cs new : List AV} {cap : Option Nat} {str : Bool} {x : AV} (hb : G[j]? = some (.cells cs true)) (hx : srcCells str (H ++ G) x = some (k, new)) (hk : 0 < k)
    (hcs : cs.length = n * sz) (hnew : new.length = k * sz) (hmax : (n + k) * bytes ≤ maxBytes) (hcap : cap = some 0 → n = 0) :
    appendV (H ++ G) e str sz bytes (.slice (some (H.length + j, 0)) sz n cap) x = some (.slice (some (H.length + G.length, 0)) sz (n + k) none, ⟨H ++ (killIf cap j G ++ [.cells (cs ++ new) true]), e⟩) := by
  unfold appendV
  simp only [blkAt_newk, hb, hx]
  rw [if_pos ⟨trivial, hmax, hnew, by omega⟩]
  unfold killIf
  by_cases hc : cap = some 0
  · have hn := hcap hc
    subst hn
    have : cs = [] := by simpa using hcs
    subst this
    rw [if_pos ⟨hc, hk⟩, if_pos hc]
    simp
  · rw [if_neg (fun h => hc h.1), if_pos trivial, if_neg hc]
    have h1 : List.take (n * sz) (List.drop 0 cs) = cs := by rw [List.drop_zero, ← hcs, List.take_length]
    rw [h1, set_newk]
    simp

theorem srcCells_new (L : List Blk) (n sz : Nat) (cap : Option Nat) (cs : List AV) (b : Nat) (h : cellsAt L b = some cs) (hl : cs.length = n * sz) : srcCells false L (.slice (some (b, 0)) sz n cap) = some (n, cs) := by
  unfold srcCells
  simp only [Bool.false_eq_true, if_false, h]
  rw [if_pos (by omega), List.drop_zero, ← hl, List.take_length]

/-- one load more -/
theorem append_ld {G : List Blk} {j : Nat} {o : List Ld} {cap : Option Nat} (hG : G[j]? = some (.cells (encL o) true)) (hcap : cap = some 0 → o = []) (hmb : (o.length + 1) * 16 ≤ maxBytes) (a b : Int) :
    appendV (H ++ (G ++ [.cells [.int .i64 a, .int .i64 b] true])) e false 2 16 (slL (H.length + j) o.length cap) (.slice (some (H.length + G.length, 0)) 2 1 (some 1)) =
      some (slL (H.length + (G.length + 1)) (o.length + 1) none, ⟨H ++ (killIf cap j (G ++ [.cells [.int .i64 a, .int .i64 b] true]) ++ [.cells (encL o ++ [.int .i64 a, .int .i64 b]) true]), e⟩) := by
  have hj : j < G.length := (List.getElem?_eq_some_iff.mp hG).1
  rw [appendV_more (k := 1) (cs := encL o) (new := [.int .i64 a, .int .i64 b]) (by rw [List.getElem?_append_left hj]; exact hG)
    (srcCells_new _ 1 2 _ _ _ (by rw [cellsAt_newk, cellsAt_new0, cellsAt_cons0]) rfl) (by omega) (encL_length o) rfl hmb (fun h => by rw [hcap h]; rfl)]
  simp

/-- the loads of a convoy that have come so far -/
def rowAt (x : Int) (ls : List Ld) : List Ld := (ls.filter fun l => decide (l.1 ≤ x)).map fun l => (IntKind.i64.wrap (x - l.1), l.2)

end Go.Proofs.Ytlocjmbfcdfjfaa.Slim
