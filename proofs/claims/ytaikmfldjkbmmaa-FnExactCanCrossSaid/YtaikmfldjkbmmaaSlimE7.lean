/- Rows that grow. -/
import Derived.Test.YtaikmfldjkbmmaaSlimE6
namespace Go.Proofs.Ytaikmfldjkbmmaa.Slim
open Go
set_option linter.unusedSimpArgs false
set_option linter.unusedVariables false

variable {pr : Prims} {H : List Blk} {e : Option Nat}

/-- what an append leaves of the blocks before it -/
def killIf (cap : Option Nat) (j : Nat) (G : List Blk) : List Blk := if cap = some 0 then G else G.set j .dead
theorem killIf_length (cap : Option Nat) (j : Nat) (G : List Blk) : (killIf cap j G).length = G.length := by unfold killIf; split <;> simp

theorem appendV_more {G : List Blk} {j k n sz bytes : Nat} {cs new : List AV} {cap : Option Nat} {str : Bool} {x : AV} (hb : G[j]? = some (.cells cs true)) (hx : srcCells str (H ++ G) x = some (k, new)) (hk : 0 < k)
    (hcs : cs.length = n * sz) (hnew : new.length = k * sz) (hmax : (n + k) * bytes ≤ maxBytes) (hcap : cap = some 0 → n = 0) :
    appendV (H ++ G) e str sz bytes (.slice (some (H.length + j, 0)) sz n cap) x = some (.slice (some (H.length + G.length, 0)) sz (n + k) none, ⟨H ++ (killIf cap j G ++ [.cells (cs ++ new) true]), e⟩) := by
  unfold appendV
  simp only [blkAt_newk, hb, hx]
  rw [if_pos ⟨trivial, hmax, hnew, by omega⟩]
  unfold killIf
  by_cases hc : cap = some 0
  · have hn := hcap hc
    subst hn
    have : cs = [] := by simpa using hcs
    subst this
    rw [if_pos ⟨hc, hk⟩, if_pos hc]
    simp
  · rw [if_neg (fun h => hc h.1), if_pos trivial, if_neg hc]
    have h1 : List.take (n * sz) (List.drop 0 cs) = cs := by rw [List.drop_zero, ← hcs, List.take_length]
    rw [h1, set_newk]
    simp

theorem srcCells_new (L : List Blk) (n sz : Nat) (cap : Option Nat) (cs : List AV) (b : Nat) (h : cellsAt L b = some cs) (hl : cs.length = n * sz) : srcCells false L (.slice (some (b, 0)) sz n cap) = some (n, cs) := by
  unfold srcCells
  simp only [Bool.false_eq_true, if_false, h]
  rw [if_pos (by omega), List.drop_zero, ← hl, List.take_length]

/-- one load more -/
theorem append_ld {G : List Blk} {j : Nat} {o : List Ld} {cap : Option Nat} (hG : G[j]? = some (.cells (encL o) true)) (hcap : cap = some 0 → o = []) (hmb : (o.length + 1) * 16 ≤ maxBytes) (a b : Int) :
    appendV (H ++ (G ++ [.cells [.int .i64 a, .int .i64 b] true])) e false 2 16 (slL (H.length + j) o.length cap) (.slice (some (H.length + G.length, 0)) 2 1 (some 1)) =
      some (slL (H.length + (G.length + 1)) (o.length + 1) none, ⟨H ++ (killIf cap j (G ++ [.cells [.int .i64 a, .int .i64 b] true]) ++ [.cells (encL o ++ [.int .i64 a, .int .i64 b]) true]), e⟩) := by
  have hj : j < G.length := (List.getElem?_eq_some_iff.mp hG).1
  rw [appendV_more (k := 1) (cs := encL o) (new := [.int .i64 a, .int .i64 b]) (by rw [List.getElem?_append_left hj]; exact hG)
    (srcCells_new _ 1 2 _ _ _ (by rw [cellsAt_newk, cellsAt_new0, cellsAt_cons0]) rfl) (by omega) (encL_length o) rfl hmb (fun h => by rw [hcap h]; rfl)]
  simp

/-- the loads of a convoy that have come so far -/
def rowAt (x : Int) (ls : List Ld) : List Ld := (ls.filter fun l => decide (l.1 ≤ x)).map fun l => (IntKind.i64.wrap (x - l.1), l.2)

theorem loop_s_l6At {q : Nat} {c : Option Nat} {ls : List Ld} {x : Int} {r : AV} (h : cellsAt H q = some (encL ls)) (hn : ls.length ≤ 1048576) :
    ∀ (k i : Nat) (o : List Ld) (j : Nat) (cap : Option Nat) (G : List Blk) (y5 y6 : AV), k + i = ls.length → o.length ≤ i → G[j]? = some (.cells (encL o) true) → (cap = some 0 → o = []) →
      ∃ (j' : Nat) (cap' : Option Nat) (G' : List Blk) (z5 z6 : AV), G'[j']? = some (.cells (encL (o ++ rowAt x (ls.drop i))) true) ∧ run T pr (.loop w_s_l6At_1) ⟨[slL q ls.length c, .int .i64 x, r, slL (H.length + j) o.length cap, .int .i64 i, y5, y6], ⟨H ++ G, e⟩⟩ =
      some (Ex.exit 0, ⟨[slL q ls.length c, .int .i64 x, r, slL (H.length + j') (o ++ rowAt x (ls.drop i)).length cap', .int .i64 ls.length, z5, z6], ⟨H ++ G', e⟩⟩)
  | 0, i, o, j, cap, G, y5, y6, hk, ho, hG, hcap => by
    have hi : i = ls.length := by omega
    subst hi
    refine ⟨j, cap, G, .bool false, y6, ?_, ?_⟩
    · rw [List.drop_length]; simpa [rowAt] using hG
    rw [run_loop]
    generalize run T pr (.loop w_s_l6At_1) = R
    have h0 : (o ++ rowAt x []) = o := by simp [rowAt]
    simp +contextual only [w_s_l6At_1, Nat.lt_irrefl, decide_false, List.drop_length, h0, go_sem, entry, joinEsc, if_pos, Nat.reduceAdd, Nat.reduceLeDiff, Nat.reduceLT, Nat.reduceEqDiff, reduceIte]
  | k + 1, i, o, j, cap, G, y5, y6, hk, ho, hG, hcap => by
    have hi : i < ls.length := by omega
    have hl : ls[i]? = some ls[i] := List.getElem?_eq_getElem hi
    rw [run_loop, List.drop_eq_getElem_cons hi]
    have hfl : ∀ l : Ld, (x : Int) = x → rowAt x (l :: ls.drop (i + 1)) = if l.1 ≤ x then (IntKind.i64.wrap (x - l.1), l.2) :: rowAt x (ls.drop (i + 1)) else rowAt x (ls.drop (i + 1)) := by
      intro l _
      unfold rowAt
      by_cases hx : l.1 ≤ x <;> simp [hx]
    rw [hfl _ rfl]
    by_cases hx : ls[i].1 ≤ x
    · rw [if_pos hx]
      have hmb : (o.length + 1) * 16 ≤ maxBytes := by unfold maxBytes; omega
      obtain ⟨j', cap', G', z5, z6, h1, ih⟩ := loop_s_l6At (c := c) (x := x) (r := r) h hn k (i + 1) (o ++ [(IntKind.i64.wrap (x - ls[i].1), ls[i].2)]) (G.length + 1) none
        (killIf cap j (G ++ [.cells [.int .i64 (IntKind.i64.wrap (x - ls[i].1)), .int .i64 ls[i].2] true]) ++ [.cells (encL (o ++ [(IntKind.i64.wrap (x - ls[i].1), ls[i].2)])) true]) (.bool true) (.bool true) (by omega) (by simp; omega) (by
          rw [List.getElem?_append_right (by simp [killIf_length])]; simp [killIf_length]) (by simp)
      rw [List.append_assoc, List.singleton_append] at h1 ih
      refine ⟨j', cap', G', z5, z6, h1, ?_⟩
      generalize run T pr (.loop w_s_l6At_1) = R at ih ⊢
      simp +contextual only [w_s_l6At_1, cells_mono h, hi, hl, hx, part_encL0 _ hl, part_encL1 _ hl, fillParts, append_ld hG hcap hmb, wrap_succ (show i < 9223372036854775807 by omega), decide_true, decide_false, go_sem, entry, joinEsc, if_pos, Nat.reduceAdd, Nat.reduceLeDiff, Nat.reduceLT, Nat.reduceEqDiff, reduceIte]
      simp only [List.length_append, List.length_cons, List.length_nil, Nat.zero_add, encL_append, encL] at ih
      exact ih
    · rw [if_neg hx]
      obtain ⟨j', cap', G', z5, z6, h1, ih⟩ := loop_s_l6At (c := c) (x := x) (r := r) h hn k (i + 1) o j cap G (.bool true) (.bool false) (by omega) (by omega) hG hcap
      refine ⟨j', cap', G', z5, z6, h1, ?_⟩
      generalize run T pr (.loop w_s_l6At_1) = R at ih ⊢
      simp +contextual only [w_s_l6At_1, cells_mono h, hi, hl, hx, part_encL0 _ hl, wrap_succ (show i < 9223372036854775807 by omega), decide_true, decide_false, go_sem, entry, joinEsc, if_pos, Nat.reduceAdd, Nat.reduceLeDiff, Nat.reduceLT, Nat.reduceEqDiff, reduceIte]
      simp only [List.length_append] at ih
      exact ih

/-- the convoy's row in a position -/
theorem e_s_l6At {q : Nat} {c : Option Nat} {ls : List Ld} (h : cellsAt H q = some (encL ls)) (hn : ls.length ≤ 1048576) (x : Int) : ∃ cap, call T pr f_s_l6At [slL q ls.length c, .int .i64 x] ⟨H, e⟩ =
    some (slL H.length (rowAt x ls).length cap, ⟨H ++ [.cells (encL (rowAt x ls)) true], e⟩) := by
  obtain ⟨j', cap', G', z5, z6, h1, hl⟩ := loop_s_l6At (pr := pr) (e := none) (c := c) (x := x) (r := .slice none 0 0 none) h hn ls.length 0 [] 0 (some 0) [.cells [] true] .undef .undef rfl (Nat.zero_le _) rfl (fun _ => rfl)
  have h0 : ((0 : Nat) : Int) = 0 := rfl
  rw [h0] at hl
  refine ⟨cap', ?_⟩
  rw [call_eq t_s_l6At]
  simp only [List.nil_append, List.drop_zero, Nat.add_zero, List.length_nil] at hl h1
  simp +contextual only [a_s_l6At, c_s_l6At, fillParts, hl, finish_two_at _ h1 (under_encL _ _), go_sem, entry, joinEsc, if_pos, Nat.reduceAdd, Nat.reduceLeDiff, Nat.reduceLT, Nat.reduceEqDiff, reduceIte]

end Go.Proofs.Ytaikmfldjkbmmaa.Slim
