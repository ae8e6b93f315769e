/- Tasks of a stand: the program's DoTask. -/
import Derived.Test.YtlocjmbfcdfjfaaSlimE48
namespace Go.Proofs.Ytlocjmbfcdfjfaa.Slim

open Go

set_option linter.unusedSimpArgs false

set_option linter.unusedVariables false

variable {pr : Prims} {H : List Blk} {e : Option Nat}

def sndC : ACode → ACode
  | .seq _ b => b
  | c => c

/-- what stands behind the choice of a task -/
def tail_DoTask : ACode := sndC (sndC (sndC (sndC (sndC c_i_DoTask))))

noncomputable def tailF_DoTask (pr : Prims) : St → Option (Ex × St) := run T pr tail_DoTask

theorem tail_no {y0 y1 y2 y3 y8 y9 y10 y11 y12 y13 y14 y15 y16 y17 y18 y19 y20 y21 y22 : AV} {B0 B1 X3 X4 : Blk} {G : List Blk} {j1 j2 n m : Nat} {a b t c : Int} {ls : List Ld} {ss : List Sg} {e : Option Nat} (hn : ls.length = n) (hm : ss.length = m) (hn2 : n ≤ 1048576) (hm2 : m ≤ 1048576) (h1 : ∀ B2 B5, (B0 :: B1 :: B2 :: X3 :: X4 :: B5 :: G)[j1]? = some (.cells (encL ls) true)) (h2 : ∀ B2 B5, (B0 :: B1 :: B2 :: X3 :: X4 :: B5 :: G)[j2]? = some (.cells (encS ss) true)) {ok : Bool} (hno : (ok && stOk ls ss a b t (IntKind.i64.wrap (c + 1))) = false) :
    tailF_DoTask pr ⟨[y0, y1, y2, y3, .ptr (some (H.length + 2, 0)), .bool false, .ptr (some (H.length + 5, 0)), .bool ok, y8, y9, y10, y11, y12, y13, y14, y15, y16, y17, y18, y19, y20, y21, y22], ⟨H ++ (B0 :: B1 :: .cells [.slice none 0 0 none, .int .i64 0, .int .i64 0, .slice none 0 0 none, .int .i64 0, .int .i64 0] true :: X3 :: X4 :: .cells [slL (H.length + j1) n none, .int .i64 a, .int .i64 b, slS (H.length + j2) m none, .int .i64 t, .int .i64 c] true :: G), e⟩⟩ =
      some (Ex.ret, ⟨[y0, y1, y2, y3, .ptr (some (H.length + 2, 0)), .bool false, .ptr (some (H.length + 5, 0)), .bool ok, y8, y9, y10, y11, y12, y13, y14, y15, y16, y17, y18, y19, y20, .bool true, y22], ⟨H ++ (B0 :: B1 :: .cells [.slice none 0 0 none, .int .i64 0, .int .i64 0, .slice none 0 0 none, .int .i64 0, .int .i64 0] true :: X3 :: X4 :: .cells [slL (H.length + j1) n none, .int .i64 a, .int .i64 b, slS (H.length + j2) m none, .int .i64 t, .int .i64 (IntKind.i64.wrap (c + 1))] true :: G), e⟩⟩) := by
  have hc1 : ∀ B2 B5, cellsAt (H ++ (B0 :: B1 :: B2 :: X3 :: X4 :: B5 :: G)) (H.length + j1) = some (encL ls) := fun B2 B5 => by rw [cellsAt_newk]; exact cellsAt_get (h1 B2 B5)
  have hc2 : ∀ B2 B5, cellsAt (H ++ (B0 :: B1 :: B2 :: X3 :: X4 :: B5 :: G)) (H.length + j2) = some (encS ss) := fun B2 B5 => by rw [cellsAt_newk]; exact cellsAt_get (h2 B2 B5)
  have hist := fun B2 B5 e => isStand_at (pr := pr) (e := e) (c1 := none) (c2 := none) hn hm hm2 a b t (IntKind.i64.wrap (c + 1)) (hc1 B2 B5) (hc2 B2 B5)
  unfold tailF_DoTask tail_DoTask
  simp only [sndC, c_i_DoTask]
  cases ok with
  | false => simp +contextual only [fillParts, under_slice, under_sliceN, Nat.add_assoc, Nat.add_lt_add_iff_left, Nat.lt_irrefl, clean_minEsc, clean_none, Nat.le_add_right, Nat.le_refl, Int.reduceEq, not_true_eq_false, not_false_eq_true, decide_true, decide_false, go_sem, entry, joinEsc, if_pos, reduceIte, Nat.reduceAdd, Nat.reduceLeDiff, Nat.reduceLT, Nat.reduceEqDiff]
  | true =>
    rw [Bool.true_and] at hno
    rw [hno] at hist
    simp +contextual only [fillParts, hist, under_slice, under_sliceN, Nat.add_assoc, Nat.add_lt_add_iff_left, Nat.lt_irrefl, clean_minEsc, clean_none, Nat.le_add_right, Nat.le_refl, Int.reduceEq, not_true_eq_false, not_false_eq_true, decide_true, decide_false, go_sem, entry, joinEsc, if_pos, reduceIte, Nat.reduceAdd, Nat.reduceLeDiff, Nat.reduceLT, Nat.reduceEqDiff]

theorem tail_yes {y0 y1 y2 y3 y8 y9 y10 y11 y12 y13 y14 y15 y16 y17 y18 y19 y20 y21 y22 : AV} {B0 B1 X3 X4 : Blk} {G : List Blk} {j1 j2 n m : Nat} {a b t c : Int} {ls : List Ld} {ss : List Sg} {e : Option Nat} (hn : ls.length = n) (hm : ss.length = m) (hn2 : n ≤ 1048576) (hm2 : m ≤ 1048576) (h1 : ∀ B2 B5, (B0 :: B1 :: B2 :: X3 :: X4 :: B5 :: G)[j1]? = some (.cells (encL ls) true)) (h2 : ∀ B2 B5, (B0 :: B1 :: B2 :: X3 :: X4 :: B5 :: G)[j2]? = some (.cells (encS ss) true)) (h3 : 3 ≤ j1) (hyes : stOk ls ss a b t (IntKind.i64.wrap (c + 1)) = true) :
    tailF_DoTask pr ⟨[y0, y1, y2, y3, .ptr (some (H.length + 2, 0)), .bool false, .ptr (some (H.length + 5, 0)), .bool true, y8, y9, y10, y11, y12, y13, y14, y15, y16, y17, y18, y19, y20, y21, y22], ⟨H ++ (B0 :: B1 :: .cells [.slice none 0 0 none, .int .i64 0, .int .i64 0, .slice none 0 0 none, .int .i64 0, .int .i64 0] true :: X3 :: X4 :: .cells [slL (H.length + j1) n none, .int .i64 a, .int .i64 b, slS (H.length + j2) m none, .int .i64 t, .int .i64 c] true :: G), e⟩⟩ =
      some (Ex.ret, ⟨[y0, y1, y2, y3, .ptr (some (H.length + 2, 0)), .bool true, .ptr (some (H.length + 5, 0)), .bool true, y8, y9, y10, y11, y12, y13, y14, y15, y16, y17, y18, y19, y20, .bool false, .bool (!decide (sideW ls a b = 0))], ⟨H ++ (B0 :: B1 :: .cells [slL (H.length + j1) n none, .int .i64 a, .int .i64 b, slS (H.length + j2) m none, .int .i64 (if decide (sideW ls a b = 0) = true then t else IntKind.i64.wrap (t + 1)), .int .i64 (IntKind.i64.wrap (c + 1))] true :: X3 :: X4 :: .cells [slL (H.length + j1) n none, .int .i64 a, .int .i64 b, slS (H.length + j2) m none, .int .i64 (if decide (sideW ls a b = 0) = true then t else IntKind.i64.wrap (t + 1)), .int .i64 (IntKind.i64.wrap (c + 1))] true :: G), minEsc e (H.length + 2)⟩⟩) := by
  have hc1 : ∀ B2 B5, cellsAt (H ++ (B0 :: B1 :: B2 :: X3 :: X4 :: B5 :: G)) (H.length + j1) = some (encL ls) := fun B2 B5 => by rw [cellsAt_newk]; exact cellsAt_get (h1 B2 B5)
  have hc2 : ∀ B2 B5, cellsAt (H ++ (B0 :: B1 :: B2 :: X3 :: X4 :: B5 :: G)) (H.length + j2) = some (encS ss) := fun B2 B5 => by rw [cellsAt_newk]; exact cellsAt_get (h2 B2 B5)
  have hist := fun B2 B5 e => isStand_at (pr := pr) (e := e) (c1 := none) (c2 := none) hn hm hm2 a b t (IntKind.i64.wrap (c + 1)) (hc1 B2 B5) (hc2 B2 B5)
  have hside := fun B2 B5 e => tipSide_at (pr := pr) (e := e) (c1 := none) hn hn2 a b (hc1 B2 B5)
  have hlt : ¬ (j1 < 2 + 1) := by omega
  unfold tailF_DoTask tail_DoTask
  simp only [sndC, c_i_DoTask]
  rw [hyes] at hist
  by_cases ht : sideW ls a b = 0
  · rw [ht] at hside
    simp +contextual only [fillParts, hist, hside, ht, hlt, under_slice, under_sliceN, Nat.add_assoc, Nat.add_lt_add_iff_left, Nat.lt_irrefl, clean_minEsc, clean_none, Nat.le_add_right, Nat.le_refl, Int.reduceEq, not_true_eq_false, not_false_eq_true, decide_true, decide_false, go_sem, entry, joinEsc, if_pos, reduceIte, Nat.reduceAdd, Nat.reduceLeDiff, Nat.reduceLT, Nat.reduceEqDiff]
  · simp +contextual only [fillParts, hist, hside, ht, hlt, under_slice, under_sliceN, Nat.add_assoc, Nat.add_lt_add_iff_left, Nat.lt_irrefl, clean_minEsc, clean_none, Nat.le_add_right, Nat.le_refl, Int.reduceEq, not_true_eq_false, not_false_eq_true, decide_true, decide_false, go_sem, entry, joinEsc, if_pos, reduceIte, Nat.reduceAdd, Nat.reduceLeDiff, Nat.reduceLT, Nat.reduceEqDiff]

end Go.Proofs.Ytlocjmbfcdfjfaa.Slim
