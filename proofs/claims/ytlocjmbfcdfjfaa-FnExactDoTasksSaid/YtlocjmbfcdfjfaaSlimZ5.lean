/- FnExactDoTasks returns true for all arguments, without conditions: the law holds as it is stated; the arguments read as they did. -/
import Derived.Test.YtlocjmbfcdfjfaaSlimZ4
import Derived.Test.YtlocjmbfcdfjfaaRows
import Derived.SizedLaws
import Derived.ChangeOld
import Derived.Handed
import Derived.JoinedOf
/- Tasks of a stand: the program's DoTask, by the kinds of tasks. -/
namespace Go.Proofs.Ytlocjmbfcdfjfaa.Slim

open Go

set_option linter.unusedSimpArgs false

set_option linter.unusedVariables false

variable {pr : Prims} {H : List Blk} {e : Option Nat}

def rest3_DoTask : ACode := sndC (sndC (sndC c_i_DoTask))

def rest4_DoTask : ACode := sndC (sndC (sndC (sndC c_i_DoTask)))

noncomputable def rest3F_DoTask (pr : Prims) : St → Option (Ex × St) := run T pr rest3_DoTask

noncomputable def rest4F_DoTask (pr : Prims) : St → Option (Ex × St) := run T pr rest4_DoTask

theorem tail_fold : run T pr tail_DoTask = tailF_DoTask pr := rfl

theorem rest3_fold : run T pr rest3_DoTask = rest3F_DoTask pr := rfl

theorem rest4_fold : run T pr rest4_DoTask = rest4F_DoTask pr := rfl

theorem mayT_1 (ls : List Ld) (ss : List Sg) (x y z : Int) : mayT ls ss 1 x y z = decide (z = 0) := by simp [mayT]

theorem mayT_2 (ls : List Ld) (ss : List Sg) (x y z : Int) : mayT ls ss 2 x y z = (((decide (0 ≤ x) && decide (x ≤ (ls.length : Int) - 1)) && decide (y = 0)) && decide (z = 0)) := by simp [mayT]

theorem mayT_3 (ls : List Ld) (ss : List Sg) (x y z : Int) : mayT ls ss 3 x y z = ((decide (0 ≤ x) && decide (x ≤ (ls.length : Int) - 1)) && decide (z = 0)) := by simp [mayT]

theorem mayT_4 (ls : List Ld) (ss : List Sg) (x y z : Int) : mayT ls ss 4 x y z = decide (z = 0) := by simp [mayT]

theorem mayT_5 (ls : List Ld) (ss : List Sg) (x y z : Int) : mayT ls ss 5 x y z = true := by simp [mayT]

theorem mayT_6 (ls : List Ld) (ss : List Sg) (x y z : Int) : mayT ls ss 6 x y z = (((decide (0 ≤ x) && decide (x ≤ (ss.length : Int) - 1)) && decide (y = 0)) && decide (z = 0)) := by simp [mayT]

set_option maxHeartbeats 8000000 in
theorem DoTask_1 {q1 q2 : Nat} {c1 c2 : Option Nat} {ls : List Ld} {ss : List Sg} {a b t c : Int} (h1 : cellsAt H q1 = some (encL ls)) (h2 : cellsAt H q2 = some (encS ss)) (hn : ls.length ≤ 1048575) (hm : ss.length ≤ 1048575) (k x y z : Int) (hv : stOk ls ss a b t c = true) :
    call T pr f_i_DoTask [stV (slL q1 ls.length c1) a b (slS q2 ss.length c2) t c, tkV k x y z] ⟨H, e⟩ = endCall a_i_DoTask ⟨H, e⟩ (rest3F_DoTask pr ⟨[stV (slL q1 ls.length c1) a b (slS q2 ss.length c2) t c, tkV k x y z, .ptr (some (H.length, 0)), .ptr (some (H.length + 1, 0)), .ptr (some (H.length + 2, 0)), .bool false, .ptr (some (H.length + 5, 0)), .bool false, .undef, .undef, .bool false, .undef, .undef, .undef, .undef, .undef, .undef, .undef, .undef, .undef, .undef, .undef, .undef], ⟨H ++ [.cells [slL q1 ls.length c1, .int .i64 a, .int .i64 b, slS q2 ss.length c2, .int .i64 t, .int .i64 c] true, .cells [.int .i64 k, .int .i64 x, .int .i64 y, .int .i64 z] true, .cells [.slice none 0 0 none, .int .i64 0, .int .i64 0, .slice none 0 0 none, .int .i64 0, .int .i64 0] true, .cells (encL ls) true, .cells (encS ss) true, .cells [slL (H.length + 3) (ls.length) none, .int .i64 a, .int .i64 b, slS (H.length + 4) (ss.length) none, .int .i64 t, .int .i64 c] true], none⟩⟩) := by
  have hvalid := fun G => isStand_at (pr := pr) (e := none) (c1 := c1) (c2 := c2) (ls := ls) (ss := ss) rfl rfl (by omega) a b t c (cells_mono h1 G) (cells_mono h2 G)
  rw [hv] at hvalid
  have hcopy := fun G => e_i_copyStand (pr := pr) (e := none) (c1 := c1) (c2 := c2) (cells_mono h1 G) (cells_mono h2 G) (by omega) (by omega) a b t c
  have hfold := rest3_fold (pr := pr)
  simp only [rest3_DoTask, sndC, c_i_DoTask] at hfold
  rw [call_eq t_i_DoTask]
  generalize hA : endCall a_i_DoTask = EC
  simp (config := { maxSteps := 2000000, contextual := true }) only [a_i_DoTask] at hA
  simp (config := { maxSteps := 2000000, contextual := true }) only [a_i_DoTask, c_i_DoTask, hA, hfold, hvalid, hcopy, under_slice, under_sliceN, Nat.add_assoc, Nat.add_lt_add_iff_left, Nat.lt_irrefl, clean_minEsc, clean_none, Nat.le_add_right, Nat.le_refl, Int.reduceEq, not_true_eq_false, not_false_eq_true, decide_true, decide_false, go_sem, entry, joinEsc, if_pos, reduceIte, Nat.reduceAdd, Nat.reduceLeDiff, Nat.reduceLT, Nat.reduceEqDiff]

set_option maxHeartbeats 8000000 in
theorem DoTask_2 {q1 q2 : Nat} {c1 c2 : Option Nat} {ls : List Ld} {ss : List Sg} {a b t c : Int} (hn : ls.length ≤ 1048575) (hm : ss.length ≤ 1048575) (k x y z : Int) :
    rest3F_DoTask pr ⟨[stV (slL q1 ls.length c1) a b (slS q2 ss.length c2) t c, tkV k x y z, .ptr (some (H.length, 0)), .ptr (some (H.length + 1, 0)), .ptr (some (H.length + 2, 0)), .bool false, .ptr (some (H.length + 5, 0)), .bool false, .undef, .undef, .bool false, .undef, .undef, .undef, .undef, .undef, .undef, .undef, .undef, .undef, .undef, .undef, .undef], ⟨H ++ [.cells [slL q1 ls.length c1, .int .i64 a, .int .i64 b, slS q2 ss.length c2, .int .i64 t, .int .i64 c] true, .cells [.int .i64 k, .int .i64 x, .int .i64 y, .int .i64 z] true, .cells [.slice none 0 0 none, .int .i64 0, .int .i64 0, .slice none 0 0 none, .int .i64 0, .int .i64 0] true, .cells (encL ls) true, .cells (encS ss) true, .cells [slL (H.length + 3) (ls.length) none, .int .i64 a, .int .i64 b, slS (H.length + 4) (ss.length) none, .int .i64 t, .int .i64 c] true], none⟩⟩ = rest4F_DoTask pr ⟨[stV (slL q1 ls.length c1) a b (slS q2 ss.length c2) t c, tkV k x y z, .ptr (some (H.length, 0)), .ptr (some (H.length + 1, 0)), .ptr (some (H.length + 2, 0)), .bool false, .ptr (some (H.length + 5, 0)), .bool false, .bool (decide (0 ≤ x) && decide (x ≤ (ls.length : Int) - 1)), .bool (decide (0 ≤ x) && decide (x ≤ (ss.length : Int) - 1)), .bool false, .undef, .undef, .undef, .undef, .undef, .undef, .undef, .undef, .undef, .undef, .undef, .undef], ⟨H ++ [.cells [slL q1 ls.length c1, .int .i64 a, .int .i64 b, slS q2 ss.length c2, .int .i64 t, .int .i64 c] true, .cells [.int .i64 k, .int .i64 x, .int .i64 y, .int .i64 z] true, .cells [.slice none 0 0 none, .int .i64 0, .int .i64 0, .slice none 0 0 none, .int .i64 0, .int .i64 0] true, .cells (encL ls) true, .cells (encS ss) true, .cells [slL (H.length + 3) (ls.length) none, .int .i64 a, .int .i64 b, slS (H.length + 4) (ss.length) none, .int .i64 t, .int .i64 c] true], none⟩⟩ := by
  have hw1 : IntKind.i64.wrap ((ls.length : Int) - 1) = (ls.length : Int) - 1 := wrap64 (by omega) (by omega)
  have hw2 : IntKind.i64.wrap ((ss.length : Int) - 1) = (ss.length : Int) - 1 := wrap64 (by omega) (by omega)
  have hfold := rest4_fold (pr := pr)
  simp only [rest4_DoTask, sndC, c_i_DoTask] at hfold
  unfold rest3F_DoTask rest3_DoTask
  simp only [sndC, c_i_DoTask]
  simp (config := { maxSteps := 2000000, contextual := true }) only [hfold, e_i_within, hw1, hw2, under_slice, under_sliceN, Nat.add_assoc, Nat.add_lt_add_iff_left, Nat.lt_irrefl, clean_minEsc, clean_none, Nat.le_add_right, Nat.le_refl, Int.reduceEq, not_true_eq_false, not_false_eq_true, decide_true, decide_false, go_sem, entry, joinEsc, if_pos, reduceIte, Nat.reduceAdd, Nat.reduceLeDiff, Nat.reduceLT, Nat.reduceEqDiff]

set_option maxHeartbeats 8000000 in
theorem DoTask_k1 {q1 q2 : Nat} {c1 c2 : Option Nat} {ls : List Ld} {ss : List Sg} {a b t c : Int} (hn : ls.length ≤ 1048575) (hm : ss.length ≤ 1048575) (x : Int) (y z : Int) {isL isS : Bool} :
    rest4F_DoTask pr ⟨[stV (slL q1 ls.length c1) a b (slS q2 ss.length c2) t c, tkV 1 x y z, .ptr (some (H.length, 0)), .ptr (some (H.length + 1, 0)), .ptr (some (H.length + 2, 0)), .bool false, .ptr (some (H.length + 5, 0)), .bool false, .bool isL, .bool isS, .bool false, .undef, .undef, .undef, .undef, .undef, .undef, .undef, .undef, .undef, .undef, .undef, .undef], ⟨H ++ [.cells [slL q1 ls.length c1, .int .i64 a, .int .i64 b, slS q2 ss.length c2, .int .i64 t, .int .i64 c] true, .cells [.int .i64 1, .int .i64 x, .int .i64 y, .int .i64 z] true, .cells [.slice none 0 0 none, .int .i64 0, .int .i64 0, .slice none 0 0 none, .int .i64 0, .int .i64 0] true, .cells (encL ls) true, .cells (encS ss) true, .cells [slL (H.length + 3) (ls.length) none, .int .i64 a, .int .i64 b, slS (H.length + 4) (ss.length) none, .int .i64 t, .int .i64 c] true], none⟩⟩ = tailF_DoTask pr ⟨[stV (slL q1 ls.length c1) a b (slS q2 ss.length c2) t c, tkV 1 x y z, .ptr (some (H.length, 0)), .ptr (some (H.length + 1, 0)), .ptr (some (H.length + 2, 0)), .bool false, .ptr (some (H.length + 5, 0)), .bool (decide (z = 0)), .bool isL, .bool isS, .bool false, .int .i64 1, .bool true, .undef, .undef, .undef, .undef, .undef, .undef, .undef, .undef, .undef, .undef], ⟨H ++ [.cells [slL q1 ls.length c1, .int .i64 a, .int .i64 b, slS q2 ss.length c2, .int .i64 t, .int .i64 c] true, .cells [.int .i64 1, .int .i64 x, .int .i64 y, .int .i64 z] true, .cells [.slice none 0 0 none, .int .i64 0, .int .i64 0, .slice none 0 0 none, .int .i64 0, .int .i64 0] true, .dead, .cells (encS ss) true, .cells [slL (H.length + 7) (ls.length + 1) none, .int .i64 a, .int .i64 b, slS (H.length + 4) (ss.length) none, .int .i64 t, .int .i64 c] true, .cells [.int .i64 x, .int .i64 y] true, .cells (encL (ls ++ [(x, y)])) true], (minEsc none (H.length + 5))⟩⟩ := by
  have happ := fun L b q c e' (hb : L[b]? = some (.cells (encL ls) true)) hq => append_gen (e := e') (L := L) (b := b) (q := q) (n := ls.length) (sz := 2) (bytes := 16) (c := c) (cs := encL ls) (new := [.int .i64 x, .int .i64 y]) hb hq (encL_length ls) rfl (by unfold maxBytes; omega)
  have hap2 : encL ls ++ [AV.int .i64 x, .int .i64 y] = encL (ls ++ [(x, y)]) := by rw [encL_append]; rfl
  have hfold := tail_fold (pr := pr)
  simp only [tail_DoTask, sndC, c_i_DoTask] at hfold
  unfold rest4F_DoTask rest4_DoTask
  simp only [sndC, c_i_DoTask]
  simp (config := { maxSteps := 2000000, contextual := true }) only [hfold, fillParts, or_true, true_or, Option.some.injEq, eq_self, happ, hap2, under_slice, under_sliceN, Nat.add_assoc, Nat.add_lt_add_iff_left, Nat.lt_irrefl, clean_minEsc, clean_none, Nat.le_add_right, Nat.le_refl, Int.reduceEq, not_true_eq_false, not_false_eq_true, decide_true, decide_false, go_sem, entry, joinEsc, if_pos, reduceIte, Nat.reduceAdd, Nat.reduceLeDiff, Nat.reduceLT, Nat.reduceEqDiff]

set_option maxHeartbeats 8000000 in
theorem DoTask_k2 (hp : HasDelete pr) {q1 q2 : Nat} {c1 c2 : Option Nat} {ls : List Ld} {ss : List Sg} {a b t c : Int} (hn : ls.length ≤ 1048575) (hm : ss.length ≤ 1048575) {x : Nat} (hi : x < ls.length) (y z : Int) {isL isS : Bool} :
    rest4F_DoTask pr ⟨[stV (slL q1 ls.length c1) a b (slS q2 ss.length c2) t c, tkV 2 x y z, .ptr (some (H.length, 0)), .ptr (some (H.length + 1, 0)), .ptr (some (H.length + 2, 0)), .bool false, .ptr (some (H.length + 5, 0)), .bool false, .bool true, .bool isS, .bool false, .undef, .undef, .undef, .undef, .undef, .undef, .undef, .undef, .undef, .undef, .undef, .undef], ⟨H ++ [.cells [slL q1 ls.length c1, .int .i64 a, .int .i64 b, slS q2 ss.length c2, .int .i64 t, .int .i64 c] true, .cells [.int .i64 2, .int .i64 x, .int .i64 y, .int .i64 z] true, .cells [.slice none 0 0 none, .int .i64 0, .int .i64 0, .slice none 0 0 none, .int .i64 0, .int .i64 0] true, .cells (encL ls) true, .cells (encS ss) true, .cells [slL (H.length + 3) (ls.length) none, .int .i64 a, .int .i64 b, slS (H.length + 4) (ss.length) none, .int .i64 t, .int .i64 c] true], none⟩⟩ = tailF_DoTask pr ⟨[stV (slL q1 ls.length c1) a b (slS q2 ss.length c2) t c, tkV 2 x y z, .ptr (some (H.length, 0)), .ptr (some (H.length + 1, 0)), .ptr (some (H.length + 2, 0)), .bool false, .ptr (some (H.length + 5, 0)), .bool (decide (y = 0) && decide (z = 0)), .bool true, .bool isS, .bool false, .int .i64 2, .bool false, .bool true, .bool true, .undef, .undef, .undef, .undef, .undef, .undef, .undef, .undef], ⟨H ++ [.cells [slL q1 ls.length c1, .int .i64 a, .int .i64 b, slS q2 ss.length c2, .int .i64 t, .int .i64 c] true, .cells [.int .i64 2, .int .i64 x, .int .i64 y, .int .i64 z] true, .cells [.slice none 0 0 none, .int .i64 0, .int .i64 0, .slice none 0 0 none, .int .i64 0, .int .i64 0] true, .dead, .cells (encS ss) true, .cells [slL (H.length + 7) (ls.length - 1) none, .int .i64 a, .int .i64 b, slS (H.length + 4) (ss.length) none, .int .i64 t, .int .i64 c] true, .dead, .cells (encL (ls.eraseIdx x)) true], (minEsc none (H.length + 5))⟩⟩ := by
  have hdel : ∀ L e b cap, L[b]? = some (.cells (encL ls) true) → call T pr f_slices_Delete_Si_Load_i_Load [.slice (some (b, 0)) 2 ls.length cap, .int .i64 x, .int .i64 (x + 1 : Nat)] ⟨L, e⟩ = some (.slice (some (L.length + 1, 0)) 2 (ls.length - 1) none, ⟨L.set b .dead ++ [.dead, .cells (encL (ls.eraseIdx x)) true], e⟩) := by
    intro L e b cap hb
    rw [hp.1 L e b ls.length x cap (encL ls) hb (encL_length ls) hi, encL_erase]
  have hfold := tail_fold (pr := pr)
  simp only [tail_DoTask, sndC, c_i_DoTask] at hfold
  unfold rest4F_DoTask rest4_DoTask
  simp only [sndC, c_i_DoTask]
  by_cases hy : y = 0
  · subst hy
    simp (config := { maxSteps := 2000000, contextual := true }) only [hfold, fillParts, or_true, true_or, Option.some.injEq, eq_self, hdel, wrap_succ (show x < 9223372036854775807 by omega), under_slice, under_sliceN, Nat.add_assoc, Nat.add_lt_add_iff_left, Nat.lt_irrefl, clean_minEsc, clean_none, Nat.le_add_right, Nat.le_refl, Int.reduceEq, not_true_eq_false, not_false_eq_true, decide_true, decide_false, go_sem, entry, joinEsc, if_pos, reduceIte, Nat.reduceAdd, Nat.reduceLeDiff, Nat.reduceLT, Nat.reduceEqDiff]
  · simp (config := { maxSteps := 2000000, contextual := true }) only [hy, hfold, fillParts, or_true, true_or, Option.some.injEq, eq_self, hdel, wrap_succ (show x < 9223372036854775807 by omega), under_slice, under_sliceN, Nat.add_assoc, Nat.add_lt_add_iff_left, Nat.lt_irrefl, clean_minEsc, clean_none, Nat.le_add_right, Nat.le_refl, Int.reduceEq, not_true_eq_false, not_false_eq_true, decide_true, decide_false, go_sem, entry, joinEsc, if_pos, reduceIte, Nat.reduceAdd, Nat.reduceLeDiff, Nat.reduceLT, Nat.reduceEqDiff]

set_option maxHeartbeats 8000000 in
theorem DoTask_k2n {q1 q2 : Nat} {c1 c2 : Option Nat} {ls : List Ld} {ss : List Sg} {a b t c : Int} (hn : ls.length ≤ 1048575) (hm : ss.length ≤ 1048575) (x : Int) (y z : Int) {isL isS : Bool} :
    rest4F_DoTask pr ⟨[stV (slL q1 ls.length c1) a b (slS q2 ss.length c2) t c, tkV 2 x y z, .ptr (some (H.length, 0)), .ptr (some (H.length + 1, 0)), .ptr (some (H.length + 2, 0)), .bool false, .ptr (some (H.length + 5, 0)), .bool false, .bool false, .bool isS, .bool false, .undef, .undef, .undef, .undef, .undef, .undef, .undef, .undef, .undef, .undef, .undef, .undef], ⟨H ++ [.cells [slL q1 ls.length c1, .int .i64 a, .int .i64 b, slS q2 ss.length c2, .int .i64 t, .int .i64 c] true, .cells [.int .i64 2, .int .i64 x, .int .i64 y, .int .i64 z] true, .cells [.slice none 0 0 none, .int .i64 0, .int .i64 0, .slice none 0 0 none, .int .i64 0, .int .i64 0] true, .cells (encL ls) true, .cells (encS ss) true, .cells [slL (H.length + 3) (ls.length) none, .int .i64 a, .int .i64 b, slS (H.length + 4) (ss.length) none, .int .i64 t, .int .i64 c] true], none⟩⟩ = tailF_DoTask pr ⟨[stV (slL q1 ls.length c1) a b (slS q2 ss.length c2) t c, tkV 2 x y z, .ptr (some (H.length, 0)), .ptr (some (H.length + 1, 0)), .ptr (some (H.length + 2, 0)), .bool false, .ptr (some (H.length + 5, 0)), .bool false, .bool false, .bool isS, .bool false, .int .i64 2, .bool false, .bool true, .bool false, .undef, .undef, .undef, .undef, .undef, .undef, .undef, .undef], ⟨H ++ [.cells [slL q1 ls.length c1, .int .i64 a, .int .i64 b, slS q2 ss.length c2, .int .i64 t, .int .i64 c] true, .cells [.int .i64 2, .int .i64 x, .int .i64 y, .int .i64 z] true, .cells [.slice none 0 0 none, .int .i64 0, .int .i64 0, .slice none 0 0 none, .int .i64 0, .int .i64 0] true, .cells (encL ls) true, .cells (encS ss) true, .cells [slL (H.length + 3) (ls.length) none, .int .i64 a, .int .i64 b, slS (H.length + 4) (ss.length) none, .int .i64 t, .int .i64 c] true], none⟩⟩ := by
  have hfold := tail_fold (pr := pr)
  simp only [tail_DoTask, sndC, c_i_DoTask] at hfold
  unfold rest4F_DoTask rest4_DoTask
  simp only [sndC, c_i_DoTask]
  simp (config := { maxSteps := 2000000, contextual := true }) only [hfold, fillParts, or_true, true_or, Option.some.injEq, eq_self, under_slice, under_sliceN, Nat.add_assoc, Nat.add_lt_add_iff_left, Nat.lt_irrefl, clean_minEsc, clean_none, Nat.le_add_right, Nat.le_refl, Int.reduceEq, not_true_eq_false, not_false_eq_true, decide_true, decide_false, go_sem, entry, joinEsc, if_pos, reduceIte, Nat.reduceAdd, Nat.reduceLeDiff, Nat.reduceLT, Nat.reduceEqDiff]

set_option maxHeartbeats 8000000 in
theorem DoTask_k3 {q1 q2 : Nat} {c1 c2 : Option Nat} {ls : List Ld} {ss : List Sg} {a b t c : Int} (hn : ls.length ≤ 1048575) (hm : ss.length ≤ 1048575) {x : Nat} (hi : x < ls.length) (y z : Int) {isL isS : Bool} :
    rest4F_DoTask pr ⟨[stV (slL q1 ls.length c1) a b (slS q2 ss.length c2) t c, tkV 3 x y z, .ptr (some (H.length, 0)), .ptr (some (H.length + 1, 0)), .ptr (some (H.length + 2, 0)), .bool false, .ptr (some (H.length + 5, 0)), .bool false, .bool true, .bool isS, .bool false, .undef, .undef, .undef, .undef, .undef, .undef, .undef, .undef, .undef, .undef, .undef, .undef], ⟨H ++ [.cells [slL q1 ls.length c1, .int .i64 a, .int .i64 b, slS q2 ss.length c2, .int .i64 t, .int .i64 c] true, .cells [.int .i64 3, .int .i64 x, .int .i64 y, .int .i64 z] true, .cells [.slice none 0 0 none, .int .i64 0, .int .i64 0, .slice none 0 0 none, .int .i64 0, .int .i64 0] true, .cells (encL ls) true, .cells (encS ss) true, .cells [slL (H.length + 3) (ls.length) none, .int .i64 a, .int .i64 b, slS (H.length + 4) (ss.length) none, .int .i64 t, .int .i64 c] true], none⟩⟩ = tailF_DoTask pr ⟨[stV (slL q1 ls.length c1) a b (slS q2 ss.length c2) t c, tkV 3 x y z, .ptr (some (H.length, 0)), .ptr (some (H.length + 1, 0)), .ptr (some (H.length + 2, 0)), .bool false, .ptr (some (H.length + 5, 0)), .bool (decide (z = 0)), .bool true, .bool isS, .bool false, .int .i64 3, .bool false, .bool false, .undef, .bool true, .bool true, .undef, .undef, .undef, .undef, .undef, .undef], ⟨H ++ [.cells [slL q1 ls.length c1, .int .i64 a, .int .i64 b, slS q2 ss.length c2, .int .i64 t, .int .i64 c] true, .cells [.int .i64 3, .int .i64 x, .int .i64 y, .int .i64 z] true, .cells [.slice none 0 0 none, .int .i64 0, .int .i64 0, .slice none 0 0 none, .int .i64 0, .int .i64 0] true, .cells (encL (movd ls x y)) true, .cells (encS ss) true, .cells [slL (H.length + 3) (ls.length) none, .int .i64 a, .int .i64 b, slS (H.length + 4) (ss.length) none, .int .i64 t, .int .i64 c] true], none⟩⟩ := by
  have hle : x * 2 + 1 ≤ (encL ls).length := by rw [encL_length]; omega
  have hle2 : x * 2 + 2 ≤ (encL ls).length := by rw [encL_length]; omega
  have hfold := tail_fold (pr := pr)
  simp only [tail_DoTask, sndC, c_i_DoTask] at hfold
  unfold rest4F_DoTask rest4_DoTask
  simp only [sndC, c_i_DoTask]
  simp (config := { maxSteps := 2000000, contextual := true }) only [hfold, fillParts, or_true, true_or, Option.some.injEq, eq_self, hi, hle, hle2, setRange_movd y hi, under_slice, under_sliceN, Nat.add_assoc, Nat.add_lt_add_iff_left, Nat.lt_irrefl, clean_minEsc, clean_none, Nat.le_add_right, Nat.le_refl, Int.reduceEq, not_true_eq_false, not_false_eq_true, decide_true, decide_false, go_sem, entry, joinEsc, if_pos, reduceIte, Nat.reduceAdd, Nat.reduceLeDiff, Nat.reduceLT, Nat.reduceEqDiff]

set_option maxHeartbeats 8000000 in
theorem DoTask_k3n {q1 q2 : Nat} {c1 c2 : Option Nat} {ls : List Ld} {ss : List Sg} {a b t c : Int} (hn : ls.length ≤ 1048575) (hm : ss.length ≤ 1048575) (x : Int) (y z : Int) {isL isS : Bool} :
    rest4F_DoTask pr ⟨[stV (slL q1 ls.length c1) a b (slS q2 ss.length c2) t c, tkV 3 x y z, .ptr (some (H.length, 0)), .ptr (some (H.length + 1, 0)), .ptr (some (H.length + 2, 0)), .bool false, .ptr (some (H.length + 5, 0)), .bool false, .bool false, .bool isS, .bool false, .undef, .undef, .undef, .undef, .undef, .undef, .undef, .undef, .undef, .undef, .undef, .undef], ⟨H ++ [.cells [slL q1 ls.length c1, .int .i64 a, .int .i64 b, slS q2 ss.length c2, .int .i64 t, .int .i64 c] true, .cells [.int .i64 3, .int .i64 x, .int .i64 y, .int .i64 z] true, .cells [.slice none 0 0 none, .int .i64 0, .int .i64 0, .slice none 0 0 none, .int .i64 0, .int .i64 0] true, .cells (encL ls) true, .cells (encS ss) true, .cells [slL (H.length + 3) (ls.length) none, .int .i64 a, .int .i64 b, slS (H.length + 4) (ss.length) none, .int .i64 t, .int .i64 c] true], none⟩⟩ = tailF_DoTask pr ⟨[stV (slL q1 ls.length c1) a b (slS q2 ss.length c2) t c, tkV 3 x y z, .ptr (some (H.length, 0)), .ptr (some (H.length + 1, 0)), .ptr (some (H.length + 2, 0)), .bool false, .ptr (some (H.length + 5, 0)), .bool false, .bool false, .bool isS, .bool false, .int .i64 3, .bool false, .bool false, .undef, .bool true, .bool false, .undef, .undef, .undef, .undef, .undef, .undef], ⟨H ++ [.cells [slL q1 ls.length c1, .int .i64 a, .int .i64 b, slS q2 ss.length c2, .int .i64 t, .int .i64 c] true, .cells [.int .i64 3, .int .i64 x, .int .i64 y, .int .i64 z] true, .cells [.slice none 0 0 none, .int .i64 0, .int .i64 0, .slice none 0 0 none, .int .i64 0, .int .i64 0] true, .cells (encL ls) true, .cells (encS ss) true, .cells [slL (H.length + 3) (ls.length) none, .int .i64 a, .int .i64 b, slS (H.length + 4) (ss.length) none, .int .i64 t, .int .i64 c] true], none⟩⟩ := by
  have hfold := tail_fold (pr := pr)
  simp only [tail_DoTask, sndC, c_i_DoTask] at hfold
  unfold rest4F_DoTask rest4_DoTask
  simp only [sndC, c_i_DoTask]
  simp (config := { maxSteps := 2000000, contextual := true }) only [hfold, fillParts, or_true, true_or, Option.some.injEq, eq_self, under_slice, under_sliceN, Nat.add_assoc, Nat.add_lt_add_iff_left, Nat.lt_irrefl, clean_minEsc, clean_none, Nat.le_add_right, Nat.le_refl, Int.reduceEq, not_true_eq_false, not_false_eq_true, decide_true, decide_false, go_sem, entry, joinEsc, if_pos, reduceIte, Nat.reduceAdd, Nat.reduceLeDiff, Nat.reduceLT, Nat.reduceEqDiff]

set_option maxHeartbeats 8000000 in
theorem DoTask_k4 {q1 q2 : Nat} {c1 c2 : Option Nat} {ls : List Ld} {ss : List Sg} {a b t c : Int} (hn : ls.length ≤ 1048575) (hm : ss.length ≤ 1048575) (x : Int) (y z : Int) {isL isS : Bool} :
    rest4F_DoTask pr ⟨[stV (slL q1 ls.length c1) a b (slS q2 ss.length c2) t c, tkV 4 x y z, .ptr (some (H.length, 0)), .ptr (some (H.length + 1, 0)), .ptr (some (H.length + 2, 0)), .bool false, .ptr (some (H.length + 5, 0)), .bool false, .bool isL, .bool isS, .bool false, .undef, .undef, .undef, .undef, .undef, .undef, .undef, .undef, .undef, .undef, .undef, .undef], ⟨H ++ [.cells [slL q1 ls.length c1, .int .i64 a, .int .i64 b, slS q2 ss.length c2, .int .i64 t, .int .i64 c] true, .cells [.int .i64 4, .int .i64 x, .int .i64 y, .int .i64 z] true, .cells [.slice none 0 0 none, .int .i64 0, .int .i64 0, .slice none 0 0 none, .int .i64 0, .int .i64 0] true, .cells (encL ls) true, .cells (encS ss) true, .cells [slL (H.length + 3) (ls.length) none, .int .i64 a, .int .i64 b, slS (H.length + 4) (ss.length) none, .int .i64 t, .int .i64 c] true], none⟩⟩ = tailF_DoTask pr ⟨[stV (slL q1 ls.length c1) a b (slS q2 ss.length c2) t c, tkV 4 x y z, .ptr (some (H.length, 0)), .ptr (some (H.length + 1, 0)), .ptr (some (H.length + 2, 0)), .bool false, .ptr (some (H.length + 5, 0)), .bool (decide (z = 0)), .bool isL, .bool isS, .bool false, .int .i64 4, .bool false, .bool false, .undef, .bool false, .undef, .bool true, .undef, .undef, .undef, .undef, .undef], ⟨H ++ [.cells [slL q1 ls.length c1, .int .i64 a, .int .i64 b, slS q2 ss.length c2, .int .i64 t, .int .i64 c] true, .cells [.int .i64 4, .int .i64 x, .int .i64 y, .int .i64 z] true, .cells [.slice none 0 0 none, .int .i64 0, .int .i64 0, .slice none 0 0 none, .int .i64 0, .int .i64 0] true, .cells (encL ls) true, .cells (encS ss) true, .cells [slL (H.length + 3) (ls.length) none, .int .i64 x, .int .i64 y, slS (H.length + 4) (ss.length) none, .int .i64 t, .int .i64 c] true], none⟩⟩ := by
  have hfold := tail_fold (pr := pr)
  simp only [tail_DoTask, sndC, c_i_DoTask] at hfold
  unfold rest4F_DoTask rest4_DoTask
  simp only [sndC, c_i_DoTask]
  simp (config := { maxSteps := 2000000, contextual := true }) only [hfold, fillParts, or_true, true_or, Option.some.injEq, eq_self, under_slice, under_sliceN, Nat.add_assoc, Nat.add_lt_add_iff_left, Nat.lt_irrefl, clean_minEsc, clean_none, Nat.le_add_right, Nat.le_refl, Int.reduceEq, not_true_eq_false, not_false_eq_true, decide_true, decide_false, go_sem, entry, joinEsc, if_pos, reduceIte, Nat.reduceAdd, Nat.reduceLeDiff, Nat.reduceLT, Nat.reduceEqDiff]

set_option maxHeartbeats 8000000 in
theorem DoTask_k5 {q1 q2 : Nat} {c1 c2 : Option Nat} {ls : List Ld} {ss : List Sg} {a b t c : Int} (hn : ls.length ≤ 1048575) (hm : ss.length ≤ 1048575) (x : Int) (y z : Int) {isL isS : Bool} :
    rest4F_DoTask pr ⟨[stV (slL q1 ls.length c1) a b (slS q2 ss.length c2) t c, tkV 5 x y z, .ptr (some (H.length, 0)), .ptr (some (H.length + 1, 0)), .ptr (some (H.length + 2, 0)), .bool false, .ptr (some (H.length + 5, 0)), .bool false, .bool isL, .bool isS, .bool false, .undef, .undef, .undef, .undef, .undef, .undef, .undef, .undef, .undef, .undef, .undef, .undef], ⟨H ++ [.cells [slL q1 ls.length c1, .int .i64 a, .int .i64 b, slS q2 ss.length c2, .int .i64 t, .int .i64 c] true, .cells [.int .i64 5, .int .i64 x, .int .i64 y, .int .i64 z] true, .cells [.slice none 0 0 none, .int .i64 0, .int .i64 0, .slice none 0 0 none, .int .i64 0, .int .i64 0] true, .cells (encL ls) true, .cells (encS ss) true, .cells [slL (H.length + 3) (ls.length) none, .int .i64 a, .int .i64 b, slS (H.length + 4) (ss.length) none, .int .i64 t, .int .i64 c] true], none⟩⟩ = tailF_DoTask pr ⟨[stV (slL q1 ls.length c1) a b (slS q2 ss.length c2) t c, tkV 5 x y z, .ptr (some (H.length, 0)), .ptr (some (H.length + 1, 0)), .ptr (some (H.length + 2, 0)), .bool false, .ptr (some (H.length + 5, 0)), .bool true, .bool isL, .bool isS, .bool false, .int .i64 5, .bool false, .bool false, .undef, .bool false, .undef, .bool false, .bool true, .undef, .undef, .undef, .undef], ⟨H ++ [.cells [slL q1 ls.length c1, .int .i64 a, .int .i64 b, slS q2 ss.length c2, .int .i64 t, .int .i64 c] true, .cells [.int .i64 5, .int .i64 x, .int .i64 y, .int .i64 z] true, .cells [.slice none 0 0 none, .int .i64 0, .int .i64 0, .slice none 0 0 none, .int .i64 0, .int .i64 0] true, .cells (encL ls) true, .dead, .cells [slL (H.length + 3) (ls.length) none, .int .i64 a, .int .i64 b, slS (H.length + 7) (ss.length + 1) none, .int .i64 t, .int .i64 c] true, .cells [.int .i64 x, .int .i64 y, .int .i64 z] true, .cells (encS (ss ++ [(x, y, z)])) true], (minEsc none (H.length + 5))⟩⟩ := by
  have happ := fun L b q c e' (hb : L[b]? = some (.cells (encS ss) true)) hq => append_gen (e := e') (L := L) (b := b) (q := q) (n := ss.length) (sz := 3) (bytes := 24) (c := c) (cs := encS ss) (new := [.int .i64 x, .int .i64 y, .int .i64 z]) hb hq (encS_length ss) rfl (by unfold maxBytes; omega)
  have hap2 : encS ss ++ [AV.int .i64 x, .int .i64 y, .int .i64 z] = encS (ss ++ [(x, y, z)]) := by rw [encS_append]; rfl
  have hfold := tail_fold (pr := pr)
  simp only [tail_DoTask, sndC, c_i_DoTask] at hfold
  unfold rest4F_DoTask rest4_DoTask
  simp only [sndC, c_i_DoTask]
  simp (config := { maxSteps := 2000000, contextual := true }) only [hfold, fillParts, or_true, true_or, Option.some.injEq, eq_self, happ, hap2, under_slice, under_sliceN, Nat.add_assoc, Nat.add_lt_add_iff_left, Nat.lt_irrefl, clean_minEsc, clean_none, Nat.le_add_right, Nat.le_refl, Int.reduceEq, not_true_eq_false, not_false_eq_true, decide_true, decide_false, go_sem, entry, joinEsc, if_pos, reduceIte, Nat.reduceAdd, Nat.reduceLeDiff, Nat.reduceLT, Nat.reduceEqDiff]

set_option maxHeartbeats 8000000 in
theorem DoTask_k6 (hp : HasDelete pr) {q1 q2 : Nat} {c1 c2 : Option Nat} {ls : List Ld} {ss : List Sg} {a b t c : Int} (hn : ls.length ≤ 1048575) (hm : ss.length ≤ 1048575) {x : Nat} (hi : x < ss.length) (y z : Int) {isL isS : Bool} :
    rest4F_DoTask pr ⟨[stV (slL q1 ls.length c1) a b (slS q2 ss.length c2) t c, tkV 6 x y z, .ptr (some (H.length, 0)), .ptr (some (H.length + 1, 0)), .ptr (some (H.length + 2, 0)), .bool false, .ptr (some (H.length + 5, 0)), .bool false, .bool isL, .bool true, .bool false, .undef, .undef, .undef, .undef, .undef, .undef, .undef, .undef, .undef, .undef, .undef, .undef], ⟨H ++ [.cells [slL q1 ls.length c1, .int .i64 a, .int .i64 b, slS q2 ss.length c2, .int .i64 t, .int .i64 c] true, .cells [.int .i64 6, .int .i64 x, .int .i64 y, .int .i64 z] true, .cells [.slice none 0 0 none, .int .i64 0, .int .i64 0, .slice none 0 0 none, .int .i64 0, .int .i64 0] true, .cells (encL ls) true, .cells (encS ss) true, .cells [slL (H.length + 3) (ls.length) none, .int .i64 a, .int .i64 b, slS (H.length + 4) (ss.length) none, .int .i64 t, .int .i64 c] true], none⟩⟩ = tailF_DoTask pr ⟨[stV (slL q1 ls.length c1) a b (slS q2 ss.length c2) t c, tkV 6 x y z, .ptr (some (H.length, 0)), .ptr (some (H.length + 1, 0)), .ptr (some (H.length + 2, 0)), .bool false, .ptr (some (H.length + 5, 0)), .bool (decide (y = 0) && decide (z = 0)), .bool isL, .bool true, .bool false, .int .i64 6, .bool false, .bool false, .undef, .bool false, .undef, .bool false, .bool false, .bool true, .bool true, .undef, .undef], ⟨H ++ [.cells [slL q1 ls.length c1, .int .i64 a, .int .i64 b, slS q2 ss.length c2, .int .i64 t, .int .i64 c] true, .cells [.int .i64 6, .int .i64 x, .int .i64 y, .int .i64 z] true, .cells [.slice none 0 0 none, .int .i64 0, .int .i64 0, .slice none 0 0 none, .int .i64 0, .int .i64 0] true, .cells (encL ls) true, .dead, .cells [slL (H.length + 3) (ls.length) none, .int .i64 a, .int .i64 b, slS (H.length + 7) (ss.length - 1) none, .int .i64 t, .int .i64 c] true, .dead, .cells (encS (ss.eraseIdx x)) true], (minEsc none (H.length + 5))⟩⟩ := by
  have hdel : ∀ L e b cap, L[b]? = some (.cells (encS ss) true) → call T pr f_slices_Delete_Si_Stage_i_Stage [.slice (some (b, 0)) 3 ss.length cap, .int .i64 x, .int .i64 (x + 1 : Nat)] ⟨L, e⟩ = some (.slice (some (L.length + 1, 0)) 3 (ss.length - 1) none, ⟨L.set b .dead ++ [.dead, .cells (encS (ss.eraseIdx x)) true], e⟩) := by
    intro L e b cap hb
    rw [hp.2 L e b ss.length x cap (encS ss) hb (encS_length ss) hi, encS_erase]
  have hfold := tail_fold (pr := pr)
  simp only [tail_DoTask, sndC, c_i_DoTask] at hfold
  unfold rest4F_DoTask rest4_DoTask
  simp only [sndC, c_i_DoTask]
  by_cases hy : y = 0
  · subst hy
    simp (config := { maxSteps := 2000000, contextual := true }) only [hfold, fillParts, or_true, true_or, Option.some.injEq, eq_self, hdel, wrap_succ (show x < 9223372036854775807 by omega), under_slice, under_sliceN, Nat.add_assoc, Nat.add_lt_add_iff_left, Nat.lt_irrefl, clean_minEsc, clean_none, Nat.le_add_right, Nat.le_refl, Int.reduceEq, not_true_eq_false, not_false_eq_true, decide_true, decide_false, go_sem, entry, joinEsc, if_pos, reduceIte, Nat.reduceAdd, Nat.reduceLeDiff, Nat.reduceLT, Nat.reduceEqDiff]
  · simp (config := { maxSteps := 2000000, contextual := true }) only [hy, hfold, fillParts, or_true, true_or, Option.some.injEq, eq_self, hdel, wrap_succ (show x < 9223372036854775807 by omega), under_slice, under_sliceN, Nat.add_assoc, Nat.add_lt_add_iff_left, Nat.lt_irrefl, clean_minEsc, clean_none, Nat.le_add_right, Nat.le_refl, Int.reduceEq, not_true_eq_false, not_false_eq_true, decide_true, decide_false, go_sem, entry, joinEsc, if_pos, reduceIte, Nat.reduceAdd, Nat.reduceLeDiff, Nat.reduceLT, Nat.reduceEqDiff]

set_option maxHeartbeats 8000000 in
theorem DoTask_k6n {q1 q2 : Nat} {c1 c2 : Option Nat} {ls : List Ld} {ss : List Sg} {a b t c : Int} (hn : ls.length ≤ 1048575) (hm : ss.length ≤ 1048575) (x : Int) (y z : Int) {isL isS : Bool} :
    rest4F_DoTask pr ⟨[stV (slL q1 ls.length c1) a b (slS q2 ss.length c2) t c, tkV 6 x y z, .ptr (some (H.length, 0)), .ptr (some (H.length + 1, 0)), .ptr (some (H.length + 2, 0)), .bool false, .ptr (some (H.length + 5, 0)), .bool false, .bool isL, .bool false, .bool false, .undef, .undef, .undef, .undef, .undef, .undef, .undef, .undef, .undef, .undef, .undef, .undef], ⟨H ++ [.cells [slL q1 ls.length c1, .int .i64 a, .int .i64 b, slS q2 ss.length c2, .int .i64 t, .int .i64 c] true, .cells [.int .i64 6, .int .i64 x, .int .i64 y, .int .i64 z] true, .cells [.slice none 0 0 none, .int .i64 0, .int .i64 0, .slice none 0 0 none, .int .i64 0, .int .i64 0] true, .cells (encL ls) true, .cells (encS ss) true, .cells [slL (H.length + 3) (ls.length) none, .int .i64 a, .int .i64 b, slS (H.length + 4) (ss.length) none, .int .i64 t, .int .i64 c] true], none⟩⟩ = tailF_DoTask pr ⟨[stV (slL q1 ls.length c1) a b (slS q2 ss.length c2) t c, tkV 6 x y z, .ptr (some (H.length, 0)), .ptr (some (H.length + 1, 0)), .ptr (some (H.length + 2, 0)), .bool false, .ptr (some (H.length + 5, 0)), .bool false, .bool isL, .bool false, .bool false, .int .i64 6, .bool false, .bool false, .undef, .bool false, .undef, .bool false, .bool false, .bool true, .bool false, .undef, .undef], ⟨H ++ [.cells [slL q1 ls.length c1, .int .i64 a, .int .i64 b, slS q2 ss.length c2, .int .i64 t, .int .i64 c] true, .cells [.int .i64 6, .int .i64 x, .int .i64 y, .int .i64 z] true, .cells [.slice none 0 0 none, .int .i64 0, .int .i64 0, .slice none 0 0 none, .int .i64 0, .int .i64 0] true, .cells (encL ls) true, .cells (encS ss) true, .cells [slL (H.length + 3) (ls.length) none, .int .i64 a, .int .i64 b, slS (H.length + 4) (ss.length) none, .int .i64 t, .int .i64 c] true], none⟩⟩ := by
  have hfold := tail_fold (pr := pr)
  simp only [tail_DoTask, sndC, c_i_DoTask] at hfold
  unfold rest4F_DoTask rest4_DoTask
  simp only [sndC, c_i_DoTask]
  simp (config := { maxSteps := 2000000, contextual := true }) only [hfold, fillParts, or_true, true_or, Option.some.injEq, eq_self, under_slice, under_sliceN, Nat.add_assoc, Nat.add_lt_add_iff_left, Nat.lt_irrefl, clean_minEsc, clean_none, Nat.le_add_right, Nat.le_refl, Int.reduceEq, not_true_eq_false, not_false_eq_true, decide_true, decide_false, go_sem, entry, joinEsc, if_pos, reduceIte, Nat.reduceAdd, Nat.reduceLeDiff, Nat.reduceLT, Nat.reduceEqDiff]

set_option maxHeartbeats 8000000 in
theorem DoTask_ke {q1 q2 : Nat} {c1 c2 : Option Nat} {ls : List Ld} {ss : List Sg} {a b t c : Int} (k x y z : Int) (k1 : ¬ k = 1) (k2 : ¬ k = 2) (k3 : ¬ k = 3) (k4 : ¬ k = 4) (k5 : ¬ k = 5) (k6 : ¬ k = 6) {isL isS : Bool} :
    rest4F_DoTask pr ⟨[stV (slL q1 ls.length c1) a b (slS q2 ss.length c2) t c, tkV k x y z, .ptr (some (H.length, 0)), .ptr (some (H.length + 1, 0)), .ptr (some (H.length + 2, 0)), .bool false, .ptr (some (H.length + 5, 0)), .bool false, .bool isL, .bool isS, .bool false, .undef, .undef, .undef, .undef, .undef, .undef, .undef, .undef, .undef, .undef, .undef, .undef], ⟨H ++ [.cells [slL q1 ls.length c1, .int .i64 a, .int .i64 b, slS q2 ss.length c2, .int .i64 t, .int .i64 c] true, .cells [.int .i64 k, .int .i64 x, .int .i64 y, .int .i64 z] true, .cells [.slice none 0 0 none, .int .i64 0, .int .i64 0, .slice none 0 0 none, .int .i64 0, .int .i64 0] true, .cells (encL ls) true, .cells (encS ss) true, .cells [slL (H.length + 3) (ls.length) none, .int .i64 a, .int .i64 b, slS (H.length + 4) (ss.length) none, .int .i64 t, .int .i64 c] true], none⟩⟩ = tailF_DoTask pr ⟨[stV (slL q1 ls.length c1) a b (slS q2 ss.length c2) t c, tkV k x y z, .ptr (some (H.length, 0)), .ptr (some (H.length + 1, 0)), .ptr (some (H.length + 2, 0)), .bool false, .ptr (some (H.length + 5, 0)), .bool false, .bool isL, .bool isS, .bool false, .int .i64 k, .bool false, .bool false, .undef, .bool false, .undef, .bool false, .bool false, .bool false, .undef, .undef, .undef], ⟨H ++ [.cells [slL q1 ls.length c1, .int .i64 a, .int .i64 b, slS q2 ss.length c2, .int .i64 t, .int .i64 c] true, .cells [.int .i64 k, .int .i64 x, .int .i64 y, .int .i64 z] true, .cells [.slice none 0 0 none, .int .i64 0, .int .i64 0, .slice none 0 0 none, .int .i64 0, .int .i64 0] true, .cells (encL ls) true, .cells (encS ss) true, .cells [slL (H.length + 3) (ls.length) none, .int .i64 a, .int .i64 b, slS (H.length + 4) (ss.length) none, .int .i64 t, .int .i64 c] true], none⟩⟩ := by
  have hfold := tail_fold (pr := pr)
  simp only [tail_DoTask, sndC, c_i_DoTask] at hfold
  unfold rest4F_DoTask rest4_DoTask
  simp only [sndC, c_i_DoTask]
  simp (config := { maxSteps := 2000000, contextual := true }) only [hfold, fillParts, k1, k2, k3, k4, k5, k6, under_slice, under_sliceN, Nat.add_assoc, Nat.add_lt_add_iff_left, Nat.lt_irrefl, clean_minEsc, clean_none, Nat.le_add_right, Nat.le_refl, Int.reduceEq, not_true_eq_false, not_false_eq_true, decide_true, decide_false, go_sem, entry, joinEsc, if_pos, reduceIte, Nat.reduceAdd, Nat.reduceLeDiff, Nat.reduceLT, Nat.reduceEqDiff]

end Go.Proofs.Ytlocjmbfcdfjfaa.Slim

/- Tasks of a stand: DoTask, told whole; the law. -/
namespace Go.Proofs.Ytlocjmbfcdfjfaa.Slim

open Go

set_option linter.unusedSimpArgs false

set_option linter.unusedVariables false

variable {pr : Prims} {H : List Blk} {e : Option Nat}

theorem fin_no (B0 B1 X3 X4 B5 : Blk) (G : List Blk) (y0 y1 y2 y3 y6 : AV) (ys : List AV) (e1 : Option Nat) (hc : clean H.length e1 = true) :
    endCall a_i_DoTask ⟨H, e⟩ (some (Ex.ret, ⟨y0 :: y1 :: y2 :: y3 :: .ptr (some (H.length + 2, 0)) :: .bool false :: y6 :: ys, ⟨H ++ (B0 :: B1 :: .cells [.slice none 0 0 none, .int .i64 0, .int .i64 0, .slice none 0 0 none, .int .i64 0, .int .i64 0] true :: X3 :: X4 :: B5 :: G), e1⟩⟩)) = some (.tup [noStand, .bool false], ⟨H, e⟩) := by
  have hfN : ∀ (G : List Blk) (e0 e1 : Option Nat), clean H.length e1 = true → finish 2 H.length e0 (.tup [noStand, .bool false]) ⟨H ++ G, e1⟩ = some (.tup [noStand, .bool false], ⟨H, e0⟩) :=
    fun G e0 e1 hc => finish_standN 0 0 0 0 false e0 e1 hc
  simp +contextual only [a_i_DoTask, hfN, hc, go_sem, entry, joinEsc, if_pos, reduceIte, Nat.reduceAdd, Nat.reduceLeDiff, Nat.reduceLT, Nat.reduceEqDiff]

theorem fin_yes (B0 B1 X3 X4 B5 : Blk) (G : List Blk) (y0 y1 y2 y3 y6 : AV) (ys : List AV) (e1 : Option Nat) {j1 j2 n m : Nat} {a b t c : Int} {ls : List Ld} {ss : List Sg} (hc : clean H.length e1 = true) (hn : ls.length = n) (hm : ss.length = m) (hj : j1 ≠ j2)
    (h1 : ∀ B2, (B0 :: B1 :: B2 :: X3 :: X4 :: B5 :: G)[j1]? = some (.cells (encL ls) true)) (h2 : ∀ B2, (B0 :: B1 :: B2 :: X3 :: X4 :: B5 :: G)[j2]? = some (.cells (encS ss) true)) :
    endCall a_i_DoTask ⟨H, e⟩ (some (Ex.ret, ⟨y0 :: y1 :: y2 :: y3 :: .ptr (some (H.length + 2, 0)) :: .bool true :: y6 :: ys, ⟨H ++ (B0 :: B1 :: .cells [slL (H.length + j1) n none, .int .i64 a, .int .i64 b, slS (H.length + j2) m none, .int .i64 t, .int .i64 c] true :: X3 :: X4 :: B5 :: G), e1⟩⟩)) =
      some (.tup [stV (slL H.length n none) a b (slS (H.length + 1) m none) t c, .bool true], ⟨H ++ [.cells (encL ls) true, .cells (encS ss) true], e⟩) := by
  have hf : ∀ (B2 : Blk), finish 2 H.length e (.tup [stV (slL (H.length + j1) n none) a b (slS (H.length + j2) m none) t c, .bool true]) ⟨H ++ (B0 :: B1 :: B2 :: X3 :: X4 :: B5 :: G), e1⟩ =
      some (.tup [stV (slL H.length n none) a b (slS (H.length + 1) m none) t c, .bool true], ⟨H ++ [.cells (encL ls) true, .cells (encS ss) true], e⟩) :=
    fun B2 => finish_standB a b t c true e e1 hc (h1 B2) (h2 B2) hj (under_encL _ _) (under_encS _ _)
  simp +contextual only [a_i_DoTask, hf, go_sem, entry, joinEsc, if_pos, reduceIte, Nat.reduceAdd, Nat.reduceLeDiff, Nat.reduceLT, Nat.reduceEqDiff]

theorem DoTask_r1 {q1 q2 : Nat} {c1 c2 : Option Nat} {ls : List Ld} {ss : List Sg} {a b t c : Int} (h1 : cellsAt H q1 = some (encL ls)) (h2 : cellsAt H q2 = some (encS ss)) (hn : ls.length ≤ 1048575) (hm : ss.length ≤ 1048575) (x y z : Int) (hv : stOk ls ss a b t c = true) :
    call T pr f_i_DoTask [stV (slL q1 ls.length c1) a b (slS q2 ss.length c2) t c, tkV 1 x y z] ⟨H, e⟩ =
      doRes H e (doOk ls ss a b t c 1 x y z) (rowT ls 1 x y) (chainT ss 1 x y z) (baseA a 1 x) (baseA b 1 y) (tipsT ls a b t 1 x y) (wr (c + 1)) := by
  rw [DoTask_1 h1 h2 hn hm 1 x y z hv, DoTask_2 hn hm 1 x y z]
  unfold doRes doOk tipsT wr
  have er : rowT ls 1 x y = ls ++ [(x, y)] := by simp [rowT]
  have ec : chainT ss 1 x y z = ss := by simp [chainT]
  have ea : ∀ a x, baseA a 1 x = a := fun a x => by simp [baseA]
  rw [mayT_1, er, ec, ea, ea]
  have hrl : (ls ++ [(x, y)]).length = ls.length + 1 := by simp
  have hcl : ss.length = ss.length := rfl
  rw [DoTask_k1 hn hm x y z]
  cases hz : decide (z = 0) with
  | false =>
    rw [Bool.false_and]
    rw [tail_no (B0 := .cells [slL q1 ls.length c1, .int .i64 a, .int .i64 b, slS q2 ss.length c2, .int .i64 t, .int .i64 c] true) (B1 := .cells [.int .i64 1, .int .i64 x, .int .i64 y, .int .i64 z] true) (X3 := .dead) (X4 := (.cells (encS ss) true)) (G := [.cells [.int .i64 x, .int .i64 y] true, .cells (encL (ls ++ [(x, y)])) true]) (n := ls.length + 1) (m := ss.length) (ls := ls ++ [(x, y)]) (ss := ss) (a := a) (b := b) (t := t) (c := c) (j1 := 7) (j2 := 4) hrl hcl (by omega) (by omega) (fun _ _ => rfl) (fun _ _ => rfl) rfl]
    rw [fin_no _ _ _ _ _ _ _ _ _ _ _ _ _ (by first | rfl | simp [clean, minEsc])]
    rw [if_neg (by simp)]
  | true =>
    rw [Bool.true_and]
    cases hg : stOk (ls ++ [(x, y)]) (ss) a b t (IntKind.i64.wrap (c + 1)) with
    | false =>
      rw [tail_no (B0 := .cells [slL q1 ls.length c1, .int .i64 a, .int .i64 b, slS q2 ss.length c2, .int .i64 t, .int .i64 c] true) (B1 := .cells [.int .i64 1, .int .i64 x, .int .i64 y, .int .i64 z] true) (X3 := .dead) (X4 := (.cells (encS ss) true)) (G := [.cells [.int .i64 x, .int .i64 y] true, .cells (encL (ls ++ [(x, y)])) true]) (n := ls.length + 1) (m := ss.length) (ls := ls ++ [(x, y)]) (ss := ss) (a := a) (b := b) (t := t) (c := c) (j1 := 7) (j2 := 4) hrl hcl (by omega) (by omega) (fun _ _ => rfl) (fun _ _ => rfl) (by rw [hg, Bool.and_false])]
      rw [fin_no _ _ _ _ _ _ _ _ _ _ _ _ _ (by first | rfl | simp [clean, minEsc])]
      rw [if_neg (by simp)]
    | true =>
      rw [tail_yes (B0 := .cells [slL q1 ls.length c1, .int .i64 a, .int .i64 b, slS q2 ss.length c2, .int .i64 t, .int .i64 c] true) (B1 := .cells [.int .i64 1, .int .i64 x, .int .i64 y, .int .i64 z] true) (X3 := .dead) (X4 := (.cells (encS ss) true)) (G := [.cells [.int .i64 x, .int .i64 y] true, .cells (encL (ls ++ [(x, y)])) true]) (n := ls.length + 1) (m := ss.length) (ls := ls ++ [(x, y)]) (ss := ss) (a := a) (b := b) (t := t) (c := c) (j1 := 7) (j2 := 4) hrl hcl (by omega) (by omega) (fun _ _ => rfl) (fun _ _ => rfl) (by omega) hg]
      rw [fin_yes _ _ _ _ _ _ _ _ _ _ _ _ _ (by simp [clean, minEsc]) hrl hcl (by decide) (fun _ => rfl) (fun _ => rfl), hrl, hcl]
      rfl

theorem DoTask_r2 (hp : HasDelete pr) {q1 q2 : Nat} {c1 c2 : Option Nat} {ls : List Ld} {ss : List Sg} {a b t c : Int} (h1 : cellsAt H q1 = some (encL ls)) (h2 : cellsAt H q2 = some (encS ss)) (hn : ls.length ≤ 1048575) (hm : ss.length ≤ 1048575) (x y z : Int) (hv : stOk ls ss a b t c = true) :
    call T pr f_i_DoTask [stV (slL q1 ls.length c1) a b (slS q2 ss.length c2) t c, tkV 2 x y z] ⟨H, e⟩ =
      doRes H e (doOk ls ss a b t c 2 x y z) (rowT ls 2 x y) (chainT ss 2 x y z) (baseA a 2 x) (baseA b 2 y) (tipsT ls a b t 2 x y) (wr (c + 1)) := by
  rw [DoTask_1 h1 h2 hn hm 2 x y z hv, DoTask_2 hn hm 2 x y z]
  unfold doRes doOk tipsT wr
  have er : rowT ls 2 x y = ls.eraseIdx x.toNat := by simp [rowT]
  have ec : chainT ss 2 x y z = ss := by simp [chainT]
  have ea : ∀ a x, baseA a 2 x = a := fun a x => by simp [baseA]
  rw [mayT_2, er, ec, ea, ea]
  cases hb : (decide (0 ≤ x) && decide (x ≤ (ls.length : Int) - 1)) with
  | false =>
    have hrl : ls.length = ls.length := rfl
    have hcl : ss.length = ss.length := rfl
    rw [DoTask_k2n (isL := false) hn hm x y z, Bool.false_and, Bool.false_and, Bool.false_and]
    rw [tail_no (B0 := .cells [slL q1 ls.length c1, .int .i64 a, .int .i64 b, slS q2 ss.length c2, .int .i64 t, .int .i64 c] true) (B1 := .cells [.int .i64 2, .int .i64 x, .int .i64 y, .int .i64 z] true) (X3 := (.cells (encL ls) true)) (X4 := (.cells (encS ss) true)) (G := []) (n := ls.length) (m := ss.length) (ls := ls) (ss := ss) (a := a) (b := b) (t := t) (c := c) (j1 := 3) (j2 := 4) hrl hcl (by omega) (by omega) (fun _ _ => rfl) (fun _ _ => rfl) rfl]
    rw [fin_no _ _ _ _ _ _ _ _ _ _ _ _ _ (by first | rfl | simp [clean, minEsc])]
    rw [if_neg (by simp)]
  | true =>
    have hbb : 0 ≤ x ∧ x ≤ (ls.length : Int) - 1 := by simpa using hb
    obtain ⟨i, rfl⟩ : ∃ i : Nat, x = i := ⟨x.toNat, by omega⟩
    have hi : i < ls.length := by omega
    have hrl : (ls.eraseIdx i).length = ls.length - 1 := by rw [List.length_eraseIdx, if_pos hi]
    have hcl : ss.length = ss.length := rfl
    rw [DoTask_k2 hp (isL := false) hn hm hi y z, Int.toNat_natCast, Bool.true_and]
    cases hz : (decide (y = 0) && decide (z = 0)) with
    | false =>
      rw [Bool.false_and]
      rw [tail_no (B0 := .cells [slL q1 ls.length c1, .int .i64 a, .int .i64 b, slS q2 ss.length c2, .int .i64 t, .int .i64 c] true) (B1 := .cells [.int .i64 2, .int .i64 i, .int .i64 y, .int .i64 z] true) (X3 := .dead) (X4 := (.cells (encS ss) true)) (G := [.dead, .cells (encL (ls.eraseIdx i)) true]) (n := ls.length - 1) (m := ss.length) (ls := ls.eraseIdx i) (ss := ss) (a := a) (b := b) (t := t) (c := c) (j1 := 7) (j2 := 4) hrl hcl (by omega) (by omega) (fun _ _ => rfl) (fun _ _ => rfl) rfl]
      rw [fin_no _ _ _ _ _ _ _ _ _ _ _ _ _ (by first | rfl | simp [clean, minEsc])]
      rw [if_neg (by simp)]
    | true =>
      rw [Bool.true_and]
      cases hg : stOk (ls.eraseIdx i) (ss) a b t (IntKind.i64.wrap (c + 1)) with
      | false =>
        rw [tail_no (B0 := .cells [slL q1 ls.length c1, .int .i64 a, .int .i64 b, slS q2 ss.length c2, .int .i64 t, .int .i64 c] true) (B1 := .cells [.int .i64 2, .int .i64 i, .int .i64 y, .int .i64 z] true) (X3 := .dead) (X4 := (.cells (encS ss) true)) (G := [.dead, .cells (encL (ls.eraseIdx i)) true]) (n := ls.length - 1) (m := ss.length) (ls := ls.eraseIdx i) (ss := ss) (a := a) (b := b) (t := t) (c := c) (j1 := 7) (j2 := 4) hrl hcl (by omega) (by omega) (fun _ _ => rfl) (fun _ _ => rfl) (by rw [hg, Bool.and_false])]
        rw [fin_no _ _ _ _ _ _ _ _ _ _ _ _ _ (by first | rfl | simp [clean, minEsc])]
        rw [if_neg (by simp)]
      | true =>
        rw [tail_yes (B0 := .cells [slL q1 ls.length c1, .int .i64 a, .int .i64 b, slS q2 ss.length c2, .int .i64 t, .int .i64 c] true) (B1 := .cells [.int .i64 2, .int .i64 i, .int .i64 y, .int .i64 z] true) (X3 := .dead) (X4 := (.cells (encS ss) true)) (G := [.dead, .cells (encL (ls.eraseIdx i)) true]) (n := ls.length - 1) (m := ss.length) (ls := ls.eraseIdx i) (ss := ss) (a := a) (b := b) (t := t) (c := c) (j1 := 7) (j2 := 4) hrl hcl (by omega) (by omega) (fun _ _ => rfl) (fun _ _ => rfl) (by omega) hg]
        rw [fin_yes _ _ _ _ _ _ _ _ _ _ _ _ _ (by simp [clean, minEsc]) hrl hcl (by decide) (fun _ => rfl) (fun _ => rfl), hrl, hcl]
        rfl

theorem DoTask_r3 {q1 q2 : Nat} {c1 c2 : Option Nat} {ls : List Ld} {ss : List Sg} {a b t c : Int} (h1 : cellsAt H q1 = some (encL ls)) (h2 : cellsAt H q2 = some (encS ss)) (hn : ls.length ≤ 1048575) (hm : ss.length ≤ 1048575) (x y z : Int) (hv : stOk ls ss a b t c = true) :
    call T pr f_i_DoTask [stV (slL q1 ls.length c1) a b (slS q2 ss.length c2) t c, tkV 3 x y z] ⟨H, e⟩ =
      doRes H e (doOk ls ss a b t c 3 x y z) (rowT ls 3 x y) (chainT ss 3 x y z) (baseA a 3 x) (baseA b 3 y) (tipsT ls a b t 3 x y) (wr (c + 1)) := by
  rw [DoTask_1 h1 h2 hn hm 3 x y z hv, DoTask_2 hn hm 3 x y z]
  unfold doRes doOk tipsT wr
  have er : rowT ls 3 x y = movd ls x.toNat y := by simp [rowT]
  have ec : chainT ss 3 x y z = ss := by simp [chainT]
  have ea : ∀ a x, baseA a 3 x = a := fun a x => by simp [baseA]
  rw [mayT_3, er, ec, ea, ea]
  cases hb : (decide (0 ≤ x) && decide (x ≤ (ls.length : Int) - 1)) with
  | false =>
    have hrl : ls.length = ls.length := rfl
    have hcl : ss.length = ss.length := rfl
    rw [DoTask_k3n (isL := false) hn hm x y z, Bool.false_and, Bool.false_and]
    rw [tail_no (B0 := .cells [slL q1 ls.length c1, .int .i64 a, .int .i64 b, slS q2 ss.length c2, .int .i64 t, .int .i64 c] true) (B1 := .cells [.int .i64 3, .int .i64 x, .int .i64 y, .int .i64 z] true) (X3 := (.cells (encL ls) true)) (X4 := (.cells (encS ss) true)) (G := []) (n := ls.length) (m := ss.length) (ls := ls) (ss := ss) (a := a) (b := b) (t := t) (c := c) (j1 := 3) (j2 := 4) hrl hcl (by omega) (by omega) (fun _ _ => rfl) (fun _ _ => rfl) rfl]
    rw [fin_no _ _ _ _ _ _ _ _ _ _ _ _ _ (by first | rfl | simp [clean, minEsc])]
    rw [if_neg (by simp)]
  | true =>
    have hbb : 0 ≤ x ∧ x ≤ (ls.length : Int) - 1 := by simpa using hb
    obtain ⟨i, rfl⟩ : ∃ i : Nat, x = i := ⟨x.toNat, by omega⟩
    have hi : i < ls.length := by omega
    have hrl : (movd ls i y).length = ls.length := movd_length ls i y
    have hcl : ss.length = ss.length := rfl
    rw [DoTask_k3 (isL := false) hn hm hi y z, Int.toNat_natCast, Bool.true_and]
    cases hz : decide (z = 0) with
    | false =>
      rw [Bool.false_and]
      rw [tail_no (B0 := .cells [slL q1 ls.length c1, .int .i64 a, .int .i64 b, slS q2 ss.length c2, .int .i64 t, .int .i64 c] true) (B1 := .cells [.int .i64 3, .int .i64 i, .int .i64 y, .int .i64 z] true) (X3 := (.cells (encL (movd ls i y)) true)) (X4 := (.cells (encS ss) true)) (G := []) (n := ls.length) (m := ss.length) (ls := movd ls i y) (ss := ss) (a := a) (b := b) (t := t) (c := c) (j1 := 3) (j2 := 4) hrl hcl (by omega) (by omega) (fun _ _ => rfl) (fun _ _ => rfl) rfl]
      rw [fin_no _ _ _ _ _ _ _ _ _ _ _ _ _ (by first | rfl | simp [clean, minEsc])]
      rw [if_neg (by simp)]
    | true =>
      rw [Bool.true_and]
      cases hg : stOk (movd ls i y) (ss) a b t (IntKind.i64.wrap (c + 1)) with
      | false =>
        rw [tail_no (B0 := .cells [slL q1 ls.length c1, .int .i64 a, .int .i64 b, slS q2 ss.length c2, .int .i64 t, .int .i64 c] true) (B1 := .cells [.int .i64 3, .int .i64 i, .int .i64 y, .int .i64 z] true) (X3 := (.cells (encL (movd ls i y)) true)) (X4 := (.cells (encS ss) true)) (G := []) (n := ls.length) (m := ss.length) (ls := movd ls i y) (ss := ss) (a := a) (b := b) (t := t) (c := c) (j1 := 3) (j2 := 4) hrl hcl (by omega) (by omega) (fun _ _ => rfl) (fun _ _ => rfl) (by rw [hg, Bool.and_false])]
        rw [fin_no _ _ _ _ _ _ _ _ _ _ _ _ _ (by first | rfl | simp [clean, minEsc])]
        rw [if_neg (by simp)]
      | true =>
        rw [tail_yes (B0 := .cells [slL q1 ls.length c1, .int .i64 a, .int .i64 b, slS q2 ss.length c2, .int .i64 t, .int .i64 c] true) (B1 := .cells [.int .i64 3, .int .i64 i, .int .i64 y, .int .i64 z] true) (X3 := (.cells (encL (movd ls i y)) true)) (X4 := (.cells (encS ss) true)) (G := []) (n := ls.length) (m := ss.length) (ls := movd ls i y) (ss := ss) (a := a) (b := b) (t := t) (c := c) (j1 := 3) (j2 := 4) hrl hcl (by omega) (by omega) (fun _ _ => rfl) (fun _ _ => rfl) (by omega) hg]
        rw [fin_yes _ _ _ _ _ _ _ _ _ _ _ _ _ (by simp [clean, minEsc]) hrl hcl (by decide) (fun _ => rfl) (fun _ => rfl), hrl, hcl]
        rfl

theorem DoTask_r4 {q1 q2 : Nat} {c1 c2 : Option Nat} {ls : List Ld} {ss : List Sg} {a b t c : Int} (h1 : cellsAt H q1 = some (encL ls)) (h2 : cellsAt H q2 = some (encS ss)) (hn : ls.length ≤ 1048575) (hm : ss.length ≤ 1048575) (x y z : Int) (hv : stOk ls ss a b t c = true) :
    call T pr f_i_DoTask [stV (slL q1 ls.length c1) a b (slS q2 ss.length c2) t c, tkV 4 x y z] ⟨H, e⟩ =
      doRes H e (doOk ls ss a b t c 4 x y z) (rowT ls 4 x y) (chainT ss 4 x y z) (baseA a 4 x) (baseA b 4 y) (tipsT ls a b t 4 x y) (wr (c + 1)) := by
  rw [DoTask_1 h1 h2 hn hm 4 x y z hv, DoTask_2 hn hm 4 x y z]
  unfold doRes doOk tipsT wr
  have er : rowT ls 4 x y = ls := by simp [rowT]
  have ec : chainT ss 4 x y z = ss := by simp [chainT]
  have ea : ∀ a x, baseA a 4 x = x := fun a x => by simp [baseA]
  rw [mayT_4, er, ec, ea, ea]
  have hrl : ls.length = ls.length := rfl
  have hcl : ss.length = ss.length := rfl
  rw [DoTask_k4 hn hm x y z]
  cases hz : decide (z = 0) with
  | false =>
    rw [Bool.false_and]
    rw [tail_no (B0 := .cells [slL q1 ls.length c1, .int .i64 a, .int .i64 b, slS q2 ss.length c2, .int .i64 t, .int .i64 c] true) (B1 := .cells [.int .i64 4, .int .i64 x, .int .i64 y, .int .i64 z] true) (X3 := (.cells (encL ls) true)) (X4 := (.cells (encS ss) true)) (G := []) (n := ls.length) (m := ss.length) (ls := ls) (ss := ss) (a := x) (b := y) (t := t) (c := c) (j1 := 3) (j2 := 4) hrl hcl (by omega) (by omega) (fun _ _ => rfl) (fun _ _ => rfl) rfl]
    rw [fin_no _ _ _ _ _ _ _ _ _ _ _ _ _ (by first | rfl | simp [clean, minEsc])]
    rw [if_neg (by simp)]
  | true =>
    rw [Bool.true_and]
    cases hg : stOk (ls) (ss) x y t (IntKind.i64.wrap (c + 1)) with
    | false =>
      rw [tail_no (B0 := .cells [slL q1 ls.length c1, .int .i64 a, .int .i64 b, slS q2 ss.length c2, .int .i64 t, .int .i64 c] true) (B1 := .cells [.int .i64 4, .int .i64 x, .int .i64 y, .int .i64 z] true) (X3 := (.cells (encL ls) true)) (X4 := (.cells (encS ss) true)) (G := []) (n := ls.length) (m := ss.length) (ls := ls) (ss := ss) (a := x) (b := y) (t := t) (c := c) (j1 := 3) (j2 := 4) hrl hcl (by omega) (by omega) (fun _ _ => rfl) (fun _ _ => rfl) (by rw [hg, Bool.and_false])]
      rw [fin_no _ _ _ _ _ _ _ _ _ _ _ _ _ (by first | rfl | simp [clean, minEsc])]
      rw [if_neg (by simp)]
    | true =>
      rw [tail_yes (B0 := .cells [slL q1 ls.length c1, .int .i64 a, .int .i64 b, slS q2 ss.length c2, .int .i64 t, .int .i64 c] true) (B1 := .cells [.int .i64 4, .int .i64 x, .int .i64 y, .int .i64 z] true) (X3 := (.cells (encL ls) true)) (X4 := (.cells (encS ss) true)) (G := []) (n := ls.length) (m := ss.length) (ls := ls) (ss := ss) (a := x) (b := y) (t := t) (c := c) (j1 := 3) (j2 := 4) hrl hcl (by omega) (by omega) (fun _ _ => rfl) (fun _ _ => rfl) (by omega) hg]
      rw [fin_yes _ _ _ _ _ _ _ _ _ _ _ _ _ (by simp [clean, minEsc]) hrl hcl (by decide) (fun _ => rfl) (fun _ => rfl), hrl, hcl]
      rfl

theorem DoTask_r5 {q1 q2 : Nat} {c1 c2 : Option Nat} {ls : List Ld} {ss : List Sg} {a b t c : Int} (h1 : cellsAt H q1 = some (encL ls)) (h2 : cellsAt H q2 = some (encS ss)) (hn : ls.length ≤ 1048575) (hm : ss.length ≤ 1048575) (x y z : Int) (hv : stOk ls ss a b t c = true) :
    call T pr f_i_DoTask [stV (slL q1 ls.length c1) a b (slS q2 ss.length c2) t c, tkV 5 x y z] ⟨H, e⟩ =
      doRes H e (doOk ls ss a b t c 5 x y z) (rowT ls 5 x y) (chainT ss 5 x y z) (baseA a 5 x) (baseA b 5 y) (tipsT ls a b t 5 x y) (wr (c + 1)) := by
  rw [DoTask_1 h1 h2 hn hm 5 x y z hv, DoTask_2 hn hm 5 x y z]
  unfold doRes doOk tipsT wr
  have er : rowT ls 5 x y = ls := by simp [rowT]
  have ec : chainT ss 5 x y z = ss ++ [(x, y, z)] := by simp [chainT]
  have ea : ∀ a x, baseA a 5 x = a := fun a x => by simp [baseA]
  rw [mayT_5, er, ec, ea, ea]
  have hrl : ls.length = ls.length := rfl
  have hcl : (ss ++ [(x, y, z)]).length = ss.length + 1 := by simp
  rw [DoTask_k5 hn hm x y z, Bool.true_and]
  cases hg : stOk (ls) (ss ++ [(x, y, z)]) a b t (IntKind.i64.wrap (c + 1)) with
  | false =>
    rw [tail_no (B0 := .cells [slL q1 ls.length c1, .int .i64 a, .int .i64 b, slS q2 ss.length c2, .int .i64 t, .int .i64 c] true) (B1 := .cells [.int .i64 5, .int .i64 x, .int .i64 y, .int .i64 z] true) (X3 := (.cells (encL ls) true)) (X4 := .dead) (G := [.cells [.int .i64 x, .int .i64 y, .int .i64 z] true, .cells (encS (ss ++ [(x, y, z)])) true]) (n := ls.length) (m := ss.length + 1) (ls := ls) (ss := ss ++ [(x, y, z)]) (a := a) (b := b) (t := t) (c := c) (j1 := 3) (j2 := 7) hrl hcl (by omega) (by omega) (fun _ _ => rfl) (fun _ _ => rfl) (by rw [hg, Bool.and_false])]
    rw [fin_no _ _ _ _ _ _ _ _ _ _ _ _ _ (by first | rfl | simp [clean, minEsc])]
    rw [if_neg (by simp)]
  | true =>
    rw [tail_yes (B0 := .cells [slL q1 ls.length c1, .int .i64 a, .int .i64 b, slS q2 ss.length c2, .int .i64 t, .int .i64 c] true) (B1 := .cells [.int .i64 5, .int .i64 x, .int .i64 y, .int .i64 z] true) (X3 := (.cells (encL ls) true)) (X4 := .dead) (G := [.cells [.int .i64 x, .int .i64 y, .int .i64 z] true, .cells (encS (ss ++ [(x, y, z)])) true]) (n := ls.length) (m := ss.length + 1) (ls := ls) (ss := ss ++ [(x, y, z)]) (a := a) (b := b) (t := t) (c := c) (j1 := 3) (j2 := 7) hrl hcl (by omega) (by omega) (fun _ _ => rfl) (fun _ _ => rfl) (by omega) hg]
    rw [fin_yes _ _ _ _ _ _ _ _ _ _ _ _ _ (by simp [clean, minEsc]) hrl hcl (by decide) (fun _ => rfl) (fun _ => rfl), hrl, hcl]
    rfl

theorem DoTask_r6 (hp : HasDelete pr) {q1 q2 : Nat} {c1 c2 : Option Nat} {ls : List Ld} {ss : List Sg} {a b t c : Int} (h1 : cellsAt H q1 = some (encL ls)) (h2 : cellsAt H q2 = some (encS ss)) (hn : ls.length ≤ 1048575) (hm : ss.length ≤ 1048575) (x y z : Int) (hv : stOk ls ss a b t c = true) :
    call T pr f_i_DoTask [stV (slL q1 ls.length c1) a b (slS q2 ss.length c2) t c, tkV 6 x y z] ⟨H, e⟩ =
      doRes H e (doOk ls ss a b t c 6 x y z) (rowT ls 6 x y) (chainT ss 6 x y z) (baseA a 6 x) (baseA b 6 y) (tipsT ls a b t 6 x y) (wr (c + 1)) := by
  rw [DoTask_1 h1 h2 hn hm 6 x y z hv, DoTask_2 hn hm 6 x y z]
  unfold doRes doOk tipsT wr
  have er : rowT ls 6 x y = ls := by simp [rowT]
  have ec : chainT ss 6 x y z = ss.eraseIdx x.toNat := by simp [chainT]
  have ea : ∀ a x, baseA a 6 x = a := fun a x => by simp [baseA]
  rw [mayT_6, er, ec, ea, ea]
  cases hb : (decide (0 ≤ x) && decide (x ≤ (ss.length : Int) - 1)) with
  | false =>
    have hrl : ls.length = ls.length := rfl
    have hcl : ss.length = ss.length := rfl
    rw [DoTask_k6n (isS := false) hn hm x y z, Bool.false_and, Bool.false_and, Bool.false_and]
    rw [tail_no (B0 := .cells [slL q1 ls.length c1, .int .i64 a, .int .i64 b, slS q2 ss.length c2, .int .i64 t, .int .i64 c] true) (B1 := .cells [.int .i64 6, .int .i64 x, .int .i64 y, .int .i64 z] true) (X3 := (.cells (encL ls) true)) (X4 := (.cells (encS ss) true)) (G := []) (n := ls.length) (m := ss.length) (ls := ls) (ss := ss) (a := a) (b := b) (t := t) (c := c) (j1 := 3) (j2 := 4) hrl hcl (by omega) (by omega) (fun _ _ => rfl) (fun _ _ => rfl) rfl]
    rw [fin_no _ _ _ _ _ _ _ _ _ _ _ _ _ (by first | rfl | simp [clean, minEsc])]
    rw [if_neg (by simp)]
  | true =>
    have hbb : 0 ≤ x ∧ x ≤ (ss.length : Int) - 1 := by simpa using hb
    obtain ⟨i, rfl⟩ : ∃ i : Nat, x = i := ⟨x.toNat, by omega⟩
    have hi : i < ss.length := by omega
    have hrl : ls.length = ls.length := rfl
    have hcl : (ss.eraseIdx i).length = ss.length - 1 := by rw [List.length_eraseIdx, if_pos hi]
    rw [DoTask_k6 hp (isS := false) hn hm hi y z, Int.toNat_natCast, Bool.true_and]
    cases hz : (decide (y = 0) && decide (z = 0)) with
    | false =>
      rw [Bool.false_and]
      rw [tail_no (B0 := .cells [slL q1 ls.length c1, .int .i64 a, .int .i64 b, slS q2 ss.length c2, .int .i64 t, .int .i64 c] true) (B1 := .cells [.int .i64 6, .int .i64 i, .int .i64 y, .int .i64 z] true) (X3 := (.cells (encL ls) true)) (X4 := .dead) (G := [.dead, .cells (encS (ss.eraseIdx i)) true]) (n := ls.length) (m := ss.length - 1) (ls := ls) (ss := ss.eraseIdx i) (a := a) (b := b) (t := t) (c := c) (j1 := 3) (j2 := 7) hrl hcl (by omega) (by omega) (fun _ _ => rfl) (fun _ _ => rfl) rfl]
      rw [fin_no _ _ _ _ _ _ _ _ _ _ _ _ _ (by first | rfl | simp [clean, minEsc])]
      rw [if_neg (by simp)]
    | true =>
      rw [Bool.true_and]
      cases hg : stOk (ls) (ss.eraseIdx i) a b t (IntKind.i64.wrap (c + 1)) with
      | false =>
        rw [tail_no (B0 := .cells [slL q1 ls.length c1, .int .i64 a, .int .i64 b, slS q2 ss.length c2, .int .i64 t, .int .i64 c] true) (B1 := .cells [.int .i64 6, .int .i64 i, .int .i64 y, .int .i64 z] true) (X3 := (.cells (encL ls) true)) (X4 := .dead) (G := [.dead, .cells (encS (ss.eraseIdx i)) true]) (n := ls.length) (m := ss.length - 1) (ls := ls) (ss := ss.eraseIdx i) (a := a) (b := b) (t := t) (c := c) (j1 := 3) (j2 := 7) hrl hcl (by omega) (by omega) (fun _ _ => rfl) (fun _ _ => rfl) (by rw [hg, Bool.and_false])]
        rw [fin_no _ _ _ _ _ _ _ _ _ _ _ _ _ (by first | rfl | simp [clean, minEsc])]
        rw [if_neg (by simp)]
      | true =>
        rw [tail_yes (B0 := .cells [slL q1 ls.length c1, .int .i64 a, .int .i64 b, slS q2 ss.length c2, .int .i64 t, .int .i64 c] true) (B1 := .cells [.int .i64 6, .int .i64 i, .int .i64 y, .int .i64 z] true) (X3 := (.cells (encL ls) true)) (X4 := .dead) (G := [.dead, .cells (encS (ss.eraseIdx i)) true]) (n := ls.length) (m := ss.length - 1) (ls := ls) (ss := ss.eraseIdx i) (a := a) (b := b) (t := t) (c := c) (j1 := 3) (j2 := 7) hrl hcl (by omega) (by omega) (fun _ _ => rfl) (fun _ _ => rfl) (by omega) hg]
        rw [fin_yes _ _ _ _ _ _ _ _ _ _ _ _ _ (by simp [clean, minEsc]) hrl hcl (by decide) (fun _ => rfl) (fun _ => rfl), hrl, hcl]
        rfl

theorem DoTask_re {q1 q2 : Nat} {c1 c2 : Option Nat} {ls : List Ld} {ss : List Sg} {a b t c : Int} (h1 : cellsAt H q1 = some (encL ls)) (h2 : cellsAt H q2 = some (encS ss)) (hn : ls.length ≤ 1048575) (hm : ss.length ≤ 1048575) (k x y z : Int) (hv : stOk ls ss a b t c = true) (k1 : ¬ k = 1) (k2 : ¬ k = 2) (k3 : ¬ k = 3) (k4 : ¬ k = 4) (k5 : ¬ k = 5) (k6 : ¬ k = 6) :
    call T pr f_i_DoTask [stV (slL q1 ls.length c1) a b (slS q2 ss.length c2) t c, tkV k x y z] ⟨H, e⟩ =
      doRes H e (doOk ls ss a b t c k x y z) (rowT ls k x y) (chainT ss k x y z) (baseA a k x) (baseA b k y) (tipsT ls a b t k x y) (wr (c + 1)) := by
  rw [DoTask_1 h1 h2 hn hm k x y z hv, DoTask_2 hn hm k x y z]
  unfold doRes doOk tipsT wr
  have em : mayT ls ss k x y z = false := by simp [mayT, k1, k2, k3, k4, k5, k6]
  rw [em, Bool.false_and, DoTask_ke k x y z k1 k2 k3 k4 k5 k6]
  have hrl : ls.length = ls.length := rfl
  have hcl : ss.length = ss.length := rfl
  rw [tail_no (B0 := .cells [slL q1 ls.length c1, .int .i64 a, .int .i64 b, slS q2 ss.length c2, .int .i64 t, .int .i64 c] true) (B1 := .cells [.int .i64 k, .int .i64 x, .int .i64 y, .int .i64 z] true) (X3 := (.cells (encL ls) true)) (X4 := (.cells (encS ss) true)) (G := []) (n := ls.length) (m := ss.length) (ls := ls) (ss := ss) (a := a) (b := b) (t := t) (c := c) (j1 := 3) (j2 := 4) hrl hcl (by omega) (by omega) (fun _ _ => rfl) (fun _ _ => rfl) rfl]
  rw [fin_no _ _ _ _ _ _ _ _ _ _ _ _ _ (by first | rfl | simp [clean, minEsc])]
  rw [if_neg (by simp)]

theorem e_i_DoTask (hp : HasDelete pr) {q1 q2 : Nat} {c1 c2 : Option Nat} {ls : List Ld} {ss : List Sg} {a b t c : Int} (h1 : cellsAt H q1 = some (encL ls)) (h2 : cellsAt H q2 = some (encS ss)) (hn : ls.length ≤ 1048575) (hm : ss.length ≤ 1048575) (k x y z : Int) (hv : stOk ls ss a b t c = true) :
    call T pr f_i_DoTask [stV (slL q1 ls.length c1) a b (slS q2 ss.length c2) t c, tkV k x y z] ⟨H, e⟩ =
      doRes H e (doOk ls ss a b t c k x y z) (rowT ls k x y) (chainT ss k x y z) (baseA a k x) (baseA b k y) (tipsT ls a b t k x y) (wr (c + 1)) := by
  by_cases k1 : k = 1
  · subst k1; exact DoTask_r1 h1 h2 hn hm x y z hv
  by_cases k2 : k = 2
  · subst k2; exact DoTask_r2 hp h1 h2 hn hm x y z hv
  by_cases k3 : k = 3
  · subst k3; exact DoTask_r3 h1 h2 hn hm x y z hv
  by_cases k4 : k = 4
  · subst k4; exact DoTask_r4 h1 h2 hn hm x y z hv
  by_cases k5 : k = 5
  · subst k5; exact DoTask_r5 h1 h2 hn hm x y z hv
  by_cases k6 : k = 6
  · subst k6; exact DoTask_r6 hp h1 h2 hn hm x y z hv
  exact DoTask_re h1 h2 hn hm k x y z hv k1 k2 k3 k4 k5 k6

end Go.Proofs.Ytlocjmbfcdfjfaa.Slim

/- Tasks of a stand: the law of DoTask. -/
namespace Go.Proofs.Ytlocjmbfcdfjfaa.Slim

open Go

set_option linter.unusedSimpArgs false

set_option linter.unusedVariables false

variable {pr : Prims} {H : List Blk} {e : Option Nat}

theorem e_l_toTask (k x y z : Int) : call T pr f_l_toTask [tkV k x y z] ⟨H, e⟩ = some (tkV k x y z, ⟨H, e⟩) := by
  rw [call_eq t_l_toTask]
  simp +contextual only [a_l_toTask, c_l_toTask, fillParts, go_sem, entry, joinEsc, if_pos, reduceIte, Nat.reduceAdd, Nat.reduceLeDiff, Nat.reduceLT, Nat.reduceEqDiff]

theorem st_small {ls : List Ld} {ss : List Sg} {a b t c : Int} (h : stOk ls ss a b t c = true) : ls.length ≤ 12 ∧ ss.length ≤ 5 := by
  unfold stOk rowOk chainOk at h
  simp only [Bool.and_eq_true, decide_eq_true_eq] at h
  exact ⟨h.1.1, h.2.1.2⟩

theorem e_s_DoTask_no {q1 q2 : Nat} {c1 c2 : Option Nat} {ls : List Ld} {ss : List Sg} (h1 : cellsAt H q1 = some (encL ls)) (h2 : cellsAt H q2 = some (encS ss)) (hm : ss.length ≤ 1048576) (a b t c k x y z : Int) (hv : stOk ls ss a b t c = false) :
    call T pr f_s_DoTask [stV (slL q1 ls.length c1) a b (slS q2 ss.length c2) t c, tkV k x y z] ⟨H, e⟩ = some (.tup [noStand, .bool false], ⟨H, e⟩) := by
  have hfN : ∀ (G : List Blk) (e0 e1 : Option Nat), clean H.length e1 = true → finish 2 H.length e0 (.tup [noStand, .bool false]) ⟨H ++ G, e1⟩ = some (.tup [noStand, .bool false], ⟨H, e0⟩) :=
    fun G e0 e1 hc => finish_standN 0 0 0 0 false e0 e1 hc
  have hgood := fun G => good_at (pr := pr) (e := none) (c1 := c1) (c2 := c2) (ls := ls) (ss := ss) rfl rfl hm a b t c (cells_mono h1 G) (cells_mono h2 G)
  rw [hv] at hgood
  rw [call_eq t_s_DoTask]
  simp +contextual only [a_s_DoTask, c_s_DoTask, fillParts, hgood, hfN, under_sliceN, clean_minEsc, clean_none, Nat.le_add_right, decide_true, go_sem, entry, joinEsc, if_pos, reduceIte, Nat.reduceAdd, Nat.reduceLeDiff, Nat.reduceLT, Nat.reduceEqDiff]

theorem e_i_DoTask_no {q1 q2 : Nat} {c1 c2 : Option Nat} {ls : List Ld} {ss : List Sg} (h1 : cellsAt H q1 = some (encL ls)) (h2 : cellsAt H q2 = some (encS ss)) (hm : ss.length ≤ 1048576) (a b t c k x y z : Int) (hv : stOk ls ss a b t c = false) :
    call T pr f_i_DoTask [stV (slL q1 ls.length c1) a b (slS q2 ss.length c2) t c, tkV k x y z] ⟨H, e⟩ = some (.tup [noStand, .bool false], ⟨H, e⟩) := by
  have hfN : ∀ (G : List Blk) (e0 e1 : Option Nat), clean H.length e1 = true → finish 2 H.length e0 (.tup [noStand, .bool false]) ⟨H ++ G, e1⟩ = some (.tup [noStand, .bool false], ⟨H, e0⟩) :=
    fun G e0 e1 hc => finish_standN 0 0 0 0 false e0 e1 hc
  have his := fun G => isStand_at (pr := pr) (e := none) (c1 := c1) (c2 := c2) (ls := ls) (ss := ss) rfl rfl hm a b t c (cells_mono h1 G) (cells_mono h2 G)
  rw [hv] at his
  rw [call_eq t_i_DoTask]
  simp +contextual only [a_i_DoTask, c_i_DoTask, fillParts, his, hfN, under_sliceN, clean_minEsc, clean_none, Nat.le_add_right, decide_true, go_sem, entry, joinEsc, if_pos, reduceIte, Nat.reduceAdd, Nat.reduceLeDiff, Nat.reduceLT, Nat.reduceEqDiff]

theorem e_s_DoTask {q1 q2 : Nat} {c1 c2 : Option Nat} {ls : List Ld} {ss : List Sg} (h1 : cellsAt H q1 = some (encL ls)) (h2 : cellsAt H q2 = some (encS ss)) (a b t c k x y z : Int) (hv : stOk ls ss a b t c = true) :
    call T pr f_s_DoTask [stV (slL q1 ls.length c1) a b (slS q2 ss.length c2) t c, tkV k x y z] ⟨H, e⟩ =
      doRes H e (doOk ls ss a b t c k x y z) (rowT ls k x y) (chainT ss k x y z) (baseA a k x) (baseA b k y) (tipsT ls a b t k x y) (wr (c + 1)) := by
  have hs := st_small hv
  have hfN : ∀ (G : List Blk) (e0 e1 : Option Nat), clean H.length e1 = true → finish 2 H.length e0 (.tup [noStand, .bool false]) ⟨H ++ G, e1⟩ = some (.tup [noStand, .bool false], ⟨H, e0⟩) :=
    fun G e0 e1 hc => finish_standN 0 0 0 0 false e0 e1 hc
  have hgood := fun G => good_at (pr := pr) (e := none) (c1 := c1) (c2 := c2) (ls := ls) (ss := ss) rfl rfl (by omega) a b t c (cells_mono h1 G) (cells_mono h2 G)
  rw [hv] at hgood
  have hdo := fun G => e_s_l12Do (pr := pr) (e := none) (H := H ++ G) (c1 := c1) (c2 := c2) (cells_mono h1 G) (cells_mono h2 G) (by omega) (by omega) a b t c k x y z
  unfold doRes at hdo ⊢
  generalize rowT ls k x y = ls' at hdo ⊢
  generalize chainT ss k x y z = ss' at hdo ⊢
  generalize baseA a k x = a' at hdo ⊢
  generalize baseA b k y = b' at hdo ⊢
  generalize tipsT ls a b t k x y = t' at hdo ⊢
  generalize wr (c + 1) = c' at hdo ⊢
  have hf : ∀ (B0 B1 B2 : Blk) (e0 e1 : Option Nat), clean H.length e1 = true → finish 2 H.length e0 (.tup [stV (slL (H.length + 3) ls'.length none) a' b' (slS (H.length + 4) ss'.length none) t' c', .bool true]) ⟨H ++ [B0, B1, B2, .cells (encL ls') true, .cells (encS ss') true], e1⟩ =
      some (.tup [stV (slL H.length ls'.length none) a' b' (slS (H.length + 1) ss'.length none) t' c', .bool true], ⟨H ++ [.cells (encL ls') true, .cells (encS ss') true], e0⟩) :=
    fun B0 B1 B2 e0 e1 hc => finish_standB a' b' t' c' true e0 e1 hc rfl rfl (by decide) (under_encL _ _) (under_encS _ _)
  rw [call_eq t_s_DoTask]
  cases hk : doOk ls ss a b t c k x y z with
  | false =>
    simp only [hk, Bool.false_eq_true, if_false] at hdo
    simp +contextual only [a_s_DoTask, c_s_DoTask, fillParts, hgood, hdo, hfN, under_sliceN, clean_minEsc, clean_none, Nat.le_add_right, decide_true, go_sem, entry, joinEsc, if_pos, reduceIte, Nat.reduceAdd, Nat.reduceLeDiff, Nat.reduceLT, Nat.reduceEqDiff]
  | true =>
    simp only [hk, if_true] at hdo
    simp +contextual only [a_s_DoTask, c_s_DoTask, fillParts, hgood, hdo, hf, under_slice, under_sliceN, Nat.add_assoc, Nat.add_lt_add_iff_left, Nat.lt_irrefl, decide_false, clean_minEsc, clean_none, Nat.le_add_right, Nat.le_refl, decide_true, go_sem, entry, joinEsc, if_pos, reduceIte, Nat.reduceAdd, Nat.reduceLeDiff, Nat.reduceLT, Nat.reduceEqDiff]

theorem law_DoTask (hp : HasDelete pr) {row chain : AV} {ls : List Ld} {ss : List Sg} (ha : ArgL H row ls) (hs : ArgS H chain ss) (a b t k kd x y z : Int) : ∃ m', call T pr f_l_FnExactDoTask [stV row a b chain t k, tkV kd x y z] ⟨H, none⟩ = some (.bool true, m') := by
  refine ⟨⟨H, none⟩, ?_⟩
  have hsz : ∀ G e', call T pr f_l_szStand [stV row a b chain t k, .int .i64 1048576] ⟨G, e'⟩ = some (.int .i64 (if ls.length + ss.length ≤ 1048576 then 1048576 - ((ls.length + ss.length : Nat) : Int) else -1), ⟨G, e'⟩) := by
    obtain ⟨p, sz, c, rfl, h2, h3⟩ := ha
    obtain ⟨p', sz', c', rfl, h2', h3'⟩ := hs
    exact fun G e' => e_l_szStand h2 h2' a b t k
  rw [call_eq t_l_FnExactDoTask]
  by_cases hn : ls.length + ss.length ≤ 1048576
  · have hneg : ¬ (1048576 - ((ls.length + ss.length : Nat) : Int) < 0) := by omega
    have hto := fun G => e_l_toStand (pr := pr) (e := none) (ha.more G) (hs.more G) (by omega) (by omega) a b t k
    have hn1 : ls.length ≤ 1048576 := by omega
    have hm1 : ss.length ≤ 1048576 := by omega
    have heq : ∀ L q1 q2 k1 k2 q3 q4 k3 k4, cellsAt L q1 = some (encL ls) → cellsAt L q2 = some (encL ls) → cellsAt L q3 = some (encS ss) → cellsAt L q4 = some (encS ss) → call T pr f_l_eqStand [stV (slL q1 ls.length k1) a b (slS q3 ss.length k3) t k, stV (slL q2 ls.length k2) a b (slS q4 ss.length k4) t k] ⟨L, none⟩ = some (.bool true, ⟨L, none⟩) :=
      fun L q1 q2 k1 k2 q3 q4 k3 k4 h1 h2 h3 h4 => e_l_eqStand (fun G => e_l_eqLoadS (cells_mono h1 G) (cells_mono h2 G) (by omega)) (fun G => e_l_eqStageS (cells_mono h3 G) (cells_mono h4 G) (by omega)) a b t k
    have hmark : ∀ L q1 q2 c1 c2, q1 ≠ q2 → L[q1]? = some (.cells (encL ls) true) → L[q2]? = some (.cells (encS ss) true) → call T pr f_l_markStand [stV (slL q1 ls.length c1) a b (slS q2 ss.length c2) t k, .int .i64 1] ⟨L, none⟩ = some (.int .i64 ((1 + ls.length * 2 + ss.length * 3 : Nat) : Int), ⟨markMem L q1 q2 ls.length ss.length 1, none⟩) :=
      fun L q1 q2 c1 c2 hne h1 h2 => e_l_markStand h1 h2 hne hn1 hm1 a b t k 1 (by omega)
    have hk0 : ¬ (((1 + ls.length * 2 + ss.length * 3 : Nat) : Int) < 0) := by omega
    have hk0' : ¬ (((1 + (ls.length * 2 + ss.length * 3) : Nat) : Int) < 0) := by omega
    have h10 : ¬ ((1 : Int) < 0) := by omega
    have hno : ∀ (hsi : ∀ L q q' c c', cellsAt L q = some (encL ls) → cellsAt L q' = some (encS ss) → call T pr f_s_DoTask [stV (slL q ls.length c) a b (slS q' ss.length c') t k, tkV kd x y z] ⟨L, none⟩ = some (.tup [noStand, .bool false], ⟨L, none⟩))
        (hii : ∀ L q q' c c', cellsAt L q = some (encL ls) → cellsAt L q' = some (encS ss) → call T pr f_i_DoTask [stV (slL q ls.length c) a b (slS q' ss.length c') t k, tkV kd x y z] ⟨L, none⟩ = some (.tup [noStand, .bool false], ⟨L, none⟩)),
        endCall a_l_FnExactDoTask ⟨H, none⟩ (run T pr a_l_FnExactDoTask.code ⟨entry a_l_FnExactDoTask [stV row a b chain t k, tkV kd x y z], ⟨H, none⟩⟩) = some (.bool true, ⟨H, none⟩) := by
      intro hsi hii
      have heqn := fun L p1 p2 p3 p4 s1 s2 s3 s4 k1 k2 k3 k4 x y z w => e_l_eqStand (pr := pr) (H := L) (e := none) (r1 := .slice p1 s1 0 k1) (r2 := .slice p2 s2 0 k2) (c1 := .slice p3 s3 0 k3) (c2 := .slice p4 s4 0 k4) (fun G => e_l_eqLoadS_none) (fun G => e_l_eqStageS_none) x y z w
      have hheld := fun L p1 p2 s1 s2 c1 c2 x y z w => e_l_heldStand_none (pr := pr) (H := L) (e := none) (p1 := p1) (p2 := p2) (s1 := s1) (s2 := s2) (c1 := c1) (c2 := c2) x y z w 1 (by omega)
      simp +contextual only [a_l_FnExactDoTask, c_l_FnExactDoTask, hsz, hn, hneg, hto, e_l_toTask, hsi, hii, heq, heqn, hheld, e_l_markStand_none, hmark, hk0, hk0', h10, markMem_new, ne_eq, Nat.add_right_inj, Nat.add_left_cancel_iff, Nat.reduceEqDiff, not_false_eq_true, under_slice, under_sliceN, Nat.add_assoc, Nat.add_lt_add_iff_left, Nat.lt_add_right_iff_pos, decide_true, decide_false, beq_self_eq_true, go_sem, entry, joinEsc, if_pos, reduceIte, Nat.reduceAdd, Nat.reduceLeDiff, Nat.reduceLT, Nat.reduceEqDiff]
    cases hv : stOk ls ss a b t k with
    | false =>
      exact hno (fun L q q' c c' h1 h2 => e_s_DoTask_no h1 h2 hm1 a b t k kd x y z hv) (fun L q q' c c' h1 h2 => e_i_DoTask_no h1 h2 hm1 a b t k kd x y z hv)
    | true =>
      have hsm := st_small hv
      cases hd : doOk ls ss a b t k kd x y z with
      | false =>
        refine hno (fun L q q' c c' h1 h2 => ?_) (fun L q q' c c' h1 h2 => ?_)
        · rw [e_s_DoTask h1 h2 a b t k kd x y z hv, hd]; rfl
        · rw [e_i_DoTask hp h1 h2 (by omega) (by omega) kd x y z hv, hd]; rfl
      | true =>
        have hsi := fun L q q' c c' h1 h2 => e_s_DoTask (pr := pr) (H := L) (e := none) (q1 := q) (q2 := q') (c1 := c) (c2 := c') (ls := ls) (ss := ss) h1 h2 a b t k kd x y z hv
        have hii := fun L q q' c c' h1 h2 => e_i_DoTask (pr := pr) (H := L) (e := none) hp (q1 := q) (q2 := q') (c1 := c) (c2 := c') (ls := ls) (ss := ss) h1 h2 (by omega) (by omega) kd x y z hv
        simp only [hd, doRes, if_true] at hsi hii
        have hr1 := rowT_length ls kd x y
        have hc1 := chainT_length ss kd x y z
        generalize rowT ls kd x y = ls' at hsi hii hr1
        generalize chainT ss kd x y z = ss' at hsi hii hc1
        generalize baseA a kd x = a' at hsi hii
        generalize baseA b kd y = b' at hsi hii
        generalize tipsT ls a b t kd x y = t' at hsi hii
        generalize wr (k + 1) = c' at hsi hii
        have heqr : ∀ L q1 q2 k1 k2 q3 q4 k3 k4, cellsAt L q1 = some (encL ls') → cellsAt L q2 = some (encL ls') → cellsAt L q3 = some (encS ss') → cellsAt L q4 = some (encS ss') → call T pr f_l_eqStand [stV (slL q1 ls'.length k1) a' b' (slS q3 ss'.length k3) t' c', stV (slL q2 ls'.length k2) a' b' (slS q4 ss'.length k4) t' c'] ⟨L, none⟩ = some (.bool true, ⟨L, none⟩) :=
          fun L q1 q2 k1 k2 q3 q4 k3 k4 h1 h2 h3 h4 => e_l_eqStand (fun G => e_l_eqLoadS (cells_mono h1 G) (cells_mono h2 G) (by omega)) (fun G => e_l_eqStageS (cells_mono h3 G) (cells_mono h4 G) (by omega)) a' b' t' c'
        have hmarkr : ∀ L q1 q2 c1 c2, q1 ≠ q2 → L[q1]? = some (.cells (encL ls') true) → L[q2]? = some (.cells (encS ss') true) → call T pr f_l_markStand [stV (slL q1 ls'.length c1) a' b' (slS q2 ss'.length c2) t' c', .int .i64 1] ⟨L, none⟩ = some (.int .i64 ((1 + ls'.length * 2 + ss'.length * 3 : Nat) : Int), ⟨markMem L q1 q2 ls'.length ss'.length 1, none⟩) :=
          fun L q1 q2 c1 c2 hne h1 h2 => e_l_markStand h1 h2 hne (by omega) (by omega) a' b' t' c' 1 (by omega)
        have hheld : ∀ L q1 q2 c1 c2, cellsAt L q1 = some (encL (markedL 1 ls'.length)) → cellsAt L q2 = some (encS (markedS (1 + ls'.length * 2) ss'.length)) → call T pr f_l_heldStand [stV (slL q1 ls'.length c1) a' b' (slS q2 ss'.length c2) t' c', .int .i64 1] ⟨L, none⟩ = some (.int .i64 ((1 + ls'.length * 2 + ss'.length * 3 : Nat) : Int), ⟨L, none⟩) :=
          fun L q1 q2 c1 c2 h1 h2 => e_l_heldStand (x := 1) h1 h2 (by omega) (by omega) a' b' t' c' (by omega)
        have hk1 : ¬ (((1 + ls'.length * 2 + ss'.length * 3 : Nat) : Int) < 0) := by omega
        have hk1' : ¬ (((1 + (ls'.length * 2 + ss'.length * 3) : Nat) : Int) < 0) := by omega
        simp +contextual only [a_l_FnExactDoTask, c_l_FnExactDoTask, hsz, hn, hneg, hto, e_l_toTask, hsi, hii, heq, heqr, hheld, hmarkr, hmark, hk0, hk0', hk1, hk1', h10, markMem_new, ne_eq, Nat.add_right_inj, Nat.add_left_cancel_iff, Nat.reduceEqDiff, not_false_eq_true, under_slice, under_sliceN, Nat.add_assoc, Nat.add_lt_add_iff_left, Nat.lt_add_right_iff_pos, decide_true, decide_false, beq_self_eq_true, go_sem, entry, joinEsc, if_pos, reduceIte, Nat.reduceAdd, Nat.reduceLeDiff, Nat.reduceLT, Nat.reduceEqDiff]
  · simp +contextual only [a_l_FnExactDoTask, c_l_FnExactDoTask, hsz, hn, decide_true, show ((-1 : Int) < 0) by omega, go_sem, entry, joinEsc, if_pos, reduceIte, Nat.reduceAdd, Nat.reduceLeDiff, Nat.reduceLT, Nat.reduceEqDiff]

end Go.Proofs.Ytlocjmbfcdfjfaa.Slim

/- The slim machine: walking by what holds at the end; loops by invariants. -/
namespace Go.Proofs.Ytlocjmbfcdfjfaa.Slim
open Go
set_option linter.unusedVariables false
set_option linter.unusedSimpArgs false

section
variable {T : Table} {pr : Prims} {H : List Blk} {e : Option Nat}

/-- code comes to an end, of which this holds -/
def Wp (r : Option (Ex × St)) (Q : Ex → St → Prop) : Prop := ∃ ex st, r = some (ex, st) ∧ Q ex st
/-- a call (or an operation) comes to an end, of which this holds -/
def Wc (r : Option (AV × Mem)) (Q : AV → Mem → Prop) : Prop := ∃ v m, r = some (v, m) ∧ Q v m

theorem Wp.mono {r : Option (Ex × St)} {P Q : Ex → St → Prop} (h : Wp r P) (k : ∀ ex st, P ex st → Q ex st) : Wp r Q := by
  obtain ⟨ex, st, h1, h2⟩ := h
  exact ⟨ex, st, h1, k _ _ h2⟩
theorem Wc.mono {r : Option (AV × Mem)} {P Q : AV → Mem → Prop} (h : Wc r P) (k : ∀ v m, P v m → Q v m) : Wc r Q := by
  obtain ⟨v, m, h1, h2⟩ := h
  exact ⟨v, m, h1, k _ _ h2⟩
theorem Wc.eq {r : Option (AV × Mem)} {v : AV} {m : Mem} (h : Wc r fun v' m' => v' = v ∧ m' = m) : r = some (v, m) := by
  obtain ⟨_, _, h1, rfl, rfl⟩ := h
  exact h1
theorem Wc.of_eq {r : Option (AV × Mem)} {v : AV} {m : Mem} {Q : AV → Mem → Prop} (h : r = some (v, m)) (k : Q v m) : Wc r Q := ⟨v, m, h, k⟩

@[congr] theorem Wp_congr {r r' : Option (Ex × St)} {Q : Ex → St → Prop} (h : r = r') : Wp r Q = Wp r' Q := by rw [h]
@[congr] theorem Wc_congr {r r' : Option (AV × Mem)} {Q : AV → Mem → Prop} (h : r = r') : Wc r Q = Wc r' Q := by rw [h]

theorem Wp_some (ex : Ex) (st : St) (Q : Ex → St → Prop) : Wp (some (ex, st)) Q = Q ex st := by
  apply propext
  constructor
  · rintro ⟨_, _, h1, h2⟩; cases h1; exact h2
  · exact fun h => ⟨_, _, rfl, h⟩
theorem Wp_none (Q : Ex → St → Prop) : Wp none Q = False := by
  apply propext
  constructor
  · rintro ⟨_, _, h1, _⟩; cases h1
  · exact False.elim
theorem Wp_ite (c : Prop) [Decidable c] (a b : Option (Ex × St)) (Q : Ex → St → Prop) : Wp (if c then a else b) Q = ((c → Wp a Q) ∧ (¬ c → Wp b Q)) := by
  by_cases h : c <;> simp [h]
theorem Wc_some (v : AV) (m : Mem) (Q : AV → Mem → Prop) : Wc (some (v, m)) Q = Q v m := by
  apply propext
  constructor
  · rintro ⟨_, _, h1, h2⟩; cases h1; exact h2
  · exact fun h => ⟨_, _, rfl, h⟩
theorem Wc_none (Q : AV → Mem → Prop) : Wc none Q = False := by
  apply propext
  constructor
  · rintro ⟨_, _, h1, _⟩; cases h1
  · exact False.elim
theorem Wc_ite (c : Prop) [Decidable c] (a b : Option (AV × Mem)) (Q : AV → Mem → Prop) : Wc (if c then a else b) Q = ((c → Wc a Q) ∧ (¬ c → Wc b Q)) := by
  by_cases h : c <;> simp [h]

def seqQ (f : St → Option (Ex × St)) (Q : Ex → St → Prop) : Ex → St → Prop
  | .normal, st => Wp (f st) Q
  | ex, st => Q ex st
theorem seqQ_normal (f : St → Option (Ex × St)) (Q : Ex → St → Prop) (st : St) : seqQ f Q .normal st = Wp (f st) Q := Eq.trans rfl rfl
theorem seqQ_exit (f : St → Option (Ex × St)) (Q : Ex → St → Prop) (k : Nat) (st : St) : seqQ f Q (.exit k) st = Q (.exit k) st := Eq.trans rfl rfl
theorem seqQ_ret (f : St → Option (Ex × St)) (Q : Ex → St → Prop) (st : St) : seqQ f Q .ret st = Q .ret st := Eq.trans rfl rfl
theorem Wp_thenRun (r : Option (Ex × St)) (f : St → Option (Ex × St)) (Q : Ex → St → Prop) : Wp (thenRun r f) Q = Wp r (seqQ f Q) := by
  cases r with
  | none => simp only [thenRun_none, Wp_none]
  | some p =>
    obtain ⟨ex, st⟩ := p
    cases ex <;> simp only [thenRun_normal, thenRun_ret, thenRun_exit, Wp_some, seqQ]

def blkQ (id : Nat) (Q : Ex → St → Prop) : Ex → St → Prop
  | .exit k, st => if k = id then Q .normal st else Q (.exit k) st
  | ex, st => Q ex st
theorem blkQ_normal (id : Nat) (Q : Ex → St → Prop) (st : St) : blkQ id Q .normal st = Q .normal st := Eq.trans rfl rfl
theorem blkQ_ret (id : Nat) (Q : Ex → St → Prop) (st : St) : blkQ id Q .ret st = Q .ret st := Eq.trans rfl rfl
theorem blkQ_same (id : Nat) (Q : Ex → St → Prop) (st : St) : blkQ id Q (.exit id) st = Q .normal st := by simp [blkQ]
theorem blkQ_exit (id k : Nat) (Q : Ex → St → Prop) (st : St) : blkQ id Q (.exit k) st = if k = id then Q .normal st else Q (.exit k) st := Eq.trans rfl rfl
theorem Wp_inBlock (id : Nat) (r : Option (Ex × St)) (Q : Ex → St → Prop) : Wp (inBlock id r) Q = Wp r (blkQ id Q) := by
  cases r with
  | none => simp only [inBlock_none, Wp_none]
  | some p =>
    obtain ⟨ex, st⟩ := p
    cases ex with
    | normal => simp only [inBlock_normal, Wp_some, blkQ]
    | ret => simp only [inBlock_ret, Wp_some, blkQ]
    | exit k => by_cases h : k = id <;> simp only [inBlock_exit, h, if_true, if_false, Wp_some, blkQ]

/-- behind a region's operation -/
def opQ (tm : List AV) (outs : List (Nat × Nat)) (f : AV → Mem → Option (List AV × Mem)) (Q : Ex → St → Prop) : AV → Mem → Prop := fun v m => Wp (outRun tm outs (f v m)) Q
theorem opQ_at (tm : List AV) (outs : List (Nat × Nat)) (f : AV → Mem → Option (List AV × Mem)) (Q : Ex → St → Prop) (v : AV) (m : Mem) : opQ tm outs f Q v m = Wp (outRun tm outs (f v m)) Q := Eq.trans rfl rfl
theorem Wp_opThen (tm : List AV) (outs : List (Nat × Nat)) (r : Option (AV × Mem)) (f : AV → Mem → Option (List AV × Mem)) (Q : Ex → St → Prop) :
    Wp (outRun tm outs (opThen r f)) Q = Wc r (opQ tm outs f Q) := by
  cases r with
  | none => simp only [opThen_none, outRun_none, Wp_none, Wc_none]
  | some p =>
    obtain ⟨v, m⟩ := p
    simp only [opThen_some, Wc_some, opQ]

/-- behind a guarded operation -/
theorem Wp_guardP (tm : List AV) (outs : List (Nat × Nat)) (p : Prop) [Decidable p] (r : Option (AV × Mem)) (m : Mem) (f : AV → Mem → Option (List AV × Mem)) (Q : Ex → St → Prop) :
    Wp (outRun tm outs (guardP p r m f)) Q = ((p → Wc r (opQ tm outs f Q)) ∧ (¬ p → Wp (outRun tm outs (f (.tup []) m)) Q)) := by
  by_cases h : p
  · simp only [h, guardP_true, Wp_opThen, true_imp_iff, not_true_eq_false, false_imp_iff, and_true]
  · simp only [h, guardP_false, not_false_eq_true, true_imp_iff, false_imp_iff, true_and]

/-- behind a call's code -/
def retQ (F : AFun) (m : Mem) (Q : AV → Mem → Prop) : Ex → St → Prop
  | .exit _, _ => False
  | _, st => Wc (finRun F m st) Q
theorem retQ_normal (F : AFun) (m : Mem) (Q : AV → Mem → Prop) (st : St) : retQ F m Q .normal st = Wc (finRun F m st) Q := Eq.trans rfl rfl
theorem retQ_ret (F : AFun) (m : Mem) (Q : AV → Mem → Prop) (st : St) : retQ F m Q .ret st = Wc (finRun F m st) Q := Eq.trans rfl rfl
theorem Wc_endCall (F : AFun) (m : Mem) (r : Option (Ex × St)) (Q : AV → Mem → Prop) : Wc (endCall F m r) Q = Wp r (retQ F m Q) := by
  cases r with
  | none => simp only [endCall_none, Wc_none, Wp_none]
  | some p =>
    obtain ⟨ex, st⟩ := p
    cases ex <;> simp only [endCall_normal, endCall_ret, endCall_exit, Wc_none, Wp_some, retQ]

theorem call_wc {f : FuncId} {F : AFun} (h : T f = some F) (args : List AV) (m : Mem) (Q : AV → Mem → Prop) : Wc (call T pr f args m) Q = Wp (run T pr F.code ⟨entry F args, { m with esc := none }⟩) (retQ F m Q) := by
  rw [call_eq h, Wc_endCall]

/-! loops -/
/-- what a loop's round must bring -/
abbrev Holds (I : St → Prop) (st : St) : Prop := I st
@[congr] theorem Holds_congr {I : St → Prop} {st st' : St} (h : st = st') : Holds I st = Holds I st' := by rw [h]
def loopQ (I : St → Prop) (Q : Ex → St → Prop) : Ex → St → Prop
  | .normal, st => Holds I st
  | ex, st => Q ex st
theorem loopQ_normal (I : St → Prop) (Q : Ex → St → Prop) (st : St) : loopQ I Q .normal st = Holds I st := Eq.trans rfl rfl
theorem loopQ_exit (I : St → Prop) (Q : Ex → St → Prop) (k : Nat) (st : St) : loopQ I Q (.exit k) st = Q (.exit k) st := Eq.trans rfl rfl
theorem loopQ_ret (I : St → Prop) (Q : Ex → St → Prop) (st : St) : loopQ I Q .ret st = Q .ret st := Eq.trans rfl rfl

theorem Wp_loop {b : ACode} {Q : Ex → St → Prop} (I : Nat → St → Prop) (hs : ∀ k st, I k st → Wp (run T pr b st) (loopQ (fun st' => ∃ j, j < k ∧ I j st') Q)) :
    ∀ (n : Nat) (st : St), I n st → Wp (run T pr (.loop b) st) Q := by
  intro n
  induction n using Nat.strongRecOn with
  | _ n ih =>
    intro st h
    rw [run_loop, Wp_thenRun]
    refine (hs n st h).mono fun ex st' h' => ?_
    cases ex with
    | normal =>
      obtain ⟨j, hj, hI⟩ := h'
      exact ih j hj st' hI
    | exit k => exact h'
    | ret => exact h'

/-! the end of a call that keeps what its result names -/
theorem roots_slice_new (sz n o k : Nat) (c : Option Nat) : AV.roots H.length (.slice (some (H.length + k, o)) sz n c) = [H.length + k] := by simp [AV.roots]
theorem roots_slice_new0 (sz n o : Nat) (c : Option Nat) : AV.roots H.length (.slice (some (H.length, o)) sz n c) = [H.length] := by simp [AV.roots]
theorem roots_slice_none (lim sz n : Nat) (c : Option Nat) : AV.roots lim (.slice none sz n c) = [] := by simp [AV.roots]
theorem roots_slice_old {lim b : Nat} (sz n o : Nat) (c : Option Nat) (h : b < lim) : AV.roots lim (.slice (some (b, o)) sz n c) = [] := by simp [AV.roots, h]
theorem roots_ptr_new (o k : Nat) : AV.roots H.length (.ptr (some (H.length + k, o))) = [H.length + k] := by simp [AV.roots]
theorem roots_ptr_new0 (o : Nat) : AV.roots H.length (.ptr (some (H.length, o))) = [H.length] := by simp [AV.roots]
theorem roots_int (lim : Nat) (k : IntKind) (x : Int) : AV.roots lim (.int k x) = [] := by simp [AV.roots]
theorem roots_bool (lim : Nat) (x : Bool) : AV.roots lim (.bool x) = [] := by simp [AV.roots]
theorem roots_str (lim : Nat) (x : ByteArray) : AV.roots lim (.str x) = [] := by simp [AV.roots]
theorem roots_agg (lim : Nat) (cs : List AV) : AV.roots lim (.agg cs) = AV.roots.go lim cs := by simp [AV.roots]
theorem roots_tup (lim : Nat) (cs : List AV) : AV.roots lim (.tup cs) = AV.roots.go lim cs := by simp [AV.roots]
theorem roots_cons (lim : Nat) (c : AV) (cs : List AV) : AV.roots.go lim (c :: cs) = AV.roots lim c ++ AV.roots.go lim cs := by simp [AV.roots.go]
theorem roots_nil (lim : Nat) : AV.roots.go lim [] = [] := by simp [AV.roots.go]
theorem rename_slice (f : Nat → Nat) (b o sz n : Nat) (c : Option Nat) : AV.rename f (.slice (some (b, o)) sz n c) = .slice (some (f b, o)) sz n c := by simp [AV.rename]
theorem rename_slice_none (f : Nat → Nat) (sz n : Nat) (c : Option Nat) : AV.rename f (.slice none sz n c) = .slice none sz n c := by simp [AV.rename]
theorem rename_ptr (f : Nat → Nat) (b o : Nat) : AV.rename f (.ptr (some (b, o))) = .ptr (some (f b, o)) := by simp [AV.rename]
theorem rename_int (f : Nat → Nat) (k : IntKind) (x : Int) : AV.rename f (.int k x) = .int k x := by simp [AV.rename]
theorem rename_bool (f : Nat → Nat) (x : Bool) : AV.rename f (.bool x) = .bool x := by simp [AV.rename]
theorem rename_str (f : Nat → Nat) (x : ByteArray) : AV.rename f (.str x) = .str x := by simp [AV.rename]
theorem rename_agg (f : Nat → Nat) (cs : List AV) : AV.rename f (.agg cs) = .agg (AV.rename.go f cs) := by simp [AV.rename]
theorem rename_tup (f : Nat → Nat) (cs : List AV) : AV.rename f (.tup cs) = .tup (AV.rename.go f cs) := by simp [AV.rename]
theorem rename_cons (f : Nat → Nat) (c : AV) (cs : List AV) : AV.rename.go f (c :: cs) = AV.rename f c :: AV.rename.go f cs := by simp [AV.rename.go]
theorem rename_nil (f : Nat → Nat) : AV.rename.go f [] = [] := by simp [AV.rename.go]

def keepBlks (L : List Blk) (rs : List Nat) : List Blk := rs.map fun b => (L[b]?).getD .dead
theorem keepBlks_nil (L : List Blk) : keepBlks L [] = [] := Eq.trans rfl rfl
theorem keepBlks_cons (L : List Blk) (b : Nat) (rs : List Nat) : keepBlks L (b :: rs) = (L[b]?).getD .dead :: keepBlks L rs := Eq.trans rfl rfl
def flatAll (lim : Nat) (L : List Blk) (rs : List Nat) : Bool := rs.all fun b => flatBlk lim L[b]?
theorem flatAll_nil (lim : Nat) (L : List Blk) : flatAll lim L [] = true := Eq.trans rfl rfl
theorem flatAll_cons (lim : Nat) (L : List Blk) (b : Nat) (rs : List Nat) : flatAll lim L (b :: rs) = (flatBlk lim L[b]? && flatAll lim L rs) := Eq.trans rfl rfl
theorem flatBlk_cells (lim : Nat) (cs : List AV) (w : Bool) : flatBlk lim (some (.cells cs w)) = cs.all fun c => c.under lim := Eq.trans rfl rfl
theorem finish_two_eq (G : List Blk) (e0 e1 : Option Nat) (v : AV) : finish 2 H.length e0 v ⟨H ++ G, e1⟩ =
    if clean H.length e1 = true ∧ flatAll H.length (H ++ G) (dedup (v.roots H.length)) = true then some (v.rename (renum H.length (dedup (v.roots H.length))), ⟨H ++ keepBlks (H ++ G) (dedup (v.roots H.length)), e0⟩) else none := by
  unfold finish keepBlks flatAll
  simp
theorem finish_two_eq0 (e0 e1 : Option Nat) (v : AV) : finish 2 H.length e0 v ⟨H, e1⟩ =
    if clean H.length e1 = true ∧ flatAll H.length H (dedup (v.roots H.length)) = true then some (v.rename (renum H.length (dedup (v.roots H.length))), ⟨H ++ keepBlks H (dedup (v.roots H.length)), e0⟩) else none := by
  unfold finish keepBlks flatAll
  simp
theorem dedup_nil : dedup [] = [] := Eq.trans rfl rfl
theorem dedup_one (b : Nat) : dedup [b] = [b] := Eq.trans rfl rfl
theorem dedup_two (a b : Nat) : dedup [a, b] = if a = b then [a] else [a, b] := by
  by_cases h : a = b
  · simp [dedup, h]
  · have : ¬ b = a := fun h' => h h'.symm
    simp [dedup, h, this]
theorem renum_old {lim b : Nat} (rs : List Nat) (h : b < lim) : renum lim rs b = b := by simp [renum, h]
theorem renum_one (k : Nat) : renum H.length [H.length + k] (H.length + k) = H.length := by
  have h1 : ¬ H.length + k < H.length := by omega
  simp only [renum, h1, if_false, List.idxOf_cons_self, Nat.add_zero]
theorem renum_one0 : renum H.length [H.length] H.length = H.length := by simp [renum]
theorem renum_two0 {a b : Nat} (h : H.length ≤ a) : renum H.length [a, b] a = H.length := by
  have h1 : ¬ a < H.length := by omega
  simp [renum, h1]
theorem renum_two1 {a b : Nat} (h : H.length ≤ b) (hne : a ≠ b) : renum H.length [a, b] b = H.length + 1 := by
  have h1 : ¬ b < H.length := by omega
  have h2 : (a == b) = false := by simpa using hne
  simp [renum, h1, h2, List.idxOf_cons]

theorem finV_wc (F : AFun) (m : Mem) (st : St) (Q : AV → Mem → Prop) : Wc (finRun F m st) Q = Wc (finV F m (resultList st.tm st.m.H F.results) st.m) Q := Eq.trans rfl rfl

theorem clean_none' (n : Nat) : clean n none = true := Eq.trans rfl rfl
theorem clean_some (n k : Nat) : clean n (some k) = decide (n ≤ k) := Eq.trans rfl rfl
theorem clean_ite (c : Prop) [Decidable c] (n : Nat) (a b : Option Nat) : clean n (if c then a else b) = if c then clean n a else clean n b := by split <;> rfl
theorem minEsc_none (b : Nat) : minEsc none b = some b := Eq.trans rfl rfl
theorem minEsc_some (a b : Nat) : minEsc (some a) b = some (min a b) := Eq.trans rfl rfl
end

end Go.Proofs.Ytlocjmbfcdfjfaa.Slim

/- Rows of elements of some cells each; slices of tasks. -/
namespace Go.Proofs.Ytlocjmbfcdfjfaa.Slim

open Go

set_option linter.unusedSimpArgs false

set_option linter.unusedVariables false

variable {pr : Prims} {H : List Blk} {e : Option Nat}

/-- rows of elements, each of which lies in k cells -/
def encE {α : Type} (f : α → List AV) : List α → List AV
  | [] => []
  | x :: xs => f x ++ encE f xs

section

variable {α : Type} {f : α → List AV} {k : Nat}

theorem encE_append : ∀ a b : List α, encE f (a ++ b) = encE f a ++ encE f b
  | [], b => rfl
  | x :: a, b => by rw [List.cons_append, encE, encE, encE_append a b, List.append_assoc]

theorem encE_length (hf : ∀ x, (f x).length = k) : ∀ xs : List α, (encE f xs).length = xs.length * k
  | [] => by simp [encE]
  | x :: xs => by rw [encE, List.length_append, hf, encE_length hf xs, List.length_cons, Nat.add_mul, Nat.one_mul, Nat.add_comm]

theorem encE_drop (hf : ∀ x, (f x).length = k) : ∀ (xs : List α) (i : Nat), (encE f xs).drop (i * k) = encE f (xs.drop i)
  | xs, 0 => by rw [Nat.zero_mul, List.drop_zero, List.drop_zero]
  | [], i + 1 => by simp [encE]
  | x :: xs, i + 1 => by
    rw [encE, Nat.add_mul, Nat.one_mul, Nat.add_comm, ← hf x, List.drop_length_add_append, hf x, List.drop_succ_cons, encE_drop hf xs i]

theorem encE_take (hf : ∀ x, (f x).length = k) : ∀ (xs : List α) (i : Nat), (encE f xs).take (i * k) = encE f (xs.take i)
  | xs, 0 => by simp [encE]
  | [], i + 1 => by simp [encE]
  | x :: xs, i + 1 => by
    rw [encE, Nat.add_mul, Nat.one_mul, Nat.add_comm, ← hf x, List.take_length_add_append, hf x, List.take_succ_cons, encE, encE_take hf xs i]

theorem encE_at (hf : ∀ x, (f x).length = k) {xs : List α} {i : Nat} {x : α} (h : xs[i]? = some x) : ∃ ys, (encE f xs).drop (i * k) = f x ++ ys ∧ i * k + k ≤ (encE f xs).length := by
  have hi := (List.getElem?_eq_some_iff.mp h).1
  refine ⟨encE f (xs.drop (i + 1)), ?_, ?_⟩
  · rw [encE_drop hf, List.drop_eq_getElem_cons hi, encE]
    rw [List.getElem?_eq_getElem hi] at h
    rw [Option.some.inj h]
  · rw [encE_length hf]
    have : (i + 1) * k ≤ xs.length * k := Nat.mul_le_mul_right _ hi
    rw [Nat.add_mul, Nat.one_mul] at this
    exact this

theorem part_encE (hf : ∀ x, (f x).length = k) {xs : List α} {i : Nat} {x : α} (h : xs[i]? = some x) : part true (encE f xs) (i * k) k = some (.agg (f x)) := by
  obtain ⟨ys, h1, h2⟩ := encE_at hf h
  rw [part_true, if_pos h2, h1, ← hf x, List.take_left']
  rfl

theorem part_encEj (hf : ∀ x, (f x).length = k) {xs : List α} {i j : Nat} {x : α} {c : AV} (sz : Nat) (h : xs[i]? = some x) (hc : (f x)[j]? = some c) : part false (encE f xs) (i * k + j) sz = some c := by
  obtain ⟨ys, h1, h2⟩ := encE_at hf h
  rw [part_false]
  have : (encE f xs)[i * k + j]? = ((encE f xs).drop (i * k))[j]? := by rw [List.getElem?_drop]
  rw [this, h1, List.getElem?_append_left (List.getElem?_eq_some_iff.mp hc).1, hc]

theorem part_encE0 (hf : ∀ x, (f x).length = k) {xs : List α} {i : Nat} {x : α} {c : AV} (sz : Nat) (h : xs[i]? = some x) (hc : (f x)[0]? = some c) : part false (encE f xs) (i * k) sz = some c := part_encEj (j := 0) hf sz h hc

theorem setRange_encE (hf : ∀ x, (f x).length = k) : ∀ {xs : List α} {i : Nat} (x : α), i < xs.length → setRange (encE f xs) (i * k) (f x) = encE f (xs.set i x)
  | [], i, x, h => by simp at h
  | y :: xs, 0, x, h => by
    unfold setRange
    rw [Nat.zero_mul, Nat.zero_add, List.set_cons_zero, encE, encE, hf x, ← hf y, List.drop_left']
    · simp
    · rfl
  | y :: xs, i + 1, x, h => by
    have ih := setRange_encE hf x (by simpa using h : i < xs.length)
    rw [List.set_cons_succ, encE, encE, ← ih]
    unfold setRange
    rw [Nat.add_mul, Nat.one_mul, Nat.add_comm (i * k) k]
    rw [← hf y, List.take_length_add_append, Nat.add_assoc, List.drop_length_add_append]
    simp only [List.append_assoc]

theorem setRange_one {cs : List AV} {o : Nat} (v : AV) (h : o < cs.length) : setRange cs o [v] = cs.set o v := by
  unfold setRange
  rw [List.set_eq_take_append_cons_drop, if_pos h]
  simp

theorem set_encE (hf : ∀ x, (f x).length = k) {j : Nat} {v : AV} {m m' : α} (hj : j < k) (hm : (f m).set j v = f m') : ∀ {Y : List α} {i : Nat}, Y[i]? = some m → (encE f Y).set (i * k + j) v = encE f (Y.set i m')
  | [], i, h => by simp at h
  | y :: Y, 0, h => by
    simp at h
    subst h
    rw [Nat.zero_mul, Nat.zero_add, List.set_cons_zero, encE, encE, ← hm, List.set_append_left _ _ (by rw [hf]; exact hj)]
  | y :: Y, i + 1, h => by
    rw [List.set_cons_succ, encE, encE, ← set_encE hf hj hm (by simpa using h : Y[i]? = some m), Nat.add_mul, Nat.one_mul, List.set_append_right _ _ (by rw [hf]; omega), hf]
    congr 2
    omega

theorem setRange_encEj (hf : ∀ x, (f x).length = k) {j : Nat} {v : AV} {m m' : α} {Y : List α} {i : Nat} (hY : Y[i]? = some m) (hj : j < k) (hm : (f m).set j v = f m') : setRange (encE f Y) (i * k + j) [v] = encE f (Y.set i m') := by
  obtain ⟨_, _, h2⟩ := encE_at hf hY
  rw [setRange_one v (by omega), set_encE hf hj hm hY]

theorem zeros_encE {z : α} : ∀ n, zeros n (f z) = encE f (List.replicate n z)
  | 0 => rfl
  | n + 1 => by
    have := zeros_encE (z := z) n
    unfold zeros at *
    rw [List.replicate_succ, List.flatten_cons, this, List.replicate_succ, encE]

theorem under_encE (hf : ∀ (x : α) (n : Nat), ((f x).all fun c => c.under n) = true) (n : Nat) : ∀ xs : List α, ((encE f xs).all fun c => c.under n) = true
  | [] => rfl
  | x :: xs => by rw [encE, List.all_append, hf, under_encE hf n xs]; rfl

end

abbrev Tk := Int × Int × Int × Int

def tkC (m : Tk) : List AV := [.int .i64 m.1, .int .i64 m.2.1, .int .i64 m.2.2.1, .int .i64 m.2.2.2]

theorem tkC_length (m : Tk) : (tkC m).length = 4 := rfl

theorem tkC_under (m : Tk) (n : Nat) : ((tkC m).all fun c => c.under n) = true := by simp [tkC, AV.under]

abbrev encT (ts : List Tk) : List AV := encE tkC ts

abbrev slT (b n : Nat) (c : Option Nat) : AV := .slice (some (b, 0)) 4 n c

def ArgT (H : List Blk) (av : AV) (ts : List Tk) : Prop :=
  ∃ p sz c, av = .slice p sz ts.length c ∧ ts.length ≤ maxLen ∧ (ts ≠ [] → sz = 4 ∧ ∃ b, p = some (b, 0) ∧ cellsAt H b = some (encT ts))

theorem ArgT.more {av : AV} {ls : List Tk} (h : ArgT H av ls) (G : List Blk) : ArgT (H ++ G) av ls := by
  obtain ⟨p, sz, c, h1, h2, h3⟩ := h
  refine ⟨p, sz, c, h1, h2, fun hne => ?_⟩
  obtain ⟨e1, b, e2, e3⟩ := h3 hne
  exact ⟨e1, b, e2, cells_mono e3 G⟩

theorem tasks_of : ∀ (es : List (List Int)), (∀ e ∈ es, e.length = 4) → ∃ ts : List Tk, es.flatten.map (AV.int .i64) = encT ts ∧ ts.length = es.length
  | [], _ => ⟨[], rfl, rfl⟩
  | x :: es, h => by
    obtain ⟨ts, h1, h2⟩ := tasks_of es fun e he => h e (by simp [he])
    match x, h x (by simp) with
    | [a, b, c, d], _ => exact ⟨(a, b, c, d) :: ts, by simp [encE, tkC, h1], by simp [h2]⟩

theorem argT_of {av : AV} {es : List (List Int)} (h : IsArg H av .i64 4 es) : ∃ ts, ArgT H av ts := by
  obtain ⟨h1, h2⟩ := h
  obtain ⟨ts, t1, t2⟩ := tasks_of es fun e he => (h1 e he).1
  rcases h2 with ⟨rfl, rfl⟩ | ⟨b, cap, rfl, h3, h4, h5⟩
  · simp at t2
    subst t2
    exact ⟨[], none, 0, none, rfl, by simp, fun h => absurd rfl h⟩
  · refine ⟨ts, some (b, 0), 4, some cap, by rw [t2], by omega, fun _ => ⟨rfl, b, rfl, ?_⟩⟩
    unfold cellsAt
    rw [h5, ← t1]

theorem e_l_szTaskS (n : Nat) (p : Option (Nat × Nat)) (sz : Nat) (c : Option Nat) (hn : n ≤ maxLen) (x : Nat) (hx : x ≤ 1048576) : call T pr f_l_szTaskS [.slice p sz n c, .int .i64 x] ⟨H, e⟩ = some (.int .i64 (if n ≤ x then (x : Int) - n else -1), ⟨H, e⟩) := by
  rw [call_eq t_l_szTaskS]
  have hm : maxLen = 9223372036854775807 := by decide
  simp +contextual only [a_l_szTaskS, c_l_szTaskS, go_sem, entry, joinEsc, if_pos, reduceIte, Nat.reduceAdd, Nat.reduceLeDiff, Nat.reduceLT, Nat.reduceEqDiff]
  rw [wrap64 (by omega) (by omega)]
  by_cases h1 : n ≤ x
  · rw [if_neg (by omega), if_pos h1]
  · rw [if_pos (by omega), if_neg h1]

theorem e_l_toTaskS {av : AV} {ts : List Tk} (ha : ArgT H av ts) (hn : ts.length ≤ 1048576) : call T pr f_l_toTaskS [av] ⟨H, e⟩ = some (slT H.length ts.length (some ts.length), ⟨H ++ [.cells (encT ts) true], e⟩) := by
  obtain ⟨p, sz, c, rfl, _, ha⟩ := ha
  apply Wc.eq
  rw [call_wc t_l_toTaskS]
  have hmb : (ts.length : Int) * ((32 : Nat) : Int) ≤ ((maxBytes : Nat) : Int) := by unfold maxBytes; omega
  simp +contextual only [a_l_toTaskS, c_l_toTaskS, hmb, Wp_some, Wp_none, Wp_ite, Wc_some, Wc_none, Wc_ite, Wp_thenRun, seqQ_normal, seqQ_exit, seqQ_ret, Wp_inBlock, blkQ_normal, blkQ_ret, blkQ_same, blkQ_exit, Wp_opThen, opQ_at, Wp_guardP, retQ_normal, retQ_ret, loopQ_normal, loopQ_exit, loopQ_ret, go_sem, entry, joinEsc, if_pos, reduceIte, Nat.reduceAdd, Nat.reduceLeDiff, Nat.reduceLT, Nat.reduceEqDiff]
  rw [show zeros ts.length [AV.int .i64 0, .int .i64 0, .int .i64 0, .int .i64 0] = encT (List.replicate ts.length (0, 0, 0, 0)) from zeros_encE (f := tkC) (z := (0, 0, 0, 0)) ts.length]
  refine Wp_loop (fun k st => ∃ (i : Nat) (X : List Tk) (y : AV), k + i = ts.length ∧ X.length = ts.length ∧ X.take i = ts.take i ∧ st = ⟨[.slice p sz ts.length c, .slice none 0 0 none, slT H.length ts.length (some ts.length), .int .i64 i, y], ⟨H ++ [.cells (encT X) true], none⟩⟩) ?_ ts.length _ ⟨0, _, _, rfl, by simp, by simp, rfl⟩
  rintro k _ ⟨i, X, y, hk, hX, ht, rfl⟩
  by_cases hi : i < ts.length
  · have hl : ts[i]? = some ts[i] := List.getElem?_eq_getElem hi
    obtain ⟨rfl, b, rfl, hb⟩ := ha (by intro h; rw [h] at hi; simp at hi)
    have hle : i * 4 + 4 ≤ (encT X).length := by rw [encE_length tkC_length]; omega
    have hset : setRange (encT X) (i * 4) [.int .i64 ts[i].1, .int .i64 ts[i].2.1, .int .i64 ts[i].2.2.1, .int .i64 ts[i].2.2.2] = encT (X.set i ts[i]) := setRange_encE tkC_length ts[i] (show i < X.length by omega)
    have hp : part true (encT ts) (i * 4) 4 = some (.agg [.int .i64 ts[i].1, .int .i64 ts[i].2.1, .int .i64 ts[i].2.2.1, .int .i64 ts[i].2.2.2]) := part_encE tkC_length hl
    simp +contextual only [w_l_toTaskS_1, cells_mono hb, hi, hp, e_l_toTask, hle, hset, wrap_succ (show i < 9223372036854775807 by omega), decide_true, Wp_some, Wp_none, Wp_ite, Wc_some, Wc_none, Wc_ite, Wp_thenRun, seqQ_normal, seqQ_exit, seqQ_ret, Wp_inBlock, blkQ_normal, blkQ_ret, blkQ_same, blkQ_exit, Wp_opThen, opQ_at, Wp_guardP, retQ_normal, retQ_ret, loopQ_normal, loopQ_exit, loopQ_ret, go_sem, entry, joinEsc, if_pos, reduceIte, Nat.reduceAdd, Nat.reduceLeDiff, Nat.reduceLT, Nat.reduceEqDiff]
    refine ⟨k - 1, by omega, i + 1, X.set i ts[i], _, by omega, by simp [hX], ?_, rfl⟩
    rw [List.take_add_one, List.take_add_one, hl, List.getElem?_set_self (by omega), List.take_set_of_le (Nat.le_refl _), ht]
  · obtain rfl : i = ts.length := by omega
    have hX2 : X = ts := by rwa [← hX, List.take_length, hX, List.take_length] at ht
    subst hX2
    simp +contextual only [w_l_toTaskS_1, hi, under_encE tkC_under, decide_false, Wp_some, Wp_none, Wp_ite, Wc_some, Wc_none, Wc_ite, Wp_thenRun, seqQ_normal, seqQ_exit, seqQ_ret, Wp_inBlock, blkQ_normal, blkQ_ret, blkQ_same, blkQ_exit, Wp_opThen, opQ_at, Wp_guardP, retQ_normal, retQ_ret, loopQ_normal, loopQ_exit, loopQ_ret, finish_two_eq, finish_two_eq0, roots_slice_new, roots_slice_new0, roots_slice_none, roots_ptr_new, roots_ptr_new0, roots_int, roots_bool, roots_str, roots_agg, roots_tup, roots_cons, roots_nil, rename_slice, rename_slice_none, rename_ptr, rename_int, rename_bool, rename_str, rename_agg, rename_tup, rename_cons, rename_nil, keepBlks_nil, keepBlks_cons, flatAll_nil, flatAll_cons, flatBlk_cells, dedup_nil, dedup_one, dedup_two, renum_one, renum_one0, renum_two0, renum_two1, clean_none', clean_some, minEsc_none, minEsc_some, Nat.add_left_cancel_iff, Nat.le_add_right, Nat.le_refl, decide_true, go_sem, entry, joinEsc, if_pos, reduceIte, Nat.reduceAdd, Nat.reduceLeDiff, Nat.reduceLT, Nat.reduceEqDiff]

theorem e_l_eqTask (m : Tk) : call T pr f_l_eqTask [.agg (tkC m), .agg (tkC m)] ⟨H, e⟩ = some (.bool true, ⟨H, e⟩) := by
  rw [call_eq t_l_eqTask]
  simp +contextual only [a_l_eqTask, c_l_eqTask, tkC, decide_true, go_sem, entry, joinEsc, if_pos, reduceIte, Nat.reduceAdd, Nat.reduceLeDiff, Nat.reduceLT, Nat.reduceEqDiff]

theorem e_l_eqTaskS {b1 b2 : Nat} {c1 c2 : Option Nat} {ts : List Tk} (h1 : cellsAt H b1 = some (encT ts)) (h2 : cellsAt H b2 = some (encT ts)) (hn : ts.length ≤ 1048576) :
    call T pr f_l_eqTaskS [slT b1 ts.length c1, slT b2 ts.length c2] ⟨H, e⟩ = some (.bool true, ⟨H, e⟩) := by
  apply Wc.eq
  rw [call_wc t_l_eqTaskS]
  simp +contextual only [a_l_eqTaskS, c_l_eqTaskS, decide_true, Wp_some, Wp_none, Wp_ite, Wc_some, Wc_none, Wc_ite, Wp_thenRun, seqQ_normal, seqQ_exit, seqQ_ret, Wp_inBlock, blkQ_normal, blkQ_ret, blkQ_same, blkQ_exit, Wp_opThen, opQ_at, Wp_guardP, retQ_normal, retQ_ret, loopQ_normal, loopQ_exit, loopQ_ret, go_sem, entry, joinEsc, if_pos, reduceIte, Nat.reduceAdd, Nat.reduceLeDiff, Nat.reduceLT, Nat.reduceEqDiff]
  refine Wp_loop (fun k st => ∃ (i : Nat) (y z w : AV), k + i = ts.length ∧ st = ⟨[slT b1 ts.length c1, slT b2 ts.length c2, .bool false, .int .i64 i, y, z, w], ⟨H, none⟩⟩) ?_ ts.length _ ⟨0, _, _, _, rfl, rfl⟩
  rintro k _ ⟨i, y, z, w, hk, rfl⟩
  by_cases hi : i < ts.length
  · have hl : ts[i]? = some ts[i] := List.getElem?_eq_getElem hi
    simp +contextual only [w_l_eqTaskS_1, h1, h2, hi, part_encE tkC_length hl, e_l_eqTask, wrap_succ (show i < 9223372036854775807 by omega), decide_true, Wp_some, Wp_none, Wp_ite, Wc_some, Wc_none, Wc_ite, Wp_thenRun, seqQ_normal, seqQ_exit, seqQ_ret, Wp_inBlock, blkQ_normal, blkQ_ret, blkQ_same, blkQ_exit, Wp_opThen, opQ_at, Wp_guardP, retQ_normal, retQ_ret, loopQ_normal, loopQ_exit, loopQ_ret, go_sem, entry, joinEsc, if_pos, reduceIte, Nat.reduceAdd, Nat.reduceLeDiff, Nat.reduceLT, Nat.reduceEqDiff]
    exact ⟨k - 1, by omega, i + 1, _, _, _, by omega, rfl⟩
  · obtain rfl : i = ts.length := by omega
    simp +contextual only [w_l_eqTaskS_1, hi, decide_false, Wp_some, Wp_none, Wp_ite, Wc_some, Wc_none, Wc_ite, Wp_thenRun, seqQ_normal, seqQ_exit, seqQ_ret, Wp_inBlock, blkQ_normal, blkQ_ret, blkQ_same, blkQ_exit, Wp_opThen, opQ_at, Wp_guardP, retQ_normal, retQ_ret, loopQ_normal, loopQ_exit, loopQ_ret, go_sem, entry, joinEsc, if_pos, reduceIte, Nat.reduceAdd, Nat.reduceLeDiff, Nat.reduceLT, Nat.reduceEqDiff]

theorem e_l_markTaskS {L : List Blk} {b : Nat} {c : Option Nat} {ts : List Tk} (h : L[b]? = some (.cells (encT ts) true)) (hn : ts.length ≤ 1048576) (k : Nat) (hk : k ≤ 16777216) :
    ∃ X : List Tk, call T pr f_l_markTaskS [slT b ts.length c, .int .i64 k] ⟨L, e⟩ = some (.int .i64 ((k + ts.length * 4 : Nat) : Int), ⟨L.set b (.cells (encT X) true), e⟩) := by
  have hb := (List.getElem?_eq_some_iff.mp h).1
  suffices hW : Wc (call T pr f_l_markTaskS [slT b ts.length c, .int .i64 k] ⟨L, e⟩) (fun v m => ∃ X : List Tk, v = .int .i64 ((k + ts.length * 4 : Nat) : Int) ∧ m = ⟨L.set b (.cells (encT X) true), e⟩) by
    obtain ⟨v, m, hc, X, rfl, rfl⟩ := hW
    exact ⟨X, hc⟩
  rw [call_wc t_l_markTaskS]
  simp +contextual only [a_l_markTaskS, c_l_markTaskS, decide_true, Wp_some, Wp_none, Wp_ite, Wc_some, Wc_none, Wc_ite, Wp_thenRun, seqQ_normal, seqQ_exit, seqQ_ret, Wp_inBlock, blkQ_normal, blkQ_ret, blkQ_same, blkQ_exit, Wp_opThen, opQ_at, Wp_guardP, retQ_normal, retQ_ret, loopQ_normal, loopQ_exit, loopQ_ret, go_sem, entry, joinEsc, if_pos, reduceIte, Nat.reduceAdd, Nat.reduceLeDiff, Nat.reduceLT, Nat.reduceEqDiff]
  refine Wp_loop (fun j st => ∃ (i : Nat) (X : List Tk) (y : AV), j + i = ts.length ∧ X.length = ts.length ∧ st = ⟨[slT b ts.length c, .int .i64 ((k + i * 4 : Nat) : Int), .int .i64 0, .int .i64 i, y], ⟨L.set b (.cells (encT X) true), none⟩⟩) ?_ ts.length _ ⟨0, ts, _, rfl, rfl, by rw [set_same h, Nat.zero_mul]; rfl⟩
  rintro j _ ⟨i, X, y, hj, hX, rfl⟩
  by_cases hi : i < ts.length
  · have hiX : i < X.length := by omega
    have hg : ∀ Y : List AV, (L.set b (.cells Y true))[b]? = some (.cells Y true) := fun Y => List.getElem?_set_self hb
    have hle0 : ∀ Y : List Tk, Y.length = ts.length → i * 4 + 1 ≤ (encT Y).length := fun Y hY => by rw [encE_length tkC_length]; omega
    have hle1 : ∀ Y : List Tk, Y.length = ts.length → i * 4 + 1 + 1 ≤ (encT Y).length := fun Y hY => by rw [encE_length tkC_length]; omega
    have hle2 : ∀ Y : List Tk, Y.length = ts.length → i * 4 + 2 + 1 ≤ (encT Y).length := fun Y hY => by rw [encE_length tkC_length]; omega
    have hle3 : ∀ Y : List Tk, Y.length = ts.length → i * 4 + 3 + 1 ≤ (encT Y).length := fun Y hY => by rw [encE_length tkC_length]; omega
    have hst : ∀ (Y : List Tk) (j : Nat) (x : Int), Y.length = ts.length → j < 4 → ∃ Z : List Tk, Z.length = ts.length ∧ setRange (encT Y) (i * 4 + j) [.int .i64 x] = encT Z := by
      intro Y j x hY hj4
      obtain ⟨m, hm⟩ : ∃ m, Y[i]? = some m := ⟨_, List.getElem?_eq_getElem (by omega)⟩
      match j, hj4 with
      | 0, _ => exact ⟨Y.set i (x, m.2), by simp [hY], setRange_encEj tkC_length hm (by omega) rfl⟩
      | 1, _ => exact ⟨Y.set i (m.1, x, m.2.2), by simp [hY], setRange_encEj tkC_length hm (by omega) rfl⟩
      | 2, _ => exact ⟨Y.set i (m.1, m.2.1, x, m.2.2.2), by simp [hY], setRange_encEj tkC_length hm (by omega) rfl⟩
      | 3, _ => exact ⟨Y.set i (m.1, m.2.1, m.2.2.1, x), by simp [hY], setRange_encEj tkC_length hm (by omega) rfl⟩
    obtain ⟨X1, hX1, s1⟩ := hst X 0 ((k + i * 4 : Nat) : Int) hX (by omega)
    obtain ⟨X2, hX2, s2⟩ := hst X1 1 ((k + i * 4 + 1 : Nat) : Int) hX1 (by omega)
    obtain ⟨X3, hX3, s3⟩ := hst X2 2 ((k + i * 4 + 2 : Nat) : Int) hX2 (by omega)
    obtain ⟨X4, hX4, s4⟩ := hst X3 3 ((k + i * 4 + 3 : Nat) : Int) hX3 (by omega)
    rw [Nat.add_zero] at s1
    have hw1 : IntKind.i64.wrap (((k + i * 4 : Nat) : Int) + 1) = ((k + i * 4 + 1 : Nat) : Int) := wrap_succ (by omega)
    have hw2 : IntKind.i64.wrap (((k + i * 4 + 1 : Nat) : Int) + 1) = ((k + i * 4 + 2 : Nat) : Int) := wrap_succ (by omega)
    have hw3 : IntKind.i64.wrap (((k + i * 4 + 2 : Nat) : Int) + 1) = ((k + i * 4 + 3 : Nat) : Int) := wrap_succ (by omega)
    have hw4 : IntKind.i64.wrap (((k + i * 4 + 3 : Nat) : Int) + 1) = ((k + (i + 1) * 4 : Nat) : Int) := by rw [show k + (i + 1) * 4 = k + i * 4 + 3 + 1 by omega]; exact wrap_succ (by omega)
    simp +contextual only [w_l_markTaskS_1, hi, hg, hle0 X hX, hle1 X1 hX1, hle2 X2 hX2, hle3 X3 hX3, s1, s2, s3, s4, hw1, hw2, hw3, hw4, List.set_set, wrap_succ (show i < 9223372036854775807 by omega), decide_true, Wp_some, Wp_none, Wp_ite, Wc_some, Wc_none, Wc_ite, Wp_thenRun, seqQ_normal, seqQ_exit, seqQ_ret, Wp_inBlock, blkQ_normal, blkQ_ret, blkQ_same, blkQ_exit, Wp_opThen, opQ_at, Wp_guardP, retQ_normal, retQ_ret, loopQ_normal, loopQ_exit, loopQ_ret, go_sem, entry, joinEsc, if_pos, reduceIte, Nat.reduceAdd, Nat.reduceLeDiff, Nat.reduceLT, Nat.reduceEqDiff]
    exact ⟨j - 1, by omega, i + 1, X4, _, by omega, hX4, rfl⟩
  · obtain rfl : i = ts.length := by omega
    simp +contextual only [w_l_markTaskS_1, hi, finish_one_set, decide_false, Wp_some, Wp_none, Wp_ite, Wc_some, Wc_none, Wc_ite, Wp_thenRun, seqQ_normal, seqQ_exit, seqQ_ret, Wp_inBlock, blkQ_normal, blkQ_ret, blkQ_same, blkQ_exit, Wp_opThen, opQ_at, Wp_guardP, retQ_normal, retQ_ret, loopQ_normal, loopQ_exit, loopQ_ret, go_sem, entry, joinEsc, if_pos, reduceIte, Nat.reduceAdd, Nat.reduceLeDiff, Nat.reduceLT, Nat.reduceEqDiff]
    exact ⟨X, rfl⟩

end Go.Proofs.Ytlocjmbfcdfjfaa.Slim

/- Some tasks of a stand, one behind the other. -/
namespace Go.Proofs.Ytlocjmbfcdfjfaa.Slim

open Go

set_option linter.unusedSimpArgs false

set_option linter.unusedVariables false

variable {pr : Prims} {H : List Blk} {e : Option Nat}

/-- a stand's parts -/
structure Sd where
  ls : List Ld
  ss : List Sg
  a : Int
  b : Int
  t : Int
  c : Int

def Sd.ok (s : Sd) : Bool := stOk s.ls s.ss s.a s.b s.t s.c

/-- a task of a stand -/
def stepT (s : Sd) (m : Tk) : Option Sd :=
  if doOk s.ls s.ss s.a s.b s.t s.c m.1 m.2.1 m.2.2.1 m.2.2.2 = true then
    some ⟨rowT s.ls m.1 m.2.1 m.2.2.1, chainT s.ss m.1 m.2.1 m.2.2.1 m.2.2.2, baseA s.a m.1 m.2.1, baseA s.b m.1 m.2.2.1, tipsT s.ls s.a s.b s.t m.1 m.2.1 m.2.2.1, wr (s.c + 1)⟩
  else none

theorem stepT_ok {s s' : Sd} {m : Tk} (h : s.ok = true) (hs : stepT s m = some s') : s'.ok = true := by
  unfold stepT at hs
  split at hs
  · rename_i hd
    cases hs
    unfold doOk at hd
    rw [Bool.and_eq_true] at hd
    have h2 := hd.2
    unfold Sd.ok stOk restOk at *
    simp only [Bool.and_eq_true, decide_eq_true_eq] at *
    refine ⟨h2.1, h2.2.1, h2.2.2.1, h2.2.2.2.1, ?_⟩
    have hw : wr (s.c + 1) = s.c + 1 := wrap64 (by omega) (by omega)
    rw [hw] at h2 ⊢
    unfold tipsT
    split
    · omega
    · have hw2 : wr (s.t + 1) = s.t + 1 := wrap64 (by omega) (by omega)
      rw [hw2]
      omega
  · cases hs

/-- tasks up to the first one that is not possible -/
def tasksT (s : Sd) (i : Nat) : List Tk → Sd × Nat
  | [] => (s, i)
  | m :: ms => match stepT s m with
    | none => (s, i)
    | some s' => tasksT s' (i + 1) ms

theorem tasksT_ok : ∀ (ms : List Tk) (s : Sd) (i : Nat), s.ok = true → (tasksT s i ms).1.ok = true
  | [], s, i, h => h
  | m :: ms, s, i, h => by
    rw [tasksT]
    cases hs : stepT s m with
    | none => exact h
    | some s' => exact tasksT_ok ms s' (i + 1) (stepT_ok h hs)

theorem tasksT_le : ∀ (ms : List Tk) (s : Sd) (i : Nat), (tasksT s i ms).2 ≤ i + ms.length
  | [], s, i => by simp [tasksT]
  | m :: ms, s, i => by
    rw [tasksT, List.length_cons]
    cases hs : stepT s m with
    | none => simp
    | some s' => have := tasksT_le ms s' (i + 1); simp only; omega

theorem step_res (H : List Blk) (e : Option Nat) (s : Sd) (m : Tk) : doRes H e (doOk s.ls s.ss s.a s.b s.t s.c m.1 m.2.1 m.2.2.1 m.2.2.2) (rowT s.ls m.1 m.2.1 m.2.2.1) (chainT s.ss m.1 m.2.1 m.2.2.1 m.2.2.2) (baseA s.a m.1 m.2.1) (baseA s.b m.1 m.2.2.1) (tipsT s.ls s.a s.b s.t m.1 m.2.1 m.2.2.1) (wr (s.c + 1)) =
    match stepT s m with
    | some s' => some (.tup [stV (slL H.length s'.ls.length none) s'.a s'.b (slS (H.length + 1) s'.ss.length none) s'.t s'.c, .bool true], ⟨H ++ [.cells (encL s'.ls) true, .cells (encS s'.ss) true], e⟩)
    | none => some (.tup [noStand, .bool false], ⟨H, e⟩) := by
  unfold doRes stepT
  cases doOk s.ls s.ss s.a s.b s.t s.c m.1 m.2.1 m.2.2.1 m.2.2.2 <;> rfl

abbrev sdC (s : Sd) (p1 p2 : Nat) : List AV := [slL p1 s.ls.length none, .int .i64 s.a, .int .i64 s.b, slS p2 s.ss.length none, .int .i64 s.t, .int .i64 s.c]

theorem get_more {α : Type} {L : List α} {j : Nat} {b : α} (h : L[j]? = some b) (X : List α) : (L ++ X)[j]? = some b := by
  rw [List.getElem?_append_left (List.getElem?_eq_some_iff.mp h).1]; exact h

theorem cellsAt_of {L : List Blk} {j : Nat} {cs : List AV} {w : Bool} (h : L[j]? = some (.cells cs w)) : cellsAt L j = some cs := by
  unfold cellsAt; rw [h]

theorem e_i_DoTasks_no {q1 q2 qt : Nat} {c1 c2 ct : Option Nat} {ls : List Ld} {ss : List Sg} {n : Nat} (h1 : cellsAt H q1 = some (encL ls)) (h2 : cellsAt H q2 = some (encS ss)) (hm : ss.length ≤ 1048576) (a b t c : Int) (hv : stOk ls ss a b t c = false) :
    call T pr f_i_DoTasks [stV (slL q1 ls.length c1) a b (slS q2 ss.length c2) t c, slT qt n ct] ⟨H, e⟩ = some (.tup [noStand, .int .i64 0, .bool false], ⟨H, e⟩) := by
  have his := fun G => isStand_at (pr := pr) (e := none) (c1 := c1) (c2 := c2) (ls := ls) (ss := ss) rfl rfl hm a b t c (cells_mono h1 G) (cells_mono h2 G)
  rw [hv] at his
  rw [call_eq t_i_DoTasks]
  simp +contextual only [a_i_DoTasks, c_i_DoTasks, fillParts, his, under_sliceN, finish_two_eq, finish_two_eq0, roots_slice_new, roots_slice_new0, roots_slice_none, roots_ptr_new, roots_ptr_new0, roots_int, roots_bool, roots_str, roots_agg, roots_tup, roots_cons, roots_nil, rename_slice, rename_slice_none, rename_ptr, rename_int, rename_bool, rename_str, rename_agg, rename_tup, rename_cons, rename_nil, keepBlks_nil, keepBlks_cons, flatAll_nil, flatAll_cons, flatBlk_cells, dedup_nil, dedup_one, dedup_two, renum_one, renum_one0, renum_two0, renum_two1, clean_none', clean_some, minEsc_none, minEsc_some, Nat.add_left_cancel_iff, Nat.le_add_right, Nat.le_refl, decide_true, go_sem, entry, joinEsc, if_pos, reduceIte, Nat.reduceAdd, Nat.reduceLeDiff, Nat.reduceLT, Nat.reduceEqDiff]

theorem e_s_DoTasks_no {q1 q2 qt : Nat} {c1 c2 ct : Option Nat} {ls : List Ld} {ss : List Sg} {n : Nat} (h1 : cellsAt H q1 = some (encL ls)) (h2 : cellsAt H q2 = some (encS ss)) (hm : ss.length ≤ 1048576) (a b t c : Int) (hv : stOk ls ss a b t c = false) :
    call T pr f_s_DoTasks [stV (slL q1 ls.length c1) a b (slS q2 ss.length c2) t c, slT qt n ct] ⟨H, e⟩ = some (.tup [noStand, .int .i64 0, .bool false], ⟨H, e⟩) := by
  have his := fun G => good_at (pr := pr) (e := none) (c1 := c1) (c2 := c2) (ls := ls) (ss := ss) rfl rfl hm a b t c (cells_mono h1 G) (cells_mono h2 G)
  rw [hv] at his
  rw [call_eq t_s_DoTasks]
  simp +contextual only [a_s_DoTasks, c_s_DoTasks, fillParts, his, under_sliceN, finish_two_eq, finish_two_eq0, roots_slice_new, roots_slice_new0, roots_slice_none, roots_ptr_new, roots_ptr_new0, roots_int, roots_bool, roots_str, roots_agg, roots_tup, roots_cons, roots_nil, rename_slice, rename_slice_none, rename_ptr, rename_int, rename_bool, rename_str, rename_agg, rename_tup, rename_cons, rename_nil, keepBlks_nil, keepBlks_cons, flatAll_nil, flatAll_cons, flatBlk_cells, dedup_nil, dedup_one, dedup_two, renum_one, renum_one0, renum_two0, renum_two1, clean_none', clean_some, minEsc_none, minEsc_some, Nat.add_left_cancel_iff, Nat.le_add_right, Nat.le_refl, decide_true, go_sem, entry, joinEsc, if_pos, reduceIte, Nat.reduceAdd, Nat.reduceLeDiff, Nat.reduceLT, Nat.reduceEqDiff]

theorem e_i_DoTasks (hp : HasDelete pr) {q1 q2 qt : Nat} {c1 c2 ct : Option Nat} {ls : List Ld} {ss : List Sg} {ts : List Tk} (h1 : cellsAt H q1 = some (encL ls)) (h2 : cellsAt H q2 = some (encS ss)) (ht : cellsAt H qt = some (encT ts)) (hn : ts.length ≤ 1048576) (a b t c : Int) (hv : stOk ls ss a b t c = true) :
    call T pr f_i_DoTasks [stV (slL q1 ls.length c1) a b (slS q2 ss.length c2) t c, slT qt ts.length ct] ⟨H, e⟩ =
      some (.tup [.agg (sdC (tasksT ⟨ls, ss, a, b, t, c⟩ 0 ts).1 H.length (H.length + 1)), .int .i64 ((tasksT ⟨ls, ss, a, b, t, c⟩ 0 ts).2 : Nat), .bool true], ⟨H ++ [.cells (encL (tasksT ⟨ls, ss, a, b, t, c⟩ 0 ts).1.ls) true, .cells (encS (tasksT ⟨ls, ss, a, b, t, c⟩ 0 ts).1.ss) true], e⟩) := by
  have hs := st_small hv
  have his := fun G => isStand_at (pr := pr) (e := none) (c1 := c1) (c2 := c2) (ls := ls) (ss := ss) rfl rfl (by omega) a b t c (cells_mono h1 G) (cells_mono h2 G)
  rw [hv] at his
  have hcp := fun G => e_i_copyStand (pr := pr) (e := none) (H := H ++ G) (c1 := c1) (c2 := c2) (cells_mono h1 G) (cells_mono h2 G) (by omega) (by omega) a b t c
  apply Wc.eq
  rw [call_wc t_i_DoTasks]
  simp +contextual only [a_i_DoTasks, c_i_DoTasks, his, hcp, under_slice, clean_minEsc, Nat.add_assoc, Wp_some, Wp_none, Wp_ite, Wc_some, Wc_none, Wc_ite, Wp_thenRun, seqQ_normal, seqQ_exit, seqQ_ret, Wp_inBlock, blkQ_normal, blkQ_ret, blkQ_same, blkQ_exit, Wp_opThen, opQ_at, Wp_guardP, retQ_normal, retQ_ret, loopQ_normal, loopQ_exit, loopQ_ret, go_sem, entry, joinEsc, if_pos, reduceIte, Nat.reduceAdd, Nat.reduceLeDiff, Nat.reduceLT, Nat.reduceEqDiff]
  refine Wp_loop (fun k st => ∃ (i : Nat) (s : Sd) (j1 j2 : Nat) (B0 B1 B2 B3 : Blk) (G : List Blk) (e' : Option Nat) (y7 y8 y9 y10 y11 y15 y16 : AV), k + i = ts.length ∧ s.ok = true ∧ tasksT s i (ts.drop i) = tasksT ⟨ls, ss, a, b, t, c⟩ 0 ts ∧ j1 ≠ j2 ∧ clean H.length e' = true ∧
      (∀ M N, (B0 :: M :: B2 :: B3 :: N :: G)[j1]? = some (.cells (encL s.ls) true)) ∧ (∀ M N, (B0 :: M :: B2 :: B3 :: N :: G)[j2]? = some (.cells (encS s.ss) true)) ∧
      (∃ v0 v1 v2 v3 v4 v5, B1 = .cells [v0, v1, v2, v3, v4, v5] true) ∧
      st = ⟨[stV (slL q1 ls.length c1) a b (slS q2 ss.length c2) t c, slT qt ts.length ct, .ptr (some (H.length, 0)), .ptr (some (H.length + 1, 0)), .int .i64 0, .bool false, .ptr (some (H.length + 4, 0)), y7, y8, y9, y10, y11, slT qt ts.length ct, .int .i64 ts.length, .int .i64 i, y15, y16], ⟨H ++ (B0 :: B1 :: B2 :: B3 :: .cells (sdC s (H.length + j1) (H.length + j2)) true :: G), e'⟩⟩) ?_ ts.length _
    ⟨0, ⟨ls, ss, a, b, t, c⟩, 2, 3, _, _, _, _, [], _, _, _, _, _, _, _, _, rfl, hv, rfl, by decide, ?_, fun M N => rfl, fun M N => rfl, ⟨_, _, _, _, _, _, rfl⟩, rfl⟩
  · rintro k _ ⟨i, s, j1, j2, B0, B1, B2, B3, G, e', y7, y8, y9, y10, y11, y15, y16, hk, hok, htt, hne, he', g1, g2, ⟨v0, v1, v2, v3, v4, v5, rfl⟩, rfl⟩
    by_cases hi : i < ts.length
    · obtain ⟨m, hm⟩ : ∃ m, ts[i]? = some m := ⟨_, List.getElem?_eq_getElem hi⟩
      have hd : ts.drop i = m :: ts.drop (i + 1) := by
        rw [List.drop_eq_getElem_cons hi]
        rw [List.getElem?_eq_getElem hi] at hm
        rw [Option.some.inj hm]
      have hpt : part true (encT ts) (i * 4) 4 = some (tkV m.1 m.2.1 m.2.2.1 m.2.2.2) := part_encE tkC_length hm
      have hg1 : ∀ M N X, cellsAt (B0 :: M :: B2 :: B3 :: N :: (G ++ X)) j1 = some (encL s.ls) := fun M N X => cellsAt_of (get_more (g1 M N) X)
      have hg2 : ∀ M N X, cellsAt (B0 :: M :: B2 :: B3 :: N :: (G ++ X)) j2 = some (encS s.ss) := fun M N X => cellsAt_of (get_more (g2 M N) X)
      have hss := st_small hok
      have hdo := fun L e' (h1 : cellsAt L (H.length + j1) = some (encL s.ls)) (h2 : cellsAt L (H.length + j2) = some (encS s.ss)) => (e_i_DoTask (pr := pr) (H := L) (e := e') hp (c1 := none) (c2 := none) h1 h2 (by omega) (by omega) m.1 m.2.1 m.2.2.1 m.2.2.2 hok).trans (step_res L e' s m)
      rw [hd, tasksT] at htt
      cases hst : stepT s m with
      | none =>
        simp only [hst] at hdo htt
        rw [← htt]
        have hk1 : ∀ M N X, (B0 :: M :: B2 :: B3 :: N :: (G ++ X))[j1]? = some (.cells (encL s.ls) true) := fun M N X => get_more (g1 M N) X
        have hk2 : ∀ M N X, (B0 :: M :: B2 :: B3 :: N :: (G ++ X))[j2]? = some (.cells (encS s.ss) true) := fun M N X => get_more (g2 M N) X
        simp +contextual only [w_i_DoTasks_1, fillParts, cells_mono ht, hi, hpt, hg1, hg2, hk1, hk2, hdo, under_sliceN, clean_ite, clean_minEsc, he', ne_eq, hne, not_false_eq_true, under_encL, under_encS, decide_true, Wp_some, Wp_none, Wp_ite, Wc_some, Wc_none, Wc_ite, Wp_thenRun, seqQ_normal, seqQ_exit, seqQ_ret, Wp_inBlock, blkQ_normal, blkQ_ret, blkQ_same, blkQ_exit, Wp_opThen, opQ_at, Wp_guardP, retQ_normal, retQ_ret, loopQ_normal, loopQ_exit, loopQ_ret, finish_two_eq, finish_two_eq0, roots_slice_new, roots_slice_new0, roots_slice_none, roots_ptr_new, roots_ptr_new0, roots_int, roots_bool, roots_str, roots_agg, roots_tup, roots_cons, roots_nil, rename_slice, rename_slice_none, rename_ptr, rename_int, rename_bool, rename_str, rename_agg, rename_tup, rename_cons, rename_nil, keepBlks_nil, keepBlks_cons, flatAll_nil, flatAll_cons, flatBlk_cells, dedup_nil, dedup_one, dedup_two, renum_one, renum_one0, renum_two0, renum_two1, clean_none', clean_some, minEsc_none, minEsc_some, Nat.add_left_cancel_iff, Nat.le_add_right, Nat.le_refl, decide_true, go_sem, entry, joinEsc, if_pos, reduceIte, Nat.reduceAdd, Nat.reduceLeDiff, Nat.reduceLT, Nat.reduceEqDiff]
      | some s' =>
        simp only [hst] at hdo htt
        simp +contextual only [w_i_DoTasks_1, fillParts, cells_mono ht, hi, hpt, hg1, hg2, hdo, wrap_succ (show i < 9223372036854775807 by omega), under_sliceN, clean_ite, clean_minEsc, decide_true, Wp_some, Wp_none, Wp_ite, Wc_some, Wc_none, Wc_ite, Wp_thenRun, seqQ_normal, seqQ_exit, seqQ_ret, Wp_inBlock, blkQ_normal, blkQ_ret, blkQ_same, blkQ_exit, Wp_opThen, opQ_at, Wp_guardP, retQ_normal, retQ_ret, loopQ_normal, loopQ_exit, loopQ_ret, go_sem, entry, joinEsc, if_pos, reduceIte, Nat.reduceAdd, Nat.reduceLeDiff, Nat.reduceLT, Nat.reduceEqDiff]
        refine ⟨k - 1, by omega, i + 1, s', G.length + 6, G.length + 7, _, _, _, _, _, _, _, _, _, _, _, _, _, by omega, stepT_ok hok hst, htt, by omega, ?_, fun M N => ?_, fun M N => ?_, ⟨_, _, _, _, _, _, rfl⟩, rfl⟩
        · simp only [clean_ite, clean_minEsc, he', Nat.le_add_right, Nat.add_assoc, decide_true, Bool.true_and, ite_self]
        · show (G ++ _)[G.length + 1]? = _
          rw [blkAt_newk]; rfl
        · show (G ++ _)[G.length + 2]? = _
          rw [blkAt_newk]; rfl
    · obtain rfl : i = ts.length := by omega
      rw [List.drop_length, tasksT] at htt
      rw [← htt]
      simp +contextual only [w_i_DoTasks_1, fillParts, hi, g1, g2, under_sliceN, clean_ite, clean_minEsc, he', ne_eq, hne, not_false_eq_true, under_encL, under_encS, decide_true, decide_false, Wp_some, Wp_none, Wp_ite, Wc_some, Wc_none, Wc_ite, Wp_thenRun, seqQ_normal, seqQ_exit, seqQ_ret, Wp_inBlock, blkQ_normal, blkQ_ret, blkQ_same, blkQ_exit, Wp_opThen, opQ_at, Wp_guardP, retQ_normal, retQ_ret, loopQ_normal, loopQ_exit, loopQ_ret, finish_two_eq, finish_two_eq0, roots_slice_new, roots_slice_new0, roots_slice_none, roots_ptr_new, roots_ptr_new0, roots_int, roots_bool, roots_str, roots_agg, roots_tup, roots_cons, roots_nil, rename_slice, rename_slice_none, rename_ptr, rename_int, rename_bool, rename_str, rename_agg, rename_tup, rename_cons, rename_nil, keepBlks_nil, keepBlks_cons, flatAll_nil, flatAll_cons, flatBlk_cells, dedup_nil, dedup_one, dedup_two, renum_one, renum_one0, renum_two0, renum_two1, clean_none', clean_some, minEsc_none, minEsc_some, Nat.add_left_cancel_iff, Nat.le_add_right, Nat.le_refl, decide_true, go_sem, entry, joinEsc, if_pos, reduceIte, Nat.reduceAdd, Nat.reduceLeDiff, Nat.reduceLT, Nat.reduceEqDiff]
  · simp only [clean_ite, clean_minEsc, clean_none', Nat.le_add_right, Nat.add_assoc, decide_true, Bool.true_and, ite_self]

theorem e_s_DoTasks {q1 q2 qt : Nat} {c1 c2 ct : Option Nat} {ls : List Ld} {ss : List Sg} {ts : List Tk} (h1 : cellsAt H q1 = some (encL ls)) (h2 : cellsAt H q2 = some (encS ss)) (ht : cellsAt H qt = some (encT ts)) (hn : ts.length ≤ 1048576) (a b t c : Int) (hv : stOk ls ss a b t c = true) :
    call T pr f_s_DoTasks [stV (slL q1 ls.length c1) a b (slS q2 ss.length c2) t c, slT qt ts.length ct] ⟨H, e⟩ =
      some (.tup [.agg (sdC (tasksT ⟨ls, ss, a, b, t, c⟩ 0 ts).1 H.length (H.length + 1)), .int .i64 ((tasksT ⟨ls, ss, a, b, t, c⟩ 0 ts).2 : Nat), .bool true], ⟨H ++ [.cells (encL (tasksT ⟨ls, ss, a, b, t, c⟩ 0 ts).1.ls) true, .cells (encS (tasksT ⟨ls, ss, a, b, t, c⟩ 0 ts).1.ss) true], e⟩) := by
  have hs := st_small hv
  have his := fun G => good_at (pr := pr) (e := none) (c1 := c1) (c2 := c2) (ls := ls) (ss := ss) rfl rfl (by omega) a b t c (cells_mono h1 G) (cells_mono h2 G)
  rw [hv] at his
  have hcp := fun G => e_s_l12Own (pr := pr) (e := none) (H := H ++ G) (c1 := c1) (c2 := c2) (cells_mono h1 G) (cells_mono h2 G) (by omega) (by omega) a b t c
  apply Wc.eq
  rw [call_wc t_s_DoTasks]
  simp +contextual only [a_s_DoTasks, c_s_DoTasks, his, hcp, under_slice, clean_minEsc, Nat.add_assoc, Wp_some, Wp_none, Wp_ite, Wc_some, Wc_none, Wc_ite, Wp_thenRun, seqQ_normal, seqQ_exit, seqQ_ret, Wp_inBlock, blkQ_normal, blkQ_ret, blkQ_same, blkQ_exit, Wp_opThen, opQ_at, Wp_guardP, retQ_normal, retQ_ret, loopQ_normal, loopQ_exit, loopQ_ret, go_sem, entry, joinEsc, if_pos, reduceIte, Nat.reduceAdd, Nat.reduceLeDiff, Nat.reduceLT, Nat.reduceEqDiff]
  refine Wp_loop (fun k st => ∃ (i : Nat) (s : Sd) (j1 j2 : Nat) (B0 B1 B2 B3 : Blk) (G : List Blk) (e' : Option Nat) (y8 y9 y10 y11 y12 : AV), k + i = ts.length ∧ s.ok = true ∧ tasksT s i (ts.drop i) = tasksT ⟨ls, ss, a, b, t, c⟩ 0 ts ∧ j1 ≠ j2 ∧ clean H.length e' = true ∧
      (∀ M N, (B0 :: M :: B2 :: B3 :: N :: G)[j1]? = some (.cells (encL s.ls) true)) ∧ (∀ M N, (B0 :: M :: B2 :: B3 :: N :: G)[j2]? = some (.cells (encS s.ss) true)) ∧
      (∃ v0 v1 v2 v3 v4 v5, B1 = .cells [v0, v1, v2, v3, v4, v5] true) ∧
      st = ⟨[stV (slL q1 ls.length c1) a b (slS q2 ss.length c2) t c, slT qt ts.length ct, .ptr (some (H.length, 0)), .ptr (some (H.length + 1, 0)), .int .i64 0, .bool false, .ptr (some (H.length + 4, 0)), .int .i64 i, y8, y9, y10, y11, y12], ⟨H ++ (B0 :: B1 :: B2 :: B3 :: .cells (sdC s (H.length + j1) (H.length + j2)) true :: G), e'⟩⟩) ?_ ts.length _
    ⟨0, ⟨ls, ss, a, b, t, c⟩, 2, 3, _, _, _, _, [], _, _, _, _, _, _, rfl, hv, rfl, by decide, ?_, fun M N => rfl, fun M N => rfl, ⟨_, _, _, _, _, _, rfl⟩, rfl⟩
  · rintro k _ ⟨i, s, j1, j2, B0, B1, B2, B3, G, e', y8, y9, y10, y11, y12, hk, hok, htt, hne, he', g1, g2, ⟨v0, v1, v2, v3, v4, v5, rfl⟩, rfl⟩
    by_cases hi : i < ts.length
    · obtain ⟨m, hm⟩ : ∃ m, ts[i]? = some m := ⟨_, List.getElem?_eq_getElem hi⟩
      have hd : ts.drop i = m :: ts.drop (i + 1) := by
        rw [List.drop_eq_getElem_cons hi]
        rw [List.getElem?_eq_getElem hi] at hm
        rw [Option.some.inj hm]
      have hpt : part true (encT ts) (i * 4) 4 = some (tkV m.1 m.2.1 m.2.2.1 m.2.2.2) := part_encE tkC_length hm
      have hg1 : ∀ M N X, cellsAt (B0 :: M :: B2 :: B3 :: N :: (G ++ X)) j1 = some (encL s.ls) := fun M N X => cellsAt_of (get_more (g1 M N) X)
      have hg2 : ∀ M N X, cellsAt (B0 :: M :: B2 :: B3 :: N :: (G ++ X)) j2 = some (encS s.ss) := fun M N X => cellsAt_of (get_more (g2 M N) X)
      have hg10 : ∀ M N, cellsAt (B0 :: M :: B2 :: B3 :: N :: G) j1 = some (encL s.ls) := fun M N => cellsAt_of (g1 M N)
      have hg20 : ∀ M N, cellsAt (B0 :: M :: B2 :: B3 :: N :: G) j2 = some (encS s.ss) := fun M N => cellsAt_of (g2 M N)
      have hss := st_small hok
      have hdo := fun L e' (h1 : cellsAt L (H.length + j1) = some (encL s.ls)) (h2 : cellsAt L (H.length + j2) = some (encS s.ss)) => (e_s_l12Do (pr := pr) (H := L) (e := e') (c1 := none) (c2 := none) h1 h2 (by omega) (by omega) s.a s.b s.t s.c m.1 m.2.1 m.2.2.1 m.2.2.2).trans (step_res L e' s m)
      rw [hd, tasksT] at htt
      cases hst : stepT s m with
      | none =>
        simp only [hst] at hdo htt
        rw [← htt]
        have hk1 : ∀ M N X, (B0 :: M :: B2 :: B3 :: N :: (G ++ X))[j1]? = some (.cells (encL s.ls) true) := fun M N X => get_more (g1 M N) X
        have hk2 : ∀ M N X, (B0 :: M :: B2 :: B3 :: N :: (G ++ X))[j2]? = some (.cells (encS s.ss) true) := fun M N X => get_more (g2 M N) X
        simp +contextual only [w_s_DoTasks_1, fillParts, cells_mono ht, hi, hpt, hg1, hg2, hg10, hg20, hk1, hk2, hdo, under_sliceN, clean_ite, clean_minEsc, he', ne_eq, hne, not_false_eq_true, under_encL, under_encS, decide_true, Wp_some, Wp_none, Wp_ite, Wc_some, Wc_none, Wc_ite, Wp_thenRun, seqQ_normal, seqQ_exit, seqQ_ret, Wp_inBlock, blkQ_normal, blkQ_ret, blkQ_same, blkQ_exit, Wp_opThen, opQ_at, Wp_guardP, retQ_normal, retQ_ret, loopQ_normal, loopQ_exit, loopQ_ret, finish_two_eq, finish_two_eq0, roots_slice_new, roots_slice_new0, roots_slice_none, roots_ptr_new, roots_ptr_new0, roots_int, roots_bool, roots_str, roots_agg, roots_tup, roots_cons, roots_nil, rename_slice, rename_slice_none, rename_ptr, rename_int, rename_bool, rename_str, rename_agg, rename_tup, rename_cons, rename_nil, keepBlks_nil, keepBlks_cons, flatAll_nil, flatAll_cons, flatBlk_cells, dedup_nil, dedup_one, dedup_two, renum_one, renum_one0, renum_two0, renum_two1, clean_none', clean_some, minEsc_none, minEsc_some, Nat.add_left_cancel_iff, Nat.le_add_right, Nat.le_refl, decide_true, go_sem, entry, joinEsc, if_pos, reduceIte, Nat.reduceAdd, Nat.reduceLeDiff, Nat.reduceLT, Nat.reduceEqDiff]
      | some s' =>
        simp only [hst] at hdo htt
        simp +contextual only [w_s_DoTasks_1, fillParts, cells_mono ht, hi, hpt, hg1, hg2, hg10, hg20, hdo, wrap_succ (show i < 9223372036854775807 by omega), under_sliceN, clean_ite, clean_minEsc, decide_true, Wp_some, Wp_none, Wp_ite, Wc_some, Wc_none, Wc_ite, Wp_thenRun, seqQ_normal, seqQ_exit, seqQ_ret, Wp_inBlock, blkQ_normal, blkQ_ret, blkQ_same, blkQ_exit, Wp_opThen, opQ_at, Wp_guardP, retQ_normal, retQ_ret, loopQ_normal, loopQ_exit, loopQ_ret, go_sem, entry, joinEsc, if_pos, reduceIte, Nat.reduceAdd, Nat.reduceLeDiff, Nat.reduceLT, Nat.reduceEqDiff]
        refine ⟨k - 1, by omega, i + 1, s', G.length + 5, G.length + 6, _, _, _, _, _, _, _, _, _, _, _, by omega, stepT_ok hok hst, htt, by omega, ?_, fun M N => ?_, fun M N => ?_, ⟨_, _, _, _, _, _, rfl⟩, rfl⟩
        · simp only [clean_ite, clean_minEsc, he', Nat.le_add_right, Nat.add_assoc, decide_true, Bool.true_and, ite_self]
        · show (G ++ _)[G.length]? = _
          rw [blkAt_new0]; rfl
        · show (G ++ _)[G.length + 1]? = _
          rw [blkAt_newk]; rfl
    · obtain rfl : i = ts.length := by omega
      rw [List.drop_length, tasksT] at htt
      rw [← htt]
      simp +contextual only [w_s_DoTasks_1, fillParts, hi, g1, g2, under_sliceN, clean_ite, clean_minEsc, he', ne_eq, hne, not_false_eq_true, under_encL, under_encS, decide_true, decide_false, Wp_some, Wp_none, Wp_ite, Wc_some, Wc_none, Wc_ite, Wp_thenRun, seqQ_normal, seqQ_exit, seqQ_ret, Wp_inBlock, blkQ_normal, blkQ_ret, blkQ_same, blkQ_exit, Wp_opThen, opQ_at, Wp_guardP, retQ_normal, retQ_ret, loopQ_normal, loopQ_exit, loopQ_ret, finish_two_eq, finish_two_eq0, roots_slice_new, roots_slice_new0, roots_slice_none, roots_ptr_new, roots_ptr_new0, roots_int, roots_bool, roots_str, roots_agg, roots_tup, roots_cons, roots_nil, rename_slice, rename_slice_none, rename_ptr, rename_int, rename_bool, rename_str, rename_agg, rename_tup, rename_cons, rename_nil, keepBlks_nil, keepBlks_cons, flatAll_nil, flatAll_cons, flatBlk_cells, dedup_nil, dedup_one, dedup_two, renum_one, renum_one0, renum_two0, renum_two1, clean_none', clean_some, minEsc_none, minEsc_some, Nat.add_left_cancel_iff, Nat.le_add_right, Nat.le_refl, decide_true, go_sem, entry, joinEsc, if_pos, reduceIte, Nat.reduceAdd, Nat.reduceLeDiff, Nat.reduceLT, Nat.reduceEqDiff]
  · simp only [clean_ite, clean_minEsc, clean_none', Nat.le_add_right, Nat.add_assoc, decide_true, Bool.true_and, ite_self]

end Go.Proofs.Ytlocjmbfcdfjfaa.Slim

/- Some tasks of a stand: the law. -/
namespace Go.Proofs.Ytlocjmbfcdfjfaa.Slim

open Go

set_option linter.unusedSimpArgs false

set_option linter.unusedVariables false

variable {pr : Prims} {H : List Blk} {e : Option Nat}

theorem law_DoTasks (hp : HasDelete pr) {row chain tasks : AV} {ls : List Ld} {ss : List Sg} {ts : List Tk} (ha : ArgL H row ls) (hs : ArgS H chain ss) (ht : ArgT H tasks ts) (a b t k : Int) : ∃ m', call T pr f_l_FnExactDoTasks [stV row a b chain t k, tasks] ⟨H, none⟩ = some (.bool true, m') := by
  have hsz : ∀ G e', call T pr f_l_szStand [stV row a b chain t k, .int .i64 1048576] ⟨G, e'⟩ = some (.int .i64 (if ls.length + ss.length ≤ 1048576 then 1048576 - ((ls.length + ss.length : Nat) : Int) else -1), ⟨G, e'⟩) := by
    obtain ⟨p, sz, c, rfl, h2, h3⟩ := ha
    obtain ⟨p', sz', c', rfl, h2', h3'⟩ := hs
    exact fun G e' => e_l_szStand h2 h2' a b t k
  suffices hW : Wc (call T pr f_l_FnExactDoTasks [stV row a b chain t k, tasks] ⟨H, none⟩) (fun v m => v = .bool true) by
    obtain ⟨v, m, h, rfl⟩ := hW
    exact ⟨m, h⟩
  by_cases hn : ls.length + ss.length ≤ 1048576
  · have hneg : ¬ (1048576 - ((ls.length + ss.length : Nat) : Int) < 0) := by omega
    have hszt : ∀ G e', call T pr f_l_szTaskS [tasks, .int .i64 (1048576 - ((ls.length + ss.length : Nat) : Int))] ⟨G, e'⟩ = some (.int .i64 (if ts.length ≤ 1048576 - (ls.length + ss.length) then ((1048576 - (ls.length + ss.length) : Nat) : Int) - ts.length else -1), ⟨G, e'⟩) := by
      obtain ⟨p, sz, c, rfl, h2, h3⟩ := ht
      intro G e'
      rw [show (1048576 - ((ls.length + ss.length : Nat) : Int)) = ((1048576 - (ls.length + ss.length) : Nat) : Int) by omega]
      exact e_l_szTaskS _ _ _ _ h2 _ (by omega)
    by_cases hnt : ts.length ≤ 1048576 - (ls.length + ss.length)
    · have hneg2 : ¬ (((1048576 - (ls.length + ss.length) : Nat) : Int) - (ts.length : Int) < 0) := by omega
      have hn3 : ts.length ≤ 1048576 := by omega
      have hto := fun G => e_l_toStand (pr := pr) (e := none) (ha.more G) (hs.more G) (by omega) (by omega) a b t k
      have htt := fun G => e_l_toTaskS (pr := pr) (e := none) (ht.more G) hn3
      have hn1 : ls.length ≤ 1048576 := by omega
      have hm1 : ss.length ≤ 1048576 := by omega
      have heq : ∀ L q1 q2 k1 k2 q3 q4 k3 k4, cellsAt L q1 = some (encL ls) → cellsAt L q2 = some (encL ls) → cellsAt L q3 = some (encS ss) → cellsAt L q4 = some (encS ss) → call T pr f_l_eqStand [stV (slL q1 ls.length k1) a b (slS q3 ss.length k3) t k, stV (slL q2 ls.length k2) a b (slS q4 ss.length k4) t k] ⟨L, none⟩ = some (.bool true, ⟨L, none⟩) :=
        fun L q1 q2 k1 k2 q3 q4 k3 k4 h1 h2 h3 h4 => e_l_eqStand (fun G => e_l_eqLoadS (cells_mono h1 G) (cells_mono h2 G) (by omega)) (fun G => e_l_eqStageS (cells_mono h3 G) (cells_mono h4 G) (by omega)) a b t k
      have heqt := fun L b1 b2 c1 c2 h1 h2 => e_l_eqTaskS (pr := pr) (H := L) (e := none) (b1 := b1) (b2 := b2) (c1 := c1) (c2 := c2) (ts := ts) h1 h2 hn3
      have hmark : ∀ L q1 q2 c1 c2, q1 ≠ q2 → L[q1]? = some (.cells (encL ls) true) → L[q2]? = some (.cells (encS ss) true) → call T pr f_l_markStand [stV (slL q1 ls.length c1) a b (slS q2 ss.length c2) t k, .int .i64 1] ⟨L, none⟩ = some (.int .i64 ((1 + ls.length * 2 + ss.length * 3 : Nat) : Int), ⟨markMem L q1 q2 ls.length ss.length 1, none⟩) :=
        fun L q1 q2 c1 c2 hne h1 h2 => e_l_markStand h1 h2 hne hn1 hm1 a b t k 1 (by omega)
      have hmt : ∀ L b c, L[b]? = some (.cells (encT ts) true) → Wc (call T pr f_l_markTaskS [slT b ts.length c, .int .i64 (1 + (ls.length * 2 + ss.length * 3) : Nat)] ⟨L, none⟩) fun v m => ∃ X : List Tk, v = .int .i64 ((1 + (ls.length * 2 + (ss.length * 3 + ts.length * 4)) : Nat) : Int) ∧ m = ⟨L.set b (.cells (encT X) true), none⟩ := by
        intro L b c h
        obtain ⟨X, hX⟩ := e_l_markTaskS (pr := pr) (L := L) (e := none) (b := b) (c := c) (ts := ts) h hn3 (1 + (ls.length * 2 + ss.length * 3)) (by omega)
        refine ⟨_, _, hX, X, ?_, rfl⟩
        rw [show 1 + (ls.length * 2 + ss.length * 3) + ts.length * 4 = 1 + (ls.length * 2 + (ss.length * 3 + ts.length * 4)) by omega]
      have hk0 : ¬ (((1 + (ls.length * 2 + (ss.length * 3 + ts.length * 4)) : Nat) : Int) < 0) := by omega
      have h10 : ¬ ((1 : Int) < 0) := by omega
      cases hv : stOk ls ss a b t k with
      | false =>
        have hsi := fun L q q' qt c c' ct n h1 h2 => e_s_DoTasks_no (pr := pr) (H := L) (e := none) (q1 := q) (q2 := q') (qt := qt) (c1 := c) (c2 := c') (ct := ct) (ls := ls) (ss := ss) (n := n) h1 h2 hm1 a b t k hv
        have hii := fun L q q' qt c c' ct n h1 h2 => e_i_DoTasks_no (pr := pr) (H := L) (e := none) (q1 := q) (q2 := q') (qt := qt) (c1 := c) (c2 := c') (ct := ct) (ls := ls) (ss := ss) (n := n) h1 h2 hm1 a b t k hv
        have heqn := fun L p1 p2 p3 p4 s1 s2 s3 s4 k1 k2 k3 k4 x y z w => e_l_eqStand (pr := pr) (H := L) (e := none) (r1 := .slice p1 s1 0 k1) (r2 := .slice p2 s2 0 k2) (c1 := .slice p3 s3 0 k3) (c2 := .slice p4 s4 0 k4) (fun G => e_l_eqLoadS_none) (fun G => e_l_eqStageS_none) x y z w
        have hheld := fun L p1 p2 s1 s2 c1 c2 x y z w => e_l_heldStand_none (pr := pr) (H := L) (e := none) (p1 := p1) (p2 := p2) (s1 := s1) (s2 := s2) (c1 := c1) (c2 := c2) x y z w 1 (by omega)
        rw [call_wc t_l_FnExactDoTasks]
        simp +contextual only [a_l_FnExactDoTasks, c_l_FnExactDoTasks, hsz, hn, hneg, hszt, hnt, hneg2, hto, htt, hsi, hii, heq, heqt, heqn, hheld, e_l_markStand_none, hmark, hk0, h10, markMem_new, ne_eq, Nat.add_right_inj, Nat.add_left_cancel_iff, Nat.reduceEqDiff, not_false_eq_true, under_slice, under_sliceN, Nat.add_assoc, Nat.add_lt_add_iff_left, Nat.lt_add_right_iff_pos, decide_true, decide_false, beq_self_eq_true, Wp_some, Wp_none, Wp_ite, Wc_some, Wc_none, Wc_ite, Wp_thenRun, seqQ_normal, seqQ_exit, seqQ_ret, Wp_inBlock, blkQ_normal, blkQ_ret, blkQ_same, blkQ_exit, Wp_opThen, opQ_at, Wp_guardP, retQ_normal, retQ_ret, loopQ_normal, loopQ_exit, loopQ_ret, go_sem, entry, joinEsc, if_pos, reduceIte, Nat.reduceAdd, Nat.reduceLeDiff, Nat.reduceLT, Nat.reduceEqDiff]
        refine (hmt _ _ _ (by rw [blkAt_newk]; rfl)).mono ?_
        rintro v m ⟨X, rfl, rfl⟩
        simp +contextual only [a_l_FnExactDoTasks, c_l_FnExactDoTasks, hsz, hn, hneg, hszt, hnt, hneg2, hto, htt, hsi, hii, heq, heqt, heqn, hheld, e_l_markStand_none, hmark, hk0, h10, markMem_new, ne_eq, Nat.add_right_inj, Nat.add_left_cancel_iff, Nat.reduceEqDiff, not_false_eq_true, under_slice, under_sliceN, Nat.add_assoc, Nat.add_lt_add_iff_left, Nat.lt_add_right_iff_pos, decide_true, decide_false, beq_self_eq_true, Wp_some, Wp_none, Wp_ite, Wc_some, Wc_none, Wc_ite, Wp_thenRun, seqQ_normal, seqQ_exit, seqQ_ret, Wp_inBlock, blkQ_normal, blkQ_ret, blkQ_same, blkQ_exit, Wp_opThen, opQ_at, Wp_guardP, retQ_normal, retQ_ret, loopQ_normal, loopQ_exit, loopQ_ret, go_sem, entry, joinEsc, if_pos, reduceIte, Nat.reduceAdd, Nat.reduceLeDiff, Nat.reduceLT, Nat.reduceEqDiff]
      | true =>
        have hsm := st_small hv
        have hsi := fun L q q' qt c c' ct h1 h2 h3 => e_s_DoTasks (pr := pr) (H := L) (e := none) (q1 := q) (q2 := q') (qt := qt) (c1 := c) (c2 := c') (ct := ct) (ls := ls) (ss := ss) (ts := ts) h1 h2 h3 hn3 a b t k hv
        have hii := fun L q q' qt c c' ct h1 h2 h3 => e_i_DoTasks (pr := pr) (H := L) (e := none) hp (q1 := q) (q2 := q') (qt := qt) (c1 := c) (c2 := c') (ct := ct) (ls := ls) (ss := ss) (ts := ts) h1 h2 h3 hn3 a b t k hv
        have hro := st_small (tasksT_ok ts ⟨ls, ss, a, b, t, k⟩ 0 hv)
        generalize tasksT ⟨ls, ss, a, b, t, k⟩ 0 ts = r at hsi hii hro
        obtain ⟨⟨ls', ss', a', b', t', c'⟩, j⟩ := r
        have heqr : ∀ L q1 q2 k1 k2 q3 q4 k3 k4, cellsAt L q1 = some (encL ls') → cellsAt L q2 = some (encL ls') → cellsAt L q3 = some (encS ss') → cellsAt L q4 = some (encS ss') → call T pr f_l_eqStand [stV (slL q1 ls'.length k1) a' b' (slS q3 ss'.length k3) t' c', stV (slL q2 ls'.length k2) a' b' (slS q4 ss'.length k4) t' c'] ⟨L, none⟩ = some (.bool true, ⟨L, none⟩) :=
          fun L q1 q2 k1 k2 q3 q4 k3 k4 h1 h2 h3 h4 => e_l_eqStand (fun G => e_l_eqLoadS (cells_mono h1 G) (cells_mono h2 G) (by simp only at hro; omega)) (fun G => e_l_eqStageS (cells_mono h3 G) (cells_mono h4 G) (by simp only at hro; omega)) a' b' t' c'
        have hmarkr : ∀ L q1 q2 c1 c2, q1 ≠ q2 → L[q1]? = some (.cells (encL ls') true) → L[q2]? = some (.cells (encS ss') true) → call T pr f_l_markStand [stV (slL q1 ls'.length c1) a' b' (slS q2 ss'.length c2) t' c', .int .i64 1] ⟨L, none⟩ = some (.int .i64 ((1 + ls'.length * 2 + ss'.length * 3 : Nat) : Int), ⟨markMem L q1 q2 ls'.length ss'.length 1, none⟩) :=
          fun L q1 q2 c1 c2 hne h1 h2 => e_l_markStand h1 h2 hne (by simp only at hro; omega) (by simp only at hro; omega) a' b' t' c' 1 (by omega)
        have hheld : ∀ L q1 q2 c1 c2, cellsAt L q1 = some (encL (markedL 1 ls'.length)) → cellsAt L q2 = some (encS (markedS (1 + ls'.length * 2) ss'.length)) → call T pr f_l_heldStand [stV (slL q1 ls'.length c1) a' b' (slS q2 ss'.length c2) t' c', .int .i64 1] ⟨L, none⟩ = some (.int .i64 ((1 + ls'.length * 2 + ss'.length * 3 : Nat) : Int), ⟨L, none⟩) :=
          fun L q1 q2 c1 c2 h1 h2 => e_l_heldStand (x := 1) h1 h2 (by simp only at hro; omega) (by simp only at hro; omega) a' b' t' c' (by omega)
        have hk1 : ¬ (((1 + ls'.length * 2 + ss'.length * 3 : Nat) : Int) < 0) := by omega
        have hk1' : ¬ (((1 + (ls'.length * 2 + ss'.length * 3) : Nat) : Int) < 0) := by omega
        rw [call_wc t_l_FnExactDoTasks]
        simp +contextual only [a_l_FnExactDoTasks, c_l_FnExactDoTasks, hsz, hn, hneg, hszt, hnt, hneg2, hto, htt, hsi, hii, heq, heqt, heqr, hheld, hmarkr, hmark, hk1, hk1', hk0, h10, markMem_new, ne_eq, Nat.add_right_inj, Nat.add_left_cancel_iff, Nat.reduceEqDiff, not_false_eq_true, under_slice, under_sliceN, Nat.add_assoc, Nat.add_lt_add_iff_left, Nat.lt_add_right_iff_pos, decide_true, decide_false, beq_self_eq_true, Wp_some, Wp_none, Wp_ite, Wc_some, Wc_none, Wc_ite, Wp_thenRun, seqQ_normal, seqQ_exit, seqQ_ret, Wp_inBlock, blkQ_normal, blkQ_ret, blkQ_same, blkQ_exit, Wp_opThen, opQ_at, Wp_guardP, retQ_normal, retQ_ret, loopQ_normal, loopQ_exit, loopQ_ret, go_sem, entry, joinEsc, if_pos, reduceIte, Nat.reduceAdd, Nat.reduceLeDiff, Nat.reduceLT, Nat.reduceEqDiff]
        refine (hmt _ _ _ (by rw [blkAt_newk]; rfl)).mono ?_
        rintro v m ⟨X, rfl, rfl⟩
        simp +contextual only [a_l_FnExactDoTasks, c_l_FnExactDoTasks, hsz, hn, hneg, hszt, hnt, hneg2, hto, htt, hsi, hii, heq, heqt, heqr, hheld, hmarkr, hmark, hk1, hk1', hk0, h10, markMem_new, ne_eq, Nat.add_right_inj, Nat.add_left_cancel_iff, Nat.reduceEqDiff, not_false_eq_true, under_slice, under_sliceN, Nat.add_assoc, Nat.add_lt_add_iff_left, Nat.lt_add_right_iff_pos, decide_true, decide_false, beq_self_eq_true, Wp_some, Wp_none, Wp_ite, Wc_some, Wc_none, Wc_ite, Wp_thenRun, seqQ_normal, seqQ_exit, seqQ_ret, Wp_inBlock, blkQ_normal, blkQ_ret, blkQ_same, blkQ_exit, Wp_opThen, opQ_at, Wp_guardP, retQ_normal, retQ_ret, loopQ_normal, loopQ_exit, loopQ_ret, go_sem, entry, joinEsc, if_pos, reduceIte, Nat.reduceAdd, Nat.reduceLeDiff, Nat.reduceLT, Nat.reduceEqDiff]
    · rw [call_wc t_l_FnExactDoTasks]
      simp +contextual only [a_l_FnExactDoTasks, c_l_FnExactDoTasks, hsz, hn, hneg, hszt, hnt, decide_true, decide_false, show ((-1 : Int) < 0) by omega, Wp_some, Wp_none, Wp_ite, Wc_some, Wc_none, Wc_ite, Wp_thenRun, seqQ_normal, seqQ_exit, seqQ_ret, Wp_inBlock, blkQ_normal, blkQ_ret, blkQ_same, blkQ_exit, Wp_opThen, opQ_at, Wp_guardP, retQ_normal, retQ_ret, loopQ_normal, loopQ_exit, loopQ_ret, go_sem, entry, joinEsc, if_pos, reduceIte, Nat.reduceAdd, Nat.reduceLeDiff, Nat.reduceLT, Nat.reduceEqDiff]
  · rw [call_wc t_l_FnExactDoTasks]
    simp +contextual only [a_l_FnExactDoTasks, c_l_FnExactDoTasks, hsz, hn, decide_true, show ((-1 : Int) < 0) by omega, Wp_some, Wp_none, Wp_ite, Wc_some, Wc_none, Wc_ite, Wp_thenRun, seqQ_normal, seqQ_exit, seqQ_ret, Wp_inBlock, blkQ_normal, blkQ_ret, blkQ_same, blkQ_exit, Wp_opThen, opQ_at, Wp_guardP, retQ_normal, retQ_ret, loopQ_normal, loopQ_exit, loopQ_ret, go_sem, entry, joinEsc, if_pos, reduceIte, Nat.reduceAdd, Nat.reduceLeDiff, Nat.reduceLT, Nat.reduceEqDiff]

end Go.Proofs.Ytlocjmbfcdfjfaa.Slim

/- FnExactDoTasks returns true for all arguments, without conditions: the law holds as it is stated; the arguments read as they did. -/
namespace Go.Proofs.Ytlocjmbfcdfjfaa.fnExactDoTasks
open Go.ChangeShapes Go.WideShapes Go.ChangeAt Go.RowKit Go.Joins Go.Deep Slim
set_option linter.unusedVariables false

theorem main {H : List Blk} {av0_0 : AV} {es0_0 : List (List Int)} (h0_0 : IsArg H av0_0 .i64 2 es0_0) {av0_3 : AV} {es0_3 : List (List Int)} (h0_3 : IsArg H av0_3 .i64 3 es0_3) {av1 : AV} {es1 : List (List Int)} (h1 : IsArg H av1 .i64 4 es1) (x0_1 : Int) (x0_2 : Int) (x0_4 : Int) (x0_5 : Int) : ∃ m', call T prC 10 [.agg [av0_0, .int .i64 x0_1, .int .i64 x0_2, av0_3, .int .i64 x0_4, .int .i64 x0_5], av1] ⟨H, none⟩ = some (.bool true, m') := by
  obtain ⟨ls0_0, ha0_0⟩ := argL_of h0_0
  obtain ⟨ls0_3, ha0_3⟩ := argS_of h0_3
  obtain ⟨ls1, ha1⟩ := argT_of h1
  exact law_DoTasks prC_has ha0_0 ha0_3 ha1  x0_1 x0_2 x0_4 x0_5

theorem own : ownKnob Try.prog.godebug = none := by kernel_rfl
theorem laidOut : laidOutB Try.prog = true := by kernel_rfl

set_option maxRecDepth 100000 in
theorem lifted (os : Os) (started : os.Started) (H : Type) (enc : TypeId × Value → H) :
    ReturnsInHanded {} Try.checked os 10 .any (Rows.fnExactDoTasksSpec.pre6 enc Try.prog Try.f10 Rows.fnExactDoTasksRow.domain false) (Rows.fnExactDoTasksSpec.post enc Try.prog Try.f10 false true false false) := by
  refine returnsInHanded_of_change_sized (C := Try.checked) own started (by kernel_rfl) Try.func10
    (ChangeSpec.witness6 (enc := enc) (C := Try.checked) false ⟨#[], #[.agg #[.slice none 0 0, .int .i64 0, .int .i64 0, .slice none 0 0, .int .i64 0, .int .i64 0], .slice none 0 0], []⟩ 8 (by kernel_rfl) (by kernel_rfl) (by kernel_rfl) (by kernel_rfl)) ?_
  intro W base args ds gs before hval0 hW hcnd hsz0 _
  have hval : ∀ (j : Nat) t v, Try.f10.params[j]? = some t → args[j]? = some v → Value.okWide Try.prog W .any base t v := hval0
  have hW' := hW
  obtain ⟨p, q, hA0, hV, rfl, hfz, hnd⟩ := hW
  have hA : DataW.TrodAll enc Try.prog W 0 (fun _ => true) true Try.f10.params.toList args.toList ds p := hA0
  rw [Try.params10] at hA hval
  obtain ⟨v0, vs0, d0, ds0, p0, q0, hargs, rfl, rfl, h0, r0⟩ := trodAll_cons hA
  obtain ⟨v1, vs1, d1, ds1, p1, q1, rfl, rfl, rfl, h1, r1⟩ := trodAll_cons r0
  obtain ⟨rfl, rfl, rfl⟩ := trodAll_nil r1
  obtain rfl : args = #[v0, v1] := by cases args; simp_all
  obtain ⟨rfl, rfl⟩ := trodVars_none hV
  have o0 := hval 0 34 v0 rfl rfl
  have o1 := hval 1 76 v1 rfl rfl
  have k0 := h0
  have k1 := h1
  have lt0 : ∀ x ∈ p0, x.block < W.heap.size := by obtain ⟨m, hm⟩ := k0; exact DataW.trod_lt m _ _ _ hm
  have lt1 : ∀ x ∈ p1, x.block < W.heap.size := by obtain ⟨m, hm⟩ := k1; exact DataW.trod_lt m _ _ _ hm
  obtain ⟨cs0, n0, rfl, sz0, tr0⟩ := open_cells Try.underlying34 (by kernel_rfl) (by kernel_rfl) o0 h0
  have ok0 := okWide_cells Try.underlying34 (show Try.prog.cellTypes Try.prog.depth 34 = some [31, 3, 3, 32, 3, 3] by kernel_rfl) o0
  obtain ⟨c0_0, c0_1, c0_2, c0_3, c0_4, c0_5, rfl⟩ := array6 sz0
  obtain ⟨y0_0, hy0_0⟩ := tr0 0 _ _ rfl rfl
  obtain ⟨ι0_0, H0_0, av0_0, es0_0, O0_0, hv0_0, ha0_0⟩ := open_arg (Opened.nil W) (k := .i64) (nf := 2) Try.underlying31 (by kernel_rfl) (by decide)
    (intsAt_struct Try.underlying118 (by kernel_rfl) (by kernel_rfl) (fun j f hj => by
      match j with
      | 0 => cases hj; exact Try.underlying3
      | 1 => cases hj; exact Try.underlying3
      | j + 2 => simp at hj)) (ok0 0 _ _ rfl rfl) hy0_0
  obtain ⟨y0_1, hy0_1⟩ := tr0 1 _ _ rfl rfl
  obtain ⟨a0_1, e0_1, _, _⟩ := DataW.trod_int Try.underlying3 hy0_1
  cases e0_1
  obtain ⟨y0_2, hy0_2⟩ := tr0 2 _ _ rfl rfl
  obtain ⟨a0_2, e0_2, _, _⟩ := DataW.trod_int Try.underlying3 hy0_2
  cases e0_2
  obtain ⟨y0_3, hy0_3⟩ := tr0 3 _ _ rfl rfl
  obtain ⟨ι0_3, H0_3, av0_3, es0_3, O0_3, hv0_3, ha0_3⟩ := open_arg O0_0 (k := .i64) (nf := 3) Try.underlying32 (by kernel_rfl) (by decide)
    (intsAt_struct Try.underlying120 (by kernel_rfl) (by kernel_rfl) (fun j f hj => by
      match j with
      | 0 => cases hj; exact Try.underlying3
      | 1 => cases hj; exact Try.underlying3
      | 2 => cases hj; exact Try.underlying3
      | j + 3 => simp at hj)) (ok0 3 _ _ rfl rfl) hy0_3
  obtain ⟨y0_4, hy0_4⟩ := tr0 4 _ _ rfl rfl
  obtain ⟨a0_4, e0_4, _, _⟩ := DataW.trod_int Try.underlying3 hy0_4
  cases e0_4
  obtain ⟨y0_5, hy0_5⟩ := tr0 5 _ _ rfl rfl
  obtain ⟨a0_5, e0_5, _, _⟩ := DataW.trod_int Try.underlying3 hy0_5
  cases e0_5
  obtain ⟨sa1, sl1, sc1, rfl⟩ := okWide_slice Try.underlying76 o1
  obtain ⟨fu1, hf1⟩ := h1
  obtain ⟨ι1, H1, av1, es1, O1, hv1, ha1⟩ := open_arg O0_3 (k := .i64) (nf := 4) Try.underlying76 (by kernel_rfl) (by decide)
    (intsAt_struct Try.underlying50 (by kernel_rfl) (by kernel_rfl) (fun j f hj => by
      match j with
      | 0 => cases hj; exact Try.underlying3
      | 1 => cases hj; exact Try.underlying3
      | 2 => cases hj; exact Try.underlying3
      | 3 => cases hj; exact Try.underlying3
      | j + 4 => simp at hj)) (by simpa [Value.okWide, Try.underlying76] using o1) hf1
  have hw0_0 := (V.mono (emb_app _ ι1) (Shapes.refl W) _ _ (V.mono (emb_app _ ι0_3) (Shapes.refl W) _ _ hv0_0))
  have hb0_0 := (IsArg.more (IsArg.more ha0_0 H0_3) H1)
  have hw0_3 := (V.mono (emb_app _ ι1) (Shapes.refl W) _ _ hv0_3)
  have hb0_3 := (IsArg.more ha0_3 H1)
  have hw1 := hv1
  have hb1 := ha1
  obtain ⟨m', hm⟩ := main hb0_0 hb0_3 hb1  a0_1 a0_2 a0_4 a0_5
  have hvl : VL _ W [.agg [av0_0, .int .i64 a0_1, .int .i64 a0_2, av0_3, .int .i64 a0_4, .int .i64 a0_5], av1] [.agg #[c0_0, .int .i64 a0_1, .int .i64 a0_2, c0_3, .int .i64 a0_4, .int .i64 a0_5], .slice sa1 sl1 sc1] :=
    ⟨_, _, rfl, ⟨[c0_0, .int .i64 a0_1, .int .i64 a0_2, c0_3, .int .i64 a0_4, .int .i64 a0_5], rfl, ⟨_, _, rfl, hw0_0, _, _, rfl, rfl, _, _, rfl, rfl, _, _, rfl, hw0_3, _, _, rfl, rfl, _, _, rfl, rfl, rfl⟩, by simp only [List.all_cons, List.all_nil, IsArg.cell hb0_0, IsArg.cell hb0_3]; rfl⟩, _, _, rfl, hw1, rfl⟩
  refine (law_told (P := Try.prog) (Checked.mixed Try.checked) tabOk prC_ok O1 hvl hm).mono fun e W' ⟨he, bel⟩ => ?_
  subst he
  exact ⟨_, rfl, _, _, _, [], _, [], hW', trodAll_mk1 (shut_bool Try.underlying4 _), (trodAll_cons_mk (Below.trod laidOut (by kernel_rfl) (of_decide_eq_true (by kernel_rfl)) k0 bel lt0) (trodAll_cons_mk (Below.trod laidOut (by kernel_rfl) (of_decide_eq_true (by kernel_rfl)) k1 bel lt1) trodAll_mk0)), rfl, bel.frame _, fun h => by cases h⟩

theorem over : Rows.fnExactDoTasksRow.holds Try.pinned (OpenSpec.ofChange Rows.fnExactDoTasksSpec) :=
  OpenClaim.holds_of_wide 10 Try.f10 rfl rfl rfl rfl rfl rfl rfl ⟨rfl, rfl, rfl, rfl, rfl⟩ rfl rfl rfl rfl rfl (by kernel_rfl) Try.func10 (by kernel_rfl)
    (of_decide_eq_true (by kernel_rfl)) (by unfold Func.isWrapper; first | (rw [if_pos (by decide +kernel)]; kernel_rfl) | (rw [if_neg (by decide +kernel)]; exact ⟨rfl, rfl⟩))
    (fun os started H enc _ => lifted os started H enc)
theorem proved : Rows.FnExactDoTasksSaid := over
#print axioms proved
end Go.Proofs.Ytlocjmbfcdfjfaa.fnExactDoTasks
