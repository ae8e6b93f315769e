/- Marks on stands, copies of stands. -/
import Derived.Test.YtlocjmbfcdfjfaaSlimE32
namespace Go.Proofs.Ytlocjmbfcdfjfaa.Slim

open Go

set_option linter.unusedSimpArgs false

set_option linter.unusedVariables false

variable {pr : Prims} {H : List Blk} {e : Option Nat}

theorem markedL_get : ∀ (n k i : Nat), i < n → (markedL k n)[i]? = some (((k + i * 2 : Nat) : Int), ((k + i * 2 + 1 : Nat) : Int))
  | 0, k, i, h => by omega
  | n + 1, k, 0, h => by simp [markedL]
  | n + 1, k, i + 1, h => by
    rw [markedL, List.getElem?_cons_succ, markedL_get n (k + 2) i (by omega), show k + 2 + i * 2 = k + (i + 1) * 2 by omega]

theorem markedL_length : ∀ (n k : Nat), (markedL k n).length = n
  | 0, k => rfl
  | n + 1, k => by rw [markedL, List.length_cons, markedL_length n (k + 2)]

theorem loop_l_heldLoadS {q n k0 : Nat} {c : Option Nat} {r : AV} (h : cellsAt H q = some (encL (markedL k0 n))) (hn : n ≤ 4194304) (hk0 : k0 ≤ 16777216) :
    ∀ (k i : Nat) (y4 y5 y6 : AV), k + i = n → ∃ z4 z5 z6, run T pr (.loop w_l_heldLoadS_1) ⟨[slL q n c, .int .i64 ((k0 + i * 2 : Nat) : Int), r, .int .i64 i, y4, y5, y6], ⟨H, e⟩⟩ =
      some (Ex.exit 0, ⟨[slL q n c, .int .i64 ((k0 + n * 2 : Nat) : Int), r, .int .i64 n, z4, z5, z6], ⟨H, e⟩⟩)
  | 0, i, y4, y5, y6, hk => by
    have hi : i = n := by omega
    subst hi
    refine ⟨.bool false, y5, y6, ?_⟩
    rw [run_loop]
    generalize run T pr (.loop w_l_heldLoadS_1) = R
    simp +contextual only [w_l_heldLoadS_1, Nat.lt_irrefl, decide_false, go_sem, entry, joinEsc, if_pos, reduceIte, Nat.reduceAdd, Nat.reduceLeDiff, Nat.reduceLT, Nat.reduceEqDiff]
  | k + 1, i, y4, y5, y6, hk => by
    have hi : i < n := by omega
    have hl := markedL_get n k0 i hi
    obtain ⟨z4, z5, z6, ih⟩ := loop_l_heldLoadS (c := c) (r := r) h hn hk0 k (i + 1) (.bool true) (.bool false) (.bool false) (by omega)
    refine ⟨z4, z5, z6, ?_⟩
    rw [run_loop]
    rw [show k0 + (i + 1) * 2 = (k0 + i * 2) + 1 + 1 by omega] at ih
    have hK : k0 + i * 2 ≤ 33554432 := by omega
    generalize k0 + i * 2 = K at hl ih hK ⊢
    generalize run T pr (.loop w_l_heldLoadS_1) = R at ih ⊢
    simp +contextual only [w_l_heldLoadS_1, h, hi, part_encL0 _ hl, part_encL1 _ hl, wrap_succ (show K < 9223372036854775807 by omega), wrap_succ (show K + 1 < 9223372036854775807 by omega), wrap_succ (show i < 9223372036854775807 by omega), decide_true, go_sem, entry, joinEsc, if_pos, reduceIte, Nat.reduceAdd, Nat.reduceLeDiff, Nat.reduceLT, Nat.reduceEqDiff]
    exact ih

theorem e_l_heldLoadS {q n k : Nat} {c : Option Nat} (h : cellsAt H q = some (encL (markedL k n))) (hn : n ≤ 4194304) (hk : k ≤ 16777216) : call T pr f_l_heldLoadS [slL q n c, .int .i64 k] ⟨H, e⟩ = some (.int .i64 ((k + n * 2 : Nat) : Int), ⟨H, e⟩) := by
  obtain ⟨z4, z5, z6, hl⟩ := loop_l_heldLoadS (pr := pr) (e := none) (c := c) (r := .int .i64 0) h hn hk n 0 .undef .undef .undef rfl
  have h0 : ((0 : Nat) : Int) = 0 := rfl
  rw [h0, Nat.zero_mul, Nat.add_zero] at hl
  rw [call_eq t_l_heldLoadS]
  simp +contextual only [a_l_heldLoadS, c_l_heldLoadS, hl, go_sem, entry, joinEsc, if_pos, reduceIte, Nat.reduceAdd, Nat.reduceLeDiff, Nat.reduceLT, Nat.reduceEqDiff]

def markedS (k : Nat) : Nat → List Sg
  | 0 => []
  | n + 1 => ((k : Int), ((k + 1 : Nat) : Int), ((k + 2 : Nat) : Int)) :: markedS (k + 3) n

theorem markedS_get : ∀ (n k i : Nat), i < n → (markedS k n)[i]? = some (((k + i * 3 : Nat) : Int), ((k + i * 3 + 1 : Nat) : Int), ((k + i * 3 + 2 : Nat) : Int))
  | 0, k, i, h => by omega
  | n + 1, k, 0, h => by simp [markedS]
  | n + 1, k, i + 1, h => by
    rw [markedS, List.getElem?_cons_succ, markedS_get n (k + 3) i (by omega), show k + 3 + i * 3 = k + (i + 1) * 3 by omega]

theorem part_encS0 {ss : List Sg} {i : Nat} {s : Sg} (sz : Nat) (h : ss[i]? = some s) : part false (encS ss) (i * 3) sz = some (.int .i64 s.1) := by
  induction ss generalizing i with
  | nil => simp at h
  | cons a ss ih =>
    cases i with
    | zero => simp at h; subst h; simp [encS, part]
    | succ i =>
      simp at h
      rw [show (i + 1) * 3 = i * 3 + 1 + 1 + 1 by omega, encS, part_fk, part_fk, part_fk]
      exact ih h

theorem part_encS1 {ss : List Sg} {i : Nat} {s : Sg} (sz : Nat) (h : ss[i]? = some s) : part false (encS ss) (i * 3 + 1) sz = some (.int .i64 s.2.1) := by
  induction ss generalizing i with
  | nil => simp at h
  | cons a ss ih =>
    cases i with
    | zero => simp at h; subst h; simp [encS, part]
    | succ i =>
      simp at h
      rw [show (i + 1) * 3 + 1 = i * 3 + 1 + 1 + 1 + 1 by omega, encS, part_fk, part_fk, part_fk]
      exact ih h

theorem part_encS2 {ss : List Sg} {i : Nat} {s : Sg} (sz : Nat) (h : ss[i]? = some s) : part false (encS ss) (i * 3 + 2) sz = some (.int .i64 s.2.2) := by
  induction ss generalizing i with
  | nil => simp at h
  | cons a ss ih =>
    cases i with
    | zero => simp at h; subst h; simp [encS, part]
    | succ i =>
      simp at h
      rw [show (i + 1) * 3 + 2 = i * 3 + 2 + 1 + 1 + 1 by omega, encS, part_fk, part_fk, part_fk]
      exact ih h

theorem loop_l_heldStageS {q n k0 : Nat} {c : Option Nat} {r : AV} (h : cellsAt H q = some (encS (markedS k0 n))) (hn : n ≤ 4194304) (hk0 : k0 ≤ 16777216) :
    ∀ (k i : Nat) (y4 y5 y6 y7 : AV), k + i = n → ∃ z4 z5 z6 z7, run T pr (.loop w_l_heldStageS_1) ⟨[slS q n c, .int .i64 ((k0 + i * 3 : Nat) : Int), r, .int .i64 i, y4, y5, y6, y7], ⟨H, e⟩⟩ =
      some (Ex.exit 0, ⟨[slS q n c, .int .i64 ((k0 + n * 3 : Nat) : Int), r, .int .i64 n, z4, z5, z6, z7], ⟨H, e⟩⟩)
  | 0, i, y4, y5, y6, y7, hk => by
    have hi : i = n := by omega
    subst hi
    refine ⟨.bool false, y5, y6, y7, ?_⟩
    rw [run_loop]
    generalize run T pr (.loop w_l_heldStageS_1) = R
    simp +contextual only [w_l_heldStageS_1, Nat.lt_irrefl, decide_false, go_sem, entry, joinEsc, if_pos, reduceIte, Nat.reduceAdd, Nat.reduceLeDiff, Nat.reduceLT, Nat.reduceEqDiff]
  | k + 1, i, y4, y5, y6, y7, hk => by
    have hi : i < n := by omega
    have hl := markedS_get n k0 i hi
    obtain ⟨z4, z5, z6, z7, ih⟩ := loop_l_heldStageS (c := c) (r := r) h hn hk0 k (i + 1) (.bool true) (.bool false) (.bool false) (.bool false) (by omega)
    refine ⟨z4, z5, z6, z7, ?_⟩
    rw [run_loop]
    rw [show k0 + (i + 1) * 3 = (k0 + i * 3) + 1 + 1 + 1 by omega] at ih
    have hK : k0 + i * 3 ≤ 33554432 := by omega
    rw [show k0 + i * 3 + 2 = k0 + i * 3 + 1 + 1 by omega] at hl
    generalize k0 + i * 3 = K at hl ih hK ⊢
    generalize run T pr (.loop w_l_heldStageS_1) = R at ih ⊢
    simp +contextual only [w_l_heldStageS_1, h, hi, part_encS0 _ hl, part_encS1 _ hl, part_encS2 _ hl, wrap_succ (show K < 9223372036854775807 by omega), wrap_succ (show K + 1 < 9223372036854775807 by omega), wrap_succ (show K + 1 + 1 < 9223372036854775807 by omega), wrap_succ (show i < 9223372036854775807 by omega), decide_true, go_sem, entry, joinEsc, if_pos, reduceIte, Nat.reduceAdd, Nat.reduceLeDiff, Nat.reduceLT, Nat.reduceEqDiff]
    exact ih

theorem e_l_heldStageS {q n k : Nat} {c : Option Nat} (h : cellsAt H q = some (encS (markedS k n))) (hn : n ≤ 4194304) (hk : k ≤ 16777216) : call T pr f_l_heldStageS [slS q n c, .int .i64 k] ⟨H, e⟩ = some (.int .i64 ((k + n * 3 : Nat) : Int), ⟨H, e⟩) := by
  obtain ⟨z4, z5, z6, z7, hl⟩ := loop_l_heldStageS (pr := pr) (e := none) (c := c) (r := .int .i64 0) h hn hk n 0 .undef .undef .undef .undef rfl
  have h0 : ((0 : Nat) : Int) = 0 := rfl
  rw [h0, Nat.zero_mul, Nat.add_zero] at hl
  rw [call_eq t_l_heldStageS]
  simp +contextual only [a_l_heldStageS, c_l_heldStageS, hl, go_sem, entry, joinEsc, if_pos, reduceIte, Nat.reduceAdd, Nat.reduceLeDiff, Nat.reduceLT, Nat.reduceEqDiff]

theorem setRange_midS0 (P R : List Sg) (r : Sg) (a : Int) : setRange (encS (P ++ r :: R)) (P.length * 3) [.int .i64 a] = encS (P ++ (a, r.2) :: R) := by
  induction P with
  | nil => simp [encS, setRange]
  | cons p P ih =>
    simp only [encS, List.cons_append, List.length_cons, Nat.add_mul, Nat.one_mul] at *
    rw [show P.length * 3 + 3 = P.length * 3 + 1 + 1 + 1 by omega, setRange_k, setRange_k, setRange_k, ih]

theorem setRange_midS1 (P R : List Sg) (r : Sg) (a : Int) : setRange (encS (P ++ r :: R)) (P.length * 3 + 1) [.int .i64 a] = encS (P ++ (r.1, a, r.2.2) :: R) := by
  induction P with
  | nil => simp [encS, setRange]
  | cons p P ih =>
    simp only [encS, List.cons_append, List.length_cons, Nat.add_mul, Nat.one_mul] at *
    rw [show P.length * 3 + 3 + 1 = P.length * 3 + 1 + 1 + 1 + 1 by omega, setRange_k, setRange_k, setRange_k, ih]

theorem setRange_midS2 (P R : List Sg) (r : Sg) (a : Int) : setRange (encS (P ++ r :: R)) (P.length * 3 + 2) [.int .i64 a] = encS (P ++ (r.1, r.2.1, a) :: R) := by
  induction P with
  | nil => simp [encS, setRange]
  | cons p P ih =>
    simp only [encS, List.cons_append, List.length_cons, Nat.add_mul, Nat.one_mul] at *
    rw [show P.length * 3 + 3 + 2 = P.length * 3 + 2 + 1 + 1 + 1 by omega, setRange_k, setRange_k, setRange_k, ih]

theorem loop_l_markStageS {L : List Blk} {b n : Nat} {c : Option Nat} {r : AV} (hb : b < L.length) (hn : n ≤ 4194304) :
    ∀ (R P : List Sg) (k : Nat) (y4 : AV), P.length + R.length = n → k + R.length * 3 ≤ 33554432 → ∃ z4, run T pr (.loop w_l_markStageS_1) ⟨[slS b n c, .int .i64 k, r, .int .i64 P.length, y4], ⟨L.set b (.cells (encS (P ++ R)) true), e⟩⟩ =
      some (Ex.exit 0, ⟨[slS b n c, .int .i64 ((k + R.length * 3 : Nat) : Int), r, .int .i64 n, z4], ⟨L.set b (.cells (encS (P ++ markedS k R.length)) true), e⟩⟩)
  | [], P, k, y4, hP, hk => by
    refine ⟨.bool false, ?_⟩
    obtain rfl : n = P.length := by simp at hP; omega
    rw [run_loop]
    generalize run T pr (.loop w_l_markStageS_1) = R'
    simp +contextual only [w_l_markStageS_1, Nat.lt_irrefl, decide_false, markedS, Nat.zero_mul, go_sem, entry, joinEsc, if_pos, reduceIte, Nat.reduceAdd, Nat.reduceLeDiff, Nat.reduceLT, Nat.reduceEqDiff]
  | x :: R, P, k, y4, hP, hk => by
    simp only [List.length_cons] at hP hk
    have hi : P.length < n := by omega
    obtain ⟨z4, ih⟩ := loop_l_markStageS (c := c) (r := r) hb hn R (P ++ [((k : Int), ((k + 1 : Nat) : Int), ((k + 2 : Nat) : Int))]) (k + 3) (.bool true) (by simp; omega) (by omega)
    refine ⟨z4, ?_⟩
    rw [run_loop]
    generalize run T pr (.loop w_l_markStageS_1) = R' at ih ⊢
    have hg : ∀ y : Sg, (L.set b (.cells (encS (P ++ y :: R)) true))[b]? = some (.cells (encS (P ++ y :: R)) true) := fun y => List.getElem?_set_self hb
    have hle1 : ∀ y : Sg, P.length * 3 + 1 ≤ (encS (P ++ y :: R)).length := by intro y; rw [encS_length]; simp; omega
    have hle2 : ∀ y : Sg, P.length * 3 + 1 + 1 ≤ (encS (P ++ y :: R)).length := by intro y; rw [encS_length]; simp; omega
    have hle2' : ∀ y : Sg, P.length * 3 + 2 ≤ (encS (P ++ y :: R)).length := by intro y; rw [encS_length]; simp; omega
    have hle3 : ∀ y : Sg, P.length * 3 + 2 + 1 ≤ (encS (P ++ y :: R)).length := by intro y; rw [encS_length]; simp; omega
    have hle3' : ∀ y : Sg, P.length * 3 + 3 ≤ (encS (P ++ y :: R)).length := by intro y; rw [encS_length]; simp; omega
    rw [show k + 3 + R.length * 3 = k + (R.length + 1) * 3 by omega] at ih
    simp only [List.append_assoc, List.singleton_append, List.length_append, List.length_cons, List.length_nil, Nat.zero_add] at ih
    have hw1 : IntKind.i64.wrap ((k : Int) + 1) = ((k + 1 : Nat) : Int) := wrap_succ (show k < 9223372036854775807 by omega)
    have hw2 : IntKind.i64.wrap (((k + 1 : Nat) : Int) + 1) = ((k + 2 : Nat) : Int) := wrap_succ (show k + 1 < 9223372036854775807 by omega)
    have hw3 : IntKind.i64.wrap (((k + 2 : Nat) : Int) + 1) = ((k + 3 : Nat) : Int) := wrap_succ (show k + 2 < 9223372036854775807 by omega)
    simp +contextual only [w_l_markStageS_1, hi, hg, hle1, hle2, hle2', hle3, hle3', setRange_midS0, setRange_midS1, setRange_midS2, List.set_set, markedS, hw1, hw2, hw3, wrap_succ (show P.length < 9223372036854775807 by omega), decide_true, go_sem, entry, joinEsc, if_pos, reduceIte, Nat.reduceAdd, Nat.reduceLeDiff, Nat.reduceLT, Nat.reduceEqDiff]
    exact ih

theorem e_l_markStageS {L : List Blk} {b : Nat} {c : Option Nat} {ls : List Sg} (h : L[b]? = some (.cells (encS ls) true)) (hn : ls.length ≤ 4194304) (k : Nat) (hk : k ≤ 16777216) : call T pr f_l_markStageS [slS b ls.length c, .int .i64 k] ⟨L, e⟩ =
    some (.int .i64 ((k + ls.length * 3 : Nat) : Int), ⟨L.set b (.cells (encS (markedS k ls.length)) true), e⟩) := by
  have hb := (List.getElem?_eq_some_iff.mp h).1
  obtain ⟨z4, hl⟩ := loop_l_markStageS (pr := pr) (e := none) (c := c) (r := .int .i64 0) hb hn ls [] k .undef (by simp) (by omega)
  have h0 : ((0 : Nat) : Int) = 0 := rfl
  rw [List.length_nil, h0, List.nil_append, List.nil_append, set_same h] at hl
  rw [call_eq t_l_markStageS]
  simp +contextual only [a_l_markStageS, c_l_markStageS, hl, finish_one_set, go_sem, entry, joinEsc, if_pos, reduceIte, Nat.reduceAdd, Nat.reduceLeDiff, Nat.reduceLT, Nat.reduceEqDiff]

theorem finish_one_len {L' l : List Blk} {n : Nat} (v : AV) (e0 : Option Nat) (hl : L'.length = n) (h : v.under n = true) : finish 1 n e0 v ⟨L' ++ l, none⟩ = some (v, ⟨L', e0⟩) := by
  subst hl
  simp [finish, h, clean]

theorem set_left {L l : List Blk} {q : Nat} {x : Blk} (h : q < L.length) : (L ++ l).set q x = L.set q x ++ l := by
  rw [List.set_append_left _ _ h]

/-- what marking leaves of memory -/
def markMem (L : List Blk) (q1 q2 n m x : Nat) : List Blk := (L.set q1 (.cells (encL (markedL x n)) true)).set q2 (.cells (encS (markedS (x + n * 2) m)) true)

theorem e_l_markStand {L : List Blk} {q1 q2 : Nat} {c1 c2 : Option Nat} {ls : List Ld} {ss : List Sg} (h1 : L[q1]? = some (.cells (encL ls) true)) (h2 : L[q2]? = some (.cells (encS ss) true)) (hne : q1 ≠ q2) (hn : ls.length ≤ 1048576) (hm : ss.length ≤ 1048576) (a b t k : Int) (x : Nat) (hx : x ≤ 4194304) :
    call T pr f_l_markStand [stV (slL q1 ls.length c1) a b (slS q2 ss.length c2) t k, .int .i64 x] ⟨L, e⟩ = some (.int .i64 ((x + ls.length * 2 + ss.length * 3 : Nat) : Int), ⟨markMem L q1 q2 ls.length ss.length x, e⟩) := by
  have l1 := (List.getElem?_eq_some_iff.mp h1).1
  have l2 := (List.getElem?_eq_some_iff.mp h2).1
  have hM : ∀ X, call T pr f_l_markLoadS [slL q1 ls.length c1, .int .i64 x] ⟨L ++ X, none⟩ = some (.int .i64 ((x + ls.length * 2 : Nat) : Int), ⟨L.set q1 (.cells (encL (markedL x ls.length)) true) ++ X, none⟩) := fun X => by
    rw [← set_left l1]
    exact e_l_markLoadS (by rw [List.getElem?_append_left l1]; exact h1) (by omega) x hx
  have l2' : q2 < (L.set q1 (.cells (encL (markedL x ls.length)) true)).length := by rw [List.length_set]; exact l2
  have h2' : (L.set q1 (.cells (encL (markedL x ls.length)) true))[q2]? = some (.cells (encS ss) true) := by rw [List.getElem?_set_ne hne]; exact h2
  have hS : ∀ X, call T pr f_l_markStageS [slS q2 ss.length c2, .int .i64 ((x + ls.length * 2 : Nat) : Int)] ⟨L.set q1 (.cells (encL (markedL x ls.length)) true) ++ X, none⟩ = some (.int .i64 ((x + ls.length * 2 + ss.length * 3 : Nat) : Int), ⟨markMem L q1 q2 ls.length ss.length x ++ X, none⟩) := fun X => by
    unfold markMem
    rw [← set_left l2']
    exact e_l_markStageS (by rw [List.getElem?_append_left l2']; exact h2') (by omega) _ (by omega)
  have hlen : (markMem L q1 q2 ls.length ss.length x).length = L.length := by unfold markMem; simp
  have hld : ∀ X : List Blk, cellsAt (L.set q1 (.cells (encL (markedL x ls.length)) true) ++ X) L.length = cellsAt X 0 := fun X => by
    have := cellsAt_new0 (H := L.set q1 (.cells (encL (markedL x ls.length)) true)) X
    rwa [List.length_set] at this
  rw [call_eq t_l_markStand]
  simp +contextual only [a_l_markStand, c_l_markStand, hM, hS, hld, finish_one_len _ _ hlen, go_sem, entry, joinEsc, if_pos, reduceIte, Nat.reduceAdd, Nat.reduceLeDiff, Nat.reduceLT, Nat.reduceEqDiff]

theorem e_l_heldStand {L : List Blk} {q1 q2 n m : Nat} {c1 c2 : Option Nat} {x : Nat} (h1 : cellsAt L q1 = some (encL (markedL x n))) (h2 : cellsAt L q2 = some (encS (markedS (x + n * 2) m))) (hn : n ≤ 1048576) (hm : m ≤ 1048576) (a b t k : Int) (hx : x ≤ 4194304) :
    call T pr f_l_heldStand [stV (slL q1 n c1) a b (slS q2 m c2) t k, .int .i64 x] ⟨L, e⟩ = some (.int .i64 ((x + n * 2 + m * 3 : Nat) : Int), ⟨L, e⟩) := by
  have k1 := fun X => e_l_heldLoadS (pr := pr) (e := none) (c := c1) (cells_mono h1 X) (by omega) (by omega)
  have k2 := fun X => e_l_heldStageS (pr := pr) (e := none) (c := c2) (cells_mono h2 X) (by omega) (by omega)
  have h3 : ¬ (((x + n * 2 : Nat) : Int) < 0) := by omega
  have h4 : ¬ (((x + n * 2 + m * 3 : Nat) : Int) < 0) := by omega
  rw [call_eq t_l_heldStand]
  simp +contextual only [a_l_heldStand, c_l_heldStand, k1, k2, h3, h4, decide_false, go_sem, entry, joinEsc, if_pos, reduceIte, Nat.reduceAdd, Nat.reduceLeDiff, Nat.reduceLT, Nat.reduceEqDiff]

theorem binop_nil (p : Nat × Nat) (sz n : Nat) (c : Option Nat) : binop 3 .eql (.slice (some p) sz n c) (.slice none 0 0 none) = some (.bool false) := Eq.trans rfl rfl

/-- an append of none leaves a dead block -/
def kill0 (n b : Nat) (L : List Blk) : List Blk := if n = 0 then L.set b .dead else L

theorem kill0_length (n b : Nat) (L : List Blk) : (kill0 n b L).length = L.length := by unfold kill0; split <;> simp

theorem kill0_new (n k : Nat) (l : List Blk) : kill0 n (H.length + k) (H ++ l) = H ++ kill0 n k l := by
  unfold kill0
  split
  · rw [set_newk]
  · rfl

theorem kill0_new0 (n : Nat) (l : List Blk) : kill0 n H.length (H ++ l) = H ++ kill0 n 0 l := kill0_new n 0 l

theorem kill0_cons (n k : Nat) (x : Blk) (l : List Blk) : kill0 n (k + 1) (x :: l) = x :: kill0 n k l := by
  unfold kill0
  split <;> rfl

theorem kill0_0 (n : Nat) (x : Blk) (l : List Blk) : kill0 n 0 (x :: l) = (if n = 0 then Blk.dead else x) :: l := by
  unfold kill0
  split <;> rfl

theorem append_all {L : List Blk} {b q n sz bytes : Nat} {c : Option Nat} {cs : List AV} (hb : L[b]? = some (.cells [] true)) (hq : cellsAt L q = some cs) (hl : cs.length = n * sz) (hm : n * bytes ≤ maxBytes) :
    appendV L e false sz bytes (.slice (some (b, 0)) sz 0 (some 0)) (.slice (some (q, 0)) sz n c) = some (.slice (some (L.length, 0)) sz n none, ⟨kill0 n b L ++ [.cells cs true], e⟩) := by
  unfold appendV
  have hs := srcCells_new L n sz c cs q hq hl
  simp only [hb, hs]
  rw [if_pos (by simp [hm, hl])]
  unfold kill0
  by_cases hn : n = 0
  · subst hn
    have : cs = [] := by simpa using hl
    subst this
    simp
  · rw [if_pos ⟨trivial, by omega⟩, if_neg hn]
    simp

theorem e_Clone_Load {q : Nat} {c : Option Nat} {ls : List Ld} (h : cellsAt H q = some (encL ls)) (hn : ls.length ≤ 1048576) : call T pr f_slices_Clone_Si_Load_i_Load [slL q ls.length c] ⟨H, e⟩ = some (slL H.length ls.length none, ⟨H ++ [.cells (encL ls) true], e⟩) := by
  have ha := fun L b e' (hb : L[b]? = some (.cells [] true)) hq => append_all (e := e') (L := L) (b := b) (q := q) (n := ls.length) (sz := 2) (bytes := 16) (c := c) (cs := encL ls) hb hq (encL_length ls) (by unfold maxBytes; omega)
  have hf : ∀ (B : Blk) (e0 : Option Nat), finish 2 H.length e0 (slL (H.length + 1) ls.length none) ⟨H ++ [B, .cells (encL ls) true], none⟩ = some (slL H.length ls.length none, ⟨H ++ [.cells (encL ls) true], e0⟩) :=
    fun B e0 => finish_two_at e0 rfl (under_encL _ _)
  rw [call_eq t_slices_Clone_Si_Load_i_Load]
  simp +contextual only [a_slices_Clone_Si_Load_i_Load, c_slices_Clone_Si_Load_i_Load, binop_nil, fillParts, ha, cells_mono h, kill0_new0, kill0_0, hf, go_sem, entry, joinEsc, if_pos, reduceIte, Nat.reduceAdd, Nat.reduceLeDiff, Nat.reduceLT, Nat.reduceEqDiff]

theorem e_Clone_Stage {q : Nat} {c : Option Nat} {ls : List Sg} (h : cellsAt H q = some (encS ls)) (hn : ls.length ≤ 1048576) : call T pr f_slices_Clone_Si_Stage_i_Stage [slS q ls.length c] ⟨H, e⟩ = some (slS H.length ls.length none, ⟨H ++ [.cells (encS ls) true], e⟩) := by
  have ha := fun L b e' (hb : L[b]? = some (.cells [] true)) hq => append_all (e := e') (L := L) (b := b) (q := q) (n := ls.length) (sz := 3) (bytes := 24) (c := c) (cs := encS ls) hb hq (encS_length ls) (by unfold maxBytes; omega)
  have hf : ∀ (B : Blk) (e0 : Option Nat), finish 2 H.length e0 (slS (H.length + 1) ls.length none) ⟨H ++ [B, .cells (encS ls) true], none⟩ = some (slS H.length ls.length none, ⟨H ++ [.cells (encS ls) true], e0⟩) :=
    fun B e0 => finish_two_at e0 rfl (under_encS _ _)
  rw [call_eq t_slices_Clone_Si_Stage_i_Stage]
  simp +contextual only [a_slices_Clone_Si_Stage_i_Stage, c_slices_Clone_Si_Stage_i_Stage, binop_nil, fillParts, ha, cells_mono h, kill0_new0, kill0_0, hf, go_sem, entry, joinEsc, if_pos, reduceIte, Nat.reduceAdd, Nat.reduceLeDiff, Nat.reduceLT, Nat.reduceEqDiff]

theorem e_i_copyStand {q1 q2 : Nat} {c1 c2 : Option Nat} {ls : List Ld} {ss : List Sg} (h1 : cellsAt H q1 = some (encL ls)) (h2 : cellsAt H q2 = some (encS ss)) (hn : ls.length ≤ 1048576) (hm : ss.length ≤ 1048576) (a b t k : Int) :
    call T pr f_i_copyStand [stV (slL q1 ls.length c1) a b (slS q2 ss.length c2) t k] ⟨H, e⟩ = some (stV (slL H.length ls.length none) a b (slS (H.length + 1) ss.length none) t k, ⟨H ++ [.cells (encL ls) true, .cells (encS ss) true], e⟩) := by
  have hf : ∀ (B0 B1 : Blk) (e0 e1 : Option Nat), clean H.length e1 = true → finish 2 H.length e0 (stV (slL (H.length + 2) ls.length none) a b (slS (H.length + 3) ss.length none) t k) ⟨H ++ [B0, B1, .cells (encL ls) true, .cells (encS ss) true], e1⟩ = some (stV (slL H.length ls.length none) a b (slS (H.length + 1) ss.length none) t k, ⟨H ++ [.cells (encL ls) true, .cells (encS ss) true], e0⟩) :=
    fun B0 B1 e0 e1 hc => finish_stand a b t k e0 e1 hc rfl rfl (by decide) (under_encL _ _) (under_encS _ _)
  rw [call_eq t_i_copyStand]
  simp +contextual only [a_i_copyStand, c_i_copyStand, e_Clone_Load (cells_mono h1 _) hn, e_Clone_Stage (cells_mono h2 _) hm, hf, under_slice, Nat.add_assoc, Nat.add_lt_add_iff_left, Nat.lt_irrefl, decide_false, clean_minEsc, clean_none, Nat.le_add_right, Nat.le_refl, decide_true, go_sem, entry, joinEsc, if_pos, reduceIte, Nat.reduceAdd, Nat.reduceLeDiff, Nat.reduceLT, Nat.reduceEqDiff]

theorem cellsAt_lt {L : List Blk} {w : Nat} {cs : List AV} (h : cellsAt L w = some cs) : w < L.length := by
  unfold cellsAt at h
  cases hb : L[w]? with
  | none => rw [hb] at h; cases h
  | some x => exact (List.getElem?_eq_some_iff.mp hb).1

theorem e_s_l12Own {q1 q2 : Nat} {c1 c2 : Option Nat} {ls : List Ld} {ss : List Sg} (h1 : cellsAt H q1 = some (encL ls)) (h2 : cellsAt H q2 = some (encS ss)) (hn : ls.length ≤ 1048576) (hm : ss.length ≤ 1048576) (a b t k : Int) :
    call T pr f_s_l12Own [stV (slL q1 ls.length c1) a b (slS q2 ss.length c2) t k] ⟨H, e⟩ = some (stV (slL H.length ls.length none) a b (slS (H.length + 1) ss.length none) t k, ⟨H ++ [.cells (encL ls) true, .cells (encS ss) true], e⟩) := by
  have ha1 := fun L b e' (hb : L[b]? = some (.cells [] true)) hq => append_all (e := e') (L := L) (b := b) (q := q1) (n := ls.length) (sz := 2) (bytes := 16) (c := c1) (cs := encL ls) hb hq (encL_length ls) (by unfold maxBytes; omega)
  have ha2 := fun L b e' (hb : L[b]? = some (.cells [] true)) hq => append_all (e := e') (L := L) (b := b) (q := q2) (n := ss.length) (sz := 3) (bytes := 24) (c := c2) (cs := encS ss) hb hq (encS_length ss) (by unfold maxBytes; omega)
  have hf : ∀ (B0 B1 B2 B3 B5 : Blk) (e0 e1 : Option Nat), clean H.length e1 = true → finish 2 H.length e0 (stV (slL (H.length + 4) ls.length none) a b (slS (H.length + 6) ss.length none) t k) ⟨H ++ [B0, B1, B2, B3, .cells (encL ls) true, B5, .cells (encS ss) true], e1⟩ = some (stV (slL H.length ls.length none) a b (slS (H.length + 1) ss.length none) t k, ⟨H ++ [.cells (encL ls) true, .cells (encS ss) true], e0⟩) :=
    fun B0 B1 B2 B3 B5 e0 e1 hc => finish_stand a b t k e0 e1 hc rfl rfl (by decide) (under_encL _ _) (under_encS _ _)
  have q1l : q1 < H.length + 3 := by have := cellsAt_lt h1; omega
  have q2l : q2 < H.length + 3 := by have := cellsAt_lt h2; omega
  rw [call_eq t_s_l12Own]
  simp +contextual only [a_s_l12Own, c_s_l12Own, fillParts, ha1, ha2, cells_mono h1, cells_mono h2, kill0_new, kill0_cons, kill0_0, hf, q1l, q2l, under_slice, under_sliceN, Nat.add_assoc, Nat.add_lt_add_iff_left, Nat.lt_irrefl, decide_false, clean_minEsc, clean_none, Nat.le_add_right, Nat.le_refl, decide_true, go_sem, entry, joinEsc, if_pos, reduceIte, Nat.reduceAdd, Nat.reduceLeDiff, Nat.reduceLT, Nat.reduceEqDiff]

end Go.Proofs.Ytlocjmbfcdfjfaa.Slim
