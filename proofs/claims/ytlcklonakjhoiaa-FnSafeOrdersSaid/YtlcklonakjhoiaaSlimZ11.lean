/- Rafts: the drawn arguments. -/
import Derived.Test.YtlcklonakjhoiaaSlimZ10
/- Rafts: the drawn arguments. -/
namespace Go.Proofs.Ytlcklonakjhoiaa.Slim

open Go

set_option linter.unusedSimpArgs false

set_option linter.unusedVariables false

variable {pr : Prims} {H : List Blk} {e : Option Nat}

theorem wc_raft {q : Nat} {av : AV} {p : Int} (h : Cu H q av p) (hp : p ≤ 10000000000) : Wc (call T pr f_s_l1Cur_raft [.ptr (some (q, 0))] ⟨H, e⟩) (fun v m => ∃ a b o y z : Int, v = rfV a b o ∧ 0 ≤ y ∧ y ≤ p + 20 ∧ m = ⟨H.set q (curB av y z), e⟩) := by
  have hl := h.lt
  rw [call_wc t_s_l1Cur_raft]
  obtain ⟨R, hR⟩ : ∃ R, R = seqTl (seqTl (seqTl (seqTl c_s_l1Cur_raft))) := ⟨_, rfl⟩
  have hc : c_s_l1Cur_raft = .seq (seqHd c_s_l1Cur_raft) (.seq (seqHd (seqTl c_s_l1Cur_raft)) (.seq (seqHd (seqTl (seqTl c_s_l1Cur_raft))) (.seq (seqHd (seqTl (seqTl (seqTl c_s_l1Cur_raft)))) R))) := by rw [hR]; rfl
  have r : ∀ (a b o y z : Int) (B1 : Blk) (G : List Blk) (w2 w4 w5 w6 w7 : AV), 0 ≤ y → y ≤ p + 20 →
      Wp (run T pr R ⟨[.ptr (some (q, 0)), .ptr (some (H.length, 0)), w2, .ptr (some (H.length + 2, 0)), w4, w5, w6, w7], ⟨H.set q (curB av y z) ++ (.cells [.int .i64 0, .int .i64 0, .int .i64 0] true :: B1 :: .cells [.int .i64 a, .int .i64 b, .int .i64 o] true :: G), none⟩⟩) (retQ a_s_l1Cur_raft ⟨H, e⟩ fun v m => ∃ a b o y z : Int, v = rfV a b o ∧ 0 ≤ y ∧ y ≤ p + 20 ∧ m = ⟨H.set q (curB av y z), e⟩) := by
    rintro a b o y z B1 G w2 w4 w5 w6 w7 hy0 hy1
    rw [hR]
    simp +contextual only [a_s_l1Cur_raft, c_s_l1Cur_raft, seqTl, seqHd, hl, cellsAt_s0, cellsAt_sk, blkAt_s0, blkAt_sk, set_s0, set_sk, set_sapp, set_app, List.set_set, List.length_set, finish_one_setG, finish_one_set0, clean_none', Nat.add_assoc, Wp_some, Wp_none, Wp_ite, Wc_some, Wc_none, Wc_ite, Wp_thenRun, seqQ_normal, seqQ_exit, seqQ_ret, Wp_inBlock, blkQ_normal, blkQ_ret, blkQ_same, blkQ_exit, Wp_opThen, opQ_at, Wp_guardP, retQ_normal, retQ_ret, loopQ_normal, loopQ_exit, loopQ_ret, finish_one_eq, finish_one_eq0, finish_two_eq, finish_two_eq0, roots_slice_new, roots_slice_new0, roots_slice_none, roots_ptr_new, roots_ptr_new0, roots_int, roots_bool, roots_str, roots_agg, roots_tup, roots_cons, roots_nil, rename_slice, rename_slice_none, rename_ptr, rename_int, rename_bool, rename_str, rename_agg, rename_tup, rename_cons, rename_nil, keepBlks_nil, keepBlks_cons, flatAll_nil, flatAll_cons, flatBlk_cells, dedup_nil, dedup_one, dedup_two, renum_one, renum_one0, renum_two0, renum_two1, clean_none', clean_some, minEsc_none, minEsc_some, Nat.add_left_cancel_iff, Nat.le_add_right, Nat.le_refl, decide_true, go_sem, entry, joinEsc, if_pos, reduceIte, Nat.reduceAdd, Nat.reduceLeDiff, Nat.reduceLT, Nat.reduceEqDiff]
    exact ⟨a, b, o, y, z, rfl, hy0, hy1, rfl⟩
  show Wp (run T pr c_s_l1Cur_raft _) _
  rw [hc]
  simp +contextual only [a_s_l1Cur_raft, c_s_l1Cur_raft, seqTl, seqHd, fillParts, cellsAt_s0, cellsAt_sk, blkAt_s0, blkAt_sk, set_s0, set_sk, set_sapp, set_app, List.set_set, List.length_set, finish_one_setG, finish_one_set0, clean_none', Nat.add_assoc, Wp_some, Wp_none, Wp_ite, Wc_some, Wc_none, Wc_ite, Wp_thenRun, seqQ_normal, seqQ_exit, seqQ_ret, Wp_inBlock, blkQ_normal, blkQ_ret, blkQ_same, blkQ_exit, Wp_opThen, opQ_at, Wp_guardP, retQ_normal, retQ_ret, loopQ_normal, loopQ_exit, loopQ_ret, go_sem, entry, joinEsc, if_pos, reduceIte, Nat.reduceAdd, Nat.reduceLeDiff, Nat.reduceLT, Nat.reduceEqDiff]
  refine (wc_pick 8 (h.more _) (by omega) (by omega)).mono ?_
  rintro v m ⟨x1, y1, z1, rfl, hx10, hx11, hy10, hy11, rfl⟩
  have h1 := h.step hy10 z1
  simp +contextual only [fillParts, hl, cellsAt_s0, cellsAt_sk, blkAt_s0, blkAt_sk, set_s0, set_sk, set_sapp, set_app, List.set_set, List.length_set, finish_one_setG, finish_one_set0, clean_none', Nat.add_assoc, Wp_some, Wp_none, Wp_ite, Wc_some, Wc_none, Wc_ite, Wp_thenRun, seqQ_normal, seqQ_exit, seqQ_ret, Wp_inBlock, blkQ_normal, blkQ_ret, blkQ_same, blkQ_exit, Wp_opThen, opQ_at, Wp_guardP, retQ_normal, retQ_ret, loopQ_normal, loopQ_exit, loopQ_ret, go_sem, entry, joinEsc, if_pos, reduceIte, Nat.reduceAdd, Nat.reduceLeDiff, Nat.reduceLT, Nat.reduceEqDiff]
  refine (wc_pick 6 (h1.more _) (by omega) (by omega)).mono ?_
  rintro v m ⟨x2, y2, z2, rfl, hx20, hx21, hy20, hy21, rfl⟩
  have h2 := h1.step hy20 z2
  rw [List.set_set] at h2
  simp +contextual only [fillParts, hl, cellsAt_s0, cellsAt_sk, blkAt_s0, blkAt_sk, set_s0, set_sk, set_sapp, set_app, List.set_set, List.length_set, finish_one_setG, finish_one_set0, clean_none', Nat.add_assoc, Wp_some, Wp_none, Wp_ite, Wc_some, Wc_none, Wc_ite, Wp_thenRun, seqQ_normal, seqQ_exit, seqQ_ret, Wp_inBlock, blkQ_normal, blkQ_ret, blkQ_same, blkQ_exit, Wp_opThen, opQ_at, Wp_guardP, retQ_normal, retQ_ret, loopQ_normal, loopQ_exit, loopQ_ret, go_sem, entry, joinEsc, if_pos, reduceIte, Nat.reduceAdd, Nat.reduceLeDiff, Nat.reduceLT, Nat.reduceEqDiff]
  refine (amongZ (n := 3) [3, 9, 30] (h2.more _) (by omega) (by simp +contextual only [cellsAt_s0, cellsAt_sk, blkAt_s0, blkAt_sk, set_s0, set_sk, set_sapp, set_app, List.set_set, List.length_set, finish_one_setG, finish_one_set0, clean_none', Nat.add_assoc, go_sem, entry, joinEsc, if_pos, reduceIte, Nat.reduceAdd, Nat.reduceLeDiff, Nat.reduceLT, Nat.reduceEqDiff]) (by omega) rfl (by omega) (by omega)).mono ?_
  rintro v m ⟨x3, y3, z3, rfl, hx3, hy30, hy31, rfl⟩
  have h3 := h2.step hy30 z3
  rw [List.set_set] at h3
  have hx3' : x3 ≤ 61 := by
    simp at hx3
    omega
  simp +contextual only [fillParts, hl, cellsAt_s0, cellsAt_sk, blkAt_s0, blkAt_sk, set_s0, set_sk, set_sapp, set_app, List.set_set, List.length_set, finish_one_setG, finish_one_set0, clean_none', Nat.add_assoc, Wp_some, Wp_none, Wp_ite, Wc_some, Wc_none, Wc_ite, Wp_thenRun, seqQ_normal, seqQ_exit, seqQ_ret, Wp_inBlock, blkQ_normal, blkQ_ret, blkQ_same, blkQ_exit, Wp_opThen, opQ_at, Wp_guardP, retQ_normal, retQ_ret, loopQ_normal, loopQ_exit, loopQ_ret, go_sem, entry, joinEsc, if_pos, reduceIte, Nat.reduceAdd, Nat.reduceLeDiff, Nat.reduceLT, Nat.reduceEqDiff]
  refine (wc_pick x3 (h3.more _) (by omega) (by omega)).mono ?_
  rintro v m ⟨x4, y4, z4, rfl, hx40, hx41, hy40, hy41, rfl⟩
  have h4 := h3.step hy40 z4
  rw [List.set_set] at h4
  simp +contextual only [fillParts, hl, cellsAt_s0, cellsAt_sk, blkAt_s0, blkAt_sk, set_s0, set_sk, set_sapp, set_app, List.set_set, List.length_set, finish_one_setG, finish_one_set0, clean_none', Nat.add_assoc, Wp_some, Wp_none, Wp_ite, Wc_some, Wc_none, Wc_ite, Wp_thenRun, seqQ_normal, seqQ_exit, seqQ_ret, Wp_inBlock, blkQ_normal, blkQ_ret, blkQ_same, blkQ_exit, Wp_opThen, opQ_at, Wp_guardP, retQ_normal, retQ_ret, loopQ_normal, loopQ_exit, loopQ_ret, go_sem, entry, joinEsc, if_pos, reduceIte, Nat.reduceAdd, Nat.reduceLeDiff, Nat.reduceLT, Nat.reduceEqDiff]
  refine (wc_pick 50 (h4.more _) (by omega) (by omega)).mono ?_
  rintro v m ⟨x5, y5, z5, rfl, hx50, hx51, hy50, hy51, rfl⟩
  have h5 := h4.step hy50 z5
  rw [List.set_set] at h5
  by_cases c0 : x5 = 0
  · subst c0
    simp +contextual only [fillParts, hl, decide_true, cellsAt_s0, cellsAt_sk, blkAt_s0, blkAt_sk, set_s0, set_sk, set_sapp, set_app, List.set_set, List.length_set, finish_one_setG, finish_one_set0, clean_none', Nat.add_assoc, Wp_some, Wp_none, Wp_ite, Wc_some, Wc_none, Wc_ite, Wp_thenRun, seqQ_normal, seqQ_exit, seqQ_ret, Wp_inBlock, blkQ_normal, blkQ_ret, blkQ_same, blkQ_exit, Wp_opThen, opQ_at, Wp_guardP, retQ_normal, retQ_ret, loopQ_normal, loopQ_exit, loopQ_ret, go_sem, entry, joinEsc, if_pos, reduceIte, Nat.reduceAdd, Nat.reduceLeDiff, Nat.reduceLT, Nat.reduceEqDiff]
    refine (amongZ (n := 3) [-1, IntKind.i64.wrap (IntKind.i64.wrap (x1 + x2) + 1), 61] (h5.more _) (by omega) (by simp +contextual only [cellsAt_s0, cellsAt_sk, blkAt_s0, blkAt_sk, set_s0, set_sk, set_sapp, set_app, List.set_set, List.length_set, finish_one_setG, finish_one_set0, clean_none', Nat.add_assoc, go_sem, entry, joinEsc, if_pos, reduceIte, Nat.reduceAdd, Nat.reduceLeDiff, Nat.reduceLT, Nat.reduceEqDiff]) (by omega) rfl (by omega) (by omega)).mono ?_
    rintro v m ⟨x6, y6, z6, rfl, hx6, hy60, hy61, rfl⟩
    simp +contextual only [fillParts, hl, decide_true, cellsAt_s0, cellsAt_sk, blkAt_s0, blkAt_sk, set_s0, set_sk, set_sapp, set_app, List.set_set, List.length_set, finish_one_setG, finish_one_set0, clean_none', Nat.add_assoc, Wp_some, Wp_none, Wp_ite, Wc_some, Wc_none, Wc_ite, Wp_thenRun, seqQ_normal, seqQ_exit, seqQ_ret, Wp_inBlock, blkQ_normal, blkQ_ret, blkQ_same, blkQ_exit, Wp_opThen, opQ_at, Wp_guardP, retQ_normal, retQ_ret, loopQ_normal, loopQ_exit, loopQ_ret, go_sem, entry, joinEsc, if_pos, reduceIte, Nat.reduceAdd, Nat.reduceLeDiff, Nat.reduceLT, Nat.reduceEqDiff]
    exact r _ _ _ _ _ _ _ _ _ _ _ _ hy60 (by omega)
  · have c0' : decide (x5 = 0) = false := decide_eq_false c0
    by_cases c1 : x5 = 1
    · subst c1
      simp +contextual only [fillParts, hl, c0', decide_true, cellsAt_s0, cellsAt_sk, blkAt_s0, blkAt_sk, set_s0, set_sk, set_sapp, set_app, List.set_set, List.length_set, finish_one_setG, finish_one_set0, clean_none', Nat.add_assoc, Wp_some, Wp_none, Wp_ite, Wc_some, Wc_none, Wc_ite, Wp_thenRun, seqQ_normal, seqQ_exit, seqQ_ret, Wp_inBlock, blkQ_normal, blkQ_ret, blkQ_same, blkQ_exit, Wp_opThen, opQ_at, Wp_guardP, retQ_normal, retQ_ret, loopQ_normal, loopQ_exit, loopQ_ret, go_sem, entry, joinEsc, if_pos, reduceIte, Nat.reduceAdd, Nat.reduceLeDiff, Nat.reduceLT, Nat.reduceEqDiff]
      refine (amongZ (n := 3) [60, 61, 4611686018427387904] (h5.more _) (by omega) (by simp +contextual only [cellsAt_s0, cellsAt_sk, blkAt_s0, blkAt_sk, set_s0, set_sk, set_sapp, set_app, List.set_set, List.length_set, finish_one_setG, finish_one_set0, clean_none', Nat.add_assoc, go_sem, entry, joinEsc, if_pos, reduceIte, Nat.reduceAdd, Nat.reduceLeDiff, Nat.reduceLT, Nat.reduceEqDiff]) (by omega) rfl (by omega) (by omega)).mono ?_
      rintro v m ⟨x6, y6, z6, rfl, hx6, hy60, hy61, rfl⟩
      simp +contextual only [fillParts, hl, decide_true, cellsAt_s0, cellsAt_sk, blkAt_s0, blkAt_sk, set_s0, set_sk, set_sapp, set_app, List.set_set, List.length_set, finish_one_setG, finish_one_set0, clean_none', Nat.add_assoc, Wp_some, Wp_none, Wp_ite, Wc_some, Wc_none, Wc_ite, Wp_thenRun, seqQ_normal, seqQ_exit, seqQ_ret, Wp_inBlock, blkQ_normal, blkQ_ret, blkQ_same, blkQ_exit, Wp_opThen, opQ_at, Wp_guardP, retQ_normal, retQ_ret, loopQ_normal, loopQ_exit, loopQ_ret, go_sem, entry, joinEsc, if_pos, reduceIte, Nat.reduceAdd, Nat.reduceLeDiff, Nat.reduceLT, Nat.reduceEqDiff]
      exact r _ _ _ _ _ _ _ _ _ _ _ _ hy60 (by omega)
    · have c1' : decide (x5 = 1) = false := decide_eq_false c1
      by_cases c2 : x5 = 2
      · subst c2
        simp +contextual only [fillParts, hl, c0', c1', decide_true, cellsAt_s0, cellsAt_sk, blkAt_s0, blkAt_sk, set_s0, set_sk, set_sapp, set_app, List.set_set, List.length_set, finish_one_setG, finish_one_set0, clean_none', Nat.add_assoc, Wp_some, Wp_none, Wp_ite, Wc_some, Wc_none, Wc_ite, Wp_thenRun, seqQ_normal, seqQ_exit, seqQ_ret, Wp_inBlock, blkQ_normal, blkQ_ret, blkQ_same, blkQ_exit, Wp_opThen, opQ_at, Wp_guardP, retQ_normal, retQ_ret, loopQ_normal, loopQ_exit, loopQ_ret, go_sem, entry, joinEsc, if_pos, reduceIte, Nat.reduceAdd, Nat.reduceLeDiff, Nat.reduceLT, Nat.reduceEqDiff]
        refine (amongZ (n := 4) [0, 99, 100, -1] (h5.more _) (by omega) (by simp +contextual only [cellsAt_s0, cellsAt_sk, blkAt_s0, blkAt_sk, set_s0, set_sk, set_sapp, set_app, List.set_set, List.length_set, finish_one_setG, finish_one_set0, clean_none', Nat.add_assoc, go_sem, entry, joinEsc, if_pos, reduceIte, Nat.reduceAdd, Nat.reduceLeDiff, Nat.reduceLT, Nat.reduceEqDiff]) (by omega) rfl (by omega) (by omega)).mono ?_
        rintro v m ⟨x6, y6, z6, rfl, hx6, hy60, hy61, rfl⟩
        simp +contextual only [fillParts, hl, decide_true, cellsAt_s0, cellsAt_sk, blkAt_s0, blkAt_sk, set_s0, set_sk, set_sapp, set_app, List.set_set, List.length_set, finish_one_setG, finish_one_set0, clean_none', Nat.add_assoc, Wp_some, Wp_none, Wp_ite, Wc_some, Wc_none, Wc_ite, Wp_thenRun, seqQ_normal, seqQ_exit, seqQ_ret, Wp_inBlock, blkQ_normal, blkQ_ret, blkQ_same, blkQ_exit, Wp_opThen, opQ_at, Wp_guardP, retQ_normal, retQ_ret, loopQ_normal, loopQ_exit, loopQ_ret, go_sem, entry, joinEsc, if_pos, reduceIte, Nat.reduceAdd, Nat.reduceLeDiff, Nat.reduceLT, Nat.reduceEqDiff]
        exact r _ _ _ _ _ _ _ _ _ _ _ _ hy60 (by omega)
      · have c2' : decide (x5 = 2) = false := decide_eq_false c2
        simp +contextual only [hl, c0', c1', c2', cellsAt_s0, cellsAt_sk, blkAt_s0, blkAt_sk, set_s0, set_sk, set_sapp, set_app, List.set_set, List.length_set, finish_one_setG, finish_one_set0, clean_none', Nat.add_assoc, Wp_some, Wp_none, Wp_ite, Wc_some, Wc_none, Wc_ite, Wp_thenRun, seqQ_normal, seqQ_exit, seqQ_ret, Wp_inBlock, blkQ_normal, blkQ_ret, blkQ_same, blkQ_exit, Wp_opThen, opQ_at, Wp_guardP, retQ_normal, retQ_ret, loopQ_normal, loopQ_exit, loopQ_ret, go_sem, entry, joinEsc, if_pos, reduceIte, Nat.reduceAdd, Nat.reduceLeDiff, Nat.reduceLT, Nat.reduceEqDiff]
        exact r _ _ _ _ _ _ _ _ _ _ _ _ hy50 (by omega)

theorem set_ld0 {ls : List Ld} {i : Nat} (h : i < ls.length) (a : Int) : ∃ ls' : List Ld, ls'.length = ls.length ∧ setRange (encL ls) (i * 2) [.int .i64 a] = encL ls' := by
  have hl : ls = ls.take i ++ ls[i] :: ls.drop (i + 1) := by rw [← List.drop_eq_getElem_cons h, List.take_append_drop]
  have ht : (ls.take i).length = i := by rw [List.length_take]; omega
  have := setRange_midL0 (ls.take i) (ls.drop (i + 1)) ls[i] a
  rw [← hl, ht] at this
  refine ⟨_, ?_, this⟩
  rw [List.length_append, List.length_cons, List.length_drop, ht]
  omega

theorem set_ld1 {ls : List Ld} {i : Nat} (h : i < ls.length) (a : Int) : ∃ ls' : List Ld, ls'.length = ls.length ∧ setRange (encL ls) (i * 2 + 1) [.int .i64 a] = encL ls' := by
  have hl : ls = ls.take i ++ ls[i] :: ls.drop (i + 1) := by rw [← List.drop_eq_getElem_cons h, List.take_append_drop]
  have ht : (ls.take i).length = i := by rw [List.length_take]; omega
  have := setRange_midL1 (ls.take i) (ls.drop (i + 1)) ls[i] a
  rw [← hl, ht] at this
  refine ⟨_, ?_, this⟩
  rw [List.length_append, List.length_cons, List.length_drop, ht]
  omega

theorem last_get {M : List Blk} {n : Nat} (h : M.length = n) (x : Blk) : (M ++ [x])[n]? = some x := by
  rw [← h, List.getElem?_append_right (Nat.le_refl _), Nat.sub_self]
  rfl

set_option maxHeartbeats 4000000 in
theorem wc_cargo {q : Nat} {av : AV} {p : Int} (h : Cu H q av p) (hp : p ≤ 1000000000) : Wc (call T pr f_s_l1Cur_cargo [.ptr (some (q, 0))] ⟨H, e⟩) (fun v m => ∃ (ls : List Ld) (c : Option Nat) (y z : Int), v = slL H.length ls.length c ∧ ls.length ≤ 9 ∧ 0 ≤ y ∧ y ≤ p + 300 ∧ m = ⟨H.set q (curB av y z) ++ [.cells (encL ls) true], e⟩) := by
  have hl := h.lt
  rw [call_wc t_s_l1Cur_cargo]
  obtain ⟨R, hR⟩ : ∃ R, R = seqTl (seqTl (seqTl (seqTl c_s_l1Cur_cargo))) := ⟨_, rfl⟩
  have hc : c_s_l1Cur_cargo = .seq (seqHd c_s_l1Cur_cargo) (.seq (seqHd (seqTl c_s_l1Cur_cargo)) (.seq (seqHd (seqTl (seqTl c_s_l1Cur_cargo))) (.seq (seqHd (seqTl (seqTl (seqTl c_s_l1Cur_cargo)))) R))) := by rw [hR]; rfl
  have r : ∀ (ls : List Ld) (b : Nat) (c : Option Nat) (y z : Int) (L : List Blk) (w1 w3 w4 w5 w6 w7 w8 w9 w10 w11 : AV), 0 ≤ y → y ≤ p + 300 → ls.length ≤ 9 → H.length ≤ b → Grown (H.set q (curB av y z)) L → L[b]? = some (.cells (encL ls) true) →
      Wp (run T pr R ⟨[.ptr (some (q, 0)), w1, slL b ls.length c, w3, w4, w5, w6, w7, w8, w9, w10, w11], ⟨L, none⟩⟩) (retQ a_s_l1Cur_cargo ⟨H, e⟩ fun v m => ∃ (ls : List Ld) (c : Option Nat) (y z : Int), v = slL H.length ls.length c ∧ ls.length ≤ 9 ∧ 0 ≤ y ∧ y ≤ p + 300 ∧ m = ⟨H.set q (curB av y z) ++ [.cells (encL ls) true], e⟩) := by
    rintro ls b c y z L w1 w3 w4 w5 w6 w7 w8 w9 w10 w11 hy0 hy1 hn hb hg hL
    have hf := finish_sl_set (H := H) (sz := 2) (n := ls.length) (c := c) hg e none rfl hb hL (under_encL _ _)
    rw [hR]
    simp (maxSteps := 2000000) +contextual only [a_s_l1Cur_cargo, c_s_l1Cur_cargo, seqTl, seqHd, hl, hf, Wp_some, Wp_none, Wp_ite, Wc_some, Wc_none, Wc_ite, Wp_thenRun, seqQ_normal, seqQ_exit, seqQ_ret, Wp_inBlock, blkQ_normal, blkQ_ret, blkQ_same, blkQ_exit, Wp_opThen, opQ_at, Wp_guardP, retQ_normal, retQ_ret, loopQ_normal, loopQ_exit, loopQ_ret, go_sem, entry, joinEsc, if_pos, reduceIte, Nat.reduceAdd, Nat.reduceLeDiff, Nat.reduceLT, Nat.reduceEqDiff]
    exact ⟨ls, c, y, z, rfl, hn, hy0, hy1, rfl⟩
  show Wp (run T pr c_s_l1Cur_cargo _) _
  rw [hc]
  simp (maxSteps := 2000000) +contextual only [a_s_l1Cur_cargo, c_s_l1Cur_cargo, seqTl, seqHd, fillParts, cellsAt_s0, cellsAt_sk, blkAt_s0, blkAt_sk, set_s0, set_sk, set_sapp, set_app, List.set_set, List.length_set, finish_one_setG, finish_one_set0, clean_none', Nat.add_assoc, Wp_some, Wp_none, Wp_ite, Wc_some, Wc_none, Wc_ite, Wp_thenRun, seqQ_normal, seqQ_exit, seqQ_ret, Wp_inBlock, blkQ_normal, blkQ_ret, blkQ_same, blkQ_exit, Wp_opThen, opQ_at, Wp_guardP, retQ_normal, retQ_ret, loopQ_normal, loopQ_exit, loopQ_ret, go_sem, entry, joinEsc, if_pos, reduceIte, Nat.reduceAdd, Nat.reduceLeDiff, Nat.reduceLT, Nat.reduceEqDiff]
  refine (amongZ (n := 8) [3, 4, 2, 5, 1, 0, 6, 8] (h.more _) (by omega) (by simp (maxSteps := 2000000) +contextual only [cellsAt_s0, cellsAt_sk, blkAt_s0, blkAt_sk, set_s0, set_sk, set_sapp, set_app, List.set_set, List.length_set, finish_one_setG, finish_one_set0, clean_none', Nat.add_assoc, go_sem, entry, joinEsc, if_pos, reduceIte, Nat.reduceAdd, Nat.reduceLeDiff, Nat.reduceLT, Nat.reduceEqDiff]) (by omega) rfl (by omega) (by omega)).mono ?_
  rintro v m ⟨x1, y1, z1, rfl, hx1, hy10, hy11, rfl⟩
  have hx1' : 0 ≤ x1 ∧ x1 ≤ 8 := by
    simp at hx1
    omega
  obtain ⟨n, rfl⟩ : ∃ n : Nat, x1 = (n : Int) := ⟨x1.toNat, by omega⟩
  simp (maxSteps := 2000000) +contextual only [hl, cellsAt_s0, cellsAt_sk, blkAt_s0, blkAt_sk, set_s0, set_sk, set_sapp, set_app, List.set_set, List.length_set, finish_one_setG, finish_one_set0, clean_none', Nat.add_assoc, Wp_some, Wp_none, Wp_ite, Wc_some, Wc_none, Wc_ite, Wp_thenRun, seqQ_normal, seqQ_exit, seqQ_ret, Wp_inBlock, blkQ_normal, blkQ_ret, blkQ_same, blkQ_exit, Wp_opThen, opQ_at, Wp_guardP, retQ_normal, retQ_ret, loopQ_normal, loopQ_exit, loopQ_ret, go_sem, entry, joinEsc, if_pos, reduceIte, Nat.reduceAdd, Nat.reduceLeDiff, Nat.reduceLT, Nat.reduceEqDiff]
  refine Wp_loop (fun k st => ∃ (ls : List Ld) (b : Nat) (c : Option Nat) (y z : Int) (L : List Blk) (w4 w5 w6 w7 w8 w9 w10 w11 : AV), 0 ≤ y ∧ y + (k : Int) * 6 ≤ p + 60 ∧ ls.length + k ≤ 8 ∧ (c = some 0 → ls.length = 0) ∧ H.length ≤ b ∧ Grown (H.set q (curB av y z)) L ∧ L[b]? = some (.cells (encL ls) true) ∧
      st = ⟨[.ptr (some (q, 0)), .slice none 0 0 none, slL b ls.length c, .int .i64 k, w4, w5, w6, w7, w8, w9, w10, w11], ⟨L, none⟩⟩) ?_ n _
    ⟨[], H.length, some 0, y1, z1, _, _, _, _, _, _, _, _, _, hy10, by omega, by simp; omega, fun _ => rfl, Nat.le_refl _, ⟨_, rfl⟩, by rw [blkAt_s0]; rfl, rfl⟩
  rintro k _ ⟨ls, b, c, y, z, L, w4, w5, w6, w7, w8, w9, w10, w11, hy0, hy1, hn, hcap, hb, hg, hL, rfl⟩
  have h4 := hg.curs h hy0
  have hqb : b ≠ q := by omega
  by_cases hk : k = 0
  · subst hk
    have hd : decide ((0 : Int) < ((0 : Nat) : Int)) = false := by decide
    have hd' : ¬ ((0 : Int) < ((0 : Nat) : Int)) := by omega
    by_cases h0 : ls.length = 0
    · have h0' : decide ((0 : Int) < (ls.length : Int)) = false := decide_eq_false (by omega)
      simp (maxSteps := 2000000) +contextual only [w_s_l1Cur_cargo_1, gt_iff_lt, hd, hd', h0', decide_false, Wp_some, Wp_none, Wp_ite, Wc_some, Wc_none, Wc_ite, Wp_thenRun, seqQ_normal, seqQ_exit, seqQ_ret, Wp_inBlock, blkQ_normal, blkQ_ret, blkQ_same, blkQ_exit, Wp_opThen, opQ_at, Wp_guardP, retQ_normal, retQ_ret, loopQ_normal, loopQ_exit, loopQ_ret, go_sem, entry, joinEsc, if_pos, reduceIte, Nat.reduceAdd, Nat.reduceLeDiff, Nat.reduceLT, Nat.reduceEqDiff]
      exact r ls b c y z L _ _ _ _ _ _ _ _ _ _ hy0 (by omega) (by omega) hb hg hL
    · have h0' : decide ((0 : Int) < (ls.length : Int)) = true := decide_eq_true (by omega)
      simp (maxSteps := 2000000) +contextual only [w_s_l1Cur_cargo_1, gt_iff_lt, hd, hd', h0', decide_true, decide_false, Wp_some, Wp_none, Wp_ite, Wc_some, Wc_none, Wc_ite, Wp_thenRun, seqQ_normal, seqQ_exit, seqQ_ret, Wp_inBlock, blkQ_normal, blkQ_ret, blkQ_same, blkQ_exit, Wp_opThen, opQ_at, Wp_guardP, retQ_normal, retQ_ret, loopQ_normal, loopQ_exit, loopQ_ret, go_sem, entry, joinEsc, if_pos, reduceIte, Nat.reduceAdd, Nat.reduceLeDiff, Nat.reduceLT, Nat.reduceEqDiff]
      refine (wc_pick 50 h4 (by omega) (by omega)).mono ?_
      rintro v m ⟨x5, y5, z5, rfl, hx50, hx51, hy50, hy51, rfl⟩
      have hg5 := hg.cur hl (curB av y5 z5)
      have h5 := hg5.curs h hy50
      have hL5 : (L.set q (curB av y5 z5))[b]? = some (.cells (encL ls) true) := by rw [List.getElem?_set_ne (fun e => hqb e.symm)]; exact hL
      have hlb : (L.set q (curB av y5 z5)).length = L.length := List.length_set
      generalize L.set q (curB av y5 z5) = L5 at *
      have hbl : b < L5.length := (List.getElem?_eq_some_iff.mp hL5).1
      have hLs : ∀ x X, (L5.set q x ++ X)[b]? = some (.cells (encL ls) true) := fun x X => by
        rw [List.getElem?_append_left (by rw [List.length_set]; exact hbl), List.getElem?_set_ne (fun e => hqb e.symm)]
        exact hL5
      have hll : ((2 : Nat) ≤ (encL ls).length) := by rw [encL_length]; omega
      by_cases c0 : x5 = 0
      · subst c0
        simp (maxSteps := 2000000) +contextual only [fillParts, decide_true, Wp_some, Wp_none, Wp_ite, Wc_some, Wc_none, Wc_ite, Wp_thenRun, seqQ_normal, seqQ_exit, seqQ_ret, Wp_inBlock, blkQ_normal, blkQ_ret, blkQ_same, blkQ_exit, Wp_opThen, opQ_at, Wp_guardP, retQ_normal, retQ_ret, loopQ_normal, loopQ_exit, loopQ_ret, go_sem, entry, joinEsc, if_pos, reduceIte, Nat.reduceAdd, Nat.reduceLeDiff, Nat.reduceLT, Nat.reduceEqDiff]
        refine (wc_pick (ls.length : Int) h5 (by omega) (by omega)).mono ?_
        rintro v m ⟨x6, y6, z6, rfl, hx60, hx61, hy60, hy61, rfl⟩
        obtain ⟨i, rfl⟩ : ∃ i : Nat, x6 = (i : Int) := ⟨x6.toNat, by omega⟩
        have hi : i < ls.length := by omega
        have h6 := h5.step hy60 z6
        simp (maxSteps := 2000000) +contextual only [fillParts, hi, cellsAt_s0, cellsAt_sk, blkAt_s0, blkAt_sk, set_s0, set_sk, set_sapp, set_app, List.set_set, List.length_set, finish_one_setG, finish_one_set0, clean_none', Nat.add_assoc, Wp_some, Wp_none, Wp_ite, Wc_some, Wc_none, Wc_ite, Wp_thenRun, seqQ_normal, seqQ_exit, seqQ_ret, Wp_inBlock, blkQ_normal, blkQ_ret, blkQ_same, blkQ_exit, Wp_opThen, opQ_at, Wp_guardP, retQ_normal, retQ_ret, loopQ_normal, loopQ_exit, loopQ_ret, go_sem, entry, joinEsc, if_pos, reduceIte, Nat.reduceAdd, Nat.reduceLeDiff, Nat.reduceLT, Nat.reduceEqDiff]
        refine (amongZ (n := 3) [-1, 60, 61] (h6.more _) (by omega) (by simp +contextual only [cellsAt_s0, cellsAt_sk, blkAt_s0, blkAt_sk, set_s0, set_sk, set_sapp, set_app, List.set_set, List.length_set, finish_one_setG, finish_one_set0, clean_none', Nat.add_assoc, go_sem, entry, joinEsc, if_pos, reduceIte, Nat.reduceAdd, Nat.reduceLeDiff, Nat.reduceLT, Nat.reduceEqDiff]) (by have := h5.lt; omega) rfl (by omega) (by omega)).mono ?_
        rintro v m ⟨x7, y7, z7, rfl, hx7, hy70, hy71, rfl⟩
        obtain ⟨ls', e1, e2⟩ := set_ld0 hi x7
        have hle : i * 2 + 1 ≤ ls.length * 2 := by omega
        simp (maxSteps := 2000000) +contextual only [fillParts, hi, hLs, h5.lt, e2, hle, encL_length, Nat.add_zero, cellsAt_s0, cellsAt_sk, blkAt_s0, blkAt_sk, set_s0, set_sk, set_sapp, set_app, List.set_set, List.length_set, finish_one_setG, finish_one_set0, clean_none', Nat.add_assoc, Wp_some, Wp_none, Wp_ite, Wc_some, Wc_none, Wc_ite, Wp_thenRun, seqQ_normal, seqQ_exit, seqQ_ret, Wp_inBlock, blkQ_normal, blkQ_ret, blkQ_same, blkQ_exit, Wp_opThen, opQ_at, Wp_guardP, retQ_normal, retQ_ret, loopQ_normal, loopQ_exit, loopQ_ret, go_sem, entry, joinEsc, if_pos, reduceIte, Nat.reduceAdd, Nat.reduceLeDiff, Nat.reduceLT, Nat.reduceEqDiff]
        rw [← e1]
        exact r ls' b c y7 z7 _ _ _ _ _ _ _ _ _ _ _ hy70 (by omega) (by omega) hb (((hg5.cur hl _).more _).put (by rw [List.length_set]; exact hb) _) (List.getElem?_set_self (by rw [List.length_append, List.length_set]; omega))
      · have c0' : decide (x5 = 0) = false := decide_eq_false c0
        by_cases c1 : x5 = 1
        · subst c1
          simp (maxSteps := 2000000) +contextual only [fillParts, c0', decide_true, Wp_some, Wp_none, Wp_ite, Wc_some, Wc_none, Wc_ite, Wp_thenRun, seqQ_normal, seqQ_exit, seqQ_ret, Wp_inBlock, blkQ_normal, blkQ_ret, blkQ_same, blkQ_exit, Wp_opThen, opQ_at, Wp_guardP, retQ_normal, retQ_ret, loopQ_normal, loopQ_exit, loopQ_ret, go_sem, entry, joinEsc, if_pos, reduceIte, Nat.reduceAdd, Nat.reduceLeDiff, Nat.reduceLT, Nat.reduceEqDiff]
          refine (wc_pick (ls.length : Int) h5 (by omega) (by omega)).mono ?_
          rintro v m ⟨x6, y6, z6, rfl, hx60, hx61, hy60, hy61, rfl⟩
          obtain ⟨i, rfl⟩ : ∃ i : Nat, x6 = (i : Int) := ⟨x6.toNat, by omega⟩
          have hi : i < ls.length := by omega
          have h6 := h5.step hy60 z6
          simp (maxSteps := 2000000) +contextual only [fillParts, hi, cellsAt_s0, cellsAt_sk, blkAt_s0, blkAt_sk, set_s0, set_sk, set_sapp, set_app, List.set_set, List.length_set, finish_one_setG, finish_one_set0, clean_none', Nat.add_assoc, Wp_some, Wp_none, Wp_ite, Wc_some, Wc_none, Wc_ite, Wp_thenRun, seqQ_normal, seqQ_exit, seqQ_ret, Wp_inBlock, blkQ_normal, blkQ_ret, blkQ_same, blkQ_exit, Wp_opThen, opQ_at, Wp_guardP, retQ_normal, retQ_ret, loopQ_normal, loopQ_exit, loopQ_ret, go_sem, entry, joinEsc, if_pos, reduceIte, Nat.reduceAdd, Nat.reduceLeDiff, Nat.reduceLT, Nat.reduceEqDiff]
          refine (amongZ (n := 3) [0, 99, 100] (h6.more _) (by omega) (by simp +contextual only [cellsAt_s0, cellsAt_sk, blkAt_s0, blkAt_sk, set_s0, set_sk, set_sapp, set_app, List.set_set, List.length_set, finish_one_setG, finish_one_set0, clean_none', Nat.add_assoc, go_sem, entry, joinEsc, if_pos, reduceIte, Nat.reduceAdd, Nat.reduceLeDiff, Nat.reduceLT, Nat.reduceEqDiff]) (by have := h5.lt; omega) rfl (by omega) (by omega)).mono ?_
          rintro v m ⟨x7, y7, z7, rfl, hx7, hy70, hy71, rfl⟩
          obtain ⟨ls', e1, e2⟩ := set_ld1 hi x7
          have hle : i * 2 + 1 + 1 ≤ ls.length * 2 := by omega
          simp (maxSteps := 2000000) +contextual only [fillParts, hi, hLs, h5.lt, e2, hle, encL_length, Nat.add_zero, cellsAt_s0, cellsAt_sk, blkAt_s0, blkAt_sk, set_s0, set_sk, set_sapp, set_app, List.set_set, List.length_set, finish_one_setG, finish_one_set0, clean_none', Nat.add_assoc, Wp_some, Wp_none, Wp_ite, Wc_some, Wc_none, Wc_ite, Wp_thenRun, seqQ_normal, seqQ_exit, seqQ_ret, Wp_inBlock, blkQ_normal, blkQ_ret, blkQ_same, blkQ_exit, Wp_opThen, opQ_at, Wp_guardP, retQ_normal, retQ_ret, loopQ_normal, loopQ_exit, loopQ_ret, go_sem, entry, joinEsc, if_pos, reduceIte, Nat.reduceAdd, Nat.reduceLeDiff, Nat.reduceLT, Nat.reduceEqDiff]
          rw [← e1]
          exact r ls' b c y7 z7 _ _ _ _ _ _ _ _ _ _ _ hy70 (by omega) (by omega) hb (((hg5.cur hl _).more _).put (by rw [List.length_set]; exact hb) _) (List.getElem?_set_self (by rw [List.length_append, List.length_set]; omega))
        · have c1' : decide (x5 = 1) = false := decide_eq_false c1
          by_cases c2 : x5 = 2
          · subst c2
            simp (maxSteps := 2000000) +contextual only [c0', c1', decide_true, Wp_some, Wp_none, Wp_ite, Wc_some, Wc_none, Wc_ite, Wp_thenRun, seqQ_normal, seqQ_exit, seqQ_ret, Wp_inBlock, blkQ_normal, blkQ_ret, blkQ_same, blkQ_exit, Wp_opThen, opQ_at, Wp_guardP, retQ_normal, retQ_ret, loopQ_normal, loopQ_exit, loopQ_ret, go_sem, entry, joinEsc, if_pos, reduceIte, Nat.reduceAdd, Nat.reduceLeDiff, Nat.reduceLT, Nat.reduceEqDiff]
            refine Wp_loop (fun k st => ∃ (ls : List Ld) (b : Nat) (c : Option Nat) (L : List Blk) (w1 w3 w4 w5 w6 w7 w8 w9 w10 w11 : AV), ls.length + k = 9 ∧ (c = some 0 → ls.length = 0) ∧ H.length ≤ b ∧ Grown (H.set q (curB av y5 z5)) L ∧ L[b]? = some (.cells (encL ls) true) ∧
                st = ⟨[.ptr (some (q, 0)), w1, slL b ls.length c, w3, w4, w5, w6, w7, w8, w9, w10, w11], ⟨L, none⟩⟩) ?_ (9 - ls.length) _
              ⟨ls, b, c, L5, _, _, _, _, _, _, _, _, _, _, by omega, hcap, hb, hg5, hL5, rfl⟩
            rintro k _ ⟨ls, b, c, L, w1, w3, w4, w5, w6, w7, w8, w9, w10, w11, hn, hcap, hb, hg, hL, rfl⟩
            by_cases hk : k = 0
            · have hd : decide ((ls.length : Int) < 9) = false := decide_eq_false (by omega)
              simp (maxSteps := 2000000) +contextual only [w_s_l1Cur_cargo_2, hd, Wp_some, Wp_none, Wp_ite, Wc_some, Wc_none, Wc_ite, Wp_thenRun, seqQ_normal, seqQ_exit, seqQ_ret, Wp_inBlock, blkQ_normal, blkQ_ret, blkQ_same, blkQ_exit, Wp_opThen, opQ_at, Wp_guardP, retQ_normal, retQ_ret, loopQ_normal, loopQ_exit, loopQ_ret, go_sem, entry, joinEsc, if_pos, reduceIte, Nat.reduceAdd, Nat.reduceLeDiff, Nat.reduceLT, Nat.reduceEqDiff]
              exact r ls b c y5 z5 L _ _ _ _ _ _ _ _ _ _ hy50 (by omega) (by omega) hb hg hL
            · have hd : decide ((ls.length : Int) < 9) = true := decide_eq_true (by omega)
              have hap := fun M q' c' (hb : M[b]? = some (Blk.cells (encL ls) true)) (hq : cellsAt M q' = some [AV.int .i64 5, AV.int .i64 1]) => apOne (e := none) (sz := 2) (bytes := 16) (n := ls.length) (cap := c) (c := c') hb hq (encL_length _) rfl (by unfold maxBytes; omega) hcap
              have hLs : ∀ X, (L ++ X)[b]? = some (.cells (encL ls) true) := fun X => get_more hL X
              simp (maxSteps := 2000000) +contextual only [w_s_l1Cur_cargo_2, fillParts, hd, hLs, hap, cellsAt_s0, cellsAt_sk, blkAt_s0, blkAt_sk, set_s0, set_sk, set_sapp, set_app, List.set_set, List.length_set, finish_one_setG, finish_one_set0, clean_none', Nat.add_assoc, Wp_some, Wp_none, Wp_ite, Wc_some, Wc_none, Wc_ite, Wp_thenRun, seqQ_normal, seqQ_exit, seqQ_ret, Wp_inBlock, blkQ_normal, blkQ_ret, blkQ_same, blkQ_exit, Wp_opThen, opQ_at, Wp_guardP, retQ_normal, retQ_ret, loopQ_normal, loopQ_exit, loopQ_ret, go_sem, entry, joinEsc, if_pos, reduceIte, Nat.reduceAdd, Nat.reduceLeDiff, Nat.reduceLT, Nat.reduceEqDiff]
              have hen : encL ls ++ [AV.int .i64 5, AV.int .i64 1] = encL (ls ++ [(5, 1)]) := by rw [encL_append]; rfl
              rw [hen, show ls.length + 1 = (ls ++ [(5, 1)]).length by simp]
              exact ⟨k - 1, by omega, ls ++ [(5, 1)], _, none, _, _, _, _, _, _, _, _, _, _, _, by rw [List.length_append, List.length_singleton]; omega, by simp, by have := hg.le; rw [List.length_set] at this; omega, ((hg.more _).kill (by rw [List.length_set]; exact hb) _).more _, last_get (by rw [killL_length]; simp) _, rfl⟩
          · have c2' : decide (x5 = 2) = false := decide_eq_false c2
            simp (maxSteps := 2000000) +contextual only [c0', c1', c2', decide_true, Wp_some, Wp_none, Wp_ite, Wc_some, Wc_none, Wc_ite, Wp_thenRun, seqQ_normal, seqQ_exit, seqQ_ret, Wp_inBlock, blkQ_normal, blkQ_ret, blkQ_same, blkQ_exit, Wp_opThen, opQ_at, Wp_guardP, retQ_normal, retQ_ret, loopQ_normal, loopQ_exit, loopQ_ret, go_sem, entry, joinEsc, if_pos, reduceIte, Nat.reduceAdd, Nat.reduceLeDiff, Nat.reduceLT, Nat.reduceEqDiff]
            exact r ls b c y5 z5 L5 _ _ _ _ _ _ _ _ _ _ hy50 (by omega) (by omega) hb hg5 hL5
  · have hd : decide ((0 : Int) < (k : Int)) = true := decide_eq_true (by omega)
    have hd' : (0 : Int) < (k : Int) := by omega
    have hwk : IntKind.i64.wrap ((k : Int) - 1) = ((k - 1 : Nat) : Int) := by
      rw [show ((k : Int) - 1) = ((k - 1 : Nat) : Int) by omega]; exact wrap64 (by omega) (by omega)
    simp (maxSteps := 2000000) +contextual only [w_s_l1Cur_cargo_1, gt_iff_lt, hd, hd', decide_true, Wp_some, Wp_none, Wp_ite, Wc_some, Wc_none, Wc_ite, Wp_thenRun, seqQ_normal, seqQ_exit, seqQ_ret, Wp_inBlock, blkQ_normal, blkQ_ret, blkQ_same, blkQ_exit, Wp_opThen, opQ_at, Wp_guardP, retQ_normal, retQ_ret, loopQ_normal, loopQ_exit, loopQ_ret, go_sem, entry, joinEsc, if_pos, reduceIte, Nat.reduceAdd, Nat.reduceLeDiff, Nat.reduceLT, Nat.reduceEqDiff]
    refine (wc_pick 16 h4 (by omega) (by omega)).mono ?_
    rintro v m ⟨x5, y5, z5, rfl, hx50, hx51, hy50, hy51, rfl⟩
    have h5 := h4.step hy50 z5
    have hql := h4.lt
    have hbl : b < L.length := (List.getElem?_eq_some_iff.mp hL).1
    have hLs : ∀ x X, (L.set q x ++ X)[b]? = some (.cells (encL ls) true) := fun x X => by
      rw [List.getElem?_append_left (by rw [List.length_set]; exact hbl), List.getElem?_set_ne (fun e => hqb e.symm)]
      exact hL
    simp (maxSteps := 2000000) +contextual only [fillParts, hql, cellsAt_s0, cellsAt_sk, blkAt_s0, blkAt_sk, set_s0, set_sk, set_sapp, set_app, List.set_set, List.length_set, finish_one_setG, finish_one_set0, clean_none', Nat.add_assoc, Wp_some, Wp_none, Wp_ite, Wc_some, Wc_none, Wc_ite, Wp_thenRun, seqQ_normal, seqQ_exit, seqQ_ret, Wp_inBlock, blkQ_normal, blkQ_ret, blkQ_same, blkQ_exit, Wp_opThen, opQ_at, Wp_guardP, retQ_normal, retQ_ret, loopQ_normal, loopQ_exit, loopQ_ret, go_sem, entry, joinEsc, if_pos, reduceIte, Nat.reduceAdd, Nat.reduceLeDiff, Nat.reduceLT, Nat.reduceEqDiff]
    refine (amongZ (n := 3) [2, 4, 9] (h5.more _) (by omega) (by simp +contextual only [cellsAt_s0, cellsAt_sk, blkAt_s0, blkAt_sk, set_s0, set_sk, set_sapp, set_app, List.set_set, List.length_set, finish_one_setG, finish_one_set0, clean_none', Nat.add_assoc, go_sem, entry, joinEsc, if_pos, reduceIte, Nat.reduceAdd, Nat.reduceLeDiff, Nat.reduceLT, Nat.reduceEqDiff]) (by omega) rfl (by omega) (by omega)).mono ?_
    rintro v m ⟨x6, y6, z6, rfl, hx6, hy60, hy61, rfl⟩
    have h6 := h5.step hy60 z6
    rw [List.set_set] at h6
    have hx6' : x6 ≤ 61 := by
      simp at hx6
      omega
    simp (maxSteps := 2000000) +contextual only [fillParts, hql, cellsAt_s0, cellsAt_sk, blkAt_s0, blkAt_sk, set_s0, set_sk, set_sapp, set_app, List.set_set, List.length_set, finish_one_setG, finish_one_set0, clean_none', Nat.add_assoc, Wp_some, Wp_none, Wp_ite, Wc_some, Wc_none, Wc_ite, Wp_thenRun, seqQ_normal, seqQ_exit, seqQ_ret, Wp_inBlock, blkQ_normal, blkQ_ret, blkQ_same, blkQ_exit, Wp_opThen, opQ_at, Wp_guardP, retQ_normal, retQ_ret, loopQ_normal, loopQ_exit, loopQ_ret, go_sem, entry, joinEsc, if_pos, reduceIte, Nat.reduceAdd, Nat.reduceLeDiff, Nat.reduceLT, Nat.reduceEqDiff]
    refine (wc_pick x6 (h6.more _) (by omega) (by omega)).mono ?_
    rintro v m ⟨x7, y7, z7, rfl, hx70, hx71, hy70, hy71, rfl⟩
    generalize hw : IntKind.i64.wrap (1 + x7) = w
    have hap := fun M q' c' (hb : M[b]? = some (Blk.cells (encL ls) true)) (hq : cellsAt M q' = some [AV.int .i64 x5, AV.int .i64 w]) => apOne (e := none) (sz := 2) (bytes := 16) (n := ls.length) (cap := c) (c := c') hb hq (encL_length _) rfl (by unfold maxBytes; omega) hcap
    simp (maxSteps := 2000000) +contextual only [fillParts, hql, hLs, hap, hwk, hw, cellsAt_s0, cellsAt_sk, blkAt_s0, blkAt_sk, set_s0, set_sk, set_sapp, set_app, List.set_set, List.length_set, finish_one_setG, finish_one_set0, clean_none', Nat.add_assoc, Wp_some, Wp_none, Wp_ite, Wc_some, Wc_none, Wc_ite, Wp_thenRun, seqQ_normal, seqQ_exit, seqQ_ret, Wp_inBlock, blkQ_normal, blkQ_ret, blkQ_same, blkQ_exit, Wp_opThen, opQ_at, Wp_guardP, retQ_normal, retQ_ret, loopQ_normal, loopQ_exit, loopQ_ret, go_sem, entry, joinEsc, if_pos, reduceIte, Nat.reduceAdd, Nat.reduceLeDiff, Nat.reduceLT, Nat.reduceEqDiff]
    have hen : encL ls ++ [AV.int .i64 x5, AV.int .i64 w] = encL (ls ++ [(x5, w)]) := by rw [encL_append]; rfl
    rw [hen, show ls.length + 1 = (ls ++ [(x5, w)]).length by simp]
    exact ⟨k - 1, by omega, ls ++ [(x5, w)], _, none, y7, z7, _, _, _, _, _, _, _, _, _, hy70, by omega, by rw [List.length_append, List.length_singleton]; omega, by simp, by have := hg.le; rw [List.length_set] at this; omega, (((hg.cur hl _).more _).kill (by rw [List.length_set]; exact hb) _).more _, last_get (by rw [killL_length]; simp) _, rfl⟩

set_option maxHeartbeats 4000000 in
theorem wc_setOf {q b0 n : Nat} {c0 : Option Nat} {av : AV} {p : Int} (h : Cu H q av p) (hp : p ≤ 1000000000) : Wc (call T pr f_s_l1Cur_setOf [.ptr (some (q, 0)), slL b0 n c0] ⟨H, e⟩) (fun v m => ∃ (os : List Int) (c : Option Nat) (y z : Int), v = slI H.length os.length c ∧ os.length ≤ 10 ∧ 0 ≤ y ∧ y ≤ p + 300 ∧ m = ⟨H.set q (curB av y z) ++ [.cells (encI os) true], e⟩) := by
  have hl := h.lt
  rw [call_wc t_s_l1Cur_setOf]
  obtain ⟨R, hR⟩ : ∃ R, R = seqTl (seqTl (seqTl c_s_l1Cur_setOf)) := ⟨_, rfl⟩
  have hc : c_s_l1Cur_setOf = .seq (seqHd c_s_l1Cur_setOf) (.seq (seqHd (seqTl c_s_l1Cur_setOf)) (.seq (seqHd (seqTl (seqTl c_s_l1Cur_setOf))) R)) := by rw [hR]; rfl
  have hend : ∀ (os : List Int) (b : Nat) (c : Option Nat) (y z : Int) (L : List Blk), H.length ≤ b → Grown (H.set q (curB av y z)) L → L[b]? = some (.cells (encI os) true) → finish 2 H.length e (slI b os.length c) ⟨L, none⟩ = some (slI H.length os.length c, ⟨H.set q (curB av y z) ++ [.cells (encI os) true], e⟩) := fun os b c y z L hb hg hL => finish_sl_set hg e none rfl hb hL (under_encI _ _)
  have r : ∀ (os : List Int) (b : Nat) (c : Option Nat) (y z : Int) (L : List Blk) (w2 w4 w5 w6 w7 : AV), 0 ≤ y → y ≤ p + 200 → os.length ≤ 9 → (c = some 0 → os.length = 0) → H.length ≤ b → Grown (H.set q (curB av y z)) L → L[b]? = some (.cells (encI os) true) →
      Wp (run T pr R ⟨[.ptr (some (q, 0)), slL b0 n c0, w2, slI b os.length c, w4, w5, w6, w7], ⟨L, none⟩⟩) (retQ a_s_l1Cur_setOf ⟨H, e⟩ fun v m => ∃ (os : List Int) (c : Option Nat) (y z : Int), v = slI H.length os.length c ∧ os.length ≤ 10 ∧ 0 ≤ y ∧ y ≤ p + 300 ∧ m = ⟨H.set q (curB av y z) ++ [.cells (encI os) true], e⟩) := by
    rintro os b c y z L w2 w4 w5 w6 w7 hy0 hy1 hn hcap hb hg hL
    have h4 := hg.curs h hy0
    have hql := h4.lt
    have hqb : b ≠ q := by omega
    rw [hR]
    simp (maxSteps := 2000000) +contextual only [a_s_l1Cur_setOf, c_s_l1Cur_setOf, seqTl, seqHd, Wp_some, Wp_none, Wp_ite, Wc_some, Wc_none, Wc_ite, Wp_thenRun, seqQ_normal, seqQ_exit, seqQ_ret, Wp_inBlock, blkQ_normal, blkQ_ret, blkQ_same, blkQ_exit, Wp_opThen, opQ_at, Wp_guardP, retQ_normal, retQ_ret, loopQ_normal, loopQ_exit, loopQ_ret, go_sem, entry, joinEsc, if_pos, reduceIte, Nat.reduceAdd, Nat.reduceLeDiff, Nat.reduceLT, Nat.reduceEqDiff]
    refine (wc_one 24 h4 (by omega) (by omega)).mono ?_
    rintro v m ⟨x, y1, z1, rfl, hy10, hy11, rfl⟩
    have h5 := h4.step hy10 z1
    have hg1 := hg.cur hl (curB av y1 z1)
    have hL1 : (L.set q (curB av y1 z1))[b]? = some (.cells (encI os) true) := by rw [List.getElem?_set_ne (fun e => hqb e.symm)]; exact hL
    cases x with
    | false =>
      have hf := hend os b c y1 z1 _ hb hg1 hL1
      simp (maxSteps := 2000000) +contextual only [hf, Wp_some, Wp_none, Wp_ite, Wc_some, Wc_none, Wc_ite, Wp_thenRun, seqQ_normal, seqQ_exit, seqQ_ret, Wp_inBlock, blkQ_normal, blkQ_ret, blkQ_same, blkQ_exit, Wp_opThen, opQ_at, Wp_guardP, retQ_normal, retQ_ret, loopQ_normal, loopQ_exit, loopQ_ret, go_sem, entry, joinEsc, if_pos, reduceIte, Nat.reduceAdd, Nat.reduceLeDiff, Nat.reduceLT, Nat.reduceEqDiff]
      exact ⟨os, c, y1, z1, rfl, by omega, hy10, by omega, rfl⟩
    | true =>
      simp (maxSteps := 2000000) +contextual only [fillParts, cellsAt_s0, cellsAt_sk, blkAt_s0, blkAt_sk, set_s0, set_sk, set_sapp, set_app, List.set_set, List.length_set, finish_one_setG, finish_one_set0, clean_none', Nat.add_assoc, Wp_some, Wp_none, Wp_ite, Wc_some, Wc_none, Wc_ite, Wp_thenRun, seqQ_normal, seqQ_exit, seqQ_ret, Wp_inBlock, blkQ_normal, blkQ_ret, blkQ_same, blkQ_exit, Wp_opThen, opQ_at, Wp_guardP, retQ_normal, retQ_ret, loopQ_normal, loopQ_exit, loopQ_ret, go_sem, entry, joinEsc, if_pos, reduceIte, Nat.reduceAdd, Nat.reduceLeDiff, Nat.reduceLT, Nat.reduceEqDiff]
      refine (amongZ (n := 3) [-1, 0, (n : Int)] (h5.more _) (by omega) (by simp +contextual only [cellsAt_s0, cellsAt_sk, blkAt_s0, blkAt_sk, set_s0, set_sk, set_sapp, set_app, List.set_set, List.length_set, finish_one_setG, finish_one_set0, clean_none', Nat.add_assoc, go_sem, entry, joinEsc, if_pos, reduceIte, Nat.reduceAdd, Nat.reduceLeDiff, Nat.reduceLT, Nat.reduceEqDiff]) (by omega) rfl (by omega) (by omega)).mono ?_
      rintro v m ⟨x2, y2, z2, rfl, hx2, hy20, hy21, rfl⟩
      have hg2 := hg.cur hl (curB av y2 z2)
      have hL2 : (L.set q (curB av y2 z2))[b]? = some (.cells (encI os) true) := by rw [List.getElem?_set_ne (fun e => hqb e.symm)]; exact hL
      simp (maxSteps := 2000000) +contextual only [fillParts, hql, cellsAt_s0, cellsAt_sk, blkAt_s0, blkAt_sk, set_s0, set_sk, set_sapp, set_app, List.set_set, List.length_set, finish_one_setG, finish_one_set0, clean_none', Nat.add_assoc, Wp_some, Wp_none, Wp_ite, Wc_some, Wc_none, Wc_ite, Wp_thenRun, seqQ_normal, seqQ_exit, seqQ_ret, Wp_inBlock, blkQ_normal, blkQ_ret, blkQ_same, blkQ_exit, Wp_opThen, opQ_at, Wp_guardP, retQ_normal, retQ_ret, loopQ_normal, loopQ_exit, loopQ_ret, go_sem, entry, joinEsc, if_pos, reduceIte, Nat.reduceAdd, Nat.reduceLeDiff, Nat.reduceLT, Nat.reduceEqDiff]
      refine wc_ap (k := 1) (new := [.int .i64 x2]) (get_more hL2 _) (src_new _ 1 1 _ _ (L.length + 1) (by simp +contextual only [cellsAt_s0, cellsAt_sk, blkAt_s0, blkAt_sk, set_s0, set_sk, set_sapp, set_app, List.set_set, List.length_set, finish_one_setG, finish_one_set0, clean_none', Nat.add_assoc, go_sem, entry, joinEsc, if_pos, reduceIte, Nat.reduceAdd, Nat.reduceLeDiff, Nat.reduceLT, Nat.reduceEqDiff]) rfl) (by simp) rfl (by unfold maxBytes; omega) hcap ?_
      intro L2 e1 e2 e3 e4
      have ea : (L.set q (curB av y2 z2) ++ [.cells [AV.int IntKind.i64 (-1), AV.int IntKind.i64 0, AV.int IntKind.i64 ↑n] true, Blk.cells [AV.int IntKind.i64 x2] true]).length = L.length + 2 := by simp
      have hen : encI os ++ [AV.int .i64 x2] = encI (os ++ [x2]) := by simp [encI]
      rw [hen, ea] at e3
      rw [ea]
      have hf := hend (os ++ [x2]) _ none y2 z2 L2 (by have := hg.le; rw [List.length_set] at this; omega) (e4 _ (hg2.more _) (by rw [List.length_set]; exact hb)) e3
      rw [show (os ++ [x2]).length = os.length + 1 by simp] at hf
      simp (maxSteps := 2000000) +contextual only [hf, Wp_some, Wp_none, Wp_ite, Wc_some, Wc_none, Wc_ite, Wp_thenRun, seqQ_normal, seqQ_exit, seqQ_ret, Wp_inBlock, blkQ_normal, blkQ_ret, blkQ_same, blkQ_exit, Wp_opThen, opQ_at, Wp_guardP, retQ_normal, retQ_ret, loopQ_normal, loopQ_exit, loopQ_ret, go_sem, entry, joinEsc, if_pos, reduceIte, Nat.reduceAdd, Nat.reduceLeDiff, Nat.reduceLT, Nat.reduceEqDiff]
      exact ⟨os ++ [x2], none, y2, z2, by rw [List.length_append, List.length_singleton], by rw [List.length_append, List.length_singleton]; omega, hy20, by omega, rfl⟩
  show Wp (run T pr c_s_l1Cur_setOf _) _
  rw [hc]
  simp (maxSteps := 2000000) +contextual only [a_s_l1Cur_setOf, c_s_l1Cur_setOf, seqTl, seqHd, fillParts, cellsAt_s0, cellsAt_sk, blkAt_s0, blkAt_sk, set_s0, set_sk, set_sapp, set_app, List.set_set, List.length_set, finish_one_setG, finish_one_set0, clean_none', Nat.add_assoc, Wp_some, Wp_none, Wp_ite, Wc_some, Wc_none, Wc_ite, Wp_thenRun, seqQ_normal, seqQ_exit, seqQ_ret, Wp_inBlock, blkQ_normal, blkQ_ret, blkQ_same, blkQ_exit, Wp_opThen, opQ_at, Wp_guardP, retQ_normal, retQ_ret, loopQ_normal, loopQ_exit, loopQ_ret, go_sem, entry, joinEsc, if_pos, reduceIte, Nat.reduceAdd, Nat.reduceLeDiff, Nat.reduceLT, Nat.reduceEqDiff]
  refine Wp_loop (fun k st => ∃ (i : Nat) (os : List Int) (b : Nat) (c : Option Nat) (y z : Int) (L : List Blk) (w5 w6 w7 : AV), 0 ≤ y ∧ y + (k : Int) * 2 ≤ p + 40 ∧ i + k = 9 ∧ os.length ≤ i ∧ (c = some 0 → os.length = 0) ∧ H.length ≤ b ∧ Grown (H.set q (curB av y z)) L ∧ L[b]? = some (.cells (encI os) true) ∧
      st = ⟨[.ptr (some (q, 0)), slL b0 n c0, .slice none 0 0 none, slI b os.length c, .int .i64 i, w5, w6, w7], ⟨L, none⟩⟩) ?_ 9 _ ?_
  · rintro k _ ⟨i, os, b, c, y, z, L, w5, w6, w7, hy0, hy1, hik, hn, hcap, hb, hg, hL, rfl⟩
    have h4 := hg.curs h hy0
    have hql := h4.lt
    have hqb : b ≠ q := by omega
    have hle := hg.le
    rw [List.length_set] at hle
    by_cases hk1 : i < n
    · have hd1 : decide ((i : Int) < (n : Int)) = true := decide_eq_true (by omega)
      by_cases hk2 : i < 9
      · have hd2 : decide ((i : Int) < 9) = true := decide_eq_true (by omega)
        have hd3 : (i : Int) < 9 := by omega
        have hwi := wrap_succ (show i < 9223372036854775807 by omega)
        simp (maxSteps := 2000000) +contextual only [w_s_l1Cur_setOf_1, hk1, hd1, hd2, hd3, decide_true, Wp_some, Wp_none, Wp_ite, Wc_some, Wc_none, Wc_ite, Wp_thenRun, seqQ_normal, seqQ_exit, seqQ_ret, Wp_inBlock, blkQ_normal, blkQ_ret, blkQ_same, blkQ_exit, Wp_opThen, opQ_at, Wp_guardP, retQ_normal, retQ_ret, loopQ_normal, loopQ_exit, loopQ_ret, go_sem, entry, joinEsc, if_pos, reduceIte, Nat.reduceAdd, Nat.reduceLeDiff, Nat.reduceLT, Nat.reduceEqDiff]
        refine (wc_one 2 h4 (by omega) (by omega)).mono ?_
        rintro v m ⟨x, y1, z1, rfl, hy10, hy11, rfl⟩
        have hg1 := hg.cur hl (curB av y1 z1)
        have hL1 : (L.set q (curB av y1 z1))[b]? = some (.cells (encI os) true) := by rw [List.getElem?_set_ne (fun e => hqb e.symm)]; exact hL
        have hl1 : (L.set q (curB av y1 z1)).length = L.length := List.length_set
        generalize L.set q (curB av y1 z1) = L1 at *
        cases x with
        | false =>
          simp (maxSteps := 2000000) +contextual only [hwi, Wp_some, Wp_none, Wp_ite, Wc_some, Wc_none, Wc_ite, Wp_thenRun, seqQ_normal, seqQ_exit, seqQ_ret, Wp_inBlock, blkQ_normal, blkQ_ret, blkQ_same, blkQ_exit, Wp_opThen, opQ_at, Wp_guardP, retQ_normal, retQ_ret, loopQ_normal, loopQ_exit, loopQ_ret, go_sem, entry, joinEsc, if_pos, reduceIte, Nat.reduceAdd, Nat.reduceLeDiff, Nat.reduceLT, Nat.reduceEqDiff]
          exact ⟨k - 1, by omega, i + 1, os, b, c, y1, z1, L1, _, _, _, hy10, by omega, by omega, by omega, hcap, hb, hg1, hL1, rfl⟩
        | true =>
          simp (maxSteps := 2000000) +contextual only [fillParts, hwi, Wp_some, Wp_none, Wp_ite, Wc_some, Wc_none, Wc_ite, Wp_thenRun, seqQ_normal, seqQ_exit, seqQ_ret, Wp_inBlock, blkQ_normal, blkQ_ret, blkQ_same, blkQ_exit, Wp_opThen, opQ_at, Wp_guardP, retQ_normal, retQ_ret, loopQ_normal, loopQ_exit, loopQ_ret, go_sem, entry, joinEsc, if_pos, reduceIte, Nat.reduceAdd, Nat.reduceLeDiff, Nat.reduceLT, Nat.reduceEqDiff]
          refine wc_ap (k := 1) (new := [.int .i64 i]) (get_more hL1 _) (src_new _ 1 1 _ _ L1.length (by simp +contextual only [go_sem, entry, joinEsc, if_pos, reduceIte, Nat.reduceAdd, Nat.reduceLeDiff, Nat.reduceLT, Nat.reduceEqDiff]) rfl) (by simp) rfl (by unfold maxBytes; omega) hcap ?_
          intro L2 e1 e2 e3 e4
          have hen : encI os ++ [AV.int .i64 i] = encI (os ++ [(i : Int)]) := by simp [encI]
          rw [hen] at e3
          simp (maxSteps := 2000000) +contextual only [hwi, Wp_some, Wp_none, Wp_ite, Wc_some, Wc_none, Wc_ite, Wp_thenRun, seqQ_normal, seqQ_exit, seqQ_ret, Wp_inBlock, blkQ_normal, blkQ_ret, blkQ_same, blkQ_exit, Wp_opThen, opQ_at, Wp_guardP, retQ_normal, retQ_ret, loopQ_normal, loopQ_exit, loopQ_ret, go_sem, entry, joinEsc, if_pos, reduceIte, Nat.reduceAdd, Nat.reduceLeDiff, Nat.reduceLT, Nat.reduceEqDiff]
          rw [show os.length + 1 = (os ++ [(i : Int)]).length by simp]
          exact ⟨k - 1, by omega, i + 1, os ++ [(i : Int)], _, none, y1, z1, L2, _, _, _, hy10, by omega, by omega, by rw [List.length_append, List.length_singleton]; omega, by simp, by omega, e4 _ (hg1.more _) (by rw [List.length_set]; exact hb), by simpa using e3, rfl⟩
      · have hd2 : decide ((i : Int) < 9) = false := decide_eq_false (by omega)
        have hd3 : ¬ (i : Int) < 9 := by omega
        simp (maxSteps := 2000000) +contextual only [w_s_l1Cur_setOf_1, hk1, hd1, hd2, hd3, decide_true, decide_false, Wp_some, Wp_none, Wp_ite, Wc_some, Wc_none, Wc_ite, Wp_thenRun, seqQ_normal, seqQ_exit, seqQ_ret, Wp_inBlock, blkQ_normal, blkQ_ret, blkQ_same, blkQ_exit, Wp_opThen, opQ_at, Wp_guardP, retQ_normal, retQ_ret, loopQ_normal, loopQ_exit, loopQ_ret, go_sem, entry, joinEsc, if_pos, reduceIte, Nat.reduceAdd, Nat.reduceLeDiff, Nat.reduceLT, Nat.reduceEqDiff]
        exact r os b c y z L _ _ _ _ _ hy0 (by omega) (by omega) hcap hb hg hL
    · have hd1 : decide ((i : Int) < (n : Int)) = false := decide_eq_false (by omega)
      simp (maxSteps := 2000000) +contextual only [w_s_l1Cur_setOf_1, hk1, hd1, decide_true, decide_false, Wp_some, Wp_none, Wp_ite, Wc_some, Wc_none, Wc_ite, Wp_thenRun, seqQ_normal, seqQ_exit, seqQ_ret, Wp_inBlock, blkQ_normal, blkQ_ret, blkQ_same, blkQ_exit, Wp_opThen, opQ_at, Wp_guardP, retQ_normal, retQ_ret, loopQ_normal, loopQ_exit, loopQ_ret, go_sem, entry, joinEsc, if_pos, reduceIte, Nat.reduceAdd, Nat.reduceLeDiff, Nat.reduceLT, Nat.reduceEqDiff]
      exact r os b c y z L _ _ _ _ _ hy0 (by omega) (by omega) hcap hb hg hL
  · obtain ⟨w, hw, _⟩ := h.cells
    exact ⟨0, [], H.length, some 0, p, w, _, _, _, _, h.2.2, by omega, by omega, by simp, fun _ => rfl, Nat.le_refl _, by rw [set_self_at hw]; exact ⟨_, rfl⟩, by simp +contextual only [go_sem, entry, joinEsc, if_pos, reduceIte, Nat.reduceAdd, Nat.reduceLeDiff, Nat.reduceLT, Nat.reduceEqDiff], rfl⟩

theorem orderFor_hd {L : List Blk} {b i : Nat} {os : List Int} {c : Option Nat} (hb : cellsAt L b = some (encI os)) (hk : i ≤ os.length) : srcCells false L (.slice (some (b, 0)) 1 i c) = some (i, encI (os.take i)) := by
  have := src_part (L := L) (q := b) (sz := 1) (o := 0) (k := i) (n := 0) c hb (by simp; omega)
  rw [Nat.zero_mul, Nat.mul_one, List.drop_zero] at this
  rw [this, encI, ← List.map_take]

theorem orderFor_tl {L : List Blk} {b i : Nat} {os : List Int} {c : Option Nat} (hb : cellsAt L b = some (encI os)) (hk : i ≤ os.length) : srcCells false L (.slice (some (b, i)) 1 (os.length - i) c) = some (os.length - i, encI (os.drop i)) := by
  have := src_part (L := L) (q := b) (sz := 1) (o := i) (k := os.length - i) (n := 0) c hb (by simp; omega)
  rw [Nat.mul_one, Nat.mul_one, List.take_of_length_le (by simp)] at this
  rw [this, encI, ← List.map_drop]

set_option maxHeartbeats 4000000 in
theorem wc_orderFor {q b0 n : Nat} {c0 : Option Nat} {av : AV} {p : Int} (h : Cu H q av p) (hp : p ≤ 1000000000) : Wc (call T pr f_s_l1Cur_orderFor [.ptr (some (q, 0)), slL b0 n c0] ⟨H, e⟩) (fun v m => ∃ (os : List Int) (c : Option Nat) (y z : Int), v = slI H.length os.length c ∧ os.length ≤ 10 ∧ 0 ≤ y ∧ y ≤ p + 300 ∧ m = ⟨H.set q (curB av y z) ++ [.cells (encI os) true], e⟩) := by
  have hl := h.lt
  rw [call_wc t_s_l1Cur_orderFor]
  obtain ⟨R, hR⟩ : ∃ R, R = seqTl (seqTl (seqTl c_s_l1Cur_orderFor)) := ⟨_, rfl⟩
  have hc : c_s_l1Cur_orderFor = .seq (seqHd c_s_l1Cur_orderFor) (.seq (seqHd (seqTl c_s_l1Cur_orderFor)) (.seq (seqHd (seqTl (seqTl c_s_l1Cur_orderFor))) R)) := by rw [hR]; rfl
  have hend : ∀ (os : List Int) (b : Nat) (c : Option Nat) (y z : Int) (L : List Blk), H.length ≤ b → Grown (H.set q (curB av y z)) L → L[b]? = some (.cells (encI os) true) → finish 2 H.length e (slI b os.length c) ⟨L, none⟩ = some (slI H.length os.length c, ⟨H.set q (curB av y z) ++ [.cells (encI os) true], e⟩) := fun os b c y z L hb hg hL => finish_sl_set hg e none rfl hb hL (under_encI _ _)
  have r : ∀ (os : List Int) (b : Nat) (c : Option Nat) (y z : Int) (L : List Blk) (w2 w4 w5 w6 w7 : AV), 0 ≤ y → y ≤ p + 200 → os.length ≤ 9 → H.length ≤ b → Grown (H.set q (curB av y z)) L → L[b]? = some (.cells (encI os) true) →
      Wp (run T pr R ⟨[.ptr (some (q, 0)), slL b0 n c0, w2, slI b os.length c, w4, w5, w6, w7], ⟨L, none⟩⟩) (retQ a_s_l1Cur_orderFor ⟨H, e⟩ fun v m => ∃ (os : List Int) (c : Option Nat) (y z : Int), v = slI H.length os.length c ∧ os.length ≤ 10 ∧ 0 ≤ y ∧ y ≤ p + 300 ∧ m = ⟨H.set q (curB av y z) ++ [.cells (encI os) true], e⟩) := by
    rintro os b c y z L w2 w4 w5 w6 w7 hy0 hy1 hn hb hg hL
    have h4 := hg.curs h hy0
    have hql := h4.lt
    have hqb : b ≠ q := by omega
    have hbl : b < L.length := (List.getElem?_eq_some_iff.mp hL).1
    rw [hR]
    by_cases h0 : os.length = 0
    · have hd : decide ((0 : Int) < (os.length : Int)) = false := decide_eq_false (by omega)
      have hd' : ¬ 0 < os.length := by omega
      have hf := hend os b c y z _ hb hg hL
      simp (maxSteps := 2000000) +contextual only [a_s_l1Cur_orderFor, c_s_l1Cur_orderFor, seqTl, seqHd, gt_iff_lt, hd, hd', hf, Wp_some, Wp_none, Wp_ite, Wc_some, Wc_none, Wc_ite, Wp_thenRun, seqQ_normal, seqQ_exit, seqQ_ret, Wp_inBlock, blkQ_normal, blkQ_ret, blkQ_same, blkQ_exit, Wp_opThen, opQ_at, Wp_guardP, retQ_normal, retQ_ret, loopQ_normal, loopQ_exit, loopQ_ret, go_sem, entry, joinEsc, if_pos, reduceIte, Nat.reduceAdd, Nat.reduceLeDiff, Nat.reduceLT, Nat.reduceEqDiff]
      exact ⟨os, c, y, z, rfl, by omega, hy0, by omega, rfl⟩
    · have hd : decide ((0 : Int) < (os.length : Int)) = true := decide_eq_true (by omega)
      have hd' : 0 < os.length := by omega
      simp (maxSteps := 2000000) +contextual only [a_s_l1Cur_orderFor, c_s_l1Cur_orderFor, seqTl, seqHd, gt_iff_lt, hd, hd', Wp_some, Wp_none, Wp_ite, Wc_some, Wc_none, Wc_ite, Wp_thenRun, seqQ_normal, seqQ_exit, seqQ_ret, Wp_inBlock, blkQ_normal, blkQ_ret, blkQ_same, blkQ_exit, Wp_opThen, opQ_at, Wp_guardP, retQ_normal, retQ_ret, loopQ_normal, loopQ_exit, loopQ_ret, go_sem, entry, joinEsc, if_pos, reduceIte, Nat.reduceAdd, Nat.reduceLeDiff, Nat.reduceLT, Nat.reduceEqDiff]
      refine (wc_one 20 h4 (by omega) (by omega)).mono ?_
      rintro v m ⟨x, y1, z1, rfl, hy10, hy11, rfl⟩
      have h5 := h4.step hy10 z1
      have hg1 := hg.cur hl (curB av y1 z1)
      have hL1 : (L.set q (curB av y1 z1))[b]? = some (.cells (encI os) true) := by rw [List.getElem?_set_ne (fun e => hqb e.symm)]; exact hL
      cases x with
      | false =>
        have hf := hend os b c y1 z1 _ hb hg1 hL1
        simp (maxSteps := 2000000) +contextual only [hf, Wp_some, Wp_none, Wp_ite, Wc_some, Wc_none, Wc_ite, Wp_thenRun, seqQ_normal, seqQ_exit, seqQ_ret, Wp_inBlock, blkQ_normal, blkQ_ret, blkQ_same, blkQ_exit, Wp_opThen, opQ_at, Wp_guardP, retQ_normal, retQ_ret, loopQ_normal, loopQ_exit, loopQ_ret, go_sem, entry, joinEsc, if_pos, reduceIte, Nat.reduceAdd, Nat.reduceLeDiff, Nat.reduceLT, Nat.reduceEqDiff]
        exact ⟨os, c, y1, z1, rfl, by omega, hy10, by omega, rfl⟩
      | true =>
        simp (maxSteps := 2000000) +contextual only [fillParts, cellsAt_s0, cellsAt_sk, blkAt_s0, blkAt_sk, set_s0, set_sk, set_sapp, set_app, List.set_set, List.length_set, finish_one_setG, finish_one_set0, clean_none', Nat.add_assoc, Wp_some, Wp_none, Wp_ite, Wc_some, Wc_none, Wc_ite, Wp_thenRun, seqQ_normal, seqQ_exit, seqQ_ret, Wp_inBlock, blkQ_normal, blkQ_ret, blkQ_same, blkQ_exit, Wp_opThen, opQ_at, Wp_guardP, retQ_normal, retQ_ret, loopQ_normal, loopQ_exit, loopQ_ret, go_sem, entry, joinEsc, if_pos, reduceIte, Nat.reduceAdd, Nat.reduceLeDiff, Nat.reduceLT, Nat.reduceEqDiff]
        refine (amongZ (n := 4) [0, 1, -1, (n : Int)] (h5.more _) (by omega) (by simp +contextual only [cellsAt_s0, cellsAt_sk, blkAt_s0, blkAt_sk, set_s0, set_sk, set_sapp, set_app, List.set_set, List.length_set, finish_one_setG, finish_one_set0, clean_none', Nat.add_assoc, go_sem, entry, joinEsc, if_pos, reduceIte, Nat.reduceAdd, Nat.reduceLeDiff, Nat.reduceLT, Nat.reduceEqDiff]) (by omega) rfl (by omega) (by omega)).mono ?_
        rintro v m ⟨x2, y2, z2, rfl, hx2, hy20, hy21, rfl⟩
        have hg2 := hg.cur hl (curB av y2 z2)
        have hLs : ∀ x X, (L.set q x ++ X)[b]? = some (.cells (encI os) true) := fun x X => by
          rw [List.getElem?_append_left (by rw [List.length_set]; exact hbl), List.getElem?_set_ne (fun e => hqb e.symm)]
          exact hL
        have hsr : setRange (encI os) 0 [.int .i64 x2] = encI (os.set 0 x2) := setRange_encI hd'
        have hi1 : 1 ≤ (encI os).length := by rw [encI, List.length_map]; omega
        have hg3 := (hg2.more [.cells [AV.int .i64 0, AV.int .i64 1, AV.int .i64 (-1), AV.int .i64 n] true]).put (b := b) (by rw [List.length_set]; exact hb) (.cells (encI (os.set 0 x2)) true)
        have hf := hend (os.set 0 x2) b c y2 z2 _ hb hg3 (List.getElem?_set_self (by rw [List.length_append, List.length_set]; omega))
        rw [List.length_set] at hf
        simp (maxSteps := 2000000) +contextual only [fillParts, hql, hLs, hsr, hi1, hd', show (0 : Int) < (os.length : Int) by omega, Int.le_refl, hf, Int.toNat_zero, Nat.zero_mul, Nat.lt_irrefl, Int.lt_irrefl, cellsAt_s0, cellsAt_sk, blkAt_s0, blkAt_sk, set_s0, set_sk, set_sapp, set_app, List.set_set, List.length_set, finish_one_setG, finish_one_set0, clean_none', Nat.add_assoc, Wp_some, Wp_none, Wp_ite, Wc_some, Wc_none, Wc_ite, Wp_thenRun, seqQ_normal, seqQ_exit, seqQ_ret, Wp_inBlock, blkQ_normal, blkQ_ret, blkQ_same, blkQ_exit, Wp_opThen, opQ_at, Wp_guardP, retQ_normal, retQ_ret, loopQ_normal, loopQ_exit, loopQ_ret, go_sem, entry, joinEsc, if_pos, reduceIte, Nat.reduceAdd, Nat.reduceLeDiff, Nat.reduceLT, Nat.reduceEqDiff]
        exact ⟨os.set 0 x2, c, y2, z2, by rw [List.length_set], by rw [List.length_set]; omega, hy20, by omega, rfl⟩
  show Wp (run T pr c_s_l1Cur_orderFor _) _
  rw [hc]
  simp (maxSteps := 2000000) +contextual only [a_s_l1Cur_orderFor, c_s_l1Cur_orderFor, seqTl, seqHd, fillParts, cellsAt_s0, cellsAt_sk, blkAt_s0, blkAt_sk, set_s0, set_sk, set_sapp, set_app, List.set_set, List.length_set, finish_one_setG, finish_one_set0, clean_none', Nat.add_assoc, Wp_some, Wp_none, Wp_ite, Wc_some, Wc_none, Wc_ite, Wp_thenRun, seqQ_normal, seqQ_exit, seqQ_ret, Wp_inBlock, blkQ_normal, blkQ_ret, blkQ_same, blkQ_exit, Wp_opThen, opQ_at, Wp_guardP, retQ_normal, retQ_ret, loopQ_normal, loopQ_exit, loopQ_ret, go_sem, entry, joinEsc, if_pos, reduceIte, Nat.reduceAdd, Nat.reduceLeDiff, Nat.reduceLT, Nat.reduceEqDiff]
  refine Wp_loop (fun k st => ∃ (i : Nat) (os : List Int) (b : Nat) (c : Option Nat) (y z : Int) (L : List Blk) (w5 w6 w7 : AV), 0 ≤ y ∧ y + (k : Int) * 2 ≤ p + 40 ∧ i + k = 9 ∧ os.length = i ∧ H.length ≤ b ∧ Grown (H.set q (curB av y z)) L ∧ L[b]? = some (.cells (encI os) true) ∧
      st = ⟨[.ptr (some (q, 0)), slL b0 n c0, .slice none 0 0 none, slI b os.length c, .int .i64 i, w5, w6, w7], ⟨L, none⟩⟩) ?_ 9 _ ?_
  · rintro k _ ⟨i, os, b, c, y, z, L, w5, w6, w7, hy0, hy1, hik, hn, hb, hg, hL, rfl⟩
    have h4 := hg.curs h hy0
    have hql := h4.lt
    have hqb : b ≠ q := by omega
    have hle := hg.le
    rw [List.length_set] at hle
    have hbl : b < L.length := (List.getElem?_eq_some_iff.mp hL).1
    by_cases hk1 : i < n
    · have hd1 : decide ((i : Int) < (n : Int)) = true := decide_eq_true (by omega)
      by_cases hk2 : i < 9
      · have hd2 : decide ((i : Int) < 9) = true := decide_eq_true (by omega)
        have hd3 : (i : Int) < 9 := by omega
        have hwi := wrap_succ (show i < 9223372036854775807 by omega)
        have hwo := wrap_succ (show os.length < 9223372036854775807 by omega)
        simp (maxSteps := 2000000) +contextual only [w_s_l1Cur_orderFor_1, hk1, hd1, hd2, hd3, hwo, decide_true, Wp_some, Wp_none, Wp_ite, Wc_some, Wc_none, Wc_ite, Wp_thenRun, seqQ_normal, seqQ_exit, seqQ_ret, Wp_inBlock, blkQ_normal, blkQ_ret, blkQ_same, blkQ_exit, Wp_opThen, opQ_at, Wp_guardP, retQ_normal, retQ_ret, loopQ_normal, loopQ_exit, loopQ_ret, go_sem, entry, joinEsc, if_pos, reduceIte, Nat.reduceAdd, Nat.reduceLeDiff, Nat.reduceLT, Nat.reduceEqDiff]
        refine (wc_pick _ h4 (by omega) (by omega)).mono ?_
        rintro v m ⟨x, y1, z1, rfl, hx0, hx1, hy10, hy11, rfl⟩
        obtain ⟨j, rfl⟩ : ∃ j : Nat, x = (j : Int) := ⟨x.toNat, by omega⟩
        have hj : j ≤ os.length := by omega
        have hg1 := hg.cur hl (curB av y1 z1)
        have hL1 : (L.set q (curB av y1 z1))[b]? = some (.cells (encI os) true) := by rw [List.getElem?_set_ne (fun e => hqb e.symm)]; exact hL
        have hl1 : (L.set q (curB av y1 z1)).length = L.length := List.length_set
        rw [← hl1] at hbl hle
        generalize L.set q (curB av y1 z1) = L1 at *
        have hs1 := slHiV_c 1 b os.length j c hj
        have hs2 := slLoV_c 1 b 0 os.length j c hj
        rw [Nat.zero_add, Nat.mul_one] at hs2
        simp (maxSteps := 2000000) +contextual only [fillParts, aop_slHi, aop_slLo, hs1, hs2, Wp_some, Wp_none, Wp_ite, Wc_some, Wc_none, Wc_ite, Wp_thenRun, seqQ_normal, seqQ_exit, seqQ_ret, Wp_inBlock, blkQ_normal, blkQ_ret, blkQ_same, blkQ_exit, Wp_opThen, opQ_at, Wp_guardP, retQ_normal, retQ_ret, loopQ_normal, loopQ_exit, loopQ_ret, go_sem, entry, joinEsc, if_pos, reduceIte, Nat.reduceAdd, Nat.reduceLeDiff, Nat.reduceLT, Nat.reduceEqDiff]
        refine wc_ap (cs := []) (new := encI (os.take j)) (by simp +contextual only [go_sem, entry, joinEsc, if_pos, reduceIte, Nat.reduceAdd, Nat.reduceLeDiff, Nat.reduceLT, Nat.reduceEqDiff]) (orderFor_hd (cellsAt_of (get_more hL1 _)) hj) rfl (by simp; omega) (by unfold maxBytes; omega) (fun _ => rfl) ?_
        intro L2 e1 e2 e3 e4
        rw [List.length_append, List.length_singleton] at e1 e2 e3
        rw [List.nil_append] at e3
        rw [List.length_append, List.length_singleton]
        have g2 := e4 _ (hg1.more _) (by rw [List.length_set]; exact hle)
        have b2 := e2 b (by omega) (by omega)
        rw [get_more hL1] at b2
        clear e2 e4
        simp (maxSteps := 2000000) +contextual only [fillParts, Wp_some, Wp_none, Wp_ite, Wc_some, Wc_none, Wc_ite, Wp_thenRun, seqQ_normal, seqQ_exit, seqQ_ret, Wp_inBlock, blkQ_normal, blkQ_ret, blkQ_same, blkQ_exit, Wp_opThen, opQ_at, Wp_guardP, retQ_normal, retQ_ret, loopQ_normal, loopQ_exit, loopQ_ret, go_sem, entry, joinEsc, if_pos, reduceIte, Nat.reduceAdd, Nat.reduceLeDiff, Nat.reduceLT, Nat.reduceEqDiff]
        refine wc_ap (k := 1) (new := [.int .i64 i]) (get_more e3 _) (src_new _ 1 1 _ _ L2.length (by simp +contextual only [go_sem, entry, joinEsc, if_pos, reduceIte, Nat.reduceAdd, Nat.reduceLeDiff, Nat.reduceLT, Nat.reduceEqDiff]) rfl) (by simp; omega) rfl (by unfold maxBytes; omega) (by simp) ?_
        intro L3 e4 e5 e6 e7
        rw [List.length_append, List.length_singleton] at e4 e5 e6
        rw [List.length_append, List.length_singleton]
        have g3 := e7 _ (g2.more _) (by rw [List.length_set]; omega)
        have b3 := e5 b (by omega) (by omega)
        rw [get_more b2] at b3
        clear e5 e7
        simp (maxSteps := 2000000) +contextual only [fillParts, Wp_some, Wp_none, Wp_ite, Wc_some, Wc_none, Wc_ite, Wp_thenRun, seqQ_normal, seqQ_exit, seqQ_ret, Wp_inBlock, blkQ_normal, blkQ_ret, blkQ_same, blkQ_exit, Wp_opThen, opQ_at, Wp_guardP, retQ_normal, retQ_ret, loopQ_normal, loopQ_exit, loopQ_ret, go_sem, entry, joinEsc, if_pos, reduceIte, Nat.reduceAdd, Nat.reduceLeDiff, Nat.reduceLT, Nat.reduceEqDiff]
        have hen : encI (os.take j) ++ [AV.int .i64 i] = encI (os.take j ++ [(i : Int)]) := by simp [encI]
        rw [hen] at e6
        refine wc_ap (new := encI (os.drop j)) e6 (orderFor_tl (cellsAt_of b3) hj) (by simp; omega) (by simp) (by unfold maxBytes; omega) (by simp) ?_
        intro L4 e8 e9 e10 e11
        have g4 := e11 _ g3 (by rw [List.length_set]; omega)
        rw [← encI_append] at e10
        simp (maxSteps := 2000000) +contextual only [hwi, Wp_some, Wp_none, Wp_ite, Wc_some, Wc_none, Wc_ite, Wp_thenRun, seqQ_normal, seqQ_exit, seqQ_ret, Wp_inBlock, blkQ_normal, blkQ_ret, blkQ_same, blkQ_exit, Wp_opThen, opQ_at, Wp_guardP, retQ_normal, retQ_ret, loopQ_normal, loopQ_exit, loopQ_ret, go_sem, entry, joinEsc, if_pos, reduceIte, Nat.reduceAdd, Nat.reduceLeDiff, Nat.reduceLT, Nat.reduceEqDiff]
        have hlen : 0 + j + 1 + (os.length - j) = (os.take j ++ [(i : Int)] ++ os.drop j).length := by simp; omega
        rw [Nat.zero_add] at hlen
        rw [hlen]
        exact ⟨k - 1, by omega, i + 1, os.take j ++ [(i : Int)] ++ os.drop j, _, none, y1, z1, L4, _, _, _, hy10, by omega, by omega, by rw [← hlen]; omega, by omega, g4, e10, rfl⟩
      · have hd2 : decide ((i : Int) < 9) = false := decide_eq_false (by omega)
        have hd3 : ¬ (i : Int) < 9 := by omega
        simp (maxSteps := 2000000) +contextual only [w_s_l1Cur_orderFor_1, hk1, hd1, hd2, hd3, decide_true, decide_false, Wp_some, Wp_none, Wp_ite, Wc_some, Wc_none, Wc_ite, Wp_thenRun, seqQ_normal, seqQ_exit, seqQ_ret, Wp_inBlock, blkQ_normal, blkQ_ret, blkQ_same, blkQ_exit, Wp_opThen, opQ_at, Wp_guardP, retQ_normal, retQ_ret, loopQ_normal, loopQ_exit, loopQ_ret, go_sem, entry, joinEsc, if_pos, reduceIte, Nat.reduceAdd, Nat.reduceLeDiff, Nat.reduceLT, Nat.reduceEqDiff]
        exact r os b c y z L _ _ _ _ _ hy0 (by omega) (by omega) hb hg hL
    · have hd1 : decide ((i : Int) < (n : Int)) = false := decide_eq_false (by omega)
      simp (maxSteps := 2000000) +contextual only [w_s_l1Cur_orderFor_1, hk1, hd1, decide_true, decide_false, Wp_some, Wp_none, Wp_ite, Wc_some, Wc_none, Wc_ite, Wp_thenRun, seqQ_normal, seqQ_exit, seqQ_ret, Wp_inBlock, blkQ_normal, blkQ_ret, blkQ_same, blkQ_exit, Wp_opThen, opQ_at, Wp_guardP, retQ_normal, retQ_ret, loopQ_normal, loopQ_exit, loopQ_ret, go_sem, entry, joinEsc, if_pos, reduceIte, Nat.reduceAdd, Nat.reduceLeDiff, Nat.reduceLT, Nat.reduceEqDiff]
      exact r os b c y z L _ _ _ _ _ hy0 (by omega) (by omega) hb hg hL
  · obtain ⟨w, hw, _⟩ := h.cells
    exact ⟨0, [], H.length, some 0, p, w, _, _, _, _, h.2.2, by omega, by omega, rfl, Nat.le_refl _, by rw [set_self_at hw]; exact ⟨_, rfl⟩, by simp +contextual only [go_sem, entry, joinEsc, if_pos, reduceIte, Nat.reduceAdd, Nat.reduceLeDiff, Nat.reduceLT, Nat.reduceEqDiff], rfl⟩

end Go.Proofs.Ytlcklonakjhoiaa.Slim

/- Rafts: the drawn arguments of laws. -/
namespace Go.Proofs.Ytlcklonakjhoiaa.Slim

open Go

set_option linter.unusedSimpArgs false

set_option linter.unusedVariables false

variable {pr : Prims} {H : List Blk} {e : Option Nat}

theorem wc_DrawIsRaft {av : AV} (hc : CodeAt H av) : Wc (call T pr f_s_DrawIsRaft [av] ⟨H, e⟩) (fun v m => ∃ a b o : Int, v = rfV a b o ∧ m = ⟨H, e⟩) := by
  obtain ⟨p0, s0, n0, c0, rfl⟩ := hc.form
  rw [call_wc t_s_DrawIsRaft]
  simp +contextual only [a_s_DrawIsRaft, c_s_DrawIsRaft, fillParts, Nat.add_assoc, Wp_some, Wp_none, Wp_ite, Wc_some, Wc_none, Wc_ite, Wp_thenRun, seqQ_normal, seqQ_exit, seqQ_ret, Wp_inBlock, blkQ_normal, blkQ_ret, blkQ_same, blkQ_exit, Wp_opThen, opQ_at, Wp_guardP, retQ_normal, retQ_ret, loopQ_normal, loopQ_exit, loopQ_ret, go_sem, entry, joinEsc, if_pos, reduceIte, Nat.reduceAdd, Nat.reduceLeDiff, Nat.reduceLT, Nat.reduceEqDiff]
  refine (wc_raft (Cu.new (k := 1) (G := [.cells [.int .i64 0, .int .i64 0, .int .i64 0] true, curB _ 0 0]) rfl hc (by omega)) (by omega)).mono ?_
  rintro v m ⟨a, b, o, y1, z1, rfl, hy10, hy11, rfl⟩
  simp +contextual only [a_s_DrawIsRaft, Nat.add_zero, Nat.add_assoc, Wp_some, Wp_none, Wp_ite, Wc_some, Wc_none, Wc_ite, Wp_thenRun, seqQ_normal, seqQ_exit, seqQ_ret, Wp_inBlock, blkQ_normal, blkQ_ret, blkQ_same, blkQ_exit, Wp_opThen, opQ_at, Wp_guardP, retQ_normal, retQ_ret, loopQ_normal, loopQ_exit, loopQ_ret, finish_one_eq, finish_one_eq0, finish_two_eq, finish_two_eq0, roots_slice_new, roots_slice_new0, roots_slice_none, roots_ptr_new, roots_ptr_new0, roots_int, roots_bool, roots_str, roots_agg, roots_tup, roots_cons, roots_nil, rename_slice, rename_slice_none, rename_ptr, rename_int, rename_bool, rename_str, rename_agg, rename_tup, rename_cons, rename_nil, keepBlks_nil, keepBlks_cons, flatAll_nil, flatAll_cons, flatBlk_cells, dedup_nil, dedup_one, dedup_two, renum_one, renum_one0, renum_two0, renum_two1, clean_none', clean_some, minEsc_none, minEsc_some, Nat.add_left_cancel_iff, Nat.le_add_right, Nat.le_refl, decide_true, go_sem, entry, joinEsc, if_pos, reduceIte, Nat.reduceAdd, Nat.reduceLeDiff, Nat.reduceLT, Nat.reduceEqDiff]
  exact ⟨a, b, o, rfl⟩

theorem wc_DrawRaftSide {av : AV} (hc : CodeAt H av) : Wc (call T pr f_s_DrawRaftSide [av] ⟨H, e⟩) (fun v m => ∃ (a b o : Int) (ls : List Ld) (os : List Int) (c1 c2 : Option Nat), v = .tup [rfV a b o, slL H.length ls.length c1, slI (H.length + 1) os.length c2] ∧ ls.length ≤ 9 ∧ os.length ≤ 10 ∧ m = ⟨H ++ [.cells (encL ls) true, .cells (encI os) true], e⟩) := by
  obtain ⟨p0, s0, n0, c0, rfl⟩ := hc.form
  rw [call_wc t_s_DrawRaftSide]
  simp +contextual only [a_s_DrawRaftSide, c_s_DrawRaftSide, fillParts, Nat.add_assoc, Wp_some, Wp_none, Wp_ite, Wc_some, Wc_none, Wc_ite, Wp_thenRun, seqQ_normal, seqQ_exit, seqQ_ret, Wp_inBlock, blkQ_normal, blkQ_ret, blkQ_same, blkQ_exit, Wp_opThen, opQ_at, Wp_guardP, retQ_normal, retQ_ret, loopQ_normal, loopQ_exit, loopQ_ret, go_sem, entry, joinEsc, if_pos, reduceIte, Nat.reduceAdd, Nat.reduceLeDiff, Nat.reduceLT, Nat.reduceEqDiff]
  refine (wc_raft (Cu.new (k := 1) (G := [.cells [.int .i64 0, .int .i64 0, .int .i64 0] true, curB _ 0 0]) rfl hc (by omega)) (by omega)).mono ?_
  rintro v m ⟨a, b, o, y1, z1, rfl, hy10, hy11, rfl⟩
  simp +contextual only [Nat.add_zero, Nat.add_assoc, Wp_some, Wp_none, Wp_ite, Wc_some, Wc_none, Wc_ite, Wp_thenRun, seqQ_normal, seqQ_exit, seqQ_ret, Wp_inBlock, blkQ_normal, blkQ_ret, blkQ_same, blkQ_exit, Wp_opThen, opQ_at, Wp_guardP, retQ_normal, retQ_ret, loopQ_normal, loopQ_exit, loopQ_ret, go_sem, entry, joinEsc, if_pos, reduceIte, Nat.reduceAdd, Nat.reduceLeDiff, Nat.reduceLT, Nat.reduceEqDiff]
  refine (wc_cargo (Cu.new (H := H) (k := 1) (y := y1) (z := z1) rfl hc hy10) (by omega)).mono ?_
  rintro v m ⟨ls, c1, y2, z2, rfl, hn1, hy20, hy21, rfl⟩
  simp +contextual only [Nat.add_zero, Nat.add_assoc, Wp_some, Wp_none, Wp_ite, Wc_some, Wc_none, Wc_ite, Wp_thenRun, seqQ_normal, seqQ_exit, seqQ_ret, Wp_inBlock, blkQ_normal, blkQ_ret, blkQ_same, blkQ_exit, Wp_opThen, opQ_at, Wp_guardP, retQ_normal, retQ_ret, loopQ_normal, loopQ_exit, loopQ_ret, go_sem, entry, joinEsc, if_pos, reduceIte, Nat.reduceAdd, Nat.reduceLeDiff, Nat.reduceLT, Nat.reduceEqDiff]
  refine (wc_setOf (Cu.new (H := H) (k := 1) (y := y2) (z := z2) rfl hc hy20) (by omega)).mono ?_
  rintro v m ⟨os, c2, y3, z3, rfl, hn2, hy30, hy31, rfl⟩
  have hf := fun (B0 B1 B3 : Blk) => finish_sl2 (H := H) (s1 := 2) (n1 := ls.length) (c1 := c1) (s2 := 1) (n2 := os.length) (c2 := c2) (rfV a b o) rfl (fun _ => rfl) (L := H ++ [B0, B1, .cells (encL ls) true, B3, .cells (encI os) true]) ⟨_, rfl⟩ e none rfl (b1 := H.length + 2) (b2 := H.length + 4) (by omega) (by omega) (by omega) (by rw [blkAt_newk]; rfl) (by rw [blkAt_newk]; rfl) (under_encL _ _) (under_encI _ _)
  simp +contextual only [a_s_DrawRaftSide, hf, Nat.add_zero, Nat.add_assoc, Wp_some, Wp_none, Wp_ite, Wc_some, Wc_none, Wc_ite, Wp_thenRun, seqQ_normal, seqQ_exit, seqQ_ret, Wp_inBlock, blkQ_normal, blkQ_ret, blkQ_same, blkQ_exit, Wp_opThen, opQ_at, Wp_guardP, retQ_normal, retQ_ret, loopQ_normal, loopQ_exit, loopQ_ret, go_sem, entry, joinEsc, if_pos, reduceIte, Nat.reduceAdd, Nat.reduceLeDiff, Nat.reduceLT, Nat.reduceEqDiff]
  exact ⟨a, b, o, ls, os, c1, c2, rfl, hn1, hn2, rfl⟩

theorem SafeOrder_form {q : Nat} {c : Option Nat} {ls : List Ld} (hq : cellsAt H q = some (encL ls)) (a b o : Int) (hls : ls.length ≤ 9) : ∃ (os : List Int) (cap : Option Nat) (ok : Bool), call T pr f_s_SafeOrder [rfV a b o, slL q ls.length c] ⟨H, e⟩ = some (.tup [slI H.length os.length cap, .bool ok], ⟨H ++ [.cells (encI os) true], e⟩) ∧ os.length ≤ 9 := by
  cases h : canW a b o ls with
  | false =>
    exact ⟨[], some 0, false, e_s_SafeOrder_no (pr := pr) (e := e) (c := c) hq a b o h, by simp⟩
  | true =>
    obtain ⟨cap, h1⟩ := e_s_SafeOrder (pr := pr) (e := e) (c := c) hq a b o h
    exact ⟨soW a b o ls, cap, true, h1, by rw [soW_length]; exact hls⟩

theorem wc_DrawIsSafeOrder {av : AV} (hc : CodeAt H av) : Wc (call T pr f_s_DrawIsSafeOrder [av] ⟨H, e⟩) (fun v m => ∃ (a b o : Int) (ls : List Ld) (os : List Int) (c1 c2 : Option Nat), v = .tup [rfV a b o, slL H.length ls.length c1, slI (H.length + 1) os.length c2] ∧ ls.length ≤ 9 ∧ os.length ≤ 10 ∧ m = ⟨H ++ [.cells (encL ls) true, .cells (encI os) true], e⟩) := by
  obtain ⟨p0, s0, n0, c0, rfl⟩ := hc.form
  rw [call_wc t_s_DrawIsSafeOrder]
  simp +contextual only [a_s_DrawIsSafeOrder, c_s_DrawIsSafeOrder, fillParts, Nat.add_assoc, Wp_some, Wp_none, Wp_ite, Wc_some, Wc_none, Wc_ite, Wp_thenRun, seqQ_normal, seqQ_exit, seqQ_ret, Wp_inBlock, blkQ_normal, blkQ_ret, blkQ_same, blkQ_exit, Wp_opThen, opQ_at, Wp_guardP, retQ_normal, retQ_ret, loopQ_normal, loopQ_exit, loopQ_ret, go_sem, entry, joinEsc, if_pos, reduceIte, Nat.reduceAdd, Nat.reduceLeDiff, Nat.reduceLT, Nat.reduceEqDiff]
  refine (wc_raft (Cu.new (k := 1) (G := [.cells [.int .i64 0, .int .i64 0, .int .i64 0] true, curB _ 0 0]) rfl hc (by omega)) (by omega)).mono ?_
  rintro v m ⟨a, b, o, y1, z1, rfl, hy10, hy11, rfl⟩
  simp +contextual only [Nat.add_zero, Nat.add_assoc, Wp_some, Wp_none, Wp_ite, Wc_some, Wc_none, Wc_ite, Wp_thenRun, seqQ_normal, seqQ_exit, seqQ_ret, Wp_inBlock, blkQ_normal, blkQ_ret, blkQ_same, blkQ_exit, Wp_opThen, opQ_at, Wp_guardP, retQ_normal, retQ_ret, loopQ_normal, loopQ_exit, loopQ_ret, go_sem, entry, joinEsc, if_pos, reduceIte, Nat.reduceAdd, Nat.reduceLeDiff, Nat.reduceLT, Nat.reduceEqDiff]
  refine (wc_cargo (Cu.new (H := H) (k := 1) (y := y1) (z := z1) rfl hc hy10) (by omega)).mono ?_
  rintro v m ⟨ls, c1, y2, z2, rfl, hn1, hy20, hy21, rfl⟩
  simp +contextual only [Nat.add_zero, Nat.add_assoc, Wp_some, Wp_none, Wp_ite, Wc_some, Wc_none, Wc_ite, Wp_thenRun, seqQ_normal, seqQ_exit, seqQ_ret, Wp_inBlock, blkQ_normal, blkQ_ret, blkQ_same, blkQ_exit, Wp_opThen, opQ_at, Wp_guardP, retQ_normal, retQ_ret, loopQ_normal, loopQ_exit, loopQ_ret, go_sem, entry, joinEsc, if_pos, reduceIte, Nat.reduceAdd, Nat.reduceLeDiff, Nat.reduceLT, Nat.reduceEqDiff]
  obtain ⟨os, cap, ok, hso, hn2⟩ := SafeOrder_form (pr := pr) (H := H ++ [.cells [AV.int IntKind.i64 0, AV.int IntKind.i64 0, AV.int IntKind.i64 0] true, curB (.slice p0 s0 n0 c0) y2 z2, .cells (encL ls) true, .cells [AV.int IntKind.i64 a, AV.int IntKind.i64 b, AV.int IntKind.i64 o] true]) (e := none) (q := H.length + 2) (c := c1) (by simp +contextual only [go_sem, entry, joinEsc, if_pos, reduceIte, Nat.reduceAdd, Nat.reduceLeDiff, Nat.reduceLT, Nat.reduceEqDiff]) a b o hn1
  refine Wc.of_eq hso ?_
  have hcu := fun G => Cu.new (H := H) (k := 1) (y := y2) (z := z2) (G := .cells [AV.int IntKind.i64 0, AV.int IntKind.i64 0, AV.int IntKind.i64 0] true :: curB (.slice p0 s0 n0 c0) y2 z2 :: G) rfl hc hy20
  have r : ∀ (y z : Int) (w7 w8 w9 : AV) (X : Blk), 0 ≤ y → y ≤ 1000 → Wp (run T pr (seqTl (seqTl (seqTl (seqTl c_s_DrawIsSafeOrder)))) ⟨[AV.slice p0 s0 n0 c0, AV.ptr (some (H.length, 0)), AV.slice none 0 0 none, AV.slice none 0 0 none, AV.ptr (some (H.length + 1, 0)), AV.ptr (some (H.length + 3, 0)), slL (H.length + 2) ls.length c1, w7, w8, w9], ⟨H ++ [.cells [AV.int IntKind.i64 0, AV.int IntKind.i64 0, AV.int IntKind.i64 0] true, curB (.slice p0 s0 n0 c0) y z, .cells (encL ls) true, .cells [AV.int IntKind.i64 a, AV.int IntKind.i64 b, AV.int IntKind.i64 o] true, X], none⟩⟩)
      (retQ a_s_DrawIsSafeOrder ⟨H, e⟩ fun v m => ∃ (a b o : Int) (ls : List Ld) (os : List Int) (c1 c2 : Option Nat), v = .tup [rfV a b o, slL H.length ls.length c1, slI (H.length + 1) os.length c2] ∧ ls.length ≤ 9 ∧ os.length ≤ 10 ∧ m = ⟨H ++ [.cells (encL ls) true, .cells (encI os) true], e⟩) := by
    intro y z w7 w8 w9 X hy0 hy1
    simp +contextual only [c_s_DrawIsSafeOrder, seqTl, Nat.add_zero, Nat.add_assoc, Wp_some, Wp_none, Wp_ite, Wc_some, Wc_none, Wc_ite, Wp_thenRun, seqQ_normal, seqQ_exit, seqQ_ret, Wp_inBlock, blkQ_normal, blkQ_ret, blkQ_same, blkQ_exit, Wp_opThen, opQ_at, Wp_guardP, retQ_normal, retQ_ret, loopQ_normal, loopQ_exit, loopQ_ret, go_sem, entry, joinEsc, if_pos, reduceIte, Nat.reduceAdd, Nat.reduceLeDiff, Nat.reduceLT, Nat.reduceEqDiff]
    refine (wc_orderFor (Cu.new (H := H) (k := 1) (y := y) (z := z) rfl hc hy0) (by omega)).mono ?_
    rintro v m ⟨os, c2, y3, z3, rfl, hn2, hy30, hy31, rfl⟩
    have hf := fun (B0 B1 B3 B4 : Blk) => finish_sl2 (H := H) (s1 := 2) (n1 := ls.length) (c1 := c1) (s2 := 1) (n2 := os.length) (c2 := c2) (rfV a b o) rfl (fun _ => rfl) (L := H ++ [B0, B1, .cells (encL ls) true, B3, B4, .cells (encI os) true]) ⟨_, rfl⟩ e none rfl (b1 := H.length + 2) (b2 := H.length + 5) (by omega) (by omega) (by omega) (by rw [blkAt_newk]; rfl) (by rw [blkAt_newk]; rfl) (under_encL _ _) (under_encI _ _)
    simp +contextual only [a_s_DrawIsSafeOrder, hf, Nat.add_zero, Nat.add_assoc, Wp_some, Wp_none, Wp_ite, Wc_some, Wc_none, Wc_ite, Wp_thenRun, seqQ_normal, seqQ_exit, seqQ_ret, Wp_inBlock, blkQ_normal, blkQ_ret, blkQ_same, blkQ_exit, Wp_opThen, opQ_at, Wp_guardP, retQ_normal, retQ_ret, loopQ_normal, loopQ_exit, loopQ_ret, go_sem, entry, joinEsc, if_pos, reduceIte, Nat.reduceAdd, Nat.reduceLeDiff, Nat.reduceLT, Nat.reduceEqDiff]
    exact ⟨a, b, o, ls, os, c1, c2, rfl, hn1, hn2, rfl⟩
  cases ok with
  | false =>
    simp +contextual only [Nat.add_zero, Nat.add_assoc, Wp_some, Wp_none, Wp_ite, Wc_some, Wc_none, Wc_ite, Wp_thenRun, seqQ_normal, seqQ_exit, seqQ_ret, Wp_inBlock, blkQ_normal, blkQ_ret, blkQ_same, blkQ_exit, Wp_opThen, opQ_at, Wp_guardP, retQ_normal, retQ_ret, loopQ_normal, loopQ_exit, loopQ_ret, go_sem, entry, joinEsc, if_pos, reduceIte, Nat.reduceAdd, Nat.reduceLeDiff, Nat.reduceLT, Nat.reduceEqDiff]
    have := r y2 z2 (slI (H.length + 4) os.length cap) (.bool false) (.bool false) (.cells (encI os) true) hy20 (by omega)
    simp +contextual only [c_s_DrawIsSafeOrder, seqTl, Nat.add_zero, Nat.add_assoc, Wp_some, Wp_none, Wp_ite, Wc_some, Wc_none, Wc_ite, Wp_thenRun, seqQ_normal, seqQ_exit, seqQ_ret, Wp_inBlock, blkQ_normal, blkQ_ret, blkQ_same, blkQ_exit, Wp_opThen, opQ_at, Wp_guardP, retQ_normal, retQ_ret, loopQ_normal, loopQ_exit, loopQ_ret, go_sem, entry, joinEsc, if_pos, reduceIte, Nat.reduceAdd, Nat.reduceLeDiff, Nat.reduceLT, Nat.reduceEqDiff] at this
    exact this
  | true =>
    simp +contextual only [Nat.add_zero, Nat.add_assoc, Wp_some, Wp_none, Wp_ite, Wc_some, Wc_none, Wc_ite, Wp_thenRun, seqQ_normal, seqQ_exit, seqQ_ret, Wp_inBlock, blkQ_normal, blkQ_ret, blkQ_same, blkQ_exit, Wp_opThen, opQ_at, Wp_guardP, retQ_normal, retQ_ret, loopQ_normal, loopQ_exit, loopQ_ret, go_sem, entry, joinEsc, if_pos, reduceIte, Nat.reduceAdd, Nat.reduceLeDiff, Nat.reduceLT, Nat.reduceEqDiff]
    refine (wc_one 2 (hcu _) (by omega) (by omega)).mono ?_
    rintro v m ⟨x, y3, z3, rfl, hy30, hy31, rfl⟩
    cases x with
    | false =>
      simp +contextual only [Nat.add_zero, Nat.add_assoc, Wp_some, Wp_none, Wp_ite, Wc_some, Wc_none, Wc_ite, Wp_thenRun, seqQ_normal, seqQ_exit, seqQ_ret, Wp_inBlock, blkQ_normal, blkQ_ret, blkQ_same, blkQ_exit, Wp_opThen, opQ_at, Wp_guardP, retQ_normal, retQ_ret, loopQ_normal, loopQ_exit, loopQ_ret, go_sem, entry, joinEsc, if_pos, reduceIte, Nat.reduceAdd, Nat.reduceLeDiff, Nat.reduceLT, Nat.reduceEqDiff]
      have := r y3 z3 (slI (H.length + 4) os.length cap) (.bool true) (.bool false) (.cells (encI os) true) hy30 (by omega)
      simp +contextual only [c_s_DrawIsSafeOrder, seqTl, Nat.add_zero, Nat.add_assoc, Wp_some, Wp_none, Wp_ite, Wc_some, Wc_none, Wc_ite, Wp_thenRun, seqQ_normal, seqQ_exit, seqQ_ret, Wp_inBlock, blkQ_normal, blkQ_ret, blkQ_same, blkQ_exit, Wp_opThen, opQ_at, Wp_guardP, retQ_normal, retQ_ret, loopQ_normal, loopQ_exit, loopQ_ret, go_sem, entry, joinEsc, if_pos, reduceIte, Nat.reduceAdd, Nat.reduceLeDiff, Nat.reduceLT, Nat.reduceEqDiff] at this
      exact this
    | true =>
      have hf := fun (B0 B1 B3 : Blk) => finish_sl2 (H := H) (s1 := 2) (n1 := ls.length) (c1 := c1) (s2 := 1) (n2 := os.length) (c2 := cap) (rfV a b o) rfl (fun _ => rfl) (L := H ++ [B0, B1, .cells (encL ls) true, B3, .cells (encI os) true]) ⟨_, rfl⟩ e none rfl (b1 := H.length + 2) (b2 := H.length + 4) (by omega) (by omega) (by omega) (by rw [blkAt_newk]; rfl) (by rw [blkAt_newk]; rfl) (under_encL _ _) (under_encI _ _)
      simp +contextual only [a_s_DrawIsSafeOrder, hf, Nat.add_zero, Nat.add_assoc, Wp_some, Wp_none, Wp_ite, Wc_some, Wc_none, Wc_ite, Wp_thenRun, seqQ_normal, seqQ_exit, seqQ_ret, Wp_inBlock, blkQ_normal, blkQ_ret, blkQ_same, blkQ_exit, Wp_opThen, opQ_at, Wp_guardP, retQ_normal, retQ_ret, loopQ_normal, loopQ_exit, loopQ_ret, go_sem, entry, joinEsc, if_pos, reduceIte, Nat.reduceAdd, Nat.reduceLeDiff, Nat.reduceLT, Nat.reduceEqDiff]
      exact ⟨a, b, o, ls, os, c1, cap, rfl, hn1, by omega, rfl⟩

end Go.Proofs.Ytlcklonakjhoiaa.Slim

/- Rafts: sides, reserves, safe sets and safe orders, on both sides. -/
namespace Go.Proofs.Ytlcklonakjhoiaa.Slim

open Go

set_option linter.unusedSimpArgs false

set_option linter.unusedVariables false

variable {pr : Prims} {H : List Blk} {e : Option Nat}

def lftR (a b o : Int) (ls : List Ld) (n : Int) : Int := overBits (resL a) n 0 ls (own0 a b o)

def rgtR (a b o : Int) (ls : List Ld) (n : Int) : Int := overBits (resR b) n 0 ls (own0 a b o)

theorem e_i_RaftReserve {q q' : Nat} {c c' : Option Nat} {ls : List Ld} {os : List Int} (hq : cellsAt H q = some (encL ls)) (h : cellsAt H q' = some (encI os)) (hls : ls.length ≤ 1048576) (hn : os.length ≤ 1048576) (a b o : Int) :
    call T pr f_i_RaftReserve [rfV a b o, slL q ls.length c, slI q' os.length c'] ⟨H, e⟩ = some (if setOk a b o ls os = true then .tup [.int .i64 (lftR a b o ls ((codeN 0 os : Nat) : Int)), .int .i64 (rgtR a b o ls ((codeN 0 os : Nat) : Int)), .bool true] else .tup [.int .i64 0, .int .i64 0, .bool false], ⟨H, e⟩) := by
  rw [call_eq t_i_RaftReserve]
  have hb := fun G => e_i_bitsOf (pr := pr) (e := none) (q := q) (c := c) (c' := c') (cells_mono h G) (by omega) hls
  have hr := fun G => e_i_Raft_reserve (pr := pr) (e := none) (c := c) (cells_mono hq G) (by omega) a b o
  have ha := fun G => e_i_areCargo (pr := pr) (e := none) (c := c) (cells_mono hq G) a b o
  unfold setOk
  cases h1 : cargoOk a b o ls with
  | false =>
    rw [Bool.false_and, if_neg (by simp)]
    cases h2 : rises ls.length (-1) os with
    | false => simp +contextual only [a_i_RaftReserve, c_i_RaftReserve, hb, ha, hr, h1, h2, go_sem, entry, joinEsc, if_pos, reduceIte, Nat.reduceAdd, Nat.reduceLeDiff, Nat.reduceLT, Nat.reduceEqDiff]
    | true => simp +contextual only [a_i_RaftReserve, c_i_RaftReserve, hb, ha, hr, h1, h2, go_sem, entry, joinEsc, if_pos, reduceIte, Nat.reduceAdd, Nat.reduceLeDiff, Nat.reduceLT, Nat.reduceEqDiff]
  | true =>
    rw [Bool.true_and]
    cases h2 : rises ls.length (-1) os with
    | false =>
      rw [if_neg (by simp)]
      simp +contextual only [a_i_RaftReserve, c_i_RaftReserve, hb, ha, hr, h1, h2, go_sem, entry, joinEsc, if_pos, reduceIte, Nat.reduceAdd, Nat.reduceLeDiff, Nat.reduceLT, Nat.reduceEqDiff]
    | true =>
      rw [if_pos rfl]
      have hcd := (code_lt (cargo_le h1) h2).2
      simp +contextual only [a_i_RaftReserve, c_i_RaftReserve, hb, ha, hr, h1, h2, hcd, lftR, rgtR, go_sem, entry, joinEsc, if_pos, reduceIte, Nat.reduceAdd, Nat.reduceLeDiff, Nat.reduceLT, Nat.reduceEqDiff]

theorem e_s_RaftReserve {q q' : Nat} {c c' : Option Nat} {ls : List Ld} {os : List Int} (hq : cellsAt H q = some (encL ls)) (h : cellsAt H q' = some (encI os)) (hls : ls.length ≤ 1048576) (hn : os.length ≤ 1048576) (a b o : Int) :
    call T pr f_s_RaftReserve [rfV a b o, slL q ls.length c, slI q' os.length c'] ⟨H, e⟩ = some (if setOk a b o ls os = true then .tup [.int .i64 (lftR a b o ls ((codeN 0 os : Nat) : Int)), .int .i64 (rgtR a b o ls ((codeN 0 os : Nat) : Int)), .bool true] else .tup [.int .i64 0, .int .i64 0, .bool false], ⟨H, e⟩) := by
  rw [call_eq t_s_RaftReserve]
  have hb := fun G => e_s_l10Code (pr := pr) (e := none) (c := c) (c' := c') (cells_mono hq G) (cells_mono h G) (by omega) a b o
  have hr := fun G => e_s_l10Reserve (pr := pr) (e := none) (c := c) (cells_mono hq G) (by omega) a b o
  cases h1 : setOk a b o ls os with
  | false => simp +contextual only [a_s_RaftReserve, c_s_RaftReserve, hb, hr, h1, go_sem, entry, joinEsc, if_pos, reduceIte, Nat.reduceAdd, Nat.reduceLeDiff, Nat.reduceLT, Nat.reduceEqDiff]
  | true => simp +contextual only [a_s_RaftReserve, c_s_RaftReserve, hb, hr, h1, lftR, rgtR, go_sem, entry, joinEsc, if_pos, reduceIte, Nat.reduceAdd, Nat.reduceLeDiff, Nat.reduceLT, Nat.reduceEqDiff]

/-- what RaftSide returns -/
def sideT (a b o : Int) (ls : List Ld) (os : List Int) : AV := if setOk a b o ls os = true then .tup [.int .i64 (sideR a b o ls ((codeN 0 os : Nat) : Int)), .bool true] else .tup [.int .i64 0, .bool false]

theorem e_i_RaftSide {q q' : Nat} {c c' : Option Nat} {ls : List Ld} {os : List Int} (hq : cellsAt H q = some (encL ls)) (h : cellsAt H q' = some (encI os)) (hls : ls.length ≤ 1048576) (hn : os.length ≤ 1048576) (a b o : Int) :
    call T pr f_i_RaftSide [rfV a b o, slL q ls.length c, slI q' os.length c'] ⟨H, e⟩ = some (sideT a b o ls os, ⟨H, e⟩) := by
  rw [call_eq t_i_RaftSide]
  have hb := fun G => e_i_RaftReserve (pr := pr) (e := none) (c := c) (c' := c') (cells_mono hq G) (cells_mono h G) hls hn a b o
  unfold sideT
  cases h1 : setOk a b o ls os with
  | false =>
    simp only [h1, Bool.false_eq_true, if_false] at hb
    simp +contextual only [a_i_RaftSide, c_i_RaftSide, hb, h1, Int.lt_irrefl, decide_false, go_sem, entry, joinEsc, if_pos, reduceIte, Nat.reduceAdd, Nat.reduceLeDiff, Nat.reduceLT, Nat.reduceEqDiff]
  | true =>
    simp only [h1, if_true] at hb
    have hs : sideR a b o ls ((codeN 0 os : Nat) : Int) = if lftR a b o ls ((codeN 0 os : Nat) : Int) < 0 then -1 else if rgtR a b o ls ((codeN 0 os : Nat) : Int) < 0 then 1 else 0 := rfl
    rw [hs]
    by_cases h2 : lftR a b o ls ((codeN 0 os : Nat) : Int) < 0
    · simp +contextual only [a_i_RaftSide, c_i_RaftSide, hb, h1, h2, decide_true, go_sem, entry, joinEsc, if_pos, reduceIte, Nat.reduceAdd, Nat.reduceLeDiff, Nat.reduceLT, Nat.reduceEqDiff]
    · by_cases h3 : rgtR a b o ls ((codeN 0 os : Nat) : Int) < 0
      · simp +contextual only [a_i_RaftSide, c_i_RaftSide, hb, h1, h2, h3, decide_true, decide_false, go_sem, entry, joinEsc, if_pos, reduceIte, Nat.reduceAdd, Nat.reduceLeDiff, Nat.reduceLT, Nat.reduceEqDiff]
      · simp +contextual only [a_i_RaftSide, c_i_RaftSide, hb, h1, h2, h3, decide_true, decide_false, go_sem, entry, joinEsc, if_pos, reduceIte, Nat.reduceAdd, Nat.reduceLeDiff, Nat.reduceLT, Nat.reduceEqDiff]

theorem e_s_RaftSide {q q' : Nat} {c c' : Option Nat} {ls : List Ld} {os : List Int} (hq : cellsAt H q = some (encL ls)) (h : cellsAt H q' = some (encI os)) (hls : ls.length ≤ 1048576) (hn : os.length ≤ 1048576) (a b o : Int) :
    call T pr f_s_RaftSide [rfV a b o, slL q ls.length c, slI q' os.length c'] ⟨H, e⟩ = some (sideT a b o ls os, ⟨H, e⟩) := by
  rw [call_eq t_s_RaftSide]
  have hb := fun G => e_s_l10Code (pr := pr) (e := none) (c := c) (c' := c') (cells_mono hq G) (cells_mono h G) (by omega) a b o
  have hr := fun G => e_s_l10Reserve (pr := pr) (e := none) (c := c) (cells_mono hq G) (by omega) a b o
  unfold sideT
  cases h1 : setOk a b o ls os with
  | false => simp +contextual only [a_s_RaftSide, c_s_RaftSide, hb, hr, h1, go_sem, entry, joinEsc, if_pos, reduceIte, Nat.reduceAdd, Nat.reduceLeDiff, Nat.reduceLT, Nat.reduceEqDiff]
  | true =>
    have hs : sideR a b o ls ((codeN 0 os : Nat) : Int) = if lftR a b o ls ((codeN 0 os : Nat) : Int) < 0 then -1 else if rgtR a b o ls ((codeN 0 os : Nat) : Int) < 0 then 1 else 0 := rfl
    rw [hs]
    by_cases h2 : lftR a b o ls ((codeN 0 os : Nat) : Int) < 0
    · have h2' := h2
      unfold lftR at h2'
      simp +contextual only [a_s_RaftSide, c_s_RaftSide, hb, hr, h1, h2, h2', decide_true, go_sem, entry, joinEsc, if_pos, reduceIte, Nat.reduceAdd, Nat.reduceLeDiff, Nat.reduceLT, Nat.reduceEqDiff]
    · have h2' := h2
      unfold lftR at h2'
      by_cases h3 : rgtR a b o ls ((codeN 0 os : Nat) : Int) < 0
      · have h3' := h3
        unfold rgtR at h3'
        simp +contextual only [a_s_RaftSide, c_s_RaftSide, hb, hr, h1, h2, h2', h3, h3', decide_true, decide_false, go_sem, entry, joinEsc, if_pos, reduceIte, Nat.reduceAdd, Nat.reduceLeDiff, Nat.reduceLT, Nat.reduceEqDiff]
      · have h3' := h3
        unfold rgtR at h3'
        simp +contextual only [a_s_RaftSide, c_s_RaftSide, hb, hr, h1, h2, h2', h3, h3', decide_true, decide_false, go_sem, entry, joinEsc, if_pos, reduceIte, Nat.reduceAdd, Nat.reduceLeDiff, Nat.reduceLT, Nat.reduceEqDiff]

/-- what SafeSets returns -/
def setsT (a b o : Int) (ls : List Ld) : AV := if cargoOk a b o ls = true then .tup [.int .i64 (cntS a b o ls (2 ^ ls.length)), .bool true] else .tup [.int .i64 0, .bool false]

theorem e_i_SafeSets {q : Nat} {c : Option Nat} {ls : List Ld} (hq : cellsAt H q = some (encL ls)) (a b o : Int) :
    call T pr f_i_SafeSets [rfV a b o, slL q ls.length c] ⟨H, e⟩ = some (setsT a b o ls, ⟨H, e⟩) := by
  apply Wc.eq
  rw [call_wc t_i_SafeSets]
  have ha := fun G => e_i_areCargo (pr := pr) (e := none) (c := c) (cells_mono hq G) a b o
  unfold setsT
  cases h1 : cargoOk a b o ls with
  | false => simp +contextual only [a_i_SafeSets, c_i_SafeSets, ha, h1, Wp_some, Wp_none, Wp_ite, Wc_some, Wc_none, Wc_ite, Wp_thenRun, seqQ_normal, seqQ_exit, seqQ_ret, Wp_inBlock, blkQ_normal, blkQ_ret, blkQ_same, blkQ_exit, Wp_opThen, opQ_at, Wp_guardP, retQ_normal, retQ_ret, loopQ_normal, loopQ_exit, loopQ_ret, go_sem, entry, joinEsc, if_pos, reduceIte, Nat.reduceAdd, Nat.reduceLeDiff, Nat.reduceLT, Nat.reduceEqDiff]
  | true =>
    have hn8 := cargo_le h1
    obtain ⟨p1, p2, p3⟩ := pow_facts ls.length (by omega)
    have hr := fun G => e_i_Raft_isSafe (pr := pr) (e := none) (c := c) (cells_mono hq G) (by omega) a b o
    simp +contextual only [a_i_SafeSets, c_i_SafeSets, ha, h1, shl_nat, p1, Wp_some, Wp_none, Wp_ite, Wc_some, Wc_none, Wc_ite, Wp_thenRun, seqQ_normal, seqQ_exit, seqQ_ret, Wp_inBlock, blkQ_normal, blkQ_ret, blkQ_same, blkQ_exit, Wp_opThen, opQ_at, Wp_guardP, retQ_normal, retQ_ret, loopQ_normal, loopQ_exit, loopQ_ret, go_sem, entry, joinEsc, if_pos, reduceIte, Nat.reduceAdd, Nat.reduceLeDiff, Nat.reduceLT, Nat.reduceEqDiff]
    refine Wp_loop (fun k st => ∃ (i : Nat) (w6 w7 w10 w11 : AV), i + k = 2 ^ ls.length ∧ st = ⟨[rfV a b o, slL q ls.length c, .ptr (some (H.length, 0)), .int .i64 0, .bool false, .int .i64 (cntS a b o ls i), w6, w7, .int .i64 ((2 ^ ls.length : Nat) : Int), .int .i64 i, w10, w11], ⟨H ++ [.cells [.int .i64 a, .int .i64 b, .int .i64 o] true], none⟩⟩) ?_ (2 ^ ls.length) _ ⟨0, _, _, _, _, Nat.zero_add _, rfl⟩
    rintro k _ ⟨i, w6, w7, w10, w11, hi, rfl⟩
    by_cases hk : k = 0
    · have hd : decide ((i : Int) < ((2 ^ ls.length : Nat) : Int)) = false := decide_eq_false (by omega)
      have hd' : ¬ i < 2 ^ ls.length := by omega
      have he : i = 2 ^ ls.length := by omega
      simp +contextual only [w_i_SafeSets_1, hd, hd', he, Nat.lt_irrefl, decide_false, Wp_some, Wp_none, Wp_ite, Wc_some, Wc_none, Wc_ite, Wp_thenRun, seqQ_normal, seqQ_exit, seqQ_ret, Wp_inBlock, blkQ_normal, blkQ_ret, blkQ_same, blkQ_exit, Wp_opThen, opQ_at, Wp_guardP, retQ_normal, retQ_ret, loopQ_normal, loopQ_exit, loopQ_ret, go_sem, entry, joinEsc, if_pos, reduceIte, Nat.reduceAdd, Nat.reduceLeDiff, Nat.reduceLT, Nat.reduceEqDiff]
    · have hd : decide ((i : Int) < ((2 ^ ls.length : Nat) : Int)) = true := decide_eq_true (by omega)
      have hd' : i < 2 ^ ls.length := by omega
      have hcl := cntS_le a b o ls i
      have hw := wrap_succ (show i < 9223372036854775807 by omega)
      have hwc := wrap_succ (show cntS a b o ls i < 9223372036854775807 by omega)
      have hct : cntS a b o ls (i + 1) = cntS a b o ls i + if safeW a b o ls (i : Int) = true then 1 else 0 := rfl
      cases hs : safeW a b o ls (i : Int) with
      | true =>
        rw [hs, if_pos rfl] at hct
        simp +contextual only [w_i_SafeSets_1, hd, hd', hr, hs, hw, hwc, decide_true, Wp_some, Wp_none, Wp_ite, Wc_some, Wc_none, Wc_ite, Wp_thenRun, seqQ_normal, seqQ_exit, seqQ_ret, Wp_inBlock, blkQ_normal, blkQ_ret, blkQ_same, blkQ_exit, Wp_opThen, opQ_at, Wp_guardP, retQ_normal, retQ_ret, loopQ_normal, loopQ_exit, loopQ_ret, go_sem, entry, joinEsc, if_pos, reduceIte, Nat.reduceAdd, Nat.reduceLeDiff, Nat.reduceLT, Nat.reduceEqDiff]
        exact ⟨k - 1, by omega, i + 1, _, _, _, _, by omega, by rw [hct]⟩
      | false =>
        rw [hs, if_neg (by simp)] at hct
        have hct : cntS a b o ls (i + 1) = cntS a b o ls i := hct
        simp +contextual only [w_i_SafeSets_1, hd, hd', hr, hs, hw, hwc, decide_true, Wp_some, Wp_none, Wp_ite, Wc_some, Wc_none, Wc_ite, Wp_thenRun, seqQ_normal, seqQ_exit, seqQ_ret, Wp_inBlock, blkQ_normal, blkQ_ret, blkQ_same, blkQ_exit, Wp_opThen, opQ_at, Wp_guardP, retQ_normal, retQ_ret, loopQ_normal, loopQ_exit, loopQ_ret, go_sem, entry, joinEsc, if_pos, reduceIte, Nat.reduceAdd, Nat.reduceLeDiff, Nat.reduceLT, Nat.reduceEqDiff]
        exact ⟨k - 1, by omega, i + 1, _, _, _, _, by omega, by rw [hct]⟩

theorem e_s_SafeSets {q : Nat} {c : Option Nat} {ls : List Ld} (hq : cellsAt H q = some (encL ls)) (a b o : Int) :
    call T pr f_s_SafeSets [rfV a b o, slL q ls.length c] ⟨H, e⟩ = some (setsT a b o ls, ⟨H, e⟩) := by
  apply Wc.eq
  rw [call_wc t_s_SafeSets]
  have ha := fun G => e_s_l10Cargo (pr := pr) (e := none) (c := c) (cells_mono hq G) a b o
  unfold setsT
  cases h1 : cargoOk a b o ls with
  | false => simp +contextual only [a_s_SafeSets, c_s_SafeSets, ha, h1, Wp_some, Wp_none, Wp_ite, Wc_some, Wc_none, Wc_ite, Wp_thenRun, seqQ_normal, seqQ_exit, seqQ_ret, Wp_inBlock, blkQ_normal, blkQ_ret, blkQ_same, blkQ_exit, Wp_opThen, opQ_at, Wp_guardP, retQ_normal, retQ_ret, loopQ_normal, loopQ_exit, loopQ_ret, go_sem, entry, joinEsc, if_pos, reduceIte, Nat.reduceAdd, Nat.reduceLeDiff, Nat.reduceLT, Nat.reduceEqDiff]
  | true =>
    have hn8 := cargo_le h1
    obtain ⟨p1, p2, p3⟩ := pow_facts ls.length (by omega)
    have hr := fun G => e_s_l10Safe (pr := pr) (e := none) (c := c) (cells_mono hq G) (by omega) a b o
    simp +contextual only [a_s_SafeSets, c_s_SafeSets, ha, h1, shl_nat, p1, Wp_some, Wp_none, Wp_ite, Wc_some, Wc_none, Wc_ite, Wp_thenRun, seqQ_normal, seqQ_exit, seqQ_ret, Wp_inBlock, blkQ_normal, blkQ_ret, blkQ_same, blkQ_exit, Wp_opThen, opQ_at, Wp_guardP, retQ_normal, retQ_ret, loopQ_normal, loopQ_exit, loopQ_ret, go_sem, entry, joinEsc, if_pos, reduceIte, Nat.reduceAdd, Nat.reduceLeDiff, Nat.reduceLT, Nat.reduceEqDiff]
    refine Wp_loop (fun k st => ∃ (i : Nat) (w7 w8 w9 : AV), i + k = 2 ^ ls.length ∧ st = ⟨[rfV a b o, slL q ls.length c, .ptr (some (H.length, 0)), .int .i64 0, .bool false, .int .i64 (cntS a b o ls i), .int .i64 i, w7, w8, w9], ⟨H ++ [.cells [.int .i64 a, .int .i64 b, .int .i64 o] true], none⟩⟩) ?_ (2 ^ ls.length) _ ⟨0, _, _, _, Nat.zero_add _, rfl⟩
    rintro k _ ⟨i, w7, w8, w9, hi, rfl⟩
    by_cases hk : k = 0
    · have hd : decide ((i : Int) < ((2 ^ ls.length : Nat) : Int)) = false := decide_eq_false (by omega)
      have hd' : ¬ i < 2 ^ ls.length := by omega
      have he : i = 2 ^ ls.length := by omega
      simp +contextual only [w_s_SafeSets_1, hd, hd', he, shl_nat, p1, Nat.lt_irrefl, decide_false, Wp_some, Wp_none, Wp_ite, Wc_some, Wc_none, Wc_ite, Wp_thenRun, seqQ_normal, seqQ_exit, seqQ_ret, Wp_inBlock, blkQ_normal, blkQ_ret, blkQ_same, blkQ_exit, Wp_opThen, opQ_at, Wp_guardP, retQ_normal, retQ_ret, loopQ_normal, loopQ_exit, loopQ_ret, go_sem, entry, joinEsc, if_pos, reduceIte, Nat.reduceAdd, Nat.reduceLeDiff, Nat.reduceLT, Nat.reduceEqDiff]
    · have hd : decide ((i : Int) < ((2 ^ ls.length : Nat) : Int)) = true := decide_eq_true (by omega)
      have hd' : i < 2 ^ ls.length := by omega
      have hcl := cntS_le a b o ls i
      have hw := wrap_succ (show i < 9223372036854775807 by omega)
      have hwc := wrap_succ (show cntS a b o ls i < 9223372036854775807 by omega)
      have hct : cntS a b o ls (i + 1) = cntS a b o ls i + if safeW a b o ls (i : Int) = true then 1 else 0 := rfl
      cases hs : safeW a b o ls (i : Int) with
      | true =>
        rw [hs, if_pos rfl] at hct
        simp +contextual only [w_s_SafeSets_1, hd, hd', hr, hs, hw, hwc, shl_nat, p1, decide_true, Wp_some, Wp_none, Wp_ite, Wc_some, Wc_none, Wc_ite, Wp_thenRun, seqQ_normal, seqQ_exit, seqQ_ret, Wp_inBlock, blkQ_normal, blkQ_ret, blkQ_same, blkQ_exit, Wp_opThen, opQ_at, Wp_guardP, retQ_normal, retQ_ret, loopQ_normal, loopQ_exit, loopQ_ret, go_sem, entry, joinEsc, if_pos, reduceIte, Nat.reduceAdd, Nat.reduceLeDiff, Nat.reduceLT, Nat.reduceEqDiff]
        exact ⟨k - 1, by omega, i + 1, _, _, _, by omega, by rw [hct]⟩
      | false =>
        rw [hs, if_neg (by simp)] at hct
        have hct : cntS a b o ls (i + 1) = cntS a b o ls i := hct
        simp +contextual only [w_s_SafeSets_1, hd, hd', hr, hs, hw, hwc, shl_nat, p1, decide_true, Wp_some, Wp_none, Wp_ite, Wc_some, Wc_none, Wc_ite, Wp_thenRun, seqQ_normal, seqQ_exit, seqQ_ret, Wp_inBlock, blkQ_normal, blkQ_ret, blkQ_same, blkQ_exit, Wp_opThen, opQ_at, Wp_guardP, retQ_normal, retQ_ret, loopQ_normal, loopQ_exit, loopQ_ret, go_sem, entry, joinEsc, if_pos, reduceIte, Nat.reduceAdd, Nat.reduceLeDiff, Nat.reduceLT, Nat.reduceEqDiff]
        exact ⟨k - 1, by omega, i + 1, _, _, _, by omega, by rw [hct]⟩

/-- an order of all items -/
def ordR (a b o : Int) (ls : List Ld) (os : List Int) : Bool := cargoOk a b o ls && (ordOk ls.length 0 os && decide (os.length = ls.length))

theorem e_i_IsSafeOrder {q q' : Nat} {c c' : Option Nat} {ls : List Ld} {os : List Int} (hq : cellsAt H q = some (encL ls)) (h : cellsAt H q' = some (encI os)) (hn : os.length ≤ 1048576) (a b o : Int) :
    call T pr f_i_IsSafeOrder [rfV a b o, slL q ls.length c, slI q' os.length c'] ⟨H, e⟩ = some (.tup [.bool (ordR a b o ls os && decide (tipFrom a b o ls 0 0 os = 0)), .bool (ordR a b o ls os)], ⟨H, e⟩) := by
  rw [call_eq t_i_IsSafeOrder]
  unfold ordR
  cases h1 : cargoOk a b o ls with
  | false => simp +contextual only [a_i_IsSafeOrder, c_i_IsSafeOrder, e_i_areCargo (cells_mono hq _), h1, Bool.false_and, go_sem, entry, joinEsc, if_pos, reduceIte, Nat.reduceAdd, Nat.reduceLeDiff, Nat.reduceLT, Nat.reduceEqDiff]
  | true =>
    have hn8 := cargo_le h1
    cases h2 : (ordOk ls.length 0 os && decide (os.length = ls.length)) with
    | false => simp +contextual only [a_i_IsSafeOrder, c_i_IsSafeOrder, e_i_areCargo (cells_mono hq _), e_i_isOrder hn8 (cells_mono h _) (show os.length ≤ 9223372036854775806 by omega), h1, h2, Bool.and_false, Bool.false_and, go_sem, entry, joinEsc, if_pos, reduceIte, Nat.reduceAdd, Nat.reduceLeDiff, Nat.reduceLT, Nat.reduceEqDiff]
    | true =>
      have ho := (Bool.and_eq_true_iff.mp h2).1
      have hp : decide ((tipFrom a b o ls 0 0 os : Int) = 0) = decide (tipFrom a b o ls 0 0 os = 0) := decide_eq_decide.mpr (by omega)
      simp +contextual only [a_i_IsSafeOrder, c_i_IsSafeOrder, e_i_areCargo (cells_mono hq _), e_i_isOrder hn8 (cells_mono h _) (show os.length ≤ 9223372036854775806 by omega), e_i_Raft_firstTip hn8 (cells_mono hq _) (show ls.length ≤ 9223372036854775806 by omega) (cells_mono h _) (show os.length ≤ 9223372036854775806 by omega) ho, h1, h2, hp, Bool.and_true, Bool.true_and, go_sem, entry, joinEsc, if_pos, reduceIte, Nat.reduceAdd, Nat.reduceLeDiff, Nat.reduceLT, Nat.reduceEqDiff]

theorem e_s_IsSafeOrder {q q' : Nat} {c c' : Option Nat} {ls : List Ld} {os : List Int} (hq : cellsAt H q = some (encL ls)) (h : cellsAt H q' = some (encI os)) (hn : os.length ≤ 1048576) (a b o : Int) :
    call T pr f_s_IsSafeOrder [rfV a b o, slL q ls.length c, slI q' os.length c'] ⟨H, e⟩ = some (.tup [.bool (ordR a b o ls os && decide (tipFrom a b o ls 0 0 os = 0)), .bool (ordR a b o ls os)], ⟨H, e⟩) := by
  rw [call_eq t_s_IsSafeOrder]
  unfold ordR
  cases h1 : (cargoOk a b o ls && (ordOk ls.length 0 os && decide (os.length = ls.length))) with
  | false => simp +contextual only [a_s_IsSafeOrder, c_s_IsSafeOrder, e_s_l10Order (cells_mono hq _) (cells_mono h _) (show os.length ≤ 9223372036854775806 by omega), h1, Bool.false_and, go_sem, entry, joinEsc, if_pos, reduceIte, Nat.reduceAdd, Nat.reduceLeDiff, Nat.reduceLT, Nat.reduceEqDiff]
  | true =>
    have hc := (Bool.and_eq_true_iff.mp h1).1
    have hn8 := cargo_le hc
    have ho := (Bool.and_eq_true_iff.mp (Bool.and_eq_true_iff.mp h1).2).1
    have ht := fun G => e_s_l10Tip (pr := pr) (e := none) (c := c) (c' := c') hn8 (cells_mono hq G) (show ls.length ≤ 9223372036854775806 by omega) (cells_mono h G) (show os.length ≤ 9223372036854775806 by omega) ho a b o
    by_cases h2 : tipFrom a b o ls 0 0 os = 0
    · simp only [h2, if_true] at ht ⊢
      simp +contextual only [a_s_IsSafeOrder, c_s_IsSafeOrder, e_s_l10Order (cells_mono hq _) (cells_mono h _) (show os.length ≤ 9223372036854775806 by omega), ht, h1, show ((-1 : Int) < 0) by omega, decide_true, Bool.and_true, go_sem, entry, joinEsc, if_pos, reduceIte, Nat.reduceAdd, Nat.reduceLeDiff, Nat.reduceLT, Nat.reduceEqDiff]
    · simp only [h2, if_false] at ht
      have h3 : ¬ ((tipFrom a b o ls 0 0 os : Int) < 0) := by omega
      simp +contextual only [a_s_IsSafeOrder, c_s_IsSafeOrder, e_s_l10Order (cells_mono hq _) (cells_mono h _) (show os.length ≤ 9223372036854775806 by omega), ht, h1, h2, h3, decide_false, Bool.and_false, go_sem, entry, joinEsc, if_pos, reduceIte, Nat.reduceAdd, Nat.reduceLeDiff, Nat.reduceLT, Nat.reduceEqDiff]

theorem e_s_IsRaft (a b o : Int) : call T pr f_s_IsRaft [rfV a b o] ⟨H, e⟩ = some (.bool (raftOk a b o), ⟨H, e⟩) := by
  rw [call_eq t_s_IsRaft]
  simp +contextual only [a_s_IsRaft, c_s_IsRaft, e_s_l10Raft, go_sem, entry, joinEsc, if_pos, reduceIte, Nat.reduceAdd, Nat.reduceLeDiff, Nat.reduceLT, Nat.reduceEqDiff]

theorem e_l_rHas {q : Nat} {c : Option Nat} {ls : List Int} (h : cellsAt H q = some (encI ls)) (hn : ls.length ≤ 1048576) (x : Int) (n : Nat) (hnl : n ≤ ls.length) : call T pr f_l_rHas [slI q n c, .int .i64 x] ⟨H, e⟩ = some (.bool (decide (x ∈ ls.take n)), ⟨H, e⟩) := by
  apply Wc.eq
  rw [call_wc t_l_rHas]
  simp +contextual only [a_l_rHas, c_l_rHas, Wp_some, Wp_none, Wp_ite, Wc_some, Wc_none, Wc_ite, Wp_thenRun, seqQ_normal, seqQ_exit, seqQ_ret, Wp_inBlock, blkQ_normal, blkQ_ret, blkQ_same, blkQ_exit, Wp_opThen, opQ_at, Wp_guardP, retQ_normal, retQ_ret, loopQ_normal, loopQ_exit, loopQ_ret, go_sem, entry, joinEsc, if_pos, reduceIte, Nat.reduceAdd, Nat.reduceLeDiff, Nat.reduceLT, Nat.reduceEqDiff]
  refine Wp_loop (fun k st => ∃ (i : Nat) (w4 w5 : AV), i + k = n ∧ x ∉ ls.take i ∧ st = ⟨[slI q n c, .int .i64 x, .bool false, .int .i64 i, w4, w5], ⟨H, none⟩⟩) ?_ n _ ⟨0, _, _, Nat.zero_add _, by simp, rfl⟩
  rintro k _ ⟨i, w4, w5, hi, hx, rfl⟩
  by_cases hk : k = 0
  · have hd' : ¬ i < n := by omega
    have he : i = n := by omega
    subst he
    simp +contextual only [w_l_rHas_1, hx, Nat.lt_irrefl, decide_false, Wp_some, Wp_none, Wp_ite, Wc_some, Wc_none, Wc_ite, Wp_thenRun, seqQ_normal, seqQ_exit, seqQ_ret, Wp_inBlock, blkQ_normal, blkQ_ret, blkQ_same, blkQ_exit, Wp_opThen, opQ_at, Wp_guardP, retQ_normal, retQ_ret, loopQ_normal, loopQ_exit, loopQ_ret, finish_one_eq, finish_one_eq0, finish_two_eq, finish_two_eq0, roots_slice_new, roots_slice_new0, roots_slice_none, roots_ptr_new, roots_ptr_new0, roots_int, roots_bool, roots_str, roots_agg, roots_tup, roots_cons, roots_nil, rename_slice, rename_slice_none, rename_ptr, rename_int, rename_bool, rename_str, rename_agg, rename_tup, rename_cons, rename_nil, keepBlks_nil, keepBlks_cons, flatAll_nil, flatAll_cons, flatBlk_cells, dedup_nil, dedup_one, dedup_two, renum_one, renum_one0, renum_two0, renum_two1, clean_none', clean_some, minEsc_none, minEsc_some, Nat.add_left_cancel_iff, Nat.le_add_right, Nat.le_refl, decide_true, go_sem, entry, joinEsc, if_pos, reduceIte, Nat.reduceAdd, Nat.reduceLeDiff, Nat.reduceLT, Nat.reduceEqDiff]
  · have hd' : i < n := by omega
    have hil : i < ls.length := by omega
    have hl : ls[i]? = some ls[i] := List.getElem?_eq_getElem hil
    have hw := wrap_succ (show i < 9223372036854775807 by omega)
    have hts : ls.take (i + 1) = ls.take i ++ [ls[i]] := List.take_succ_eq_append_getElem hil
    by_cases hxe : ls[i] = x
    · have hin : x ∈ ls.take n := by
        rw [← hxe]
        have := List.getElem_mem (l := ls.take n) (n := i) (by rw [List.length_take]; omega)
        rwa [List.getElem_take] at this
      simp +contextual only [w_l_rHas_1, h, hd', hxe, hin, part_encI _ hl, Nat.mul_one, decide_true, Wp_some, Wp_none, Wp_ite, Wc_some, Wc_none, Wc_ite, Wp_thenRun, seqQ_normal, seqQ_exit, seqQ_ret, Wp_inBlock, blkQ_normal, blkQ_ret, blkQ_same, blkQ_exit, Wp_opThen, opQ_at, Wp_guardP, retQ_normal, retQ_ret, loopQ_normal, loopQ_exit, loopQ_ret, finish_one_eq, finish_one_eq0, finish_two_eq, finish_two_eq0, roots_slice_new, roots_slice_new0, roots_slice_none, roots_ptr_new, roots_ptr_new0, roots_int, roots_bool, roots_str, roots_agg, roots_tup, roots_cons, roots_nil, rename_slice, rename_slice_none, rename_ptr, rename_int, rename_bool, rename_str, rename_agg, rename_tup, rename_cons, rename_nil, keepBlks_nil, keepBlks_cons, flatAll_nil, flatAll_cons, flatBlk_cells, dedup_nil, dedup_one, dedup_two, renum_one, renum_one0, renum_two0, renum_two1, clean_none', clean_some, minEsc_none, minEsc_some, Nat.add_left_cancel_iff, Nat.le_add_right, Nat.le_refl, decide_true, go_sem, entry, joinEsc, if_pos, reduceIte, Nat.reduceAdd, Nat.reduceLeDiff, Nat.reduceLT, Nat.reduceEqDiff]
    · have hnx : x ∉ ls.take (i + 1) := by
        rw [hts, List.mem_append, List.mem_singleton]
        rintro (h | h)
        · exact hx h
        · exact hxe h.symm
      simp +contextual only [w_l_rHas_1, h, hd', hxe, hw, part_encI _ hl, Nat.mul_one, decide_true, decide_false, Wp_some, Wp_none, Wp_ite, Wc_some, Wc_none, Wc_ite, Wp_thenRun, seqQ_normal, seqQ_exit, seqQ_ret, Wp_inBlock, blkQ_normal, blkQ_ret, blkQ_same, blkQ_exit, Wp_opThen, opQ_at, Wp_guardP, retQ_normal, retQ_ret, loopQ_normal, loopQ_exit, loopQ_ret, go_sem, entry, joinEsc, if_pos, reduceIte, Nat.reduceAdd, Nat.reduceLeDiff, Nat.reduceLT, Nat.reduceEqDiff]
      exact ⟨k - 1, by omega, i + 1, _, _, by omega, hnx, rfl⟩

end Go.Proofs.Ytlcklonakjhoiaa.Slim

/- Rafts: the law on sets and first tips: its loops. -/
namespace Go.Proofs.Ytlcklonakjhoiaa.Slim

open Go

set_option linter.unusedSimpArgs false

set_option linter.unusedVariables false

variable {pr : Prims} {H : List Blk} {e : Option Nat}

theorem encI_snoc (xs : List Int) (x : Int) : encI xs ++ [AV.int .i64 x] = encI (xs ++ [x]) := by simp [encI]

/-- the items of a set, listed -/
theorem rafts_1 {a0 a1 a2 a4 a5 a6 a7 a8 a9 a10 a11 a12 a13 a14 a15 a16 a17 a18 a19 a20 a21 a22 a23 a24 a25 a26 a27 a28 a29 a30 a31 a35 a36 a37 a38 a39 a40 a41 a42 a43 a44 a45 a46 a47 a48 a49 a50 a51 a54 a55 a56 a57 a58 a59 a60 a61 a62 a52 a53 : AV} {q n m : Nat} {c : Option Nat} (hn8 : n ≤ 8) (hm : m < 2 ^ n) :
    Wp (run T pr (.loop w_l_FnRafts_1) ⟨[a0, a1, a2, slL q n c, a4, a5, a6, a7, a8, a9, a10, a11, a12, a13, a14, a15, a16, a17, a18, a19, a20, a21, a22, a23, a24, a25, a26, a27, a28, a29, a30, a31, .int .i64 m, slI H.length 0 (some 0), .int .i64 0, a35, a36, a37, a38, a39, a40, a41, a42, a43, a44, a45, a46, a47, a48, a49, a50, a51, a52, a53, a54, a55, a56, a57, a58, a59, a60, a61, a62], ⟨H ++ [.cells [] true], none⟩⟩) (fun ex st => ex = .exit 2 ∧ ∃ (L : List Blk) (b : Nat) (c' : Option Nat) (w52 w53 : AV), Grown H L ∧ L[b]? = some (.cells (encI (setL n m)) true) ∧ st = ⟨[a0, a1, a2, slL q n c, a4, a5, a6, a7, a8, a9, a10, a11, a12, a13, a14, a15, a16, a17, a18, a19, a20, a21, a22, a23, a24, a25, a26, a27, a28, a29, a30, a31, .int .i64 m, slI b (setL n m).length c', .int .i64 n, a35, a36, a37, a38, a39, a40, a41, a42, a43, a44, a45, a46, a47, a48, a49, a50, a51, w52, w53, a54, a55, a56, a57, a58, a59, a60, a61, a62], ⟨L, none⟩⟩) := by
  have hp8 : (2 : Nat) ^ n ≤ 2 ^ 8 := Nat.pow_le_pow_right (by omega) hn8
  have h256 : (2 : Nat) ^ 8 = 256 := by decide
  refine Wp_loop (fun k st => ∃ (i : Nat) (L : List Blk) (b : Nat) (c' : Option Nat) (w52 w53 : AV), i + k = n ∧ H.length ≤ b ∧ (c' = some 0 → (setL i m).length = 0) ∧ Grown H L ∧ L[b]? = some (.cells (encI (setL i m)) true) ∧ st = ⟨[a0, a1, a2, slL q n c, a4, a5, a6, a7, a8, a9, a10, a11, a12, a13, a14, a15, a16, a17, a18, a19, a20, a21, a22, a23, a24, a25, a26, a27, a28, a29, a30, a31, .int .i64 m, slI b (setL i m).length c', .int .i64 i, a35, a36, a37, a38, a39, a40, a41, a42, a43, a44, a45, a46, a47, a48, a49, a50, a51, w52, w53, a54, a55, a56, a57, a58, a59, a60, a61, a62], ⟨L, none⟩⟩) ?_ n _
    ⟨0, _, H.length, some 0, _, _, Nat.zero_add _, Nat.le_refl _, fun _ => rfl, ⟨_, rfl⟩, by rw [blkAt_new0]; rfl, rfl⟩
  rintro k _ ⟨i, L, b, c', w52, w53, hi, hb, hcap, hg, hL, rfl⟩
  by_cases hk : k = 0
  · have hd' : ¬ i < n := by omega
    have he : i = n := by omega
    subst he
    simp (maxSteps := 2000000) +contextual only [w_l_FnRafts_1, Nat.lt_irrefl, decide_false, Wp_some, Wp_none, Wp_ite, Wc_some, Wc_none, Wc_ite, Wp_thenRun, seqQ_normal, seqQ_exit, seqQ_ret, Wp_inBlock, blkQ_normal, blkQ_ret, blkQ_same, blkQ_exit, Wp_opThen, opQ_at, Wp_guardP, retQ_normal, retQ_ret, loopQ_normal, loopQ_exit, loopQ_ret, go_sem, entry, joinEsc, if_pos, reduceIte, Nat.reduceAdd, Nat.reduceLeDiff, Nat.reduceLT, Nat.reduceEqDiff]
    exact ⟨L, b, c', _, _, hg, hL, rfl⟩
  · have hd' : i < n := by omega
    have hw := wrap_succ (show i < 9223372036854775807 by omega)
    have hsu := setL_succ i m
    have hlen := setL_len i m
    cases hbit : m.testBit i with
    | false =>
      have hb0 := bit_clear (c := m) (i := i) (by omega) (by omega) hbit
      rw [hbit, if_neg (by simp), List.append_nil] at hsu
      simp (maxSteps := 2000000) +contextual only [w_l_FnRafts_1, hd', shr_nat, hb0, hw, show ¬ ((0 : Int) = 1) by omega, decide_false, decide_true, Wp_some, Wp_none, Wp_ite, Wc_some, Wc_none, Wc_ite, Wp_thenRun, seqQ_normal, seqQ_exit, seqQ_ret, Wp_inBlock, blkQ_normal, blkQ_ret, blkQ_same, blkQ_exit, Wp_opThen, opQ_at, Wp_guardP, retQ_normal, retQ_ret, loopQ_normal, loopQ_exit, loopQ_ret, go_sem, entry, joinEsc, if_pos, reduceIte, Nat.reduceAdd, Nat.reduceLeDiff, Nat.reduceLT, Nat.reduceEqDiff]
      exact ⟨k - 1, by omega, i + 1, L, b, c', _, _, by omega, hb, by rw [hsu]; exact hcap, hg, by rw [hsu]; exact hL, by rw [hsu]⟩
    | true =>
      have hb1 := bit_set (c := m) (i := i) (by omega) (by omega) hbit
      rw [hbit, if_pos rfl] at hsu
      simp (maxSteps := 2000000) +contextual only [w_l_FnRafts_1, fillParts, hd', shr_nat, hb1, hw, decide_true, Wp_some, Wp_none, Wp_ite, Wc_some, Wc_none, Wc_ite, Wp_thenRun, seqQ_normal, seqQ_exit, seqQ_ret, Wp_inBlock, blkQ_normal, blkQ_ret, blkQ_same, blkQ_exit, Wp_opThen, opQ_at, Wp_guardP, retQ_normal, retQ_ret, loopQ_normal, loopQ_exit, loopQ_ret, go_sem, entry, joinEsc, if_pos, reduceIte, Nat.reduceAdd, Nat.reduceLeDiff, Nat.reduceLT, Nat.reduceEqDiff]
      refine wc_ap (k := 1) (new := [.int .i64 i]) (get_more hL _) (src_new _ 1 1 _ _ L.length (by simp +contextual only [go_sem, entry, joinEsc, if_pos, reduceIte, Nat.reduceAdd, Nat.reduceLeDiff, Nat.reduceLT, Nat.reduceEqDiff]) rfl) (by simp) rfl (by unfold maxBytes; omega) hcap ?_
      intro L2 e1 e2 e3 e4
      rw [encI_snoc, ← hsu] at e3
      simp (maxSteps := 2000000) +contextual only [hw, Wp_some, Wp_none, Wp_ite, Wc_some, Wc_none, Wc_ite, Wp_thenRun, seqQ_normal, seqQ_exit, seqQ_ret, Wp_inBlock, blkQ_normal, blkQ_ret, blkQ_same, blkQ_exit, Wp_opThen, opQ_at, Wp_guardP, retQ_normal, retQ_ret, loopQ_normal, loopQ_exit, loopQ_ret, go_sem, entry, joinEsc, if_pos, reduceIte, Nat.reduceAdd, Nat.reduceLeDiff, Nat.reduceLT, Nat.reduceEqDiff]
      rw [show (setL i m).length + 1 = (setL (i + 1) m).length by rw [hsu]; simp]
      exact ⟨k - 1, by omega, i + 1, L2, _, none, _, _, by omega, by have := hg.le; omega, by simp, e4 _ (hg.more _) hb, by simpa using e3, rfl⟩

/-- the safe sets, counted by their sides -/
theorem rafts_2 {a0 a1 a4 a5 a6 a7 a8 a9 a10 a11 a12 a13 a14 a15 a16 a17 a18 a19 a20 a21 a22 a23 a24 a25 a26 a27 a28 a29 a30 a37 a38 a39 a40 a41 a42 a43 a44 a45 a46 a47 a48 a49 a50 a56 a57 a58 a59 a60 a61 a62 a33 a34 a35 a36 a51 a52 a53 a54 a55 : AV} {q u : Nat} {c : Option Nat} {ls : List Ld} {a b o : Int} (hq : cellsAt H q = some (encL ls)) (hu : cellsAt H u = some [.int .i64 a, .int .i64 b, .int .i64 o]) (hok : cargoOk a b o ls = true) :
    Wp (run T pr (.loop w_l_FnRafts_2) ⟨[a0, a1, .ptr (some (u, 0)), slL q ls.length c, a4, a5, a6, a7, a8, a9, a10, a11, a12, a13, a14, a15, a16, a17, a18, a19, a20, a21, a22, a23, a24, a25, a26, a27, a28, a29, a30, .int .i64 0, .int .i64 0, a33, a34, a35, a36, a37, a38, a39, a40, a41, a42, a43, a44, a45, a46, a47, a48, a49, a50, a51, a52, a53, a54, a55, a56, a57, a58, a59, a60, a61, a62], ⟨H, none⟩⟩) (fun ex st => ex = .exit 0 ∧ ∃ (L : List Blk) (w33 w34 w35 w36 w51 w52 w53 w54 w55 : AV), Grown H L ∧ st = ⟨[a0, a1, .ptr (some (u, 0)), slL q ls.length c, a4, a5, a6, a7, a8, a9, a10, a11, a12, a13, a14, a15, a16, a17, a18, a19, a20, a21, a22, a23, a24, a25, a26, a27, a28, a29, a30, .int .i64 (cntS a b o ls (2 ^ ls.length)), .int .i64 ((2 ^ ls.length : Nat) : Int), w33, w34, w35, w36, a37, a38, a39, a40, a41, a42, a43, a44, a45, a46, a47, a48, a49, a50, w51, w52, w53, w54, w55, a56, a57, a58, a59, a60, a61, a62], ⟨L, none⟩⟩) := by
  have hn8 := cargo_le hok
  obtain ⟨p1, p2, p3⟩ := pow_facts ls.length (by omega)
  refine Wp_loop (fun k st => ∃ (i : Nat) (L : List Blk) (w33 w34 w35 w36 w51 w52 w53 w54 w55 : AV), i + k = 2 ^ ls.length ∧ Grown H L ∧ st = ⟨[a0, a1, .ptr (some (u, 0)), slL q ls.length c, a4, a5, a6, a7, a8, a9, a10, a11, a12, a13, a14, a15, a16, a17, a18, a19, a20, a21, a22, a23, a24, a25, a26, a27, a28, a29, a30, .int .i64 (cntS a b o ls i), .int .i64 i, w33, w34, w35, w36, a37, a38, a39, a40, a41, a42, a43, a44, a45, a46, a47, a48, a49, a50, w51, w52, w53, w54, w55, a56, a57, a58, a59, a60, a61, a62], ⟨L, none⟩⟩) ?_ (2 ^ ls.length) _
    ⟨0, _, _, _, _, _, _, _, _, _, _, Nat.zero_add _, Grown.refl _, rfl⟩
  rintro k _ ⟨i, L, w33, w34, w35, w36, w51, w52, w53, w54, w55, hi, hg, rfl⟩
  by_cases hk : k = 0
  · have hd' : ¬ i < 2 ^ ls.length := by omega
    have he : i = 2 ^ ls.length := by omega
    have hd : decide ((i : Int) < ((2 ^ ls.length : Nat) : Int)) = false := decide_eq_false (by omega)
    simp (maxSteps := 2000000) +contextual only [w_l_FnRafts_2, shl_nat, p1, hd, hd', he, Nat.lt_irrefl, decide_false, Wp_some, Wp_none, Wp_ite, Wc_some, Wc_none, Wc_ite, Wp_thenRun, seqQ_normal, seqQ_exit, seqQ_ret, Wp_inBlock, blkQ_normal, blkQ_ret, blkQ_same, blkQ_exit, Wp_opThen, opQ_at, Wp_guardP, retQ_normal, retQ_ret, loopQ_normal, loopQ_exit, loopQ_ret, go_sem, entry, joinEsc, if_pos, reduceIte, Nat.reduceAdd, Nat.reduceLeDiff, Nat.reduceLT, Nat.reduceEqDiff]
    exact ⟨L, _, _, _, _, _, _, _, _, _, hg, rfl⟩
  · have hd' : i < 2 ^ ls.length := by omega
    have hd : decide ((i : Int) < ((2 ^ ls.length : Nat) : Int)) = true := decide_eq_true (by omega)
    have hw := wrap_succ (show i < 9223372036854775807 by omega)
    have hcl := cntS_le a b o ls i
    have hwc := wrap_succ (show cntS a b o ls i < 9223372036854775807 by omega)
    have hct : cntS a b o ls (i + 1) = cntS a b o ls i + if safeW a b o ls (i : Int) = true then 1 else 0 := rfl
    obtain ⟨f1, f2⟩ := setL_facts ls.length (by omega) i hd'
    have hset : setOk a b o ls (setL ls.length i) = true := by unfold setOk; rw [hok, f1]; rfl
    simp (maxSteps := 2000000) +contextual only [w_l_FnRafts_2, fillParts, shl_nat, p1, hd, hd', decide_true, Wp_some, Wp_none, Wp_ite, Wc_some, Wc_none, Wc_ite, Wp_thenRun, seqQ_normal, seqQ_exit, seqQ_ret, Wp_inBlock, blkQ_normal, blkQ_ret, blkQ_same, blkQ_exit, Wp_opThen, opQ_at, Wp_guardP, retQ_normal, retQ_ret, loopQ_normal, loopQ_exit, loopQ_ret, go_sem, entry, joinEsc, if_pos, reduceIte, Nat.reduceAdd, Nat.reduceLeDiff, Nat.reduceLT, Nat.reduceEqDiff]
    refine (rafts_1 (H := L) hn8 hd').mono ?_
    rintro ex st ⟨rfl, L', b', c', w52', w53', hg', hL', rfl⟩
    obtain ⟨G', rfl⟩ := hg'
    obtain ⟨G, rfl⟩ := hg
    rw [List.append_assoc] at hL' ⊢
    have hls : (setL ls.length i).length ≤ 1048576 := Nat.le_trans (setL_len _ _) (by omega)
    have hr := e_i_RaftSide (pr := pr) (H := H ++ (G ++ G')) (e := none) (c := c) (c' := c') (cells_mono hq _) (cellsAt_of hL') (by omega) hls a b o
    unfold sideT at hr
    rw [hset, if_pos rfl, f2] at hr
    have hz := sideR_zero a b o ls (i : Int)
    have hu' := cells_mono hu (G ++ G')
    cases hs : safeW a b o ls (i : Int) with
    | true =>
      rw [hs, if_pos rfl] at hct
      rw [hz.mpr hs] at hr
      simp (maxSteps := 2000000) +contextual only [hr, hu', hw, hwc, decide_true, Wp_some, Wp_none, Wp_ite, Wc_some, Wc_none, Wc_ite, Wp_thenRun, seqQ_normal, seqQ_exit, seqQ_ret, Wp_inBlock, blkQ_normal, blkQ_ret, blkQ_same, blkQ_exit, Wp_opThen, opQ_at, Wp_guardP, retQ_normal, retQ_ret, loopQ_normal, loopQ_exit, loopQ_ret, go_sem, entry, joinEsc, if_pos, reduceIte, Nat.reduceAdd, Nat.reduceLeDiff, Nat.reduceLT, Nat.reduceEqDiff]
      exact ⟨k - 1, by omega, i + 1, _, _, _, _, _, _, _, _, _, _, by omega, ⟨_, rfl⟩, by rw [hct]⟩
    | false =>
      rw [hs, if_neg (by simp)] at hct
      have hct : cntS a b o ls (i + 1) = cntS a b o ls i := hct
      have hnz : ¬ sideR a b o ls (i : Int) = 0 := fun h => by rw [hz.mp h] at hs; cases hs
      simp (maxSteps := 2000000) +contextual only [hr, hu', hw, hwc, hnz, decide_false, Wp_some, Wp_none, Wp_ite, Wc_some, Wc_none, Wc_ite, Wp_thenRun, seqQ_normal, seqQ_exit, seqQ_ret, Wp_inBlock, blkQ_normal, blkQ_ret, blkQ_same, blkQ_exit, Wp_opThen, opQ_at, Wp_guardP, retQ_normal, retQ_ret, loopQ_normal, loopQ_exit, loopQ_ret, go_sem, entry, joinEsc, if_pos, reduceIte, Nat.reduceAdd, Nat.reduceLeDiff, Nat.reduceLT, Nat.reduceEqDiff]
      exact ⟨k - 1, by omega, i + 1, _, _, _, _, _, _, _, _, _, _, by omega, ⟨_, rfl⟩, by rw [hct]⟩

/-- the items among these, listed -/
def hasL (os : List Int) (i : Nat) : List Int := ((List.range i).filter fun (j : Nat) => decide ((j : Int) ∈ os)).map fun (j : Nat) => (j : Int)

theorem hasL_succ (os : List Int) (i : Nat) : hasL os (i + 1) = hasL os i ++ (if (i : Int) ∈ os then [(i : Int)] else []) := by
  unfold hasL
  rw [List.range_succ, List.filter_append, List.map_append]
  by_cases h : (i : Int) ∈ os <;> simp [h]

theorem hasL_len (os : List Int) (n : Nat) : (hasL os n).length ≤ n := by
  unfold hasL
  rw [List.length_map]
  exact Nat.le_trans (List.length_filter_le _ _) (by simp)

theorem rafts_3 {a0 a1 a2 a3 a4 a5 a6 a7 a8 a9 a10 a11 a12 a13 a14 a15 a16 a17 a18 a19 a22 a23 a24 a25 a26 a27 a28 a29 a30 a31 a32 a33 a34 a35 a36 a37 a41 a42 a43 a44 a45 a46 a47 a48 a49 a50 a51 a52 a53 a54 a55 a56 a57 a58 a61 a62 a59 a60 : AV} {q q' n K : Nat} {c c' : Option Nat} {os : List Int} (hn8 : n ≤ 8) (hq' : cellsAt H q' = some (encI os)) (hos : os.length ≤ 1048576) (hK : K ≤ os.length) :
    Wp (run T pr (.loop w_l_FnRafts_3) ⟨[a0, a1, a2, a3, a4, a5, a6, a7, a8, a9, a10, a11, a12, a13, a14, a15, a16, a17, a18, a19, slL q n c, slI q' os.length c', a22, a23, a24, a25, a26, a27, a28, a29, a30, a31, a32, a33, a34, a35, a36, a37, .int .i64 K, slI H.length 0 (some 0), .int .i64 0, a41, a42, a43, a44, a45, a46, a47, a48, a49, a50, a51, a52, a53, a54, a55, a56, a57, a58, a59, a60, a61, a62], ⟨H ++ [.cells [] true], none⟩⟩) (fun ex st => ex = .exit 6 ∧ ∃ (L : List Blk) (b : Nat) (c'' : Option Nat) (w59 w60 : AV), Grown H L ∧ L[b]? = some (.cells (encI (hasL (os.take K) n)) true) ∧ st = ⟨[a0, a1, a2, a3, a4, a5, a6, a7, a8, a9, a10, a11, a12, a13, a14, a15, a16, a17, a18, a19, slL q n c, slI q' os.length c', a22, a23, a24, a25, a26, a27, a28, a29, a30, a31, a32, a33, a34, a35, a36, a37, .int .i64 K, slI b (hasL (os.take K) n).length c'', .int .i64 n, a41, a42, a43, a44, a45, a46, a47, a48, a49, a50, a51, a52, a53, a54, a55, a56, a57, a58, w59, w60, a61, a62], ⟨L, none⟩⟩) := by
  refine Wp_loop (fun k st => ∃ (i : Nat) (L : List Blk) (b : Nat) (c'' : Option Nat) (w59 w60 : AV), i + k = n ∧ H.length ≤ b ∧ (c'' = some 0 → (hasL (os.take K) i).length = 0) ∧ Grown H L ∧ L[b]? = some (.cells (encI (hasL (os.take K) i)) true) ∧ st = ⟨[a0, a1, a2, a3, a4, a5, a6, a7, a8, a9, a10, a11, a12, a13, a14, a15, a16, a17, a18, a19, slL q n c, slI q' os.length c', a22, a23, a24, a25, a26, a27, a28, a29, a30, a31, a32, a33, a34, a35, a36, a37, .int .i64 K, slI b (hasL (os.take K) i).length c'', .int .i64 i, a41, a42, a43, a44, a45, a46, a47, a48, a49, a50, a51, a52, a53, a54, a55, a56, a57, a58, w59, w60, a61, a62], ⟨L, none⟩⟩) ?_ n _
    ⟨0, _, H.length, some 0, _, _, Nat.zero_add _, Nat.le_refl _, fun _ => rfl, ⟨_, rfl⟩, by rw [blkAt_new0]; rfl, rfl⟩
  rintro k _ ⟨i, L, b, c'', w59, w60, hi, hb, hcap, hg, hL, rfl⟩
  by_cases hk : k = 0
  · have hd' : ¬ i < n := by omega
    have he : i = n := by omega
    subst he
    simp (maxSteps := 2000000) +contextual only [w_l_FnRafts_3, Nat.lt_irrefl, decide_false, Wp_some, Wp_none, Wp_ite, Wc_some, Wc_none, Wc_ite, Wp_thenRun, seqQ_normal, seqQ_exit, seqQ_ret, Wp_inBlock, blkQ_normal, blkQ_ret, blkQ_same, blkQ_exit, Wp_opThen, opQ_at, Wp_guardP, retQ_normal, retQ_ret, loopQ_normal, loopQ_exit, loopQ_ret, go_sem, entry, joinEsc, if_pos, reduceIte, Nat.reduceAdd, Nat.reduceLeDiff, Nat.reduceLT, Nat.reduceEqDiff]
    exact ⟨L, b, c'', _, _, hg, hL, rfl⟩
  · have hd' : i < n := by omega
    have hw := wrap_succ (show i < 9223372036854775807 by omega)
    have hsu := hasL_succ (os.take K) i
    have hlen := hasL_len (os.take K) i
    have hqL : cellsAt L q' = some (encI os) := by
      obtain ⟨G, rfl⟩ := hg
      exact cells_mono hq' G
    have hrh := e_l_rHas (pr := pr) (H := L) (e := none) (c := c') hqL hos (i : Int) K hK
    have hsl := slHiV_c 1 q' os.length K c' hK
    by_cases hin : (i : Int) ∈ os.take K
    · rw [if_pos hin] at hsu
      simp (maxSteps := 2000000) +contextual only [w_l_FnRafts_3, fillParts, aop_slHi, hsl, hrh, hd', hin, hw, decide_true, Wp_some, Wp_none, Wp_ite, Wc_some, Wc_none, Wc_ite, Wp_thenRun, seqQ_normal, seqQ_exit, seqQ_ret, Wp_inBlock, blkQ_normal, blkQ_ret, blkQ_same, blkQ_exit, Wp_opThen, opQ_at, Wp_guardP, retQ_normal, retQ_ret, loopQ_normal, loopQ_exit, loopQ_ret, go_sem, entry, joinEsc, if_pos, reduceIte, Nat.reduceAdd, Nat.reduceLeDiff, Nat.reduceLT, Nat.reduceEqDiff]
      refine wc_ap (k := 1) (new := [.int .i64 i]) (get_more hL _) (src_new _ 1 1 _ _ L.length (by simp +contextual only [go_sem, entry, joinEsc, if_pos, reduceIte, Nat.reduceAdd, Nat.reduceLeDiff, Nat.reduceLT, Nat.reduceEqDiff]) rfl) (by simp) rfl (by unfold maxBytes; omega) hcap ?_
      intro L2 e1 e2 e3 e4
      rw [encI_snoc, ← hsu] at e3
      simp (maxSteps := 2000000) +contextual only [hw, Wp_some, Wp_none, Wp_ite, Wc_some, Wc_none, Wc_ite, Wp_thenRun, seqQ_normal, seqQ_exit, seqQ_ret, Wp_inBlock, blkQ_normal, blkQ_ret, blkQ_same, blkQ_exit, Wp_opThen, opQ_at, Wp_guardP, retQ_normal, retQ_ret, loopQ_normal, loopQ_exit, loopQ_ret, go_sem, entry, joinEsc, if_pos, reduceIte, Nat.reduceAdd, Nat.reduceLeDiff, Nat.reduceLT, Nat.reduceEqDiff]
      rw [show (hasL (os.take K) i).length + 1 = (hasL (os.take K) (i + 1)).length by rw [hsu]; simp]
      exact ⟨k - 1, by omega, i + 1, L2, _, none, _, _, by omega, by have := hg.le; omega, by simp, e4 _ (hg.more _) hb, by simpa using e3, rfl⟩
    · rw [if_neg hin, List.append_nil] at hsu
      simp (maxSteps := 2000000) +contextual only [w_l_FnRafts_3, aop_slHi, hsl, hrh, hd', hin, hw, decide_false, decide_true, Wp_some, Wp_none, Wp_ite, Wc_some, Wc_none, Wc_ite, Wp_thenRun, seqQ_normal, seqQ_exit, seqQ_ret, Wp_inBlock, blkQ_normal, blkQ_ret, blkQ_same, blkQ_exit, Wp_opThen, opQ_at, Wp_guardP, retQ_normal, retQ_ret, loopQ_normal, loopQ_exit, loopQ_ret, go_sem, entry, joinEsc, if_pos, reduceIte, Nat.reduceAdd, Nat.reduceLeDiff, Nat.reduceLT, Nat.reduceEqDiff]
      exact ⟨k - 1, by omega, i + 1, L, b, c'', _, _, by omega, hb, by rw [hsu]; exact hcap, hg, by rw [hsu]; exact hL, by rw [hsu]⟩

/-- a first tip, or -1 -/
def fstI (t : Nat) : Int := if t = 0 then -1 else (t : Int)

theorem rafts_4 {a0 a1 a2 a3 a4 a5 a6 a7 a8 a9 a10 a11 a12 a13 a14 a15 a16 a17 a18 a22 a23 a24 a25 a26 a27 a28 a29 a30 a31 a32 a33 a34 a35 a36 a43 a44 a45 a46 a47 a48 a49 a50 a51 a52 a53 a54 a55 a56 a57 a39 a40 a41 a42 a58 a59 a60 a61 a62 : AV} {q q' u : Nat} {c c' : Option Nat} {ls : List Ld} {os : List Int} {a b o : Int} (hq : cellsAt H q = some (encL ls)) (hq' : cellsAt H q' = some (encI os)) (hu : cellsAt H u = some [.int .i64 a, .int .i64 b, .int .i64 o]) (hok : ordR a b o ls os = true) :
    Wp (run T pr (.loop w_l_FnRafts_4) ⟨[a0, a1, a2, a3, a4, a5, a6, a7, a8, a9, a10, a11, a12, a13, a14, a15, a16, a17, a18, .ptr (some (u, 0)), slL q ls.length c, slI q' os.length c', a22, a23, a24, a25, a26, a27, a28, a29, a30, a31, a32, a33, a34, a35, a36, .int .i64 (-1), .int .i64 1, a39, a40, a41, a42, a43, a44, a45, a46, a47, a48, a49, a50, a51, a52, a53, a54, a55, a56, a57, a58, a59, a60, a61, a62], ⟨H, none⟩⟩) (fun ex st => ex = .exit 4 ∧ ∃ (L : List Blk) (w38 w39 w40 w41 w42 w58 w59 w60 w61 w62 : AV), st = ⟨[a0, a1, a2, a3, a4, a5, a6, a7, a8, a9, a10, a11, a12, a13, a14, a15, a16, a17, a18, .ptr (some (u, 0)), slL q ls.length c, slI q' os.length c', a22, a23, a24, a25, a26, a27, a28, a29, a30, a31, a32, a33, a34, a35, a36, .int .i64 (fstI (tipFrom a b o ls 0 0 os)), w38, w39, w40, w41, w42, a43, a44, a45, a46, a47, a48, a49, a50, a51, a52, a53, a54, a55, a56, a57, w58, w59, w60, w61, w62], ⟨L, none⟩⟩) := by
  unfold ordR at hok
  rw [Bool.and_eq_true, Bool.and_eq_true, decide_eq_true_eq] at hok
  obtain ⟨hcg, hor, hlen⟩ := hok
  have hn8 := cargo_le hcg
  refine Wp_loop (fun k st => ∃ (i : Nat) (L : List Blk) (w39 w40 w41 w42 w58 w59 w60 w61 w62 : AV), i + k = os.length ∧ Grown H L ∧ st = ⟨[a0, a1, a2, a3, a4, a5, a6, a7, a8, a9, a10, a11, a12, a13, a14, a15, a16, a17, a18, .ptr (some (u, 0)), slL q ls.length c, slI q' os.length c', a22, a23, a24, a25, a26, a27, a28, a29, a30, a31, a32, a33, a34, a35, a36, .int .i64 (fstI (tipFrom a b o ls 0 0 (os.take i))), .int .i64 ((i + 1 : Nat) : Int), w39, w40, w41, w42, a43, a44, a45, a46, a47, a48, a49, a50, a51, a52, a53, a54, a55, a56, a57, w58, w59, w60, w61, w62], ⟨L, none⟩⟩) ?_ os.length _
    ⟨0, _, _, _, _, _, _, _, _, _, _, Nat.zero_add _, Grown.refl _, rfl⟩
  rintro k _ ⟨i, L, w39, w40, w41, w42, w58, w59, w60, w61, w62, hi, hg, rfl⟩
  by_cases hk : k = 0
  · have he : i = os.length := by omega
    have hd : decide (((i + 1 : Nat) : Int) ≤ (os.length : Int)) = false := decide_eq_false (by omega)
    have hd' : ¬ i + 1 ≤ os.length := by omega
    have hta : os.take i = os := List.take_of_length_le (by omega)
    simp (maxSteps := 2000000) +contextual only [w_l_FnRafts_4, hd, hd', hta, decide_false, Wp_some, Wp_none, Wp_ite, Wc_some, Wc_none, Wc_ite, Wp_thenRun, seqQ_normal, seqQ_exit, seqQ_ret, Wp_inBlock, blkQ_normal, blkQ_ret, blkQ_same, blkQ_exit, Wp_opThen, opQ_at, Wp_guardP, retQ_normal, retQ_ret, loopQ_normal, loopQ_exit, loopQ_ret, go_sem, entry, joinEsc, if_pos, reduceIte, Nat.reduceAdd, Nat.reduceLeDiff, Nat.reduceLT, Nat.reduceEqDiff]
    exact ⟨L, _, _, _, _, _, _, _, _, _, _, rfl⟩
  · have hd : decide (((i + 1 : Nat) : Int) ≤ (os.length : Int)) = true := decide_eq_true (by omega)
    have hd' : i + 1 ≤ os.length := by omega
    have hqL : cellsAt L q' = some (encI os) := by
      obtain ⟨G, rfl⟩ := hg
      exact cells_mono hq' G
    have hw : IntKind.i64.wrap ((i + 1 : Nat) + 1 : Int) = ((i + 1 + 1 : Nat) : Int) := wrap_succ (show i + 1 < 9223372036854775807 by omega)
    simp (maxSteps := 2000000) +contextual only [w_l_FnRafts_4, fillParts, hd, hd', decide_true, Wp_some, Wp_none, Wp_ite, Wc_some, Wc_none, Wc_ite, Wp_thenRun, seqQ_normal, seqQ_exit, seqQ_ret, Wp_inBlock, blkQ_normal, blkQ_ret, blkQ_same, blkQ_exit, Wp_opThen, opQ_at, Wp_guardP, retQ_normal, retQ_ret, loopQ_normal, loopQ_exit, loopQ_ret, go_sem, entry, joinEsc, if_pos, reduceIte, Nat.reduceAdd, Nat.reduceLeDiff, Nat.reduceLT, Nat.reduceEqDiff]
    refine (rafts_3 (H := L) (K := i + 1) hn8 hqL (by omega) hd').mono ?_
    rintro ex st ⟨rfl, L', b', c'', w59', w60', hg', hL', rfl⟩
    obtain ⟨G', rfl⟩ := hg'
    obtain ⟨G, rfl⟩ := hg
    rw [List.append_assoc] at hL' ⊢
    have hot := ordOk_take os 0 (i + 1) hor
    have hset : hasL (os.take (i + 1)) ls.length = setL ls.length (codeN 0 (os.take (i + 1))) := setL_of_mem hn8 hot
    obtain ⟨m1, _⟩ := code_mem hn8 _ 0 (Nat.two_pow_pos _) hot
    obtain ⟨f1, f2⟩ := setL_facts ls.length (by omega) _ m1
    rw [hset] at hL' ⊢
    have hls : (setL ls.length (codeN 0 (os.take (i + 1)))).length ≤ 1048576 := Nat.le_trans (setL_len _ _) (by omega)
    have hr := e_i_RaftSide (pr := pr) (H := H ++ (G ++ G')) (e := none) (c := c) (c' := c'') (cells_mono hq _) (cellsAt_of hL') (by omega) hls a b o
    have hsok : setOk a b o ls (setL ls.length (codeN 0 (os.take (i + 1)))) = true := by unfold setOk; rw [hcg, f1]; rfl
    unfold sideT at hr
    rw [hsok, if_pos rfl, f2] at hr
    have hz := sideR_zero a b o ls ((codeN 0 (os.take (i + 1)) : Nat) : Int)
    have hu' := cells_mono hu (G ++ G')
    have hts : os.take (i + 1) = os.take i ++ [os[i]'(by omega)] := List.take_succ_eq_append_getElem (by omega)
    have hsn := tipFrom_snoc (a := a) (b := b) (o := o) (ls := ls) (os.take i) 0 0 (os[i]'(by omega))
    rw [← codeN_snoc, ← hts, List.length_take, Nat.min_eq_left (by omega), Nat.zero_add] at hsn
    generalize tipFrom a b o ls 0 0 (os.take i) = t at *
    by_cases ht : t = 0
    · subst ht
      have hf1 : fstI 0 = -1 := rfl
      have hlt : ((-1 : Int) < 0) := by omega
      rw [if_pos rfl] at hsn
      cases hs : safeW a b o ls ((codeN 0 (os.take (i + 1)) : Nat) : Int) with
      | true =>
        rw [hs, if_pos rfl] at hsn
        rw [hz.mpr hs] at hr
        simp (maxSteps := 2000000) +contextual only [hr, hu', hw, hf1, hlt, decide_true, Wp_some, Wp_none, Wp_ite, Wc_some, Wc_none, Wc_ite, Wp_thenRun, seqQ_normal, seqQ_exit, seqQ_ret, Wp_inBlock, blkQ_normal, blkQ_ret, blkQ_same, blkQ_exit, Wp_opThen, opQ_at, Wp_guardP, retQ_normal, retQ_ret, loopQ_normal, loopQ_exit, loopQ_ret, go_sem, entry, joinEsc, if_pos, reduceIte, Nat.reduceAdd, Nat.reduceLeDiff, Nat.reduceLT, Nat.reduceEqDiff]
        exact ⟨k - 1, by omega, i + 1, _, _, _, _, _, _, _, _, _, _, by omega, ⟨_, rfl⟩, by rw [hsn]; rfl⟩
      | false =>
        rw [hs, if_neg (by simp)] at hsn
        have hnz : ¬ sideR a b o ls ((codeN 0 (os.take (i + 1)) : Nat) : Int) = 0 := fun h => by rw [hz.mp h] at hs; cases hs
        have hnz' : decide (sideR a b o ls ((codeN 0 (os.take (i + 1)) : Nat) : Int) = 0) = false := decide_eq_false hnz
        have hf2 : fstI (i + 1) = ((i + 1 : Nat) : Int) := rfl
        simp (maxSteps := 2000000) +contextual only [hr, hu', hw, hf1, hlt, hnz, hnz', decide_true, decide_false, Wp_some, Wp_none, Wp_ite, Wc_some, Wc_none, Wc_ite, Wp_thenRun, seqQ_normal, seqQ_exit, seqQ_ret, Wp_inBlock, blkQ_normal, blkQ_ret, blkQ_same, blkQ_exit, Wp_opThen, opQ_at, Wp_guardP, retQ_normal, retQ_ret, loopQ_normal, loopQ_exit, loopQ_ret, go_sem, entry, joinEsc, if_pos, reduceIte, Nat.reduceAdd, Nat.reduceLeDiff, Nat.reduceLT, Nat.reduceEqDiff]
        exact ⟨k - 1, by omega, i + 1, _, _, _, _, _, _, _, _, _, _, by omega, ⟨_, rfl⟩, by rw [hsn]; rfl⟩
    · have hf1 : fstI t = (t : Int) := by unfold fstI; rw [if_neg ht]
      rw [if_neg ht] at hsn
      have hlt : ¬ ((t : Int) < 0) := by omega
      by_cases hnz : sideR a b o ls ((codeN 0 (os.take (i + 1)) : Nat) : Int) = 0
      · rw [hnz] at hr
        simp (maxSteps := 2000000) +contextual only [hr, hu', hw, hf1, hlt, decide_true, decide_false, Wp_some, Wp_none, Wp_ite, Wc_some, Wc_none, Wc_ite, Wp_thenRun, seqQ_normal, seqQ_exit, seqQ_ret, Wp_inBlock, blkQ_normal, blkQ_ret, blkQ_same, blkQ_exit, Wp_opThen, opQ_at, Wp_guardP, retQ_normal, retQ_ret, loopQ_normal, loopQ_exit, loopQ_ret, go_sem, entry, joinEsc, if_pos, reduceIte, Nat.reduceAdd, Nat.reduceLeDiff, Nat.reduceLT, Nat.reduceEqDiff]
        exact ⟨k - 1, by omega, i + 1, _, _, _, _, _, _, _, _, _, _, by omega, ⟨_, rfl⟩, by rw [hsn, hf1]⟩
      · have hnz' : decide (sideR a b o ls ((codeN 0 (os.take (i + 1)) : Nat) : Int) = 0) = false := decide_eq_false hnz
        simp (maxSteps := 2000000) +contextual only [hr, hu', hw, hf1, hlt, hnz, hnz', decide_true, decide_false, Wp_some, Wp_none, Wp_ite, Wc_some, Wc_none, Wc_ite, Wp_thenRun, seqQ_normal, seqQ_exit, seqQ_ret, Wp_inBlock, blkQ_normal, blkQ_ret, blkQ_same, blkQ_exit, Wp_opThen, opQ_at, Wp_guardP, retQ_normal, retQ_ret, loopQ_normal, loopQ_exit, loopQ_ret, go_sem, entry, joinEsc, if_pos, reduceIte, Nat.reduceAdd, Nat.reduceLeDiff, Nat.reduceLT, Nat.reduceEqDiff]
        exact ⟨k - 1, by omega, i + 1, _, _, _, _, _, _, _, _, _, _, by omega, ⟨_, rfl⟩, by rw [hsn, hf1]⟩

end Go.Proofs.Ytlcklonakjhoiaa.Slim

/- Rafts: the item without which the others have the most orders, and its law. -/
namespace Go.Proofs.Ytlcklonakjhoiaa.Slim

open Go

set_option linter.unusedSimpArgs false

set_option linter.unusedVariables false

variable {pr : Prims} {H : List Blk} {e : Option Nat}

theorem sliceLoV_c (sz b o n l : Nat) (cap : Option Nat) (hl : l ≤ n) : sliceLoV sz (.slice (some (b, o)) sz n cap) (.int .i64 l) = some (.slice (some (b, o + l * sz)) sz (n - l) (cap.map (· - l))) := by
  unfold sliceLoV natOf sliceVal
  simp [hl]

theorem srcCells_part {L : List Blk} {q sz n o k : Nat} {cs : List AV} (c : Option Nat) (h : cellsAt L q = some cs) (hl : o * sz + k * sz ≤ cs.length) : srcCells false L (.slice (some (q, o * sz)) sz k c) = some (k, (cs.drop (o * sz)).take (k * sz)) := by
  unfold srcCells
  simp [h, hl]

theorem append_hd {L : List Blk} {b q sz bytes n i : Nat} {cs : List AV} {c : Option Nat} (hq : cellsAt L q = some cs) (hb : L[b]? = some (.cells [] true)) (hcs : cs.length = n * sz) (hi : i ≤ n) (hm : n * bytes ≤ maxBytes) :
    appendV L e false sz bytes (.slice (some (b, 0)) sz 0 (some 0)) (.slice (some (q, 0)) sz i c) = some (.slice (some (L.length, 0)) sz i none, ⟨L.set b (if i = 0 then .dead else .cells [] true) ++ [.cells (cs.take (i * sz)) true], e⟩) := by
  have h1 : i * sz ≤ n * sz := Nat.mul_le_mul_right _ hi
  have h2 : i * bytes ≤ n * bytes := Nat.mul_le_mul_right _ hi
  have hs := srcCells_part (o := 0) (k := i) (sz := sz) (n := n) c hq (by omega)
  rw [Nat.zero_mul, List.drop_zero] at hs
  unfold appendV
  simp only [hb, hs]
  have h3 : (List.take (i * sz) cs).length = i * sz := by rw [List.length_take]; omega
  rw [if_pos ⟨trivial, by rw [Nat.zero_add]; omega, h3, by simp⟩]
  by_cases h : i = 0
  · subst h
    simp
  · rw [if_pos ⟨trivial, by omega⟩, if_neg h, set_same hb]
    simp

theorem append_tl {L : List Blk} {b q sz bytes n i : Nat} {cs : List AV} {c : Option Nat} (hq : cellsAt L q = some cs) (hb : L[b]? = some (.cells (cs.take (i * sz)) true)) (hcs : cs.length = n * sz) (hi : i < n) (hm : n * bytes ≤ maxBytes) :
    appendV L e false sz bytes (.slice (some (b, 0)) sz i none) (.slice (some (q, (i + 1) * sz)) sz (n - (i + 1)) c) = some (.slice (some (L.length, 0)) sz (n - 1) none, ⟨L.set b .dead ++ [.cells (cs.take (i * sz) ++ cs.drop ((i + 1) * sz)) true], e⟩) := by
  have e1 : (i + 1) * sz + (n - (i + 1)) * sz = n * sz := by rw [← Nat.add_mul]; congr 1; omega
  have e2 : (i + 1) * sz = i * sz + sz := by rw [Nat.add_mul, Nat.one_mul]
  have hs := srcCells_part (o := i + 1) (k := n - (i + 1)) (sz := sz) (n := n) c hq (by omega)
  have h4 : (cs.drop ((i + 1) * sz)).take ((n - (i + 1)) * sz) = cs.drop ((i + 1) * sz) := List.take_of_length_le (by rw [List.length_drop]; omega)
  rw [h4] at hs
  unfold appendV
  simp only [hb, hs]
  have h3 : (cs.drop ((i + 1) * sz)).length = (n - (i + 1)) * sz := by rw [List.length_drop]; omega
  have h5 : (List.take (i * sz) cs).length = i * sz := by rw [List.length_take]; omega
  have h6 : i + (n - (i + 1)) = n - 1 := by omega
  have h7 : (n - 1) * bytes ≤ n * bytes := Nat.mul_le_mul_right _ (by omega)
  rw [h6, if_pos ⟨trivial, by omega, h3, by omega⟩]
  simp [List.take_take]

/-- the best of some numbers -/
def bestW (f : Nat → Int) : Nat → Nat → Int → Int → Int
  | 0, i, best, most => best
  | k + 1, i, best, most => if most < f i then bestW f k (i + 1) i (f i) else bestW f k (i + 1) best most

def hardW (a b o : Int) (ls : List Ld) (i : Nat) : Int := (waysW a b o (ls.eraseIdx i)).getD 0 0

theorem e_i_HardestItem_no {q : Nat} {c : Option Nat} {ls : List Ld} (h : cellsAt H q = some (encL ls)) (a b o : Int) (hno : (cargoOk a b o ls && !decide (ls.length = 0)) = false) :
    call T pr f_i_HardestItem [rfV a b o, slL q ls.length c] ⟨H, e⟩ = some (.tup [.int .i64 0, .bool false], ⟨H, e⟩) := by
  rw [call_eq t_i_HardestItem]
  have hz : decide ((ls.length : Int) = 0) = decide (ls.length = 0) := decide_eq_decide.mpr (by omega)
  cases h1 : cargoOk a b o ls with
  | false => simp +contextual only [a_i_HardestItem, c_i_HardestItem, e_i_areCargo (cells_mono h _), h1, decide_true, go_sem, entry, joinEsc, if_pos, reduceIte, Nat.reduceAdd, Nat.reduceLeDiff, Nat.reduceLT, Nat.reduceEqDiff]
  | true =>
    rw [h1, Bool.true_and] at hno
    have hz' : decide ((ls.length : Int) = 0) = true := by rw [hz]; simpa using hno
    simp +contextual only [a_i_HardestItem, c_i_HardestItem, e_i_areCargo (cells_mono h _), h1, hz', decide_true, go_sem, entry, joinEsc, if_pos, reduceIte, Nat.reduceAdd, Nat.reduceLeDiff, Nat.reduceLT, Nat.reduceEqDiff]

theorem e_s_HardestItem_no {q : Nat} {c : Option Nat} {ls : List Ld} (h : cellsAt H q = some (encL ls)) (a b o : Int) (hno : (cargoOk a b o ls && !decide (ls.length = 0)) = false) :
    call T pr f_s_HardestItem [rfV a b o, slL q ls.length c] ⟨H, e⟩ = some (.tup [.int .i64 0, .bool false], ⟨H, e⟩) := by
  rw [call_eq t_s_HardestItem]
  have hz : decide ((ls.length : Int) = 0) = decide (ls.length = 0) := decide_eq_decide.mpr (by omega)
  cases h1 : cargoOk a b o ls with
  | false => simp +contextual only [a_s_HardestItem, c_s_HardestItem, e_s_l10Cargo (cells_mono h _), h1, decide_true, go_sem, entry, joinEsc, if_pos, reduceIte, Nat.reduceAdd, Nat.reduceLeDiff, Nat.reduceLT, Nat.reduceEqDiff]
  | true =>
    rw [h1, Bool.true_and] at hno
    have hz' : decide ((ls.length : Int) = 0) = true := by rw [hz]; simpa using hno
    simp +contextual only [a_s_HardestItem, c_s_HardestItem, e_s_l10Cargo (cells_mono h _), h1, hz', decide_true, go_sem, entry, joinEsc, if_pos, reduceIte, Nat.reduceAdd, Nat.reduceLeDiff, Nat.reduceLT, Nat.reduceEqDiff]

theorem e_i_HardestItem (hp : HasDelete pr) {q : Nat} {c : Option Nat} {ls : List Ld} (h : cellsAt H q = some (encL ls)) (a b o : Int) (hok : (cargoOk a b o ls && !decide (ls.length = 0)) = true) :
    call T pr f_i_HardestItem [rfV a b o, slL q ls.length c] ⟨H, e⟩ = some (.tup [.int .i64 (bestW (hardW a b o ls) ls.length 0 0 (-1)), .bool true], ⟨H, e⟩) := by
  obtain ⟨h1, h2⟩ := Bool.and_eq_true_iff.mp hok
  have h8 := cargo_le h1
  have hz' : decide ((ls.length : Int) = 0) = false := by
    have h3 : ¬ ls.length = 0 := by simpa using h2
    exact decide_eq_false (by omega)
  apply Wc.eq
  rw [call_wc t_i_HardestItem]
  simp +contextual only [a_i_HardestItem, c_i_HardestItem, e_i_areCargo (cells_mono h _), h1, hz', Wp_some, Wp_none, Wp_ite, Wc_some, Wc_none, Wc_ite, Wp_thenRun, seqQ_normal, seqQ_exit, seqQ_ret, Wp_inBlock, blkQ_normal, blkQ_ret, blkQ_same, blkQ_exit, Wp_opThen, opQ_at, Wp_guardP, retQ_normal, retQ_ret, loopQ_normal, loopQ_exit, loopQ_ret, go_sem, entry, joinEsc, if_pos, reduceIte, Nat.reduceAdd, Nat.reduceLeDiff, Nat.reduceLT, Nat.reduceEqDiff]
  refine Wp_loop (fun k st => ∃ (i : Nat) (best most : Int) (G : List Blk) (e' : Option Nat) (y3 y4 y7 y8 y9 y12 y13 : AV), k + i = ls.length ∧ bestW (hardW a b o ls) k i best most = bestW (hardW a b o ls) ls.length 0 0 (-1) ∧ clean H.length e' = true ∧
      st = ⟨[rfV a b o, slL q ls.length c, .ptr (some (H.length, 0)), y3, y4, .int .i64 best, .int .i64 most, y7, y8, y9, .int .i64 ls.length, .int .i64 i, y12, y13], ⟨H ++ (.cells [.int .i64 a, .int .i64 b, .int .i64 o] true :: G), e'⟩⟩) ?_ ls.length _
    ⟨0, 0, -1, [], none, _, _, _, _, _, _, _, by omega, rfl, rfl, rfl⟩
  rintro k _ ⟨i, best, most, G, e', y3, y4, y7, y8, y9, y12, y13, hk, hb, he', rfl⟩
  by_cases hi : i < ls.length
  · obtain ⟨k, rfl⟩ : ∃ k', k = k' + 1 := ⟨k - 1, by omega⟩
    have hel : (ls.eraseIdx i).length = ls.length - 1 := by rw [List.length_eraseIdx, if_pos hi]
    have hcl := fun L e' (hL : cellsAt L q = some (encL ls)) => e_Clone_Load (pr := pr) (H := L) (e := e') (c := c) hL (by omega)
    have hde := fun L e' b cap (hL : L[b]? = some (.cells (encL ls) true)) => hp L e' b ls.length i cap (encL ls) hL (encL_length ls) hi
    simp only [encL_erase] at hde
    have hwy := fun L e' q c (hL : cellsAt L q = some (encL (ls.eraseIdx i))) => e_i_Raft_waysOf (pr := pr) (H := L) (e := e') (c := c) hL (by omega) a b o
    rw [hel] at hwy
    have hpow : (0 : Int) < ((2 ^ (ls.length - 1) : Nat) : Int) := by
      have := Nat.two_pow_pos (ls.length - 1); omega
    have h0 : (encI (waysW a b o (ls.eraseIdx i)))[0]? = some (.int .i64 (hardW a b o ls i)) := ways0
    rw [bestW] at hb
    cases hm : decide (most < hardW a b o ls i) with
    | true =>
      rw [if_pos (of_decide_eq_true hm)] at hb
      simp +contextual only [w_i_HardestItem_1, cells_mono h, hi, hcl, hde, hwy, hpow, h0, hm, part_false, wrap_succ (show i < 9223372036854775807 by omega), Int.toNat_zero, Nat.zero_mul, Int.le_refl, Nat.add_assoc, decide_true, Wp_some, Wp_none, Wp_ite, Wc_some, Wc_none, Wc_ite, Wp_thenRun, seqQ_normal, seqQ_exit, seqQ_ret, Wp_inBlock, blkQ_normal, blkQ_ret, blkQ_same, blkQ_exit, Wp_opThen, opQ_at, Wp_guardP, retQ_normal, retQ_ret, loopQ_normal, loopQ_exit, loopQ_ret, go_sem, entry, joinEsc, if_pos, reduceIte, Nat.reduceAdd, Nat.reduceLeDiff, Nat.reduceLT, Nat.reduceEqDiff]
      exact ⟨k, by omega, i + 1, _, _, _, _, _, _, _, _, _, _, _, by omega, hb, he', rfl⟩
    | false =>
      rw [if_neg (of_decide_eq_false hm)] at hb
      simp +contextual only [w_i_HardestItem_1, cells_mono h, hi, hcl, hde, hwy, hpow, h0, hm, part_false, wrap_succ (show i < 9223372036854775807 by omega), Int.toNat_zero, Nat.zero_mul, Int.le_refl, Nat.add_assoc, decide_true, Wp_some, Wp_none, Wp_ite, Wc_some, Wc_none, Wc_ite, Wp_thenRun, seqQ_normal, seqQ_exit, seqQ_ret, Wp_inBlock, blkQ_normal, blkQ_ret, blkQ_same, blkQ_exit, Wp_opThen, opQ_at, Wp_guardP, retQ_normal, retQ_ret, loopQ_normal, loopQ_exit, loopQ_ret, go_sem, entry, joinEsc, if_pos, reduceIte, Nat.reduceAdd, Nat.reduceLeDiff, Nat.reduceLT, Nat.reduceEqDiff]
      exact ⟨k, by omega, i + 1, _, _, _, _, _, _, _, _, _, _, _, by omega, hb, he', rfl⟩
  · obtain rfl : i = ls.length := by omega
    obtain rfl : k = 0 := by omega
    rw [← hb, bestW]
    simp +contextual only [w_i_HardestItem_1, hi, decide_false, he', Wp_some, Wp_none, Wp_ite, Wc_some, Wc_none, Wc_ite, Wp_thenRun, seqQ_normal, seqQ_exit, seqQ_ret, Wp_inBlock, blkQ_normal, blkQ_ret, blkQ_same, blkQ_exit, Wp_opThen, opQ_at, Wp_guardP, retQ_normal, retQ_ret, loopQ_normal, loopQ_exit, loopQ_ret, finish_one_eq, finish_one_eq0, finish_two_eq, finish_two_eq0, roots_slice_new, roots_slice_new0, roots_slice_none, roots_ptr_new, roots_ptr_new0, roots_int, roots_bool, roots_str, roots_agg, roots_tup, roots_cons, roots_nil, rename_slice, rename_slice_none, rename_ptr, rename_int, rename_bool, rename_str, rename_agg, rename_tup, rename_cons, rename_nil, keepBlks_nil, keepBlks_cons, flatAll_nil, flatAll_cons, flatBlk_cells, dedup_nil, dedup_one, dedup_two, renum_one, renum_one0, renum_two0, renum_two1, clean_none', clean_some, minEsc_none, minEsc_some, Nat.add_left_cancel_iff, Nat.le_add_right, Nat.le_refl, decide_true, go_sem, entry, joinEsc, if_pos, reduceIte, Nat.reduceAdd, Nat.reduceLeDiff, Nat.reduceLT, Nat.reduceEqDiff]

theorem e_s_HardestItem {q : Nat} {c : Option Nat} {ls : List Ld} (h : cellsAt H q = some (encL ls)) (a b o : Int) (hok : (cargoOk a b o ls && !decide (ls.length = 0)) = true) :
    call T pr f_s_HardestItem [rfV a b o, slL q ls.length c] ⟨H, e⟩ = some (.tup [.int .i64 (bestW (hardW a b o ls) ls.length 0 0 (-1)), .bool true], ⟨H, e⟩) := by
  obtain ⟨h1, h2⟩ := Bool.and_eq_true_iff.mp hok
  have h8 := cargo_le h1
  have hz' : decide ((ls.length : Int) = 0) = false := by
    have h3 : ¬ ls.length = 0 := by simpa using h2
    exact decide_eq_false (by omega)
  apply Wc.eq
  rw [call_wc t_s_HardestItem]
  simp +contextual only [a_s_HardestItem, c_s_HardestItem, e_s_l10Cargo (cells_mono h _), h1, hz', Wp_some, Wp_none, Wp_ite, Wc_some, Wc_none, Wc_ite, Wp_thenRun, seqQ_normal, seqQ_exit, seqQ_ret, Wp_inBlock, blkQ_normal, blkQ_ret, blkQ_same, blkQ_exit, Wp_opThen, opQ_at, Wp_guardP, retQ_normal, retQ_ret, loopQ_normal, loopQ_exit, loopQ_ret, go_sem, entry, joinEsc, if_pos, reduceIte, Nat.reduceAdd, Nat.reduceLeDiff, Nat.reduceLT, Nat.reduceEqDiff]
  refine Wp_loop (fun k st => ∃ (i : Nat) (best most : Int) (G : List Blk) (e' : Option Nat) (y3 y4 y8 y9 y10 y11 y12 : AV), k + i = ls.length ∧ bestW (hardW a b o ls) k i best most = bestW (hardW a b o ls) ls.length 0 0 (-1) ∧ clean H.length e' = true ∧
      st = ⟨[rfV a b o, slL q ls.length c, .ptr (some (H.length, 0)), y3, y4, .int .i64 best, .int .i64 most, .int .i64 i, y8, y9, y10, y11, y12], ⟨H ++ (.cells [.int .i64 a, .int .i64 b, .int .i64 o] true :: G), e'⟩⟩) ?_ ls.length _
    ⟨0, 0, -1, [], none, _, _, _, _, _, _, _, by omega, rfl, rfl, rfl⟩
  rintro k _ ⟨i, best, most, G, e', y3, y4, y8, y9, y10, y11, y12, hk, hb, he', rfl⟩
  by_cases hi : i < ls.length
  · obtain ⟨k, rfl⟩ : ∃ k', k = k' + 1 := ⟨k - 1, by omega⟩
    have hel : (ls.eraseIdx i).length = ls.length - 1 := by rw [List.length_eraseIdx, if_pos hi]
    have hi1 : i ≤ ls.length := by omega
    have hi2 : i + 1 ≤ ls.length := by omega
    have hap1 := fun L b e' (hL : cellsAt L q = some (encL ls)) (hb : L[b]? = some (.cells [] true)) => append_hd (e := e') (L := L) (b := b) (q := q) (c := c) (bytes := 16) hL hb (encL_length ls) hi1 (by unfold maxBytes; omega)
    have hap2 := fun L b e' c (hL : cellsAt L q = some (encL ls)) (hb : L[b]? = some (.cells ((encL ls).take (i * 2)) true)) => append_tl (e := e') (L := L) (b := b) (q := q) (c := c) (bytes := 16) hL hb (encL_length ls) hi (by unfold maxBytes; omega)
    simp only [encL_erase] at hap2
    have hwy := fun L e' q c (hL : cellsAt L q = some (encL (ls.eraseIdx i))) => e_s_l10Ways (pr := pr) (H := L) (e := e') (c := c) hL (by omega) a b o
    rw [hel] at hwy
    have hpow : (0 : Int) < ((2 ^ (ls.length - 1) : Nat) : Int) := by
      have := Nat.two_pow_pos (ls.length - 1); omega
    have h0 : (encI (waysW a b o (ls.eraseIdx i)))[0]? = some (.int .i64 (hardW a b o ls i)) := ways0
    rw [bestW] at hb
    cases hm : decide (most < hardW a b o ls i) with
    | true =>
      rw [if_pos (of_decide_eq_true hm)] at hb
      simp +contextual only [w_s_HardestItem_1, fillParts, cells_mono h, hi, aop_sliceHi, aop_sliceLo, sliceHiV_at, sliceLoV_c, hi1, hi2, hap1, hap2, hwy, hpow, h0, hm, part_false, wrap_succ (show i < 9223372036854775807 by omega), Int.toNat_zero, Nat.zero_mul, Int.le_refl, Nat.add_assoc, decide_true, Wp_some, Wp_none, Wp_ite, Wc_some, Wc_none, Wc_ite, Wp_thenRun, seqQ_normal, seqQ_exit, seqQ_ret, Wp_inBlock, blkQ_normal, blkQ_ret, blkQ_same, blkQ_exit, Wp_opThen, opQ_at, Wp_guardP, retQ_normal, retQ_ret, loopQ_normal, loopQ_exit, loopQ_ret, go_sem, entry, joinEsc, if_pos, reduceIte, Nat.reduceAdd, Nat.reduceLeDiff, Nat.reduceLT, Nat.reduceEqDiff]
      exact ⟨k, by omega, i + 1, _, _, _, _, _, _, _, _, _, _, _, by omega, hb, he', rfl⟩
    | false =>
      rw [if_neg (of_decide_eq_false hm)] at hb
      simp +contextual only [w_s_HardestItem_1, fillParts, cells_mono h, hi, aop_sliceHi, aop_sliceLo, sliceHiV_at, sliceLoV_c, hi1, hi2, hap1, hap2, hwy, hpow, h0, hm, part_false, wrap_succ (show i < 9223372036854775807 by omega), Int.toNat_zero, Nat.zero_mul, Int.le_refl, Nat.add_assoc, decide_true, Wp_some, Wp_none, Wp_ite, Wc_some, Wc_none, Wc_ite, Wp_thenRun, seqQ_normal, seqQ_exit, seqQ_ret, Wp_inBlock, blkQ_normal, blkQ_ret, blkQ_same, blkQ_exit, Wp_opThen, opQ_at, Wp_guardP, retQ_normal, retQ_ret, loopQ_normal, loopQ_exit, loopQ_ret, go_sem, entry, joinEsc, if_pos, reduceIte, Nat.reduceAdd, Nat.reduceLeDiff, Nat.reduceLT, Nat.reduceEqDiff]
      exact ⟨k, by omega, i + 1, _, _, _, _, _, _, _, _, _, _, _, by omega, hb, he', rfl⟩
  · obtain rfl : i = ls.length := by omega
    obtain rfl : k = 0 := by omega
    rw [← hb, bestW]
    simp +contextual only [w_s_HardestItem_1, hi, decide_false, he', Wp_some, Wp_none, Wp_ite, Wc_some, Wc_none, Wc_ite, Wp_thenRun, seqQ_normal, seqQ_exit, seqQ_ret, Wp_inBlock, blkQ_normal, blkQ_ret, blkQ_same, blkQ_exit, Wp_opThen, opQ_at, Wp_guardP, retQ_normal, retQ_ret, loopQ_normal, loopQ_exit, loopQ_ret, finish_one_eq, finish_one_eq0, finish_two_eq, finish_two_eq0, roots_slice_new, roots_slice_new0, roots_slice_none, roots_ptr_new, roots_ptr_new0, roots_int, roots_bool, roots_str, roots_agg, roots_tup, roots_cons, roots_nil, rename_slice, rename_slice_none, rename_ptr, rename_int, rename_bool, rename_str, rename_agg, rename_tup, rename_cons, rename_nil, keepBlks_nil, keepBlks_cons, flatAll_nil, flatAll_cons, flatBlk_cells, dedup_nil, dedup_one, dedup_two, renum_one, renum_one0, renum_two0, renum_two1, clean_none', clean_some, minEsc_none, minEsc_some, Nat.add_left_cancel_iff, Nat.le_add_right, Nat.le_refl, decide_true, go_sem, entry, joinEsc, if_pos, reduceIte, Nat.reduceAdd, Nat.reduceLeDiff, Nat.reduceLT, Nat.reduceEqDiff]

theorem law_HardestItem (hp : HasDelete pr) {av : AV} {ls : List Ld} (ha : ArgL H av ls) (a b o : Int) : ∃ m', call T pr f_l_FnExactHardestItem [rfV a b o, av] ⟨H, none⟩ = some (.bool true, m') := by
  refine ⟨⟨H, none⟩, ?_⟩
  have hsz : ∀ G e', call T pr f_l_szLoadS [av, .int .i64 1048576] ⟨G, e'⟩ = some (.int .i64 (if ls.length ≤ 1048576 then 1048576 - ls.length else -1), ⟨G, e'⟩) := by
    obtain ⟨p, sz, c, rfl, h2, h3⟩ := ha
    exact fun G e' => e_l_szLoadS ls.length p sz c h2
  rw [call_eq t_l_FnExactHardestItem]
  by_cases hn : ls.length ≤ 1048576
  · have hn' : ls.length ≤ 9223372036854775806 := by omega
    have hneg : ¬ (1048576 - (ls.length : Int) < 0) := by omega
    have hcopy := fun G => e_l_toLoadS (pr := pr) (e := none) (ha.more G) hn
    cases hok : (cargoOk a b o ls && !decide (ls.length = 0)) with
    | false =>
      have hsi := fun L q c h1 => e_s_HardestItem_no (pr := pr) (H := L) (e := none) (q := q) (c := c) (ls := ls) h1 a b o hok
      have hii := fun L q c h1 => e_i_HardestItem_no (pr := pr) (H := L) (e := none) (q := q) (c := c) (ls := ls) h1 a b o hok
      simp +contextual only [a_l_FnExactHardestItem, c_l_FnExactHardestItem, hsz, hn, hneg, decide_false, decide_true, e_l_toRaft, hcopy, hsi, hii, e_l_eqLoadS, hn', beq_self_eq_true, go_sem, entry, joinEsc, if_pos, reduceIte, Nat.reduceAdd, Nat.reduceLeDiff, Nat.reduceLT, Nat.reduceEqDiff]
    | true =>
      have hsi := fun L q c h1 => e_s_HardestItem (pr := pr) (H := L) (e := none) (q := q) (c := c) (ls := ls) h1 a b o hok
      have hii := fun L q c h1 => e_i_HardestItem (pr := pr) (H := L) (e := none) hp (q := q) (c := c) (ls := ls) h1 a b o hok
      simp +contextual only [a_l_FnExactHardestItem, c_l_FnExactHardestItem, hsz, hn, hneg, decide_false, decide_true, e_l_toRaft, hcopy, hsi, hii, e_l_eqLoadS, hn', beq_self_eq_true, go_sem, entry, joinEsc, if_pos, reduceIte, Nat.reduceAdd, Nat.reduceLeDiff, Nat.reduceLT, Nat.reduceEqDiff]
  · simp +contextual only [a_l_FnExactHardestItem, c_l_FnExactHardestItem, hsz, hn, decide_true, show ((-1 : Int) < 0) by omega, go_sem, entry, joinEsc, if_pos, reduceIte, Nat.reduceAdd, Nat.reduceLeDiff, Nat.reduceLT, Nat.reduceEqDiff]

end Go.Proofs.Ytlcklonakjhoiaa.Slim

/- Rafts: steps of one or two items, on both sides. -/
namespace Go.Proofs.Ytlcklonakjhoiaa.Slim

open Go

set_option linter.unusedSimpArgs false

set_option linter.unusedVariables false

variable {pr : Prims} {H : List Blk} {e : Option Nat}

theorem setRange_midI (P R : List Int) (r a : Int) : setRange (encI (P ++ r :: R)) P.length [.int .i64 a] = encI (P ++ a :: R) := by
  rw [setRange_mid]
  simp

theorem mid_get {B R : List Int} {g : Int} {C d : Nat} (hB : B.length = C) (hd : d < C) : (B ++ g :: R)[d]? = some (B.getD d 0) := by
  rw [List.getElem?_append_left (by omega)]
  exact getD_get (by omega)

theorem mid_at {B R : List Int} {g : Int} {C : Nat} (hB : B.length = C) : (B ++ g :: R)[C]? = some g := by
  rw [List.getElem?_append_right (by omega), hB, Nat.sub_self]
  rfl

theorem nu_le8 {n c : Nat} (h8 : n ≤ 8) : nu n c ≤ 8 := by
  unfold nu
  exact Nat.le_trans (List.length_filter_le _ _) (by simp; exact h8)

theorem prM_pos (i j : Nat) : 0 < prM i j := by
  have h1 := Nat.two_pow_pos i
  have h2 := Nat.two_pow_pos j
  unfold prM
  split <;> omega

theorem pair_i1 {a0 a1 a2 a3 a4 a5 a11 a12 a13 a14 a15 a16 a22 a9 a10 a19 a20 a21 : AV} {i n C F : Nat} {B R : List Int} {g0 : Int} (hn8 : n ≤ 8) (hF : F = 2 ^ n) (hC : C < F) (hi : i < n) (hB : B.length = C) (hR : B.length + (R.length + 1) = F) (hb : ∀ d, d < C → okP n d (B.getD d 0)) :
    Wp (run T pr (.loop w_i_PairSteps_1) ⟨[a0, a1, a2, a3, a4, a5, slI H.length F (some F), .int .i64 C, .int .i64 i, a9, a10, a11, a12, a13, a14, a15, a16, .int .i64 ((i + 1 : Nat) : Int), .int .i64 0, a19, a20, a21, a22], ⟨H ++ [.cells (encI (B ++ g0 :: R)) true], none⟩⟩) (fun ex st => ex = .exit 4 ∧ ∃ (w9 w10 w18 w19 w20 w21 : AV), st = ⟨[a0, a1, a2, a3, a4, a5, slI H.length F (some F), .int .i64 C, .int .i64 i, w9, w10, a11, a12, a13, a14, a15, a16, .int .i64 ((i + 1 : Nat) : Int), w18, w19, w20, w21, a22], ⟨H ++ [.cells (encI (B ++ pairIn B C i (i + 1) 0 g0 :: R)) true], none⟩⟩) := by
  have hp8 : (2 : Nat) ^ n ≤ 2 ^ 8 := Nat.pow_le_pow_right (by omega) hn8
  have h256 : (2 : Nat) ^ 8 = 256 := by decide
  have hlen : ∀ g, (encI (B ++ g :: R)).length = F := fun g => by rw [encI, List.length_map, List.length_append, List.length_cons]; omega
  refine Wp_loop (fun k st => ∃ (j : Nat) (g : Int) (w9 w10 w19 w20 w21 : AV), k + j = i + 1 ∧ pairIn B C i k j g = pairIn B C i (i + 1) 0 g0 ∧ st = ⟨[a0, a1, a2, a3, a4, a5, slI H.length F (some F), .int .i64 C, .int .i64 i, w9, w10, a11, a12, a13, a14, a15, a16, .int .i64 ((i + 1 : Nat) : Int), .int .i64 j, w19, w20, w21, a22], ⟨H ++ [.cells (encI (B ++ g :: R)) true], none⟩⟩) ?_ (i + 1) _
    ⟨0, g0, _, _, _, _, _, rfl, rfl, rfl⟩
  rintro k _ ⟨j, g, w9, w10, w19, w20, w21, hk, hp, rfl⟩
  by_cases h0 : k = 0
  · subst h0
    have hd : ¬ j < i + 1 := by omega
    rw [pairIn] at hp
    simp (maxSteps := 2000000) +contextual only [w_i_PairSteps_1, hd, decide_false, Wp_some, Wp_none, Wp_ite, Wc_some, Wc_none, Wc_ite, Wp_thenRun, seqQ_normal, seqQ_exit, seqQ_ret, Wp_inBlock, blkQ_normal, blkQ_ret, blkQ_same, blkQ_exit, Wp_opThen, opQ_at, Wp_guardP, retQ_normal, retQ_ret, loopQ_normal, loopQ_exit, loopQ_ret, go_sem, entry, joinEsc, if_pos, reduceIte, Nat.reduceAdd, Nat.reduceLeDiff, Nat.reduceLT, Nat.reduceEqDiff]
    exact ⟨_, _, _, _, _, _, by rw [hp]⟩
  · obtain ⟨k', rfl⟩ : ∃ k', k = k' + 1 := ⟨k - 1, by omega⟩
    have hd : j < i + 1 := by omega
    have hw := wrap_succ (show j < 9223372036854775807 by omega)
    rw [pairIn] at hp
    cases hbi : C.testBit i with
    | false =>
      have hb0 := bit_clear (c := C) (i := i) (by omega) (by omega) hbi
      rw [hbi, Bool.false_and, if_neg (by simp)] at hp
      simp (maxSteps := 2000000) +contextual only [w_i_PairSteps_1, hd, hw, shr_nat, hb0, decide_true, Wp_some, Wp_none, Wp_ite, Wc_some, Wc_none, Wc_ite, Wp_thenRun, seqQ_normal, seqQ_exit, seqQ_ret, Wp_inBlock, blkQ_normal, blkQ_ret, blkQ_same, blkQ_exit, Wp_opThen, opQ_at, Wp_guardP, retQ_normal, retQ_ret, loopQ_normal, loopQ_exit, loopQ_ret, go_sem, entry, joinEsc, if_pos, reduceIte, Nat.reduceAdd, Nat.reduceLeDiff, Nat.reduceLT, Nat.reduceEqDiff]
      exact ⟨k', by omega, j + 1, g, _, _, _, _, _, by omega, hp, rfl⟩
    | true =>
      have hb1 := bit_set (c := C) (i := i) (by omega) (by omega) hbi
      cases hbj : C.testBit j with
      | false =>
        have hb0 := bit_clear (c := C) (i := j) (by omega) (by omega) hbj
        rw [hbi, hbj, Bool.and_false, if_neg (by simp)] at hp
        simp (maxSteps := 2000000) +contextual only [w_i_PairSteps_1, hd, hw, shr_nat, hb0, hb1, show ¬ ((1 : Int) = 0) by omega, decide_true, decide_false, Wp_some, Wp_none, Wp_ite, Wc_some, Wc_none, Wc_ite, Wp_thenRun, seqQ_normal, seqQ_exit, seqQ_ret, Wp_inBlock, blkQ_normal, blkQ_ret, blkQ_same, blkQ_exit, Wp_opThen, opQ_at, Wp_guardP, retQ_normal, retQ_ret, loopQ_normal, loopQ_exit, loopQ_ret, go_sem, entry, joinEsc, if_pos, reduceIte, Nat.reduceAdd, Nat.reduceLeDiff, Nat.reduceLT, Nat.reduceEqDiff]
        exact ⟨k', by omega, j + 1, g, _, _, _, _, _, by omega, hp, rfl⟩
      | true =>
        have hb2 := bit_set (c := C) (i := j) (by omega) (by omega) hbj
        rw [hbi, hbj, Bool.and_true, if_pos rfl] at hp
        have hpf := pair_f1 C (by omega) i (by omega) j (by omega) (by rw [hbi, hbj]; rfl)
        unfold prW at hpf
        obtain ⟨n1, _, _⟩ := nu_pair hn8 (by omega) hi (show j ≤ i by omega) (show (C.testBit i && C.testBit j) = true by rw [hbi, hbj]; rfl)
        have hok := hb _ n1
        have hn9 := nu_le8 (c := C - prM i j) hn8
        have hlt : C - prM i j < F := by omega
        have hg1 := part_encI 1 (mid_get (R := R) (g := g) hB n1)
        have hg2 := part_encI 1 (mid_at (R := R) (g := g) hB)
        have hsr := fun a => setRange_midI B R g a
        rw [hB] at hsr
        have hle : C + 1 ≤ F := hC
        generalize B.getD (C - prM i j) 0 = bf at *
        unfold okP at hok
        have hwb : IntKind.i64.wrap (bf + 1) = bf + 1 := wrap64 (by omega) (by omega)
        unfold updP at hp
        by_cases c1 : 0 ≤ bf
        · by_cases c2 : g < 0
          · rw [if_pos ⟨c1, .inl c2⟩] at hp
            simp (maxSteps := 2000000) +contextual only [w_i_PairSteps_1, hd, hw, shr_nat, shl_nat, hb1, hb2, hpf, hlt, hC, hg1, hg2, hsr, hle, hlen, hwb, c1, c2, show ¬ ((1 : Int) = 0) by omega, ge_iff_le, Nat.mul_one, decide_true, decide_false, Wp_some, Wp_none, Wp_ite, Wc_some, Wc_none, Wc_ite, Wp_thenRun, seqQ_normal, seqQ_exit, seqQ_ret, Wp_inBlock, blkQ_normal, blkQ_ret, blkQ_same, blkQ_exit, Wp_opThen, opQ_at, Wp_guardP, retQ_normal, retQ_ret, loopQ_normal, loopQ_exit, loopQ_ret, go_sem, entry, joinEsc, if_pos, reduceIte, Nat.reduceAdd, Nat.reduceLeDiff, Nat.reduceLT, Nat.reduceEqDiff]
            exact ⟨k', by omega, j + 1, bf + 1, _, _, _, _, _, by omega, hp, rfl⟩
          · by_cases c3 : bf + 1 < g
            · rw [if_pos ⟨c1, .inr c3⟩] at hp
              simp (maxSteps := 2000000) +contextual only [w_i_PairSteps_1, hd, hw, shr_nat, shl_nat, hb1, hb2, hpf, hlt, hC, hg1, hg2, hsr, hle, hlen, hwb, c1, c2, c3, show ¬ ((1 : Int) = 0) by omega, ge_iff_le, Nat.mul_one, decide_true, decide_false, Wp_some, Wp_none, Wp_ite, Wc_some, Wc_none, Wc_ite, Wp_thenRun, seqQ_normal, seqQ_exit, seqQ_ret, Wp_inBlock, blkQ_normal, blkQ_ret, blkQ_same, blkQ_exit, Wp_opThen, opQ_at, Wp_guardP, retQ_normal, retQ_ret, loopQ_normal, loopQ_exit, loopQ_ret, go_sem, entry, joinEsc, if_pos, reduceIte, Nat.reduceAdd, Nat.reduceLeDiff, Nat.reduceLT, Nat.reduceEqDiff]
              exact ⟨k', by omega, j + 1, bf + 1, _, _, _, _, _, by omega, hp, rfl⟩
            · rw [if_neg (fun h => by omega)] at hp
              simp (maxSteps := 2000000) +contextual only [w_i_PairSteps_1, hd, hw, shr_nat, shl_nat, hb1, hb2, hpf, hlt, hC, hg1, hg2, hle, hlen, hwb, c1, c2, c3, show ¬ ((1 : Int) = 0) by omega, ge_iff_le, Nat.mul_one, decide_true, decide_false, Wp_some, Wp_none, Wp_ite, Wc_some, Wc_none, Wc_ite, Wp_thenRun, seqQ_normal, seqQ_exit, seqQ_ret, Wp_inBlock, blkQ_normal, blkQ_ret, blkQ_same, blkQ_exit, Wp_opThen, opQ_at, Wp_guardP, retQ_normal, retQ_ret, loopQ_normal, loopQ_exit, loopQ_ret, go_sem, entry, joinEsc, if_pos, reduceIte, Nat.reduceAdd, Nat.reduceLeDiff, Nat.reduceLT, Nat.reduceEqDiff]
              exact ⟨k', by omega, j + 1, g, _, _, _, _, _, by omega, hp, rfl⟩
        · rw [if_neg (fun h => by omega)] at hp
          simp (maxSteps := 2000000) +contextual only [w_i_PairSteps_1, hd, hw, shr_nat, shl_nat, hb1, hb2, hpf, hlt, hC, hg1, hg2, hle, hlen, hwb, c1, show ¬ ((1 : Int) = 0) by omega, ge_iff_le, Nat.mul_one, decide_true, decide_false, Wp_some, Wp_none, Wp_ite, Wc_some, Wc_none, Wc_ite, Wp_thenRun, seqQ_normal, seqQ_exit, seqQ_ret, Wp_inBlock, blkQ_normal, blkQ_ret, blkQ_same, blkQ_exit, Wp_opThen, opQ_at, Wp_guardP, retQ_normal, retQ_ret, loopQ_normal, loopQ_exit, loopQ_ret, go_sem, entry, joinEsc, if_pos, reduceIte, Nat.reduceAdd, Nat.reduceLeDiff, Nat.reduceLT, Nat.reduceEqDiff]
          exact ⟨k', by omega, j + 1, g, _, _, _, _, _, by omega, hp, rfl⟩

theorem pair_i2 {a0 a1 a2 a3 a4 a5 a11 a12 a13 a22 a8 a9 a10 a16 a17 a18 a19 a20 a21 : AV} {n C F : Nat} {B R : List Int} {g0 : Int} (hn8 : n ≤ 8) (hF : F = 2 ^ n) (hC : C < F) (hB : B.length = C) (hR : B.length + (R.length + 1) = F) (hb : ∀ d, d < C → okP n d (B.getD d 0)) :
    Wp (run T pr (.loop w_i_PairSteps_2) ⟨[a0, a1, a2, a3, a4, a5, slI H.length F (some F), .int .i64 C, a8, a9, a10, a11, a12, a13, .int .i64 n, .int .i64 0, a16, a17, a18, a19, a20, a21, a22], ⟨H ++ [.cells (encI (B ++ g0 :: R)) true], none⟩⟩) (fun ex st => ex = .exit 2 ∧ ∃ (w8 w9 w10 w15 w16 w17 w18 w19 w20 w21 : AV), st = ⟨[a0, a1, a2, a3, a4, a5, slI H.length F (some F), .int .i64 C, w8, w9, w10, a11, a12, a13, .int .i64 n, w15, w16, w17, w18, w19, w20, w21, a22], ⟨H ++ [.cells (encI (B ++ pairOut B C n 0 g0 :: R)) true], none⟩⟩) := by
  refine Wp_loop (fun k st => ∃ (i : Nat) (g : Int) (w8 w9 w10 w16 w17 w18 w19 w20 w21 : AV), k + i = n ∧ pairOut B C k i g = pairOut B C n 0 g0 ∧ st = ⟨[a0, a1, a2, a3, a4, a5, slI H.length F (some F), .int .i64 C, w8, w9, w10, a11, a12, a13, .int .i64 n, .int .i64 i, w16, w17, w18, w19, w20, w21, a22], ⟨H ++ [.cells (encI (B ++ g :: R)) true], none⟩⟩) ?_ n _
    ⟨0, g0, _, _, _, _, _, _, _, _, _, rfl, rfl, rfl⟩
  rintro k _ ⟨i, g, w8, w9, w10, w16, w17, w18, w19, w20, w21, hk, hp, rfl⟩
  by_cases h0 : k = 0
  · subst h0
    have hd : ¬ i < n := by omega
    rw [pairOut] at hp
    simp (maxSteps := 2000000) +contextual only [w_i_PairSteps_2, hd, decide_false, Wp_some, Wp_none, Wp_ite, Wc_some, Wc_none, Wc_ite, Wp_thenRun, seqQ_normal, seqQ_exit, seqQ_ret, Wp_inBlock, blkQ_normal, blkQ_ret, blkQ_same, blkQ_exit, Wp_opThen, opQ_at, Wp_guardP, retQ_normal, retQ_ret, loopQ_normal, loopQ_exit, loopQ_ret, go_sem, entry, joinEsc, if_pos, reduceIte, Nat.reduceAdd, Nat.reduceLeDiff, Nat.reduceLT, Nat.reduceEqDiff]
    exact ⟨_, _, _, _, _, _, _, _, _, _, by rw [hp]⟩
  · obtain ⟨k', rfl⟩ : ∃ k', k = k' + 1 := ⟨k - 1, by omega⟩
    have hd : i < n := by omega
    have hw := wrap_succ (show i < 9223372036854775807 by omega)
    rw [pairOut] at hp
    simp (maxSteps := 2000000) +contextual only [w_i_PairSteps_2, hd, hw, decide_true, Wp_some, Wp_none, Wp_ite, Wc_some, Wc_none, Wc_ite, Wp_thenRun, seqQ_normal, seqQ_exit, seqQ_ret, Wp_inBlock, blkQ_normal, blkQ_ret, blkQ_same, blkQ_exit, Wp_opThen, opQ_at, Wp_guardP, retQ_normal, retQ_ret, loopQ_normal, loopQ_exit, loopQ_ret, go_sem, entry, joinEsc, if_pos, reduceIte, Nat.reduceAdd, Nat.reduceLeDiff, Nat.reduceLT, Nat.reduceEqDiff]
    refine (pair_i1 (i := i) hn8 hF hC hd hB hR hb).mono ?_
    rintro ex st ⟨rfl, w9', w10', w18', w19', w20', w21', rfl⟩
    simp (maxSteps := 2000000) +contextual only [hw, Wp_some, Wp_none, Wp_ite, Wc_some, Wc_none, Wc_ite, Wp_thenRun, seqQ_normal, seqQ_exit, seqQ_ret, Wp_inBlock, blkQ_normal, blkQ_ret, blkQ_same, blkQ_exit, Wp_opThen, opQ_at, Wp_guardP, retQ_normal, retQ_ret, loopQ_normal, loopQ_exit, loopQ_ret, go_sem, entry, joinEsc, if_pos, reduceIte, Nat.reduceAdd, Nat.reduceLeDiff, Nat.reduceLT, Nat.reduceEqDiff]
    exact ⟨k', by omega, i + 1, _, _, _, _, _, _, _, _, _, _, by omega, hp, rfl⟩

theorem steps_pre {safe : Nat → Bool} {n C : Nat} (h8 : n ≤ 8) (hC : C ≤ 2 ^ n) : ∀ d, d < C → okP n d ((stepsL safe n C).getD d 0) := by
  intro d hd
  rw [← stepsL_getD safe n (2 ^ n) hC hd]
  exact steps_ok h8 d (by omega)

theorem pair_i3 {a3 a4 a11 a22 a8 a9 a10 a12 a13 a14 a15 a16 a17 a18 a19 a20 a21 : AV} {n F q u : Nat} {c : Option Nat} {ls : List Ld} {a b o : Int} (hls : ls.length = n) (hn8 : n ≤ 8) (hF : F = 2 ^ n) (hq : cellsAt H q = some (encL ls)) (hu : cellsAt H u = some [.int .i64 a, .int .i64 b, .int .i64 o]) :
    Wp (run T pr (.loop w_i_PairSteps_3) ⟨[rfV a b o, slL q n c, .ptr (some (u, 0)), a3, a4, .int .i64 ((F : Int) - 1), slI H.length F (some F), .int .i64 1, a8, a9, a10, a11, a12, a13, a14, a15, a16, a17, a18, a19, a20, a21, a22], ⟨H ++ [.cells (encI (List.replicate F 0)) true], none⟩⟩) (fun ex st => ex = .exit 0 ∧ ∃ (w7 w8 w9 w10 w12 w13 w14 w15 w16 w17 w18 w19 w20 w21 : AV), st = ⟨[rfV a b o, slL q n c, .ptr (some (u, 0)), a3, a4, .int .i64 ((F : Int) - 1), slI H.length F (some F), w7, w8, w9, w10, a11, w12, w13, w14, w15, w16, w17, w18, w19, w20, w21, a22], ⟨H ++ [.cells (encI (stepsW2 a b o ls)) true], none⟩⟩) := by
  have hp8 : (2 : Nat) ^ n ≤ 2 ^ 8 := Nat.pow_le_pow_right (by omega) hn8
  have h256 : (2 : Nat) ^ 8 = 256 := by decide
  have hFp : 0 < F := by rw [hF]; exact Nat.two_pow_pos n
  have hW : stepsW2 a b o ls = stepsL (fun c => safeW a b o ls (c : Int)) n F := by unfold stepsW2; rw [hls, ← hF]
  have hr := fun G => e_i_Raft_isSafe (pr := pr) (e := none) (c := c) (cells_mono hq G) (by omega) a b o
  rw [hls] at hr
  have hu' := fun G => cells_mono hu G
  generalize hsf : (fun c : Nat => safeW a b o ls (c : Int)) = safe at hW
  have hsa : ∀ c : Nat, safeW a b o ls (c : Int) = safe c := fun c => by rw [← hsf]
  refine Wp_loop (fun k st => ∃ (C : Nat) (w8 w9 w10 w12 w13 w14 w15 w16 w17 w18 w19 w20 w21 : AV), k + C = F ∧ 0 < C ∧ st = ⟨[rfV a b o, slL q n c, .ptr (some (u, 0)), a3, a4, .int .i64 ((F : Int) - 1), slI H.length F (some F), .int .i64 C, w8, w9, w10, a11, w12, w13, w14, w15, w16, w17, w18, w19, w20, w21, a22], ⟨H ++ [.cells (encI (stepsL safe n C ++ List.replicate k 0)) true], none⟩⟩) ?_ (F - 1) _ ?_
  · rintro k _ ⟨C, w8, w9, w10, w12, w13, w14, w15, w16, w17, w18, w19, w20, w21, hk, hC0, rfl⟩
    by_cases h0 : k = 0
    · subst h0
      have hCF : C = F := by omega
      have hd : ¬ ((C : Int) ≤ (F : Int) - 1) := by omega
      rw [List.replicate_zero, List.append_nil, hCF, ← hW]
      rw [hCF] at hd
      simp (maxSteps := 2000000) +contextual only [w_i_PairSteps_3, hd, decide_false, Wp_some, Wp_none, Wp_ite, Wc_some, Wc_none, Wc_ite, Wp_thenRun, seqQ_normal, seqQ_exit, seqQ_ret, Wp_inBlock, blkQ_normal, blkQ_ret, blkQ_same, blkQ_exit, Wp_opThen, opQ_at, Wp_guardP, retQ_normal, retQ_ret, loopQ_normal, loopQ_exit, loopQ_ret, go_sem, entry, joinEsc, if_pos, reduceIte, Nat.reduceAdd, Nat.reduceLeDiff, Nat.reduceLT, Nat.reduceEqDiff]
      exact ⟨_, _, _, _, _, _, _, _, _, _, _, _, _, _, rfl⟩
    · obtain ⟨k', rfl⟩ : ∃ k', k = k' + 1 := ⟨k - 1, by omega⟩
      have hd : (C : Int) ≤ (F : Int) - 1 := by omega
      have hCF : C < F := by omega
      have hw := wrap_succ (show C < 9223372036854775807 by omega)
      have hB : (stepsL safe n C).length = C := stepsL_length _ _ _
      have hsr := fun r a => setRange_midI (stepsL safe n C) (List.replicate k' 0) r a
      rw [hB] at hsr
      have hle : C + 1 ≤ F := hCF
      have hlen : ∀ g, (encI (stepsL safe n C ++ g :: List.replicate k' 0)).length = F := fun g => by rw [encI, List.length_map, List.length_append, List.length_cons, List.length_replicate, hB]; omega
      have hval : stepsL safe n (C + 1) = stepsL safe n C ++ [if safe C = true then pairOut (stepsL safe n C) C n 0 (-1) else -1] := by
        rw [stepsL]
        unfold stepV
        rw [if_neg (by omega)]
      rw [List.replicate_succ]
      cases hs : safe C with
      | false =>
        rw [hs, if_neg (by simp)] at hval
        have hs' := (hsa C).trans hs
        simp (maxSteps := 2000000) +contextual only [w_i_PairSteps_3, hd, hw, hr, hs', hu', hsr, hle, hlen, hCF, Nat.mul_one, decide_true, Wp_some, Wp_none, Wp_ite, Wc_some, Wc_none, Wc_ite, Wp_thenRun, seqQ_normal, seqQ_exit, seqQ_ret, Wp_inBlock, blkQ_normal, blkQ_ret, blkQ_same, blkQ_exit, Wp_opThen, opQ_at, Wp_guardP, retQ_normal, retQ_ret, loopQ_normal, loopQ_exit, loopQ_ret, go_sem, entry, joinEsc, if_pos, reduceIte, Nat.reduceAdd, Nat.reduceLeDiff, Nat.reduceLT, Nat.reduceEqDiff]
        exact ⟨k', by omega, C + 1, _, _, _, _, _, _, _, _, _, _, _, _, _, by omega, by omega, by rw [hval, List.append_assoc]; rfl⟩
      | true =>
        rw [hs, if_pos rfl] at hval
        have hs' := (hsa C).trans hs
        simp (maxSteps := 2000000) +contextual only [w_i_PairSteps_3, hd, hw, hr, hs', hu', hsr, hle, hlen, hCF, Nat.mul_one, decide_true, Wp_some, Wp_none, Wp_ite, Wc_some, Wc_none, Wc_ite, Wp_thenRun, seqQ_normal, seqQ_exit, seqQ_ret, Wp_inBlock, blkQ_normal, blkQ_ret, blkQ_same, blkQ_exit, Wp_opThen, opQ_at, Wp_guardP, retQ_normal, retQ_ret, loopQ_normal, loopQ_exit, loopQ_ret, go_sem, entry, joinEsc, if_pos, reduceIte, Nat.reduceAdd, Nat.reduceLeDiff, Nat.reduceLT, Nat.reduceEqDiff]
        refine (pair_i2 hn8 hF hCF hB (by rw [hB, List.length_replicate]; omega) (steps_pre hn8 (by omega))).mono ?_
        rintro ex st ⟨rfl, w8', w9', w10', w15', w16', w17', w18', w19', w20', w21', rfl⟩
        simp (maxSteps := 2000000) +contextual only [hw, Wp_some, Wp_none, Wp_ite, Wc_some, Wc_none, Wc_ite, Wp_thenRun, seqQ_normal, seqQ_exit, seqQ_ret, Wp_inBlock, blkQ_normal, blkQ_ret, blkQ_same, blkQ_exit, Wp_opThen, opQ_at, Wp_guardP, retQ_normal, retQ_ret, loopQ_normal, loopQ_exit, loopQ_ret, go_sem, entry, joinEsc, if_pos, reduceIte, Nat.reduceAdd, Nat.reduceLeDiff, Nat.reduceLT, Nat.reduceEqDiff]
        exact ⟨k', by omega, C + 1, _, _, _, _, _, _, _, _, _, _, _, _, _, by omega, by omega, by rw [hval, List.append_assoc]; rfl⟩
  · have hin : List.replicate F (0 : Int) = stepsL safe n 1 ++ List.replicate (F - 1) 0 := by
      obtain ⟨f, rfl⟩ : ∃ f, F = f + 1 := ⟨F - 1, by omega⟩
      rfl
    rw [hin]
    exact ⟨1, _, _, _, _, _, _, _, _, _, _, _, _, _, by omega, by omega, rfl⟩

/-- what PairSteps returns -/
def pairT (a b o : Int) (ls : List Ld) : AV := if cargoOk a b o ls = true ∧ 0 ≤ (stepsW2 a b o ls).getD (2 ^ ls.length - 1) 0 then .tup [.int .i64 ((stepsW2 a b o ls).getD (2 ^ ls.length - 1) 0), .bool true] else .tup [.int .i64 0, .bool false]

theorem stepsF {a b o : Int} {ls : List Ld} (sz : Nat) : part false (encI (stepsW2 a b o ls)) (2 ^ ls.length - 1) sz = some (.int .i64 ((stepsW2 a b o ls).getD (2 ^ ls.length - 1) 0)) :=
  part_encI sz (getD_get (by rw [stepsW2_length]; have := Nat.two_pow_pos ls.length; omega))

theorem e_i_PairSteps {q : Nat} {c : Option Nat} {ls : List Ld} (hq : cellsAt H q = some (encL ls)) (a b o : Int) : call T pr f_i_PairSteps [rfV a b o, slL q ls.length c] ⟨H, e⟩ = some (pairT a b o ls, ⟨H, e⟩) := by
  apply Wc.eq
  rw [call_wc t_i_PairSteps]
  have ha := fun G => e_i_areCargo (pr := pr) (e := none) (c := c) (cells_mono hq G) a b o
  unfold pairT
  cases h1 : cargoOk a b o ls with
  | false =>
    rw [if_neg (by simp)]
    simp +contextual only [a_i_PairSteps, c_i_PairSteps, ha, h1, Wp_some, Wp_none, Wp_ite, Wc_some, Wc_none, Wc_ite, Wp_thenRun, seqQ_normal, seqQ_exit, seqQ_ret, Wp_inBlock, blkQ_normal, blkQ_ret, blkQ_same, blkQ_exit, Wp_opThen, opQ_at, Wp_guardP, retQ_normal, retQ_ret, loopQ_normal, loopQ_exit, loopQ_ret, go_sem, entry, joinEsc, if_pos, reduceIte, Nat.reduceAdd, Nat.reduceLeDiff, Nat.reduceLT, Nat.reduceEqDiff]
  | true =>
    have hn8 := cargo_le h1
    obtain ⟨p1, p2, p3⟩ := pow_facts ls.length (by omega)
    have hw1 : IntKind.i64.wrap (((2 ^ ls.length : Nat) : Int) - 1) = ((2 ^ ls.length : Nat) : Int) - 1 := wrap64 (by omega) (by omega)
    have hw2 : IntKind.i64.wrap (((2 ^ ls.length : Nat) : Int) - 1 + 1) = ((2 ^ ls.length : Nat) : Int) := by rw [Int.sub_add_cancel]; exact wrap64 (by omega) (by omega)
    have hmb : ((2 ^ ls.length : Nat) : Int) * ((8 : Nat) : Int) ≤ (maxBytes : Int) := by unfold maxBytes; omega
    simp (maxSteps := 2000000) +contextual only [a_i_PairSteps, c_i_PairSteps, ha, h1, shl_nat, p1, hw1, hw2, hmb, zeros_encI, Wp_some, Wp_none, Wp_ite, Wc_some, Wc_none, Wc_ite, Wp_thenRun, seqQ_normal, seqQ_exit, seqQ_ret, Wp_inBlock, blkQ_normal, blkQ_ret, blkQ_same, blkQ_exit, Wp_opThen, opQ_at, Wp_guardP, retQ_normal, retQ_ret, loopQ_normal, loopQ_exit, loopQ_ret, go_sem, entry, joinEsc, if_pos, reduceIte, Nat.reduceAdd, Nat.reduceLeDiff, Nat.reduceLT, Nat.reduceEqDiff]
    have hi3 := pair_i3 (pr := pr) (H := H ++ [.cells [.int .i64 a, .int .i64 b, .int .i64 o] true]) (n := ls.length) (F := 2 ^ ls.length) (u := H.length) (c := c) (ls := ls) (a := a) (b := b) (o := o) (a3 := .int .i64 0) (a4 := .bool false) (a8 := .undef) (a9 := .undef) (a10 := .undef) (a11 := .bool false) (a12 := .undef) (a13 := .undef) (a14 := .undef) (a15 := .undef) (a16 := .undef) (a17 := .undef) (a18 := .undef) (a19 := .undef) (a20 := .undef) (a21 := .undef) (a22 := .undef) rfl hn8 rfl (cells_mono hq _) (by simp +contextual only [go_sem, entry, joinEsc, if_pos, reduceIte, Nat.reduceAdd, Nat.reduceLeDiff, Nat.reduceLT, Nat.reduceEqDiff])
    rw [List.length_append, List.length_singleton, List.append_assoc] at hi3
    refine hi3.mono ?_
    rintro ex st ⟨rfl, w7', w8', w9', w10', w12', w13', w14', w15', w16', w17', w18', w19', w20', w21', rfl⟩
    have hsF := stepsF (a := a) (b := b) (o := o) (ls := ls) 1
    have hix : (((2 ^ ls.length : Nat) : Int) - 1) = ((2 ^ ls.length - 1 : Nat) : Int) := by omega
    have hlt : 2 ^ ls.length - 1 < 2 ^ ls.length := by omega
    rw [hix]
    generalize (stepsW2 a b o ls).getD (2 ^ ls.length - 1) 0 = v at *
    by_cases hv : v < 0
    · rw [if_neg (by omega)]
      simp (maxSteps := 2000000) +contextual only [hsF, hlt, hv, Nat.mul_one, decide_true, Wp_some, Wp_none, Wp_ite, Wc_some, Wc_none, Wc_ite, Wp_thenRun, seqQ_normal, seqQ_exit, seqQ_ret, Wp_inBlock, blkQ_normal, blkQ_ret, blkQ_same, blkQ_exit, Wp_opThen, opQ_at, Wp_guardP, retQ_normal, retQ_ret, loopQ_normal, loopQ_exit, loopQ_ret, go_sem, entry, joinEsc, if_pos, reduceIte, Nat.reduceAdd, Nat.reduceLeDiff, Nat.reduceLT, Nat.reduceEqDiff]
    · have hv0 : 0 ≤ v := by omega
      rw [if_pos hv0]
      simp (maxSteps := 2000000) +contextual only [hsF, hlt, hv, Nat.mul_one, decide_false, Wp_some, Wp_none, Wp_ite, Wc_some, Wc_none, Wc_ite, Wp_thenRun, seqQ_normal, seqQ_exit, seqQ_ret, Wp_inBlock, blkQ_normal, blkQ_ret, blkQ_same, blkQ_exit, Wp_opThen, opQ_at, Wp_guardP, retQ_normal, retQ_ret, loopQ_normal, loopQ_exit, loopQ_ret, go_sem, entry, joinEsc, if_pos, reduceIte, Nat.reduceAdd, Nat.reduceLeDiff, Nat.reduceLT, Nat.reduceEqDiff]

theorem pair_s1 {a0 a1 a2 a3 a4 a5 a11 a12 a13 a14 a10 a15 a16 a17 : AV} {i n C F : Nat} {B R : List Int} {g0 : Int} (hn8 : n ≤ 8) (hF : F = 2 ^ n) (hC : C < F) (hi : i < n) (hB : B.length = C) (hR : B.length + (R.length + 1) = F) (hb : ∀ d, d < C → okP n d (B.getD d 0)) :
    Wp (run T pr (.loop w_s_PairSteps_1) ⟨[a0, a1, a2, a3, a4, a5, slI H.length F (some F), .int .i64 C, .int .i64 i, .int .i64 0, a10, a11, a12, a13, a14, a15, a16, a17], ⟨H ++ [.cells (encI (B ++ g0 :: R)) true], none⟩⟩) (fun ex st => ex = .exit 4 ∧ ∃ (w9 w10 w15 w16 w17 : AV), st = ⟨[a0, a1, a2, a3, a4, a5, slI H.length F (some F), .int .i64 C, .int .i64 i, w9, w10, a11, a12, a13, a14, w15, w16, w17], ⟨H ++ [.cells (encI (B ++ pairIn B C i (i + 1) 0 g0 :: R)) true], none⟩⟩) := by
  have hp8 : (2 : Nat) ^ n ≤ 2 ^ 8 := Nat.pow_le_pow_right (by omega) hn8
  have h256 : (2 : Nat) ^ 8 = 256 := by decide
  have hlen : ∀ g, (encI (B ++ g :: R)).length = F := fun g => by rw [encI, List.length_map, List.length_append, List.length_cons]; omega
  refine Wp_loop (fun k st => ∃ (j : Nat) (g : Int) (w10 w15 w16 w17 : AV), k + j = i + 1 ∧ pairIn B C i k j g = pairIn B C i (i + 1) 0 g0 ∧ st = ⟨[a0, a1, a2, a3, a4, a5, slI H.length F (some F), .int .i64 C, .int .i64 i, .int .i64 j, w10, a11, a12, a13, a14, w15, w16, w17], ⟨H ++ [.cells (encI (B ++ g :: R)) true], none⟩⟩) ?_ (i + 1) _
    ⟨0, g0, _, _, _, _, rfl, rfl, rfl⟩
  rintro k _ ⟨j, g, w10, w15, w16, w17, hk, hp, rfl⟩
  by_cases h0 : k = 0
  · subst h0
    have hd : ¬ j ≤ i := by omega
    have hd' : ¬ (j : Int) ≤ (i : Int) := by omega
    rw [pairIn] at hp
    simp (maxSteps := 2000000) +contextual only [w_s_PairSteps_1, hd, hd', decide_false, Wp_some, Wp_none, Wp_ite, Wc_some, Wc_none, Wc_ite, Wp_thenRun, seqQ_normal, seqQ_exit, seqQ_ret, Wp_inBlock, blkQ_normal, blkQ_ret, blkQ_same, blkQ_exit, Wp_opThen, opQ_at, Wp_guardP, retQ_normal, retQ_ret, loopQ_normal, loopQ_exit, loopQ_ret, go_sem, entry, joinEsc, if_pos, reduceIte, Nat.reduceAdd, Nat.reduceLeDiff, Nat.reduceLT, Nat.reduceEqDiff]
    exact ⟨_, _, _, _, _, by rw [hp]⟩
  · obtain ⟨k', rfl⟩ : ∃ k', k = k' + 1 := ⟨k - 1, by omega⟩
    have hd : j ≤ i := by omega
    have hd' : (j : Int) ≤ (i : Int) := by omega
    have hw := wrap_succ (show j < 9223372036854775807 by omega)
    rw [pairIn] at hp
    cases hbb : (C.testBit i && C.testBit j) with
    | false =>
      have hpn := pair_not C (by omega) i (by omega) j (by omega) hbb
      unfold prW at hpn
      rw [hbb, if_neg (by simp)] at hp
      simp (maxSteps := 2000000) +contextual only [w_s_PairSteps_1, hd, hd', hw, shl_nat, hpn, decide_true, decide_false, Wp_some, Wp_none, Wp_ite, Wc_some, Wc_none, Wc_ite, Wp_thenRun, seqQ_normal, seqQ_exit, seqQ_ret, Wp_inBlock, blkQ_normal, blkQ_ret, blkQ_same, blkQ_exit, Wp_opThen, opQ_at, Wp_guardP, retQ_normal, retQ_ret, loopQ_normal, loopQ_exit, loopQ_ret, go_sem, entry, joinEsc, if_pos, reduceIte, Nat.reduceAdd, Nat.reduceLeDiff, Nat.reduceLT, Nat.reduceEqDiff]
      exact ⟨k', by omega, j + 1, g, _, _, _, _, by omega, hp, rfl⟩
    | true =>
      rw [hbb, if_pos rfl] at hp
      have hpf := pair_f3 C (by omega) i (by omega) j (by omega) hbb
      have hpa := pair_f2 C (by omega) i (by omega) j (by omega) hbb
      unfold prW at hpf hpa
      have hpf' : IntKind.i64.wrap ((C : Int) - orI .i64 (shlI .i64 1 (i : Int)) (shlI .i64 1 (j : Int))) = ((C - prM i j : Nat) : Int) := hpf
      obtain ⟨n1, _, _⟩ := nu_pair hn8 (by omega) hi (show j ≤ i by omega) hbb
      have hok := hb _ n1
      have hn9 := nu_le8 (c := C - prM i j) hn8
      have hlt : C - prM i j < F := by omega
      have hg1 := part_encI 1 (mid_get (R := R) (g := g) hB n1)
      have hg2 := part_encI 1 (mid_at (R := R) (g := g) hB)
      have hsr := fun a => setRange_midI B R g a
      rw [hB] at hsr
      have hle : C + 1 ≤ F := hC
      generalize B.getD (C - prM i j) 0 = bf at *
      unfold okP at hok
      have hwb : IntKind.i64.wrap (bf + 1) = bf + 1 := wrap64 (by omega) (by omega)
      unfold updP at hp
      by_cases c1 : bf < 0
      · rw [if_neg (fun h => by omega)] at hp
        simp (maxSteps := 2000000) +contextual only [w_s_PairSteps_1, hd, hd', hw, shl_nat, hpf', hpa, hlt, hC, hg1, hg2, hle, hlen, hwb, c1, Nat.mul_one, decide_true, decide_false, Wp_some, Wp_none, Wp_ite, Wc_some, Wc_none, Wc_ite, Wp_thenRun, seqQ_normal, seqQ_exit, seqQ_ret, Wp_inBlock, blkQ_normal, blkQ_ret, blkQ_same, blkQ_exit, Wp_opThen, opQ_at, Wp_guardP, retQ_normal, retQ_ret, loopQ_normal, loopQ_exit, loopQ_ret, go_sem, entry, joinEsc, if_pos, reduceIte, Nat.reduceAdd, Nat.reduceLeDiff, Nat.reduceLT, Nat.reduceEqDiff]
        exact ⟨k', by omega, j + 1, g, _, _, _, _, by omega, hp, rfl⟩
      · by_cases c2 : g < 0
        · rw [if_pos ⟨by omega, .inl c2⟩] at hp
          simp (maxSteps := 2000000) +contextual only [w_s_PairSteps_1, hd, hd', hw, shl_nat, hpf', hpa, hlt, hC, hg1, hg2, hsr, hle, hlen, hwb, c1, c2, Nat.mul_one, decide_true, decide_false, Wp_some, Wp_none, Wp_ite, Wc_some, Wc_none, Wc_ite, Wp_thenRun, seqQ_normal, seqQ_exit, seqQ_ret, Wp_inBlock, blkQ_normal, blkQ_ret, blkQ_same, blkQ_exit, Wp_opThen, opQ_at, Wp_guardP, retQ_normal, retQ_ret, loopQ_normal, loopQ_exit, loopQ_ret, go_sem, entry, joinEsc, if_pos, reduceIte, Nat.reduceAdd, Nat.reduceLeDiff, Nat.reduceLT, Nat.reduceEqDiff]
          exact ⟨k', by omega, j + 1, bf + 1, _, _, _, _, by omega, hp, rfl⟩
        · by_cases c3 : bf + 1 < g
          · rw [if_pos ⟨by omega, .inr c3⟩] at hp
            simp (maxSteps := 2000000) +contextual only [w_s_PairSteps_1, hd, hd', hw, shl_nat, hpf', hpa, hlt, hC, hg1, hg2, hsr, hle, hlen, hwb, c1, c2, c3, Nat.mul_one, decide_true, decide_false, Wp_some, Wp_none, Wp_ite, Wc_some, Wc_none, Wc_ite, Wp_thenRun, seqQ_normal, seqQ_exit, seqQ_ret, Wp_inBlock, blkQ_normal, blkQ_ret, blkQ_same, blkQ_exit, Wp_opThen, opQ_at, Wp_guardP, retQ_normal, retQ_ret, loopQ_normal, loopQ_exit, loopQ_ret, go_sem, entry, joinEsc, if_pos, reduceIte, Nat.reduceAdd, Nat.reduceLeDiff, Nat.reduceLT, Nat.reduceEqDiff]
            exact ⟨k', by omega, j + 1, bf + 1, _, _, _, _, by omega, hp, rfl⟩
          · rw [if_neg (fun h => by omega)] at hp
            simp (maxSteps := 2000000) +contextual only [w_s_PairSteps_1, hd, hd', hw, shl_nat, hpf', hpa, hlt, hC, hg1, hg2, hle, hlen, hwb, c1, c2, c3, Nat.mul_one, decide_true, decide_false, Wp_some, Wp_none, Wp_ite, Wc_some, Wc_none, Wc_ite, Wp_thenRun, seqQ_normal, seqQ_exit, seqQ_ret, Wp_inBlock, blkQ_normal, blkQ_ret, blkQ_same, blkQ_exit, Wp_opThen, opQ_at, Wp_guardP, retQ_normal, retQ_ret, loopQ_normal, loopQ_exit, loopQ_ret, go_sem, entry, joinEsc, if_pos, reduceIte, Nat.reduceAdd, Nat.reduceLeDiff, Nat.reduceLT, Nat.reduceEqDiff]
            exact ⟨k', by omega, j + 1, g, _, _, _, _, by omega, hp, rfl⟩

/-- a set's rounds over the first item -/
theorem pair_s2 {a3 a4 a11 a12 a13 a9 a10 a14 a15 a16 a17 : AV} {n C F q u : Nat} {c : Option Nat} {ls : List Ld} {a b o : Int} {B R : List Int} (hls : ls.length = n) (hn8 : n ≤ 8) (hF : F = 2 ^ n) (hq : cellsAt H q = some (encL ls)) (hu : cellsAt H u = some [.int .i64 a, .int .i64 b, .int .i64 o]) (hC : C < F) (hB : B.length = C) (hR : B.length + (R.length + 1) = F) (hb : ∀ d, d < C → okP n d (B.getD d 0)) :
    Wp (run T pr (.loop w_s_PairSteps_2) ⟨[rfV a b o, slL q n c, .ptr (some (u, 0)), a3, a4, .int .i64 n, slI H.length F (some F), .int .i64 C, .int .i64 0, a9, a10, a11, a12, a13, a14, a15, a16, a17], ⟨H ++ [.cells (encI (B ++ -1 :: R)) true], none⟩⟩) (fun ex st => ex = .exit 2 ∧ ∃ (w8 w9 w10 w14 w15 w16 w17 : AV), st = ⟨[rfV a b o, slL q n c, .ptr (some (u, 0)), a3, a4, .int .i64 n, slI H.length F (some F), .int .i64 C, w8, w9, w10, a11, a12, a13, w14, w15, w16, w17], ⟨H ++ [.cells (encI (B ++ (if safeW a b o ls (C : Int) = true then pairOut B C n 0 (-1) else -1) :: R)) true], none⟩⟩) := by
  have hr := fun G => e_s_l10Safe (pr := pr) (e := none) (c := c) (cells_mono hq G) (by omega) a b o
  rw [hls] at hr
  have hu' := fun G => cells_mono hu G
  cases hs : safeW a b o ls (C : Int) with
  | false =>
    refine Wp_loop (fun k st => st = ⟨[rfV a b o, slL q n c, .ptr (some (u, 0)), a3, a4, .int .i64 n, slI H.length F (some F), .int .i64 C, .int .i64 0, a9, a10, a11, a12, a13, a14, a15, a16, a17], ⟨H ++ [.cells (encI (B ++ -1 :: R)) true], none⟩⟩) ?_ 0 _ rfl
    rintro k _ rfl
    by_cases h0 : 0 < n
    · have hd : (0 : Int) < (n : Int) := by omega
      simp (maxSteps := 2000000) +contextual only [w_s_PairSteps_2, hd, h0, hr, hs, hu', decide_true, Wp_some, Wp_none, Wp_ite, Wc_some, Wc_none, Wc_ite, Wp_thenRun, seqQ_normal, seqQ_exit, seqQ_ret, Wp_inBlock, blkQ_normal, blkQ_ret, blkQ_same, blkQ_exit, Wp_opThen, opQ_at, Wp_guardP, retQ_normal, retQ_ret, loopQ_normal, loopQ_exit, loopQ_ret, go_sem, entry, joinEsc, if_pos, reduceIte, Nat.reduceAdd, Nat.reduceLeDiff, Nat.reduceLT, Nat.reduceEqDiff]
      exact ⟨_, _, _, _, _, _, _, rfl⟩
    · have hd : ¬ (0 : Int) < (n : Int) := by omega
      simp (maxSteps := 2000000) +contextual only [w_s_PairSteps_2, hd, h0, hr, hs, hu', decide_false, Wp_some, Wp_none, Wp_ite, Wc_some, Wc_none, Wc_ite, Wp_thenRun, seqQ_normal, seqQ_exit, seqQ_ret, Wp_inBlock, blkQ_normal, blkQ_ret, blkQ_same, blkQ_exit, Wp_opThen, opQ_at, Wp_guardP, retQ_normal, retQ_ret, loopQ_normal, loopQ_exit, loopQ_ret, go_sem, entry, joinEsc, if_pos, reduceIte, Nat.reduceAdd, Nat.reduceLeDiff, Nat.reduceLT, Nat.reduceEqDiff]
      exact ⟨_, _, _, _, _, _, _, rfl⟩
  | true =>
    rw [if_pos rfl]
    refine Wp_loop (fun k st => ∃ (i : Nat) (g : Int) (w9 w10 w14 w15 w16 w17 : AV), k + i = n ∧ pairOut B C k i g = pairOut B C n 0 (-1) ∧ st = ⟨[rfV a b o, slL q n c, .ptr (some (u, 0)), a3, a4, .int .i64 n, slI H.length F (some F), .int .i64 C, .int .i64 i, w9, w10, a11, a12, a13, w14, w15, w16, w17], ⟨H ++ [.cells (encI (B ++ g :: R)) true], none⟩⟩) ?_ n _
      ⟨0, -1, _, _, _, _, _, _, rfl, rfl, rfl⟩
    rintro k _ ⟨i, g, w9, w10, w14, w15, w16, w17, hk, hp, rfl⟩
    by_cases h0 : k = 0
    · subst h0
      have hd : ¬ i < n := by omega
      rw [pairOut] at hp
      simp (maxSteps := 2000000) +contextual only [w_s_PairSteps_2, hd, hr, hs, hu', decide_false, Wp_some, Wp_none, Wp_ite, Wc_some, Wc_none, Wc_ite, Wp_thenRun, seqQ_normal, seqQ_exit, seqQ_ret, Wp_inBlock, blkQ_normal, blkQ_ret, blkQ_same, blkQ_exit, Wp_opThen, opQ_at, Wp_guardP, retQ_normal, retQ_ret, loopQ_normal, loopQ_exit, loopQ_ret, go_sem, entry, joinEsc, if_pos, reduceIte, Nat.reduceAdd, Nat.reduceLeDiff, Nat.reduceLT, Nat.reduceEqDiff]
      exact ⟨_, _, _, _, _, _, _, by rw [hp]⟩
    · obtain ⟨k', rfl⟩ : ∃ k', k = k' + 1 := ⟨k - 1, by omega⟩
      have hd : i < n := by omega
      have hw := wrap_succ (show i < 9223372036854775807 by omega)
      rw [pairOut] at hp
      simp (maxSteps := 2000000) +contextual only [w_s_PairSteps_2, hd, hw, hr, hs, hu', decide_true, Wp_some, Wp_none, Wp_ite, Wc_some, Wc_none, Wc_ite, Wp_thenRun, seqQ_normal, seqQ_exit, seqQ_ret, Wp_inBlock, blkQ_normal, blkQ_ret, blkQ_same, blkQ_exit, Wp_opThen, opQ_at, Wp_guardP, retQ_normal, retQ_ret, loopQ_normal, loopQ_exit, loopQ_ret, go_sem, entry, joinEsc, if_pos, reduceIte, Nat.reduceAdd, Nat.reduceLeDiff, Nat.reduceLT, Nat.reduceEqDiff]
      refine (pair_s1 (i := i) hn8 hF hC hd hB hR hb).mono ?_
      rintro ex st ⟨rfl, w9', w10', w15', w16', w17', rfl⟩
      simp (maxSteps := 2000000) +contextual only [hw, Wp_some, Wp_none, Wp_ite, Wc_some, Wc_none, Wc_ite, Wp_thenRun, seqQ_normal, seqQ_exit, seqQ_ret, Wp_inBlock, blkQ_normal, blkQ_ret, blkQ_same, blkQ_exit, Wp_opThen, opQ_at, Wp_guardP, retQ_normal, retQ_ret, loopQ_normal, loopQ_exit, loopQ_ret, go_sem, entry, joinEsc, if_pos, reduceIte, Nat.reduceAdd, Nat.reduceLeDiff, Nat.reduceLT, Nat.reduceEqDiff]
      exact ⟨k', by omega, i + 1, _, _, _, _, _, _, _, by omega, hp, rfl⟩

theorem pair_s3 {a3 a4 a11 a12 a8 a9 a10 a13 a14 a15 a16 a17 : AV} {n F q u : Nat} {c : Option Nat} {ls : List Ld} {a b o : Int} (hls : ls.length = n) (hn8 : n ≤ 8) (hF : F = 2 ^ n) (hq : cellsAt H q = some (encL ls)) (hu : cellsAt H u = some [.int .i64 a, .int .i64 b, .int .i64 o]) :
    Wp (run T pr (.loop w_s_PairSteps_3) ⟨[rfV a b o, slL q n c, .ptr (some (u, 0)), a3, a4, .int .i64 n, slI H.length F (some F), .int .i64 1, a8, a9, a10, a11, a12, a13, a14, a15, a16, a17], ⟨H ++ [.cells (encI (List.replicate F 0)) true], none⟩⟩) (fun ex st => ex = .exit 0 ∧ ∃ (w7 w8 w9 w10 w13 w14 w15 w16 w17 : AV), st = ⟨[rfV a b o, slL q n c, .ptr (some (u, 0)), a3, a4, .int .i64 n, slI H.length F (some F), w7, w8, w9, w10, a11, a12, w13, w14, w15, w16, w17], ⟨H ++ [.cells (encI (stepsW2 a b o ls)) true], none⟩⟩) := by
  have hp8 : (2 : Nat) ^ n ≤ 2 ^ 8 := Nat.pow_le_pow_right (by omega) hn8
  have h256 : (2 : Nat) ^ 8 = 256 := by decide
  have hFp : 0 < F := by rw [hF]; exact Nat.two_pow_pos n
  have hW : stepsW2 a b o ls = stepsL (fun c => safeW a b o ls (c : Int)) n F := by unfold stepsW2; rw [hls, ← hF]
  generalize hsf : (fun c : Nat => safeW a b o ls (c : Int)) = safe at hW
  have hsa : ∀ c : Nat, safeW a b o ls (c : Int) = safe c := fun c => by rw [← hsf]
  refine Wp_loop (fun k st => ∃ (C : Nat) (w8 w9 w10 w13 w14 w15 w16 w17 : AV), k + C = F ∧ 0 < C ∧ st = ⟨[rfV a b o, slL q n c, .ptr (some (u, 0)), a3, a4, .int .i64 n, slI H.length F (some F), .int .i64 C, w8, w9, w10, a11, a12, w13, w14, w15, w16, w17], ⟨H ++ [.cells (encI (stepsL safe n C ++ List.replicate k 0)) true], none⟩⟩) ?_ (F - 1) _ ?_
  · rintro k _ ⟨C, w8, w9, w10, w13, w14, w15, w16, w17, hk, hC0, rfl⟩
    by_cases h0 : k = 0
    · subst h0
      have hCF : C = F := by omega
      rw [List.replicate_zero, List.append_nil, hCF, ← hW]
      simp (maxSteps := 2000000) +contextual only [w_s_PairSteps_3, Nat.lt_irrefl, decide_false, Wp_some, Wp_none, Wp_ite, Wc_some, Wc_none, Wc_ite, Wp_thenRun, seqQ_normal, seqQ_exit, seqQ_ret, Wp_inBlock, blkQ_normal, blkQ_ret, blkQ_same, blkQ_exit, Wp_opThen, opQ_at, Wp_guardP, retQ_normal, retQ_ret, loopQ_normal, loopQ_exit, loopQ_ret, go_sem, entry, joinEsc, if_pos, reduceIte, Nat.reduceAdd, Nat.reduceLeDiff, Nat.reduceLT, Nat.reduceEqDiff]
      exact ⟨_, _, _, _, _, _, _, _, _, rfl⟩
    · obtain ⟨k', rfl⟩ : ∃ k', k = k' + 1 := ⟨k - 1, by omega⟩
      have hCF : C < F := by omega
      have hw := wrap_succ (show C < 9223372036854775807 by omega)
      have hB : (stepsL safe n C).length = C := stepsL_length _ _ _
      have hsr := fun r a => setRange_midI (stepsL safe n C) (List.replicate k' 0) r a
      rw [hB] at hsr
      have hle : C + 1 ≤ F := hCF
      have hlen : ∀ g, (encI (stepsL safe n C ++ g :: List.replicate k' 0)).length = F := fun g => by rw [encI, List.length_map, List.length_append, List.length_cons, List.length_replicate, hB]; omega
      have hval : stepsL safe n (C + 1) = stepsL safe n C ++ [if safeW a b o ls (C : Int) = true then pairOut (stepsL safe n C) C n 0 (-1) else -1] := by
        rw [stepsL]
        unfold stepV
        rw [if_neg (by omega), hsa]
      rw [List.replicate_succ]
      simp (maxSteps := 2000000) +contextual only [w_s_PairSteps_3, hw, hsr, hle, hlen, hCF, Nat.mul_one, decide_true, Wp_some, Wp_none, Wp_ite, Wc_some, Wc_none, Wc_ite, Wp_thenRun, seqQ_normal, seqQ_exit, seqQ_ret, Wp_inBlock, blkQ_normal, blkQ_ret, blkQ_same, blkQ_exit, Wp_opThen, opQ_at, Wp_guardP, retQ_normal, retQ_ret, loopQ_normal, loopQ_exit, loopQ_ret, go_sem, entry, joinEsc, if_pos, reduceIte, Nat.reduceAdd, Nat.reduceLeDiff, Nat.reduceLT, Nat.reduceEqDiff]
      refine (pair_s2 hls hn8 hF hq hu hCF hB (by rw [hB, List.length_replicate]; omega) (steps_pre hn8 (by omega))).mono ?_
      rintro ex st ⟨rfl, w8', w9', w10', w14', w15', w16', w17', rfl⟩
      simp (maxSteps := 2000000) +contextual only [hw, Wp_some, Wp_none, Wp_ite, Wc_some, Wc_none, Wc_ite, Wp_thenRun, seqQ_normal, seqQ_exit, seqQ_ret, Wp_inBlock, blkQ_normal, blkQ_ret, blkQ_same, blkQ_exit, Wp_opThen, opQ_at, Wp_guardP, retQ_normal, retQ_ret, loopQ_normal, loopQ_exit, loopQ_ret, go_sem, entry, joinEsc, if_pos, reduceIte, Nat.reduceAdd, Nat.reduceLeDiff, Nat.reduceLT, Nat.reduceEqDiff]
      exact ⟨k', by omega, C + 1, _, _, _, _, _, _, _, _, by omega, by omega, by rw [hval, List.append_assoc]; rfl⟩
  · have hin : List.replicate F (0 : Int) = stepsL safe n 1 ++ List.replicate (F - 1) 0 := by
      obtain ⟨f, rfl⟩ : ∃ f, F = f + 1 := ⟨F - 1, by omega⟩
      rfl
    rw [hin]
    exact ⟨1, _, _, _, _, _, _, _, _, by omega, by omega, rfl⟩

theorem l1Most_at (a b : Int) : call T pr f_s_l1Most [.int .i64 a, .int .i64 b] ⟨H, e⟩ = some (.int .i64 (if b < a then a else b), ⟨H, e⟩) := by
  rw [call_eq t_s_l1Most]
  by_cases h : b < a <;> simp +contextual only [a_s_l1Most, c_s_l1Most, gt_iff_lt, h, decide_true, decide_false, go_sem, entry, joinEsc, if_pos, reduceIte, Nat.reduceAdd, Nat.reduceLeDiff, Nat.reduceLT, Nat.reduceEqDiff]

theorem e_s_PairSteps {q : Nat} {c : Option Nat} {ls : List Ld} (hq : cellsAt H q = some (encL ls)) (a b o : Int) : call T pr f_s_PairSteps [rfV a b o, slL q ls.length c] ⟨H, e⟩ = some (pairT a b o ls, ⟨H, e⟩) := by
  apply Wc.eq
  rw [call_wc t_s_PairSteps]
  have ha := fun G => e_s_l10Cargo (pr := pr) (e := none) (c := c) (cells_mono hq G) a b o
  unfold pairT
  cases h1 : cargoOk a b o ls with
  | false =>
    rw [if_neg (by simp)]
    simp +contextual only [a_s_PairSteps, c_s_PairSteps, ha, h1, Wp_some, Wp_none, Wp_ite, Wc_some, Wc_none, Wc_ite, Wp_thenRun, seqQ_normal, seqQ_exit, seqQ_ret, Wp_inBlock, blkQ_normal, blkQ_ret, blkQ_same, blkQ_exit, Wp_opThen, opQ_at, Wp_guardP, retQ_normal, retQ_ret, loopQ_normal, loopQ_exit, loopQ_ret, go_sem, entry, joinEsc, if_pos, reduceIte, Nat.reduceAdd, Nat.reduceLeDiff, Nat.reduceLT, Nat.reduceEqDiff]
  | true =>
    have hn8 := cargo_le h1
    obtain ⟨p1, p2, p3⟩ := pow_facts ls.length (by omega)
    have hmb : ((2 ^ ls.length : Nat) : Int) * ((8 : Nat) : Int) ≤ (maxBytes : Int) := by unfold maxBytes; omega
    have hw1 : IntKind.i64.wrap (((2 ^ ls.length : Nat) : Int) - 1) = ((2 ^ ls.length - 1 : Nat) : Int) := by
      rw [show ((2 ^ ls.length : Nat) : Int) - 1 = ((2 ^ ls.length - 1 : Nat) : Int) by omega]
      exact wrap64 (by omega) (by omega)
    have hi3 := pair_s3 (pr := pr) (H := H ++ [.cells [.int .i64 a, .int .i64 b, .int .i64 o] true]) (n := ls.length) (F := 2 ^ ls.length) (u := H.length) (c := c) (ls := ls) (a := a) (b := b) (o := o) (a3 := .int .i64 0) (a4 := .bool false) (a8 := .undef) (a9 := .undef) (a10 := .undef) (a11 := .undef) (a12 := .bool false) (a13 := .undef) (a14 := .undef) (a15 := .undef) (a16 := .undef) (a17 := .undef) rfl hn8 rfl (cells_mono hq _) (by simp +contextual only [go_sem, entry, joinEsc, if_pos, reduceIte, Nat.reduceAdd, Nat.reduceLeDiff, Nat.reduceLT, Nat.reduceEqDiff])
    rw [List.length_append, List.length_singleton, List.append_assoc] at hi3
    simp (maxSteps := 2000000) +contextual only [a_s_PairSteps, c_s_PairSteps, ha, h1, shl_nat, p1, hmb, zeros_encI, Wp_some, Wp_none, Wp_ite, Wc_some, Wc_none, Wc_ite, Wp_thenRun, seqQ_normal, seqQ_exit, seqQ_ret, Wp_inBlock, blkQ_normal, blkQ_ret, blkQ_same, blkQ_exit, Wp_opThen, opQ_at, Wp_guardP, retQ_normal, retQ_ret, loopQ_normal, loopQ_exit, loopQ_ret, go_sem, entry, joinEsc, if_pos, reduceIte, Nat.reduceAdd, Nat.reduceLeDiff, Nat.reduceLT, Nat.reduceEqDiff]
    refine hi3.mono ?_
    rintro ex st ⟨rfl, w7', w8', w9', w10', w13', w14', w15', w16', w17', rfl⟩
    have hsF := stepsF (a := a) (b := b) (o := o) (ls := ls) 1
    have hlt : 2 ^ ls.length - 1 < 2 ^ ls.length := by omega
    generalize (stepsW2 a b o ls).getD (2 ^ ls.length - 1) 0 = v at *
    by_cases hv : v < 0
    · rw [if_neg (by omega)]
      simp (maxSteps := 2000000) +contextual only [hsF, hw1, hlt, l1Most_at, ge_iff_le, show ¬ 0 < v by omega, show ¬ 0 ≤ v by omega, Nat.mul_one, decide_false, Wp_some, Wp_none, Wp_ite, Wc_some, Wc_none, Wc_ite, Wp_thenRun, seqQ_normal, seqQ_exit, seqQ_ret, Wp_inBlock, blkQ_normal, blkQ_ret, blkQ_same, blkQ_exit, Wp_opThen, opQ_at, Wp_guardP, retQ_normal, retQ_ret, loopQ_normal, loopQ_exit, loopQ_ret, go_sem, entry, joinEsc, if_pos, reduceIte, Nat.reduceAdd, Nat.reduceLeDiff, Nat.reduceLT, Nat.reduceEqDiff]
    · have hv0 : 0 ≤ v := by omega
      rw [if_pos hv0]
      have hm : (if (0 : Int) < v then v else 0) = v := by split <;> omega
      simp (maxSteps := 2000000) +contextual only [hsF, hw1, hlt, l1Most_at, hm, ge_iff_le, show 0 ≤ v by omega, Nat.mul_one, decide_true, Wp_some, Wp_none, Wp_ite, Wc_some, Wc_none, Wc_ite, Wp_thenRun, seqQ_normal, seqQ_exit, seqQ_ret, Wp_inBlock, blkQ_normal, blkQ_ret, blkQ_same, blkQ_exit, Wp_opThen, opQ_at, Wp_guardP, retQ_normal, retQ_ret, loopQ_normal, loopQ_exit, loopQ_ret, go_sem, entry, joinEsc, if_pos, reduceIte, Nat.reduceAdd, Nat.reduceLeDiff, Nat.reduceLT, Nat.reduceEqDiff]

end Go.Proofs.Ytlcklonakjhoiaa.Slim

/- Rafts: counts, least weights, and the drawn arguments of their law. -/
namespace Go.Proofs.Ytlcklonakjhoiaa.Slim

open Go

set_option linter.unusedSimpArgs false

set_option linter.unusedVariables false

variable {pr : Prims} {H : List Blk} {e : Option Nat}

/-- what CountSafe returns -/
def countT (a b o : Int) (ls : List Ld) : AV := if cargoOk a b o ls = true then .tup [.int .i64 ((waysW a b o ls).getD 0 0), .bool true] else .tup [.int .i64 0, .bool false]

theorem e_i_CountSafe {q : Nat} {c : Option Nat} {ls : List Ld} (hq : cellsAt H q = some (encL ls)) (a b o : Int) : call T pr f_i_CountSafe [rfV a b o, slL q ls.length c] ⟨H, e⟩ = some (countT a b o ls, ⟨H, e⟩) := by
  rw [call_eq t_i_CountSafe]
  unfold countT
  cases h1 : cargoOk a b o ls with
  | false => simp +contextual only [a_i_CountSafe, c_i_CountSafe, e_i_areCargo (cells_mono hq _), h1, go_sem, entry, joinEsc, if_pos, reduceIte, Nat.reduceAdd, Nat.reduceLeDiff, Nat.reduceLT, Nat.reduceEqDiff]
  | true =>
    have hn8 := cargo_le h1
    have hw := fun G => e_i_Raft_waysOf (pr := pr) (e := none) (c := c) (cells_mono hq G) hn8 a b o
    have h0 := part_encI 1 (getD_get (W := waysW a b o ls) (c := 0) (by rw [waysW_length]; exact Nat.two_pow_pos _))
    have hp : 0 < 2 ^ ls.length := Nat.two_pow_pos _
    have hp' : (0 : Int) < ((2 ^ ls.length : Nat) : Int) := by omega
    simp +contextual only [a_i_CountSafe, c_i_CountSafe, e_i_areCargo (cells_mono hq _), hw, h0, h1, hp, hp', Int.le_refl, Int.toNat_zero, Nat.zero_mul, Nat.mul_one, Nat.add_assoc, go_sem, entry, joinEsc, if_pos, reduceIte, Nat.reduceAdd, Nat.reduceLeDiff, Nat.reduceLT, Nat.reduceEqDiff]

theorem e_s_CountSafe {q : Nat} {c : Option Nat} {ls : List Ld} (hq : cellsAt H q = some (encL ls)) (a b o : Int) : call T pr f_s_CountSafe [rfV a b o, slL q ls.length c] ⟨H, e⟩ = some (countT a b o ls, ⟨H, e⟩) := by
  rw [call_eq t_s_CountSafe]
  unfold countT
  cases h1 : cargoOk a b o ls with
  | false => simp +contextual only [a_s_CountSafe, c_s_CountSafe, e_s_l10Cargo (cells_mono hq _), h1, go_sem, entry, joinEsc, if_pos, reduceIte, Nat.reduceAdd, Nat.reduceLeDiff, Nat.reduceLT, Nat.reduceEqDiff]
  | true =>
    have hn8 := cargo_le h1
    have hw := fun G => e_s_l10Ways (pr := pr) (e := none) (c := c) (cells_mono hq G) hn8 a b o
    have h0 := part_encI 1 (getD_get (W := waysW a b o ls) (c := 0) (by rw [waysW_length]; exact Nat.two_pow_pos _))
    have hp : 0 < 2 ^ ls.length := Nat.two_pow_pos _
    have hp' : (0 : Int) < ((2 ^ ls.length : Nat) : Int) := by omega
    simp +contextual only [a_s_CountSafe, c_s_CountSafe, e_s_l10Cargo (cells_mono hq _), hw, h0, h1, hp, hp', Int.le_refl, Int.toNat_zero, Nat.zero_mul, Nat.mul_one, Nat.add_assoc, go_sem, entry, joinEsc, if_pos, reduceIte, Nat.reduceAdd, Nat.reduceLeDiff, Nat.reduceLT, Nat.reduceEqDiff]

/-- can all be loaded, in some order? -/
def ownG (a b : Int) (ls : List Ld) (k : Nat) : Bool := decide (0 < (waysW a b (k : Int) ls).getD 0 0)

/-- what LeastOwn returns -/
def ownT (a b o : Int) (ls : List Ld) : AV := if cargoOk a b o ls = true then .tup [.int .i64 (ownF (ownG a b ls) 99 1 : Nat), .bool (decide (0 < ownF (ownG a b ls) 99 1))] else .tup [.int .i64 0, .bool false]

theorem ownF_step (g : Nat → Bool) (k i : Nat) : ownF g (k + 1) i = if g i = true then i else ownF g k (i + 1) := rfl

theorem e_i_LeastOwn {q : Nat} {c : Option Nat} {ls : List Ld} (hq : cellsAt H q = some (encL ls)) (a b o : Int) : call T pr f_i_LeastOwn [rfV a b o, slL q ls.length c] ⟨H, e⟩ = some (ownT a b o ls, ⟨H, e⟩) := by
  apply Wc.eq
  rw [call_wc t_i_LeastOwn]
  unfold ownT
  cases h1 : cargoOk a b o ls with
  | false => simp +contextual only [a_i_LeastOwn, c_i_LeastOwn, e_i_areCargo (cells_mono hq _), h1, Wp_some, Wp_none, Wp_ite, Wc_some, Wc_none, Wc_ite, Wp_thenRun, seqQ_normal, seqQ_exit, seqQ_ret, Wp_inBlock, blkQ_normal, blkQ_ret, blkQ_same, blkQ_exit, Wp_opThen, opQ_at, Wp_guardP, retQ_normal, retQ_ret, loopQ_normal, loopQ_exit, loopQ_ret, go_sem, entry, joinEsc, if_pos, reduceIte, Nat.reduceAdd, Nat.reduceLeDiff, Nat.reduceLT, Nat.reduceEqDiff]
  | true =>
    have hn8 := cargo_le h1
    simp +contextual only [a_i_LeastOwn, c_i_LeastOwn, e_i_areCargo (cells_mono hq _), h1, Wp_some, Wp_none, Wp_ite, Wc_some, Wc_none, Wc_ite, Wp_thenRun, seqQ_normal, seqQ_exit, seqQ_ret, Wp_inBlock, blkQ_normal, blkQ_ret, blkQ_same, blkQ_exit, Wp_opThen, opQ_at, Wp_guardP, retQ_normal, retQ_ret, loopQ_normal, loopQ_exit, loopQ_ret, go_sem, entry, joinEsc, if_pos, reduceIte, Nat.reduceAdd, Nat.reduceLeDiff, Nat.reduceLT, Nat.reduceEqDiff]
    refine Wp_loop (fun k st => ∃ (i : Nat) (G : List Blk) (w6 w7 w8 : AV), k + i = 100 ∧ 0 < i ∧ ownF (ownG a b ls) k i = ownF (ownG a b ls) 99 1 ∧ st = ⟨[rfV a b o, slL q ls.length c, .ptr (some (H.length, 0)), .int .i64 0, .bool false, .int .i64 i, w6, w7, w8], ⟨H ++ .cells [.int .i64 a, .int .i64 b, .int .i64 o] true :: G, none⟩⟩) ?_ 99 _ ⟨1, [], _, _, _, rfl, by omega, rfl, rfl⟩
    rintro k _ ⟨i, G, w6, w7, w8, hk, hi0, hp, rfl⟩
    by_cases h0 : k = 0
    · subst h0
      have hd : decide ((i : Int) ≤ 99) = false := decide_eq_false (by omega)
      have hd' : ¬ (i : Int) ≤ 99 := by omega
      have hz : ownF (ownG a b ls) 99 1 = 0 := hp.symm
      simp +contextual only [w_i_LeastOwn_1, hd, hd', hz, Nat.lt_irrefl, decide_false, Wp_some, Wp_none, Wp_ite, Wc_some, Wc_none, Wc_ite, Wp_thenRun, seqQ_normal, seqQ_exit, seqQ_ret, Wp_inBlock, blkQ_normal, blkQ_ret, blkQ_same, blkQ_exit, Wp_opThen, opQ_at, Wp_guardP, retQ_normal, retQ_ret, loopQ_normal, loopQ_exit, loopQ_ret, finish_one_eq, finish_one_eq0, finish_two_eq, finish_two_eq0, roots_slice_new, roots_slice_new0, roots_slice_none, roots_ptr_new, roots_ptr_new0, roots_int, roots_bool, roots_str, roots_agg, roots_tup, roots_cons, roots_nil, rename_slice, rename_slice_none, rename_ptr, rename_int, rename_bool, rename_str, rename_agg, rename_tup, rename_cons, rename_nil, keepBlks_nil, keepBlks_cons, flatAll_nil, flatAll_cons, flatBlk_cells, dedup_nil, dedup_one, dedup_two, renum_one, renum_one0, renum_two0, renum_two1, clean_none', clean_some, minEsc_none, minEsc_some, Nat.add_left_cancel_iff, Nat.le_add_right, Nat.le_refl, decide_true, go_sem, entry, joinEsc, if_pos, reduceIte, Nat.reduceAdd, Nat.reduceLeDiff, Nat.reduceLT, Nat.reduceEqDiff]
      rfl
    · obtain ⟨k', rfl⟩ : ∃ k', k = k' + 1 := ⟨k - 1, by omega⟩
      have hd : decide ((i : Int) ≤ 99) = true := decide_eq_true (by omega)
      have hd' : (i : Int) ≤ 99 := by omega
      have hw := fun G => e_i_Raft_waysOf (pr := pr) (e := none) (c := c) (cells_mono hq G) hn8 a b (i : Int)
      have hp0 := part_encI 1 (getD_get (W := waysW a b (i : Int) ls) (c := 0) (by rw [waysW_length]; exact Nat.two_pow_pos _))
      have hpw : 0 < 2 ^ ls.length := Nat.two_pow_pos _
      have hpw' : (0 : Int) < ((2 ^ ls.length : Nat) : Int) := by omega
      have hwi := wrap_succ (show i < 9223372036854775807 by omega)
      have hG : ownG a b ls i = decide (0 < (waysW a b (i : Int) ls).getD 0 0) := rfl
      rw [ownF_step, hG] at hp
      by_cases hg : 0 < (waysW a b (i : Int) ls).getD 0 0
      · rw [if_pos (decide_eq_true hg)] at hp
        simp +contextual only [w_i_LeastOwn_1, fillParts, hd, hd', hw, hp0, hpw, hpw', hg, gt_iff_lt, ← hp, hi0, Int.le_refl, Int.toNat_zero, Nat.zero_mul, Nat.mul_one, Nat.add_assoc, decide_true, Wp_some, Wp_none, Wp_ite, Wc_some, Wc_none, Wc_ite, Wp_thenRun, seqQ_normal, seqQ_exit, seqQ_ret, Wp_inBlock, blkQ_normal, blkQ_ret, blkQ_same, blkQ_exit, Wp_opThen, opQ_at, Wp_guardP, retQ_normal, retQ_ret, loopQ_normal, loopQ_exit, loopQ_ret, finish_one_eq, finish_one_eq0, finish_two_eq, finish_two_eq0, roots_slice_new, roots_slice_new0, roots_slice_none, roots_ptr_new, roots_ptr_new0, roots_int, roots_bool, roots_str, roots_agg, roots_tup, roots_cons, roots_nil, rename_slice, rename_slice_none, rename_ptr, rename_int, rename_bool, rename_str, rename_agg, rename_tup, rename_cons, rename_nil, keepBlks_nil, keepBlks_cons, flatAll_nil, flatAll_cons, flatBlk_cells, dedup_nil, dedup_one, dedup_two, renum_one, renum_one0, renum_two0, renum_two1, clean_none', clean_some, minEsc_none, minEsc_some, Nat.add_left_cancel_iff, Nat.le_add_right, Nat.le_refl, decide_true, go_sem, entry, joinEsc, if_pos, reduceIte, Nat.reduceAdd, Nat.reduceLeDiff, Nat.reduceLT, Nat.reduceEqDiff]
      · rw [if_neg (by rw [decide_eq_true_eq]; exact hg)] at hp
        simp +contextual only [w_i_LeastOwn_1, fillParts, hd, hd', hw, hp0, hpw, hpw', hg, hwi, gt_iff_lt, Int.le_refl, Int.toNat_zero, Nat.zero_mul, Nat.mul_one, Nat.add_assoc, decide_true, decide_false, Wp_some, Wp_none, Wp_ite, Wc_some, Wc_none, Wc_ite, Wp_thenRun, seqQ_normal, seqQ_exit, seqQ_ret, Wp_inBlock, blkQ_normal, blkQ_ret, blkQ_same, blkQ_exit, Wp_opThen, opQ_at, Wp_guardP, retQ_normal, retQ_ret, loopQ_normal, loopQ_exit, loopQ_ret, go_sem, entry, joinEsc, if_pos, reduceIte, Nat.reduceAdd, Nat.reduceLeDiff, Nat.reduceLT, Nat.reduceEqDiff]
        exact ⟨k', by omega, i + 1, _, _, _, _, by omega, by omega, hp, rfl⟩

theorem e_s_LeastOwn {q : Nat} {c : Option Nat} {ls : List Ld} (hq : cellsAt H q = some (encL ls)) (a b o : Int) : call T pr f_s_LeastOwn [rfV a b o, slL q ls.length c] ⟨H, e⟩ = some (ownT a b o ls, ⟨H, e⟩) := by
  apply Wc.eq
  rw [call_wc t_s_LeastOwn]
  unfold ownT
  cases h1 : cargoOk a b o ls with
  | false => simp +contextual only [a_s_LeastOwn, c_s_LeastOwn, e_s_l10Cargo (cells_mono hq _), h1, Wp_some, Wp_none, Wp_ite, Wc_some, Wc_none, Wc_ite, Wp_thenRun, seqQ_normal, seqQ_exit, seqQ_ret, Wp_inBlock, blkQ_normal, blkQ_ret, blkQ_same, blkQ_exit, Wp_opThen, opQ_at, Wp_guardP, retQ_normal, retQ_ret, loopQ_normal, loopQ_exit, loopQ_ret, go_sem, entry, joinEsc, if_pos, reduceIte, Nat.reduceAdd, Nat.reduceLeDiff, Nat.reduceLT, Nat.reduceEqDiff]
  | true =>
    have hn8 := cargo_le h1
    simp +contextual only [a_s_LeastOwn, c_s_LeastOwn, e_s_l10Cargo (cells_mono hq _), h1, Wp_some, Wp_none, Wp_ite, Wc_some, Wc_none, Wc_ite, Wp_thenRun, seqQ_normal, seqQ_exit, seqQ_ret, Wp_inBlock, blkQ_normal, blkQ_ret, blkQ_same, blkQ_exit, Wp_opThen, opQ_at, Wp_guardP, retQ_normal, retQ_ret, loopQ_normal, loopQ_exit, loopQ_ret, go_sem, entry, joinEsc, if_pos, reduceIte, Nat.reduceAdd, Nat.reduceLeDiff, Nat.reduceLT, Nat.reduceEqDiff]
    refine Wp_loop (fun k st => ∃ (i : Nat) (G : List Blk) (w6 w7 w8 : AV), k + i = 100 ∧ 0 < i ∧ ownF (ownG a b ls) k i = ownF (ownG a b ls) 99 1 ∧ st = ⟨[rfV a b o, slL q ls.length c, .ptr (some (H.length, 0)), .int .i64 0, .bool false, .int .i64 i, w6, w7, w8], ⟨H ++ .cells [.int .i64 a, .int .i64 b, .int .i64 o] true :: G, none⟩⟩) ?_ 99 _ ⟨1, [], _, _, _, rfl, by omega, rfl, rfl⟩
    rintro k _ ⟨i, G, w6, w7, w8, hk, hi0, hp, rfl⟩
    by_cases h0 : k = 0
    · subst h0
      have hd : decide ((i : Int) ≤ 99) = false := decide_eq_false (by omega)
      have hd' : ¬ (i : Int) ≤ 99 := by omega
      have hz : ownF (ownG a b ls) 99 1 = 0 := hp.symm
      simp +contextual only [w_s_LeastOwn_1, hd, hd', hz, Nat.lt_irrefl, decide_false, Wp_some, Wp_none, Wp_ite, Wc_some, Wc_none, Wc_ite, Wp_thenRun, seqQ_normal, seqQ_exit, seqQ_ret, Wp_inBlock, blkQ_normal, blkQ_ret, blkQ_same, blkQ_exit, Wp_opThen, opQ_at, Wp_guardP, retQ_normal, retQ_ret, loopQ_normal, loopQ_exit, loopQ_ret, finish_one_eq, finish_one_eq0, finish_two_eq, finish_two_eq0, roots_slice_new, roots_slice_new0, roots_slice_none, roots_ptr_new, roots_ptr_new0, roots_int, roots_bool, roots_str, roots_agg, roots_tup, roots_cons, roots_nil, rename_slice, rename_slice_none, rename_ptr, rename_int, rename_bool, rename_str, rename_agg, rename_tup, rename_cons, rename_nil, keepBlks_nil, keepBlks_cons, flatAll_nil, flatAll_cons, flatBlk_cells, dedup_nil, dedup_one, dedup_two, renum_one, renum_one0, renum_two0, renum_two1, clean_none', clean_some, minEsc_none, minEsc_some, Nat.add_left_cancel_iff, Nat.le_add_right, Nat.le_refl, decide_true, go_sem, entry, joinEsc, if_pos, reduceIte, Nat.reduceAdd, Nat.reduceLeDiff, Nat.reduceLT, Nat.reduceEqDiff]
      rfl
    · obtain ⟨k', rfl⟩ : ∃ k', k = k' + 1 := ⟨k - 1, by omega⟩
      have hd : decide ((i : Int) ≤ 99) = true := decide_eq_true (by omega)
      have hd' : (i : Int) ≤ 99 := by omega
      have hw := fun G => e_s_l10Ways (pr := pr) (e := none) (c := c) (cells_mono hq G) hn8 a b (i : Int)
      have hp0 := part_encI 1 (getD_get (W := waysW a b (i : Int) ls) (c := 0) (by rw [waysW_length]; exact Nat.two_pow_pos _))
      have hpw : 0 < 2 ^ ls.length := Nat.two_pow_pos _
      have hpw' : (0 : Int) < ((2 ^ ls.length : Nat) : Int) := by omega
      have hwi := wrap_succ (show i < 9223372036854775807 by omega)
      have hG : ownG a b ls i = decide (0 < (waysW a b (i : Int) ls).getD 0 0) := rfl
      rw [ownF_step, hG] at hp
      by_cases hg : 0 < (waysW a b (i : Int) ls).getD 0 0
      · rw [if_pos (decide_eq_true hg)] at hp
        simp +contextual only [w_s_LeastOwn_1, fillParts, hd, hd', hw, hp0, hpw, hpw', hg, gt_iff_lt, ← hp, hi0, Int.le_refl, Int.toNat_zero, Nat.zero_mul, Nat.mul_one, Nat.add_assoc, decide_true, Wp_some, Wp_none, Wp_ite, Wc_some, Wc_none, Wc_ite, Wp_thenRun, seqQ_normal, seqQ_exit, seqQ_ret, Wp_inBlock, blkQ_normal, blkQ_ret, blkQ_same, blkQ_exit, Wp_opThen, opQ_at, Wp_guardP, retQ_normal, retQ_ret, loopQ_normal, loopQ_exit, loopQ_ret, finish_one_eq, finish_one_eq0, finish_two_eq, finish_two_eq0, roots_slice_new, roots_slice_new0, roots_slice_none, roots_ptr_new, roots_ptr_new0, roots_int, roots_bool, roots_str, roots_agg, roots_tup, roots_cons, roots_nil, rename_slice, rename_slice_none, rename_ptr, rename_int, rename_bool, rename_str, rename_agg, rename_tup, rename_cons, rename_nil, keepBlks_nil, keepBlks_cons, flatAll_nil, flatAll_cons, flatBlk_cells, dedup_nil, dedup_one, dedup_two, renum_one, renum_one0, renum_two0, renum_two1, clean_none', clean_some, minEsc_none, minEsc_some, Nat.add_left_cancel_iff, Nat.le_add_right, Nat.le_refl, decide_true, go_sem, entry, joinEsc, if_pos, reduceIte, Nat.reduceAdd, Nat.reduceLeDiff, Nat.reduceLT, Nat.reduceEqDiff]
      · rw [if_neg (by rw [decide_eq_true_eq]; exact hg)] at hp
        simp +contextual only [w_s_LeastOwn_1, fillParts, hd, hd', hw, hp0, hpw, hpw', hg, hwi, gt_iff_lt, Int.le_refl, Int.toNat_zero, Nat.zero_mul, Nat.mul_one, Nat.add_assoc, decide_true, decide_false, Wp_some, Wp_none, Wp_ite, Wc_some, Wc_none, Wc_ite, Wp_thenRun, seqQ_normal, seqQ_exit, seqQ_ret, Wp_inBlock, blkQ_normal, blkQ_ret, blkQ_same, blkQ_exit, Wp_opThen, opQ_at, Wp_guardP, retQ_normal, retQ_ret, loopQ_normal, loopQ_exit, loopQ_ret, go_sem, entry, joinEsc, if_pos, reduceIte, Nat.reduceAdd, Nat.reduceLeDiff, Nat.reduceLT, Nat.reduceEqDiff]
        exact ⟨k', by omega, i + 1, _, _, _, _, by omega, by omega, hp, rfl⟩

/-- what HardestItem returns -/
def hardT (a b o : Int) (ls : List Ld) : AV := if (cargoOk a b o ls && !decide (ls.length = 0)) = true then .tup [.int .i64 (bestW (hardW a b o ls) ls.length 0 0 (-1)), .bool true] else .tup [.int .i64 0, .bool false]

theorem i_hard (hp : HasDelete pr) {q : Nat} {c : Option Nat} {ls : List Ld} (h : cellsAt H q = some (encL ls)) (a b o : Int) : call T pr f_i_HardestItem [rfV a b o, slL q ls.length c] ⟨H, e⟩ = some (hardT a b o ls, ⟨H, e⟩) := by
  unfold hardT
  cases hok : (cargoOk a b o ls && !decide (ls.length = 0)) with
  | false => exact e_i_HardestItem_no h a b o hok
  | true => exact e_i_HardestItem hp h a b o hok

theorem s_hard {q : Nat} {c : Option Nat} {ls : List Ld} (h : cellsAt H q = some (encL ls)) (a b o : Int) : call T pr f_s_HardestItem [rfV a b o, slL q ls.length c] ⟨H, e⟩ = some (hardT a b o ls, ⟨H, e⟩) := by
  unfold hardT
  cases hok : (cargoOk a b o ls && !decide (ls.length = 0)) with
  | false => exact e_s_HardestItem_no h a b o hok
  | true => exact e_s_HardestItem h a b o hok

theorem e_l_rInts {b1 b2 : Nat} {c1 c2 : Option Nat} {ls : List Int} (h1 : cellsAt H b1 = some (encI ls)) (h2 : cellsAt H b2 = some (encI ls)) (hn : ls.length ≤ 1048576) : call T pr f_l_rInts [slI b1 ls.length c1, slI b2 ls.length c2] ⟨H, e⟩ = some (.bool true, ⟨H, e⟩) := by
  apply Wc.eq
  rw [call_wc t_l_rInts]
  have hdd : ∀ x : Int, decide (x = x) = true := fun x => decide_eq_true rfl
  simp +contextual only [a_l_rInts, c_l_rInts, decide_true, Wp_some, Wp_none, Wp_ite, Wc_some, Wc_none, Wc_ite, Wp_thenRun, seqQ_normal, seqQ_exit, seqQ_ret, Wp_inBlock, blkQ_normal, blkQ_ret, blkQ_same, blkQ_exit, Wp_opThen, opQ_at, Wp_guardP, retQ_normal, retQ_ret, loopQ_normal, loopQ_exit, loopQ_ret, go_sem, entry, joinEsc, if_pos, reduceIte, Nat.reduceAdd, Nat.reduceLeDiff, Nat.reduceLT, Nat.reduceEqDiff]
  refine Wp_loop (fun k st => ∃ (i : Nat) (w5 w6 : AV), k + i = ls.length ∧ st = ⟨[slI b1 ls.length c1, slI b2 ls.length c2, .bool false, .int .i64 i, .bool false, w5, w6], ⟨H, none⟩⟩) ?_ ls.length _ ⟨0, _, _, rfl, rfl⟩
  rintro k _ ⟨i, w5, w6, hk, rfl⟩
  by_cases h0 : k = 0
  · have hd : ¬ i < ls.length := by omega
    simp +contextual only [w_l_rInts_1, hd, decide_false, Wp_some, Wp_none, Wp_ite, Wc_some, Wc_none, Wc_ite, Wp_thenRun, seqQ_normal, seqQ_exit, seqQ_ret, Wp_inBlock, blkQ_normal, blkQ_ret, blkQ_same, blkQ_exit, Wp_opThen, opQ_at, Wp_guardP, retQ_normal, retQ_ret, loopQ_normal, loopQ_exit, loopQ_ret, finish_one_eq, finish_one_eq0, finish_two_eq, finish_two_eq0, roots_slice_new, roots_slice_new0, roots_slice_none, roots_ptr_new, roots_ptr_new0, roots_int, roots_bool, roots_str, roots_agg, roots_tup, roots_cons, roots_nil, rename_slice, rename_slice_none, rename_ptr, rename_int, rename_bool, rename_str, rename_agg, rename_tup, rename_cons, rename_nil, keepBlks_nil, keepBlks_cons, flatAll_nil, flatAll_cons, flatBlk_cells, dedup_nil, dedup_one, dedup_two, renum_one, renum_one0, renum_two0, renum_two1, clean_none', clean_some, minEsc_none, minEsc_some, Nat.add_left_cancel_iff, Nat.le_add_right, Nat.le_refl, decide_true, go_sem, entry, joinEsc, if_pos, reduceIte, Nat.reduceAdd, Nat.reduceLeDiff, Nat.reduceLT, Nat.reduceEqDiff]
  · have hd : i < ls.length := by omega
    have hl : ls[i]? = some ls[i] := List.getElem?_eq_getElem hd
    have hw := wrap_succ (show i < 9223372036854775807 by omega)
    simp +contextual only [w_l_rInts_1, h1, h2, hd, hdd, hw, part_encI _ hl, Nat.mul_one, decide_true, Wp_some, Wp_none, Wp_ite, Wc_some, Wc_none, Wc_ite, Wp_thenRun, seqQ_normal, seqQ_exit, seqQ_ret, Wp_inBlock, blkQ_normal, blkQ_ret, blkQ_same, blkQ_exit, Wp_opThen, opQ_at, Wp_guardP, retQ_normal, retQ_ret, loopQ_normal, loopQ_exit, loopQ_ret, go_sem, entry, joinEsc, if_pos, reduceIte, Nat.reduceAdd, Nat.reduceLeDiff, Nat.reduceLT, Nat.reduceEqDiff]
    exact ⟨k - 1, by omega, i + 1, _, _, by omega, rfl⟩

theorem e_l_rInts_none {p1 p2 : Option (Nat × Nat)} {s1 s2 : Nat} {c1 c2 : Option Nat} : call T pr f_l_rInts [.slice p1 s1 0 c1, .slice p2 s2 0 c2] ⟨H, e⟩ = some (.bool true, ⟨H, e⟩) := by
  apply Wc.eq
  rw [call_wc t_l_rInts]
  have h00 : ¬ ((0 : Nat) : Int) < ((0 : Nat) : Int) := by omega
  simp +contextual only [a_l_rInts, c_l_rInts, decide_true, Wp_some, Wp_none, Wp_ite, Wc_some, Wc_none, Wc_ite, Wp_thenRun, seqQ_normal, seqQ_exit, seqQ_ret, Wp_inBlock, blkQ_normal, blkQ_ret, blkQ_same, blkQ_exit, Wp_opThen, opQ_at, Wp_guardP, retQ_normal, retQ_ret, loopQ_normal, loopQ_exit, loopQ_ret, go_sem, entry, joinEsc, if_pos, reduceIte, Nat.reduceAdd, Nat.reduceLeDiff, Nat.reduceLT, Nat.reduceEqDiff]
  refine Wp_loop (fun k st => st = ⟨[.slice p1 s1 0 c1, .slice p2 s2 0 c2, .bool false, .int .i64 0, .bool false, .undef, .undef], ⟨H, none⟩⟩) ?_ 0 _ rfl
  rintro k _ rfl
  simp +contextual only [w_l_rInts_1, h00, show ¬ (0 : Int) < ((0 : Nat) : Int) by omega, decide_false, Wp_some, Wp_none, Wp_ite, Wc_some, Wc_none, Wc_ite, Wp_thenRun, seqQ_normal, seqQ_exit, seqQ_ret, Wp_inBlock, blkQ_normal, blkQ_ret, blkQ_same, blkQ_exit, Wp_opThen, opQ_at, Wp_guardP, retQ_normal, retQ_ret, loopQ_normal, loopQ_exit, loopQ_ret, finish_one_eq, finish_one_eq0, finish_two_eq, finish_two_eq0, roots_slice_new, roots_slice_new0, roots_slice_none, roots_ptr_new, roots_ptr_new0, roots_int, roots_bool, roots_str, roots_agg, roots_tup, roots_cons, roots_nil, rename_slice, rename_slice_none, rename_ptr, rename_int, rename_bool, rename_str, rename_agg, rename_tup, rename_cons, rename_nil, keepBlks_nil, keepBlks_cons, flatAll_nil, flatAll_cons, flatBlk_cells, dedup_nil, dedup_one, dedup_two, renum_one, renum_one0, renum_two0, renum_two1, clean_none', clean_some, minEsc_none, minEsc_some, Nat.add_left_cancel_iff, Nat.le_add_right, Nat.le_refl, decide_true, go_sem, entry, joinEsc, if_pos, reduceIte, Nat.reduceAdd, Nat.reduceLeDiff, Nat.reduceLT, Nat.reduceEqDiff]

end Go.Proofs.Ytlcklonakjhoiaa.Slim

/- Rafts: the drawn arguments of the law on safe orders. -/
namespace Go.Proofs.Ytlcklonakjhoiaa.Slim

open Go

set_option linter.unusedSimpArgs false

set_option linter.unusedVariables false

variable {pr : Prims} {H : List Blk} {e : Option Nat}

theorem wc_DrawSafeSets {av : AV} (hc : CodeAt H av) : Wc (call T pr f_s_DrawSafeSets [av] ⟨H, e⟩) (fun v m => ∃ (a b o : Int) (ls : List Ld) (c1 : Option Nat), v = .tup [rfV a b o, slL H.length ls.length c1] ∧ ls.length ≤ 9 ∧ m = ⟨H ++ [.cells (encL ls) true], e⟩) := by
  obtain ⟨p0, s0, n0, c0, rfl⟩ := hc.form
  rw [call_wc t_s_DrawSafeSets]
  simp +contextual only [a_s_DrawSafeSets, c_s_DrawSafeSets, fillParts, Nat.add_assoc, Wp_some, Wp_none, Wp_ite, Wc_some, Wc_none, Wc_ite, Wp_thenRun, seqQ_normal, seqQ_exit, seqQ_ret, Wp_inBlock, blkQ_normal, blkQ_ret, blkQ_same, blkQ_exit, Wp_opThen, opQ_at, Wp_guardP, retQ_normal, retQ_ret, loopQ_normal, loopQ_exit, loopQ_ret, go_sem, entry, joinEsc, if_pos, reduceIte, Nat.reduceAdd, Nat.reduceLeDiff, Nat.reduceLT, Nat.reduceEqDiff]
  refine (wc_raft (Cu.new (k := 1) (G := [.cells [.int .i64 0, .int .i64 0, .int .i64 0] true, curB _ 0 0]) rfl hc (by omega)) (by omega)).mono ?_
  rintro v m ⟨a, b, o, y1, z1, rfl, hy10, hy11, rfl⟩
  simp +contextual only [Nat.add_zero, Nat.add_assoc, Wp_some, Wp_none, Wp_ite, Wc_some, Wc_none, Wc_ite, Wp_thenRun, seqQ_normal, seqQ_exit, seqQ_ret, Wp_inBlock, blkQ_normal, blkQ_ret, blkQ_same, blkQ_exit, Wp_opThen, opQ_at, Wp_guardP, retQ_normal, retQ_ret, loopQ_normal, loopQ_exit, loopQ_ret, go_sem, entry, joinEsc, if_pos, reduceIte, Nat.reduceAdd, Nat.reduceLeDiff, Nat.reduceLT, Nat.reduceEqDiff]
  refine (wc_cargo (Cu.new (H := H) (k := 1) (y := y1) (z := z1) rfl hc hy10) (by omega)).mono ?_
  rintro v m ⟨ls, c1, y2, z2, rfl, hn1, hy20, hy21, rfl⟩
  have hf := fun (B0 B1 : Blk) => finish_sl1 (H := H) (s1 := 2) (n1 := ls.length) (c1 := c1) (rfV a b o) rfl (fun _ => rfl) (L := H ++ [B0, B1, .cells (encL ls) true]) ⟨_, rfl⟩ e none rfl (b1 := H.length + 2) (by omega) (by rw [blkAt_newk]; rfl) (under_encL _ _)
  simp +contextual only [a_s_DrawSafeSets, hf, Nat.add_zero, Nat.add_assoc, Wp_some, Wp_none, Wp_ite, Wc_some, Wc_none, Wc_ite, Wp_thenRun, seqQ_normal, seqQ_exit, seqQ_ret, Wp_inBlock, blkQ_normal, blkQ_ret, blkQ_same, blkQ_exit, Wp_opThen, opQ_at, Wp_guardP, retQ_normal, retQ_ret, loopQ_normal, loopQ_exit, loopQ_ret, go_sem, entry, joinEsc, if_pos, reduceIte, Nat.reduceAdd, Nat.reduceLeDiff, Nat.reduceLT, Nat.reduceEqDiff]
  exact ⟨a, b, o, ls, c1, rfl, hn1, rfl⟩

theorem wc_DrawSafeOrder {av : AV} (hc : CodeAt H av) : Wc (call T pr f_s_DrawSafeOrder [av] ⟨H, e⟩) (fun v m => ∃ (a b o : Int) (ls : List Ld) (c1 : Option Nat), v = .tup [rfV a b o, slL H.length ls.length c1] ∧ ls.length ≤ 9 ∧ m = ⟨H ++ [.cells (encL ls) true], e⟩) := by
  rw [call_wc t_s_DrawSafeOrder]
  simp +contextual only [a_s_DrawSafeOrder, c_s_DrawSafeOrder, fillParts, Nat.add_assoc, Wp_some, Wp_none, Wp_ite, Wc_some, Wc_none, Wc_ite, Wp_thenRun, seqQ_normal, seqQ_exit, seqQ_ret, Wp_inBlock, blkQ_normal, blkQ_ret, blkQ_same, blkQ_exit, Wp_opThen, opQ_at, Wp_guardP, retQ_normal, retQ_ret, loopQ_normal, loopQ_exit, loopQ_ret, go_sem, entry, joinEsc, if_pos, reduceIte, Nat.reduceAdd, Nat.reduceLeDiff, Nat.reduceLT, Nat.reduceEqDiff]
  refine (wc_DrawSafeSets (hc.more _)).mono ?_
  rintro v m ⟨a, b, o, ls, c1, rfl, hn1, rfl⟩
  have hf := fun (B0 : Blk) => finish_sl1 (H := H) (s1 := 2) (n1 := ls.length) (c1 := c1) (rfV a b o) rfl (fun _ => rfl) (L := H ++ [B0, .cells (encL ls) true]) ⟨_, rfl⟩ e none rfl (b1 := H.length + 1) (by omega) (by rw [blkAt_newk]; rfl) (under_encL _ _)
  simp +contextual only [a_s_DrawSafeOrder, hf, Nat.add_zero, Nat.add_assoc, Wp_some, Wp_none, Wp_ite, Wc_some, Wc_none, Wc_ite, Wp_thenRun, seqQ_normal, seqQ_exit, seqQ_ret, Wp_inBlock, blkQ_normal, blkQ_ret, blkQ_same, blkQ_exit, Wp_opThen, opQ_at, Wp_guardP, retQ_normal, retQ_ret, loopQ_normal, loopQ_exit, loopQ_ret, go_sem, entry, joinEsc, if_pos, reduceIte, Nat.reduceAdd, Nat.reduceLeDiff, Nat.reduceLT, Nat.reduceEqDiff]
  exact ⟨a, b, o, ls, c1, rfl, hn1, rfl⟩

/-- the end of a call that hands back what came in -/
theorem finish_old {L : List Blk} {b sz n : Nat} {c : Option Nat} (hL : Grown H L) (e0 e1 : Option Nat) (hc : clean H.length e1 = true) (hb : b < H.length) :
    finish 2 H.length e0 (.slice (some (b, 0)) sz n c) ⟨L, e1⟩ = some (.slice (some (b, 0)) sz n c, ⟨H, e0⟩) := by
  obtain ⟨G, rfl⟩ := hL
  have hr : dedup (AV.roots H.length (.slice (some (b, 0)) sz n c)) = [] := by simp [AV.roots, dedup, hb]
  unfold finish
  simp only [hr]
  simp [hc, AV.rename, renum, hb]

theorem wc_l1Put {q : Nat} {c : Option Nat} {os : List Int} (h : cellsAt H q = some (encI os)) (hn : os.length ≤ 1000000) (x : Int) : Wc (call T pr f_s_l1Put [slI q os.length c, .int .i64 x] ⟨H, e⟩) (fun v m => (v = slI q os.length c ∧ m = ⟨H, e⟩) ∨ ∃ os' : List Int, v = slI H.length os'.length none ∧ os'.length = os.length + 1 ∧ m = ⟨H ++ [.cells (encI os') true], e⟩) := by
  have hql : q < H.length := cells_lt h
  rw [call_wc t_s_l1Put]
  obtain ⟨R, hR⟩ : ∃ R, R = seqTl (seqTl (seqTl (seqTl c_s_l1Put))) := ⟨_, rfl⟩
  obtain ⟨R0, hR0⟩ : ∃ R, R = seqTl (seqTl (seqTl c_s_l1Put)) := ⟨_, rfl⟩
  have hc0 : R0 = .seq (seqHd R0) R := by rw [hR0, hR]; rfl
  have hcc : c_s_l1Put = .seq (seqHd c_s_l1Put) (.seq (seqHd (seqTl c_s_l1Put)) (.seq (seqHd (seqTl (seqTl c_s_l1Put))) R0)) := by rw [hR0]; rfl
  have r : ∀ (i : Nat) (w2 w4 w5 : AV), i ≤ os.length → Wp (run T pr R ⟨[slI q os.length c, .int .i64 x, w2, .int .i64 i, w4, w5], ⟨H, none⟩⟩) (retQ a_s_l1Put ⟨H, e⟩ (fun v m => (v = slI q os.length c ∧ m = ⟨H, e⟩) ∨ ∃ os' : List Int, v = slI H.length os'.length none ∧ os'.length = os.length + 1 ∧ m = ⟨H ++ [.cells (encI os') true], e⟩)) := by
    intro i w2 w4 w5 hi
    have hs1 := slHiV_c 1 q os.length i c hi
    have hs2 := slLoV_c 1 q 0 os.length i c hi
    rw [Nat.zero_add, Nat.mul_one] at hs2
    rw [hR]
    simp (maxSteps := 2000000) +contextual only [a_s_l1Put, c_s_l1Put, seqTl, fillParts, aop_slHi, aop_slLo, hs1, hs2, Wp_some, Wp_none, Wp_ite, Wc_some, Wc_none, Wc_ite, Wp_thenRun, seqQ_normal, seqQ_exit, seqQ_ret, Wp_inBlock, blkQ_normal, blkQ_ret, blkQ_same, blkQ_exit, Wp_opThen, opQ_at, Wp_guardP, retQ_normal, retQ_ret, loopQ_normal, loopQ_exit, loopQ_ret, go_sem, entry, joinEsc, if_pos, reduceIte, Nat.reduceAdd, Nat.reduceLeDiff, Nat.reduceLT, Nat.reduceEqDiff]
    refine wc_ap (cs := []) (new := encI (os.take i)) (by simp +contextual only [go_sem, entry, joinEsc, if_pos, reduceIte, Nat.reduceAdd, Nat.reduceLeDiff, Nat.reduceLT, Nat.reduceEqDiff]) (orderFor_hd (cells_mono h _) hi) rfl (by simp; omega) (by unfold maxBytes; omega) (fun _ => rfl) ?_
    intro L2 e1 e2 e3 e4
    rw [List.length_append, List.length_singleton] at e1 e2 e3
    rw [List.nil_append] at e3
    rw [List.length_append, List.length_singleton]
    have g2 := e4 H ⟨_, rfl⟩ (Nat.le_refl _)
    clear e2 e4
    simp (maxSteps := 2000000) +contextual only [fillParts, Wp_some, Wp_none, Wp_ite, Wc_some, Wc_none, Wc_ite, Wp_thenRun, seqQ_normal, seqQ_exit, seqQ_ret, Wp_inBlock, blkQ_normal, blkQ_ret, blkQ_same, blkQ_exit, Wp_opThen, opQ_at, Wp_guardP, retQ_normal, retQ_ret, loopQ_normal, loopQ_exit, loopQ_ret, go_sem, entry, joinEsc, if_pos, reduceIte, Nat.reduceAdd, Nat.reduceLeDiff, Nat.reduceLT, Nat.reduceEqDiff]
    refine wc_ap (k := 1) (new := [.int .i64 x]) (get_more e3 _) (src_new _ 1 1 _ _ L2.length (by simp +contextual only [go_sem, entry, joinEsc, if_pos, reduceIte, Nat.reduceAdd, Nat.reduceLeDiff, Nat.reduceLT, Nat.reduceEqDiff]) rfl) (by simp; omega) rfl (by unfold maxBytes; omega) (by simp) ?_
    intro L3 e4 e5 e6 e7
    rw [List.length_append, List.length_singleton] at e4 e5 e6
    rw [List.length_append, List.length_singleton]
    have g3 := e7 _ (g2.more _) (by omega)
    clear e5 e7
    simp (maxSteps := 2000000) +contextual only [fillParts, Wp_some, Wp_none, Wp_ite, Wc_some, Wc_none, Wc_ite, Wp_thenRun, seqQ_normal, seqQ_exit, seqQ_ret, Wp_inBlock, blkQ_normal, blkQ_ret, blkQ_same, blkQ_exit, Wp_opThen, opQ_at, Wp_guardP, retQ_normal, retQ_ret, loopQ_normal, loopQ_exit, loopQ_ret, go_sem, entry, joinEsc, if_pos, reduceIte, Nat.reduceAdd, Nat.reduceLeDiff, Nat.reduceLT, Nat.reduceEqDiff]
    have hen : encI (os.take i) ++ [AV.int .i64 x] = encI (os.take i ++ [x]) := by simp [encI]
    rw [hen] at e6
    have hq3 : cellsAt L3 q = some (encI os) := by
      obtain ⟨G, rfl⟩ := g3
      exact cells_mono h G
    refine wc_ap (new := encI (os.drop i)) e6 (orderFor_tl hq3 hi) (by simp; omega) (by simp) (by unfold maxBytes; omega) (by simp) ?_
    intro L4 e8 e9 e10 e11
    have g4 := e11 _ g3 (by omega)
    rw [← encI_append] at e10
    have hlen : i + 1 + (os.length - i) = (os.take i ++ [x] ++ os.drop i).length := by simp; omega
    have hf := finish_sl (H := H) (sz := 1) (n := i + 1 + (os.length - i)) (c := none) g4 e none rfl (by omega) e10 (under_encI _ _)
    simp (maxSteps := 2000000) +contextual only [hf, Wp_some, Wp_none, Wp_ite, Wc_some, Wc_none, Wc_ite, Wp_thenRun, seqQ_normal, seqQ_exit, seqQ_ret, Wp_inBlock, blkQ_normal, blkQ_ret, blkQ_same, blkQ_exit, Wp_opThen, opQ_at, Wp_guardP, retQ_normal, retQ_ret, loopQ_normal, loopQ_exit, loopQ_ret, go_sem, entry, joinEsc, if_pos, reduceIte, Nat.reduceAdd, Nat.reduceLeDiff, Nat.reduceLT, Nat.reduceEqDiff]
    exact .inr ⟨os.take i ++ x :: os.drop i, by rw [hlen]; simp, by simp; omega, rfl⟩
  show Wp (run T pr c_s_l1Put _) _
  rw [hcc]
  simp (maxSteps := 2000000) +contextual only [a_s_l1Put, c_s_l1Put, seqTl, seqHd, Wp_some, Wp_none, Wp_ite, Wc_some, Wc_none, Wc_ite, Wp_thenRun, seqQ_normal, seqQ_exit, seqQ_ret, Wp_inBlock, blkQ_normal, blkQ_ret, blkQ_same, blkQ_exit, Wp_opThen, opQ_at, Wp_guardP, retQ_normal, retQ_ret, loopQ_normal, loopQ_exit, loopQ_ret, go_sem, entry, joinEsc, if_pos, reduceIte, Nat.reduceAdd, Nat.reduceLeDiff, Nat.reduceLT, Nat.reduceEqDiff]
  refine Wp_loop (fun k st => ∃ (i : Nat) (w4 w5 : AV), i + k = os.length ∧ st = ⟨[slI q os.length c, .int .i64 x, .slice none 0 0 none, .int .i64 i, w4, w5], ⟨H, none⟩⟩) ?_ os.length _ ⟨0, _, _, Nat.zero_add _, rfl⟩
  rintro k _ ⟨i, w4, w5, hi, rfl⟩
  have hold := finish_old (H := H) (sz := 1) (n := os.length) (c := c) (Grown.refl H) e none rfl hql
  have r0 : ∀ (w4 w5 : AV), Wp (run T pr R0 ⟨[slI q os.length c, .int .i64 x, .slice none 0 0 none, .int .i64 i, w4, w5], ⟨H, none⟩⟩) (retQ a_s_l1Put ⟨H, e⟩ (fun v m => (v = slI q os.length c ∧ m = ⟨H, e⟩) ∨ ∃ os' : List Int, v = slI H.length os'.length none ∧ os'.length = os.length + 1 ∧ m = ⟨H ++ [.cells (encI os') true], e⟩)) := by
    intro w4 w5
    rw [hc0]
    by_cases hlt : i < os.length
    · have hl : os[i]? = some os[i] := List.getElem?_eq_getElem hlt
      by_cases hx : os[i] = x
      · simp (maxSteps := 2000000) +contextual only [hR0, a_s_l1Put, c_s_l1Put, seqTl, seqHd, h, hlt, part_encI _ hl, hx, hold, Nat.mul_one, decide_true, Wp_some, Wp_none, Wp_ite, Wc_some, Wc_none, Wc_ite, Wp_thenRun, seqQ_normal, seqQ_exit, seqQ_ret, Wp_inBlock, blkQ_normal, blkQ_ret, blkQ_same, blkQ_exit, Wp_opThen, opQ_at, Wp_guardP, retQ_normal, retQ_ret, loopQ_normal, loopQ_exit, loopQ_ret, go_sem, entry, joinEsc, if_pos, reduceIte, Nat.reduceAdd, Nat.reduceLeDiff, Nat.reduceLT, Nat.reduceEqDiff]
        exact .inl trivial
      · simp (maxSteps := 2000000) +contextual only [hR0, c_s_l1Put, seqTl, seqHd, h, hlt, part_encI _ hl, hx, Nat.mul_one, decide_true, decide_false, Wp_some, Wp_none, Wp_ite, Wc_some, Wc_none, Wc_ite, Wp_thenRun, seqQ_normal, seqQ_exit, seqQ_ret, Wp_inBlock, blkQ_normal, blkQ_ret, blkQ_same, blkQ_exit, Wp_opThen, opQ_at, Wp_guardP, retQ_normal, retQ_ret, loopQ_normal, loopQ_exit, loopQ_ret, go_sem, entry, joinEsc, if_pos, reduceIte, Nat.reduceAdd, Nat.reduceLeDiff, Nat.reduceLT, Nat.reduceEqDiff]
        exact r i _ _ _ (by omega)
    · simp (maxSteps := 2000000) +contextual only [hR0, c_s_l1Put, seqTl, seqHd, hlt, decide_false, Wp_some, Wp_none, Wp_ite, Wc_some, Wc_none, Wc_ite, Wp_thenRun, seqQ_normal, seqQ_exit, seqQ_ret, Wp_inBlock, blkQ_normal, blkQ_ret, blkQ_same, blkQ_exit, Wp_opThen, opQ_at, Wp_guardP, retQ_normal, retQ_ret, loopQ_normal, loopQ_exit, loopQ_ret, go_sem, entry, joinEsc, if_pos, reduceIte, Nat.reduceAdd, Nat.reduceLeDiff, Nat.reduceLT, Nat.reduceEqDiff]
      exact r i _ _ _ (by omega)
  by_cases hlt : i < os.length
  · have hl : os[i]? = some os[i] := List.getElem?_eq_getElem hlt
    have hw := wrap_succ (show i < 9223372036854775807 by omega)
    by_cases hx : os[i] < x
    · simp (maxSteps := 2000000) +contextual only [w_s_l1Put_1, h, hlt, part_encI _ hl, hx, hw, Nat.mul_one, decide_true, Wp_some, Wp_none, Wp_ite, Wc_some, Wc_none, Wc_ite, Wp_thenRun, seqQ_normal, seqQ_exit, seqQ_ret, Wp_inBlock, blkQ_normal, blkQ_ret, blkQ_same, blkQ_exit, Wp_opThen, opQ_at, Wp_guardP, retQ_normal, retQ_ret, loopQ_normal, loopQ_exit, loopQ_ret, go_sem, entry, joinEsc, if_pos, reduceIte, Nat.reduceAdd, Nat.reduceLeDiff, Nat.reduceLT, Nat.reduceEqDiff]
      exact ⟨k - 1, by omega, i + 1, _, _, by omega, rfl⟩
    · simp (maxSteps := 2000000) +contextual only [w_s_l1Put_1, h, hlt, part_encI _ hl, hx, hw, Nat.mul_one, decide_true, decide_false, Wp_some, Wp_none, Wp_ite, Wc_some, Wc_none, Wc_ite, Wp_thenRun, seqQ_normal, seqQ_exit, seqQ_ret, Wp_inBlock, blkQ_normal, blkQ_ret, blkQ_same, blkQ_exit, Wp_opThen, opQ_at, Wp_guardP, retQ_normal, retQ_ret, loopQ_normal, loopQ_exit, loopQ_ret, go_sem, entry, joinEsc, if_pos, reduceIte, Nat.reduceAdd, Nat.reduceLeDiff, Nat.reduceLT, Nat.reduceEqDiff]
      exact r0 _ _
  · simp (maxSteps := 2000000) +contextual only [w_s_l1Put_1, hlt, decide_false, Wp_some, Wp_none, Wp_ite, Wc_some, Wc_none, Wc_ite, Wp_thenRun, seqQ_normal, seqQ_exit, seqQ_ret, Wp_inBlock, blkQ_normal, blkQ_ret, blkQ_same, blkQ_exit, Wp_opThen, opQ_at, Wp_guardP, retQ_normal, retQ_ret, loopQ_normal, loopQ_exit, loopQ_ret, go_sem, entry, joinEsc, if_pos, reduceIte, Nat.reduceAdd, Nat.reduceLeDiff, Nat.reduceLT, Nat.reduceEqDiff]
    exact r0 _ _

set_option maxHeartbeats 1000000 in
theorem wc_DrawSafeStep {av : AV} (hc : CodeAt H av) : Wc (call T pr f_s_DrawSafeStep [av] ⟨H, e⟩) (fun v m => ∃ (a b o : Int) (ls : List Ld) (os : List Int) (c1 c2 : Option Nat), v = .tup [rfV a b o, slL H.length ls.length c1, slI (H.length + 1) os.length c2] ∧ ls.length ≤ 9 ∧ os.length ≤ 10 ∧ m = ⟨H ++ [.cells (encL ls) true, .cells (encI os) true], e⟩) := by
  obtain ⟨p0, s0, n0, c0, rfl⟩ := hc.form
  rw [call_wc t_s_DrawSafeStep]
  simp +contextual only [a_s_DrawSafeStep, c_s_DrawSafeStep, fillParts, Nat.add_assoc, Wp_some, Wp_none, Wp_ite, Wc_some, Wc_none, Wc_ite, Wp_thenRun, seqQ_normal, seqQ_exit, seqQ_ret, Wp_inBlock, blkQ_normal, blkQ_ret, blkQ_same, blkQ_exit, Wp_opThen, opQ_at, Wp_guardP, retQ_normal, retQ_ret, loopQ_normal, loopQ_exit, loopQ_ret, go_sem, entry, joinEsc, if_pos, reduceIte, Nat.reduceAdd, Nat.reduceLeDiff, Nat.reduceLT, Nat.reduceEqDiff]
  refine (wc_raft (Cu.new (k := 1) (G := [.cells [.int .i64 0, .int .i64 0, .int .i64 0] true, curB _ 0 0]) rfl hc (by omega)) (by omega)).mono ?_
  rintro v m ⟨a, b, o, y1, z1, rfl, hy10, hy11, rfl⟩
  simp +contextual only [Nat.add_zero, Nat.add_assoc, Wp_some, Wp_none, Wp_ite, Wc_some, Wc_none, Wc_ite, Wp_thenRun, seqQ_normal, seqQ_exit, seqQ_ret, Wp_inBlock, blkQ_normal, blkQ_ret, blkQ_same, blkQ_exit, Wp_opThen, opQ_at, Wp_guardP, retQ_normal, retQ_ret, loopQ_normal, loopQ_exit, loopQ_ret, go_sem, entry, joinEsc, if_pos, reduceIte, Nat.reduceAdd, Nat.reduceLeDiff, Nat.reduceLT, Nat.reduceEqDiff]
  refine (wc_cargo (Cu.new (H := H) (k := 1) (y := y1) (z := z1) rfl hc hy10) (by omega)).mono ?_
  rintro v m ⟨ls, c1, y2, z2, rfl, hn1, hy20, hy21, rfl⟩
  simp +contextual only [Nat.add_zero, Nat.add_assoc, Wp_some, Wp_none, Wp_ite, Wc_some, Wc_none, Wc_ite, Wp_thenRun, seqQ_normal, seqQ_exit, seqQ_ret, Wp_inBlock, blkQ_normal, blkQ_ret, blkQ_same, blkQ_exit, Wp_opThen, opQ_at, Wp_guardP, retQ_normal, retQ_ret, loopQ_normal, loopQ_exit, loopQ_ret, go_sem, entry, joinEsc, if_pos, reduceIte, Nat.reduceAdd, Nat.reduceLeDiff, Nat.reduceLT, Nat.reduceEqDiff]
  obtain ⟨os, cap, ok, hso, hn2⟩ := SafeOrder_form (pr := pr) (H := H ++ [.cells [AV.int IntKind.i64 0, AV.int IntKind.i64 0, AV.int IntKind.i64 0] true, curB (.slice p0 s0 n0 c0) y2 z2, .cells (encL ls) true, .cells [AV.int IntKind.i64 a, AV.int IntKind.i64 b, AV.int IntKind.i64 o] true]) (e := none) (q := H.length + 2) (c := c1) (by simp +contextual only [go_sem, entry, joinEsc, if_pos, reduceIte, Nat.reduceAdd, Nat.reduceLeDiff, Nat.reduceLT, Nat.reduceEqDiff]) a b o hn1
  refine Wc.of_eq hso ?_
  have hcu := fun G => Cu.new (H := H) (k := 1) (y := y2) (z := z2) (G := .cells [AV.int IntKind.i64 0, AV.int IntKind.i64 0, AV.int IntKind.i64 0] true :: curB (.slice p0 s0 n0 c0) y2 z2 :: G) rfl hc hy20
  have r : ∀ (y z : Int) (w7 w8 w9 w10 w11 w12 : AV) (X : Blk), 0 ≤ y → y ≤ 1000 → Wp (run T pr (seqTl (seqTl (seqTl (seqTl c_s_DrawSafeStep)))) ⟨[AV.slice p0 s0 n0 c0, AV.ptr (some (H.length, 0)), AV.slice none 0 0 none, AV.slice none 0 0 none, AV.ptr (some (H.length + 1, 0)), AV.ptr (some (H.length + 3, 0)), slL (H.length + 2) ls.length c1, w7, w8, w9, w10, w11, w12], ⟨H ++ [.cells [AV.int IntKind.i64 0, AV.int IntKind.i64 0, AV.int IntKind.i64 0] true, curB (.slice p0 s0 n0 c0) y z, .cells (encL ls) true, .cells [AV.int IntKind.i64 a, AV.int IntKind.i64 b, AV.int IntKind.i64 o] true, X], none⟩⟩)
      (retQ a_s_DrawSafeStep ⟨H, e⟩ fun v m => ∃ (a b o : Int) (ls : List Ld) (os : List Int) (c1 c2 : Option Nat), v = .tup [rfV a b o, slL H.length ls.length c1, slI (H.length + 1) os.length c2] ∧ ls.length ≤ 9 ∧ os.length ≤ 10 ∧ m = ⟨H ++ [.cells (encL ls) true, .cells (encI os) true], e⟩) := by
    intro y z w7 w8 w9 w10 w11 w12 X hy0 hy1
    simp +contextual only [c_s_DrawSafeStep, seqTl, Nat.add_zero, Nat.add_assoc, Wp_some, Wp_none, Wp_ite, Wc_some, Wc_none, Wc_ite, Wp_thenRun, seqQ_normal, seqQ_exit, seqQ_ret, Wp_inBlock, blkQ_normal, blkQ_ret, blkQ_same, blkQ_exit, Wp_opThen, opQ_at, Wp_guardP, retQ_normal, retQ_ret, loopQ_normal, loopQ_exit, loopQ_ret, go_sem, entry, joinEsc, if_pos, reduceIte, Nat.reduceAdd, Nat.reduceLeDiff, Nat.reduceLT, Nat.reduceEqDiff]
    refine (wc_setOf (Cu.new (H := H) (k := 1) (y := y) (z := z) rfl hc hy0) (by omega)).mono ?_
    rintro v m ⟨os, c2, y3, z3, rfl, hn2, hy30, hy31, rfl⟩
    have hf := fun (B0 B1 B3 B4 : Blk) => finish_sl2 (H := H) (s1 := 2) (n1 := ls.length) (c1 := c1) (s2 := 1) (n2 := os.length) (c2 := c2) (rfV a b o) rfl (fun _ => rfl) (L := H ++ [B0, B1, .cells (encL ls) true, B3, B4, .cells (encI os) true]) ⟨_, rfl⟩ e none rfl (b1 := H.length + 2) (b2 := H.length + 5) (by omega) (by omega) (by omega) (by rw [blkAt_newk]; rfl) (by rw [blkAt_newk]; rfl) (under_encL _ _) (under_encI _ _)
    simp +contextual only [a_s_DrawSafeStep, hf, Nat.add_zero, Nat.add_assoc, Wp_some, Wp_none, Wp_ite, Wc_some, Wc_none, Wc_ite, Wp_thenRun, seqQ_normal, seqQ_exit, seqQ_ret, Wp_inBlock, blkQ_normal, blkQ_ret, blkQ_same, blkQ_exit, Wp_opThen, opQ_at, Wp_guardP, retQ_normal, retQ_ret, loopQ_normal, loopQ_exit, loopQ_ret, go_sem, entry, joinEsc, if_pos, reduceIte, Nat.reduceAdd, Nat.reduceLeDiff, Nat.reduceLT, Nat.reduceEqDiff]
    exact ⟨a, b, o, ls, os, c1, c2, rfl, hn1, hn2, rfl⟩
  by_cases hgo : ok = true ∧ 0 < os.length
  · obtain ⟨rfl, hpos⟩ := hgo
    have hd : (0 : Int) < (os.length : Int) := by omega
    simp +contextual only [hpos, hd, gt_iff_lt, decide_true, Nat.add_zero, Nat.add_assoc, Wp_some, Wp_none, Wp_ite, Wc_some, Wc_none, Wc_ite, Wp_thenRun, seqQ_normal, seqQ_exit, seqQ_ret, Wp_inBlock, blkQ_normal, blkQ_ret, blkQ_same, blkQ_exit, Wp_opThen, opQ_at, Wp_guardP, retQ_normal, retQ_ret, loopQ_normal, loopQ_exit, loopQ_ret, go_sem, entry, joinEsc, if_pos, reduceIte, Nat.reduceAdd, Nat.reduceLeDiff, Nat.reduceLT, Nat.reduceEqDiff]
    refine (wc_one 2 (hcu _) (by omega) (by omega)).mono ?_
    rintro v m ⟨x, y3, z3, rfl, hy30, hy31, rfl⟩
    cases x with
    | false =>
      simp +contextual only [Nat.add_zero, Nat.add_assoc, Wp_some, Wp_none, Wp_ite, Wc_some, Wc_none, Wc_ite, Wp_thenRun, seqQ_normal, seqQ_exit, seqQ_ret, Wp_inBlock, blkQ_normal, blkQ_ret, blkQ_same, blkQ_exit, Wp_opThen, opQ_at, Wp_guardP, retQ_normal, retQ_ret, loopQ_normal, loopQ_exit, loopQ_ret, go_sem, entry, joinEsc, if_pos, reduceIte, Nat.reduceAdd, Nat.reduceLeDiff, Nat.reduceLT, Nat.reduceEqDiff]
      have := r y3 z3 (slI (H.length + 4) os.length cap) (.bool true) .undef .undef (.bool false) .undef (.cells (encI os) true) hy30 (by omega)
      simp +contextual only [c_s_DrawSafeStep, seqTl, Nat.add_zero, Nat.add_assoc, Wp_some, Wp_none, Wp_ite, Wc_some, Wc_none, Wc_ite, Wp_thenRun, seqQ_normal, seqQ_exit, seqQ_ret, Wp_inBlock, blkQ_normal, blkQ_ret, blkQ_same, blkQ_exit, Wp_opThen, opQ_at, Wp_guardP, retQ_normal, retQ_ret, loopQ_normal, loopQ_exit, loopQ_ret, go_sem, entry, joinEsc, if_pos, reduceIte, Nat.reduceAdd, Nat.reduceLeDiff, Nat.reduceLT, Nat.reduceEqDiff] at this
      exact this
    | true =>
      simp +contextual only [fillParts, Nat.add_zero, Nat.add_assoc, Wp_some, Wp_none, Wp_ite, Wc_some, Wc_none, Wc_ite, Wp_thenRun, seqQ_normal, seqQ_exit, seqQ_ret, Wp_inBlock, blkQ_normal, blkQ_ret, blkQ_same, blkQ_exit, Wp_opThen, opQ_at, Wp_guardP, retQ_normal, retQ_ret, loopQ_normal, loopQ_exit, loopQ_ret, go_sem, entry, joinEsc, if_pos, reduceIte, Nat.reduceAdd, Nat.reduceLeDiff, Nat.reduceLT, Nat.reduceEqDiff]
      refine (wc_pick (os.length : Int) (Cu.new (H := H) (k := 1) (y := y3) (z := z3) rfl hc hy30) (by omega) (by omega)).mono ?_
      rintro v m ⟨x, y4, z4, rfl, hx0, hx1, hy40, hy41, rfl⟩
      obtain ⟨i, rfl⟩ : ∃ i : Nat, x = (i : Int) := ⟨x.toNat, by omega⟩
      simp +contextual only [Nat.add_zero, Nat.add_assoc, Wp_some, Wp_none, Wp_ite, Wc_some, Wc_none, Wc_ite, Wp_thenRun, seqQ_normal, seqQ_exit, seqQ_ret, Wp_inBlock, blkQ_normal, blkQ_ret, blkQ_same, blkQ_exit, Wp_opThen, opQ_at, Wp_guardP, retQ_normal, retQ_ret, loopQ_normal, loopQ_exit, loopQ_ret, go_sem, entry, joinEsc, if_pos, reduceIte, Nat.reduceAdd, Nat.reduceLeDiff, Nat.reduceLT, Nat.reduceEqDiff]
      obtain ⟨M0, hM0⟩ : ∃ M0, M0 = H ++ [.cells [AV.int IntKind.i64 0, AV.int IntKind.i64 0, AV.int IntKind.i64 0] true, curB (.slice p0 s0 n0 c0) y4 z4, .cells (encL ls) true, .cells [AV.int IntKind.i64 a, AV.int IntKind.i64 b, AV.int IntKind.i64 o] true, .cells (encI os) true] := ⟨_, rfl⟩
      have hMl : M0.length = H.length + 5 := by rw [hM0]; simp
      have hgH : ∀ L, Grown M0 L → Grown H L := fun L hg => by
        obtain ⟨G, rfl⟩ := hg
        exact ⟨_, by rw [hM0, List.append_assoc]⟩
      refine Wp_loop (fun k st => ∃ (set : List Int) (q : Nat) (c2 : Option Nat) (L : List Blk) (w12 : AV), set.length + k ≤ os.length ∧ Grown M0 L ∧ M0.length ≤ q ∧ L[q]? = some (.cells (encI set) true) ∧ st = ⟨[AV.slice p0 s0 n0 c0, AV.ptr (some (H.length, 0)), AV.slice none 0 0 none, AV.slice none 0 0 none, AV.ptr (some (H.length + 1, 0)), AV.ptr (some (H.length + 3, 0)), slL (H.length + 2) ls.length c1, slI (H.length + 4) os.length cap, .bool true, slI q set.length c2, .int .i64 ((k : Int) - 1), .bool true, w12], ⟨L, none⟩⟩) ?_ (i + 1) _ ?_
      · rintro k _ ⟨set, q, c2, L, w12, hk, hg, hq, hL, rfl⟩
        have hget : ∀ j, j < 5 → L[H.length + j]? = M0[H.length + j]? := fun j hj => hg.get (by omega)
        have g2 : L[H.length + 2]? = some (.cells (encL ls) true) := by rw [hget 2 (by omega), hM0, blkAt_newk]; rfl
        have g3 : L[H.length + 3]? = some (.cells [AV.int IntKind.i64 a, AV.int IntKind.i64 b, AV.int IntKind.i64 o] true) := by rw [hget 3 (by omega), hM0, blkAt_newk]; rfl
        have g4 : L[H.length + 4]? = some (.cells (encI os) true) := by rw [hget 4 (by omega), hM0, blkAt_newk]; rfl
        have g0 : L[H.length]? = some (.cells [AV.int IntKind.i64 0, AV.int IntKind.i64 0, AV.int IntKind.i64 0] true) := by
          have := hget 0 (by omega)
          rw [Nat.add_zero] at this
          rw [this, hM0, blkAt_new0]; rfl
        by_cases h0 : k = 0
        · subst h0
          have hge : ¬ (0 : Int) ≤ ((0 : Nat) : Int) - 1 := by omega
          have hln : ∀ x, (L.set H.length x).length = L.length := fun x => List.length_set
          have hf := fun x => finish_sl2 (H := H) (s1 := 2) (n1 := ls.length) (c1 := c1) (s2 := 1) (n2 := set.length) (c2 := c2) (rfV a b o) rfl (fun _ => rfl) (L := L.set H.length x) ((hgH _ hg).put (Nat.le_refl _) _) e none rfl (b1 := H.length + 2) (b2 := q) (by omega) (by omega) (by omega) (by rw [List.getElem?_set_ne (by omega)]; exact g2) (by rw [List.getElem?_set_ne (by omega)]; exact hL) (under_encL _ _) (under_encI _ _)
          have hx0 : ∀ x, cellsAt (L.set H.length (.cells x true)) H.length = some x := fun x => cells_set (by have := (hgH _ hg).le; have := hg.le; omega) _ _
          simp +contextual only [w_s_DrawSafeStep_1, a_s_DrawSafeStep, ge_iff_le, hge, cellsAt_of g3, g0, hf, hx0, Nat.add_zero, decide_false, Wp_some, Wp_none, Wp_ite, Wc_some, Wc_none, Wc_ite, Wp_thenRun, seqQ_normal, seqQ_exit, seqQ_ret, Wp_inBlock, blkQ_normal, blkQ_ret, blkQ_same, blkQ_exit, Wp_opThen, opQ_at, Wp_guardP, retQ_normal, retQ_ret, loopQ_normal, loopQ_exit, loopQ_ret, go_sem, entry, joinEsc, if_pos, reduceIte, Nat.reduceAdd, Nat.reduceLeDiff, Nat.reduceLT, Nat.reduceEqDiff]
          exact ⟨a, b, o, ls, set, c1, c2, rfl, hn1, by omega, rfl⟩
        · obtain ⟨k', rfl⟩ : ∃ k', k = k' + 1 := ⟨k - 1, by omega⟩
          have hge : (0 : Int) ≤ ((k' + 1 : Nat) : Int) - 1 := by omega
          have hix : ((k' + 1 : Nat) : Int) - 1 = (k' : Int) := by omega
          have hlt : k' < os.length := by omega
          have hl : os[k']? = some os[k'] := List.getElem?_eq_getElem hlt
          have hwk : IntKind.i64.wrap ((k' : Int) - 1) = (k' : Int) - 1 := wrap64 (by omega) (by omega)
          rw [hix]
          have hge' : (0 : Int) ≤ (k' : Int) := by omega
          simp +contextual only [w_s_DrawSafeStep_1, ge_iff_le, hge', hlt, cellsAt_of g4, part_encI _ hl, Nat.mul_one, decide_true, Wp_some, Wp_none, Wp_ite, Wc_some, Wc_none, Wc_ite, Wp_thenRun, seqQ_normal, seqQ_exit, seqQ_ret, Wp_inBlock, blkQ_normal, blkQ_ret, blkQ_same, blkQ_exit, Wp_opThen, opQ_at, Wp_guardP, retQ_normal, retQ_ret, loopQ_normal, loopQ_exit, loopQ_ret, go_sem, entry, joinEsc, if_pos, reduceIte, Nat.reduceAdd, Nat.reduceLeDiff, Nat.reduceLT, Nat.reduceEqDiff]
          refine (wc_l1Put (cellsAt_of hL) (by omega) os[k']).mono ?_
          rintro v m (⟨rfl, rfl⟩ | ⟨set', rfl, hs', rfl⟩)
          · simp +contextual only [hwk, Wp_some, Wp_none, Wp_ite, Wc_some, Wc_none, Wc_ite, Wp_thenRun, seqQ_normal, seqQ_exit, seqQ_ret, Wp_inBlock, blkQ_normal, blkQ_ret, blkQ_same, blkQ_exit, Wp_opThen, opQ_at, Wp_guardP, retQ_normal, retQ_ret, loopQ_normal, loopQ_exit, loopQ_ret, go_sem, entry, joinEsc, if_pos, reduceIte, Nat.reduceAdd, Nat.reduceLeDiff, Nat.reduceLT, Nat.reduceEqDiff]
            exact ⟨k', by omega, set, q, c2, L, _, by omega, hg, hq, hL, rfl⟩
          · simp +contextual only [hwk, Wp_some, Wp_none, Wp_ite, Wc_some, Wc_none, Wc_ite, Wp_thenRun, seqQ_normal, seqQ_exit, seqQ_ret, Wp_inBlock, blkQ_normal, blkQ_ret, blkQ_same, blkQ_exit, Wp_opThen, opQ_at, Wp_guardP, retQ_normal, retQ_ret, loopQ_normal, loopQ_exit, loopQ_ret, go_sem, entry, joinEsc, if_pos, reduceIte, Nat.reduceAdd, Nat.reduceLeDiff, Nat.reduceLT, Nat.reduceEqDiff]
            exact ⟨k', by omega, set', L.length, none, _, _, by omega, hg.more _, hg.le, by rw [blkAt_new0]; rfl, rfl⟩
      · have hi1 : (((i + 1 : Nat) : Int) - 1) = (i : Int) := by omega
        rw [hi1]
        refine ⟨[], H.length + 5, some 0, _, _, by simp; omega, ⟨[.cells [] true], ?_⟩, by omega, ?_, rfl⟩
        · rw [hM0]; simp
        · rw [blkAt_newk]; rfl
  · have hno : (ok && decide (0 < os.length)) = false := by
      cases ok with
      | false => rfl
      | true =>
        have : ¬ 0 < os.length := fun h => hgo ⟨rfl, h⟩
        simp [this]
    cases ok with
    | false =>
      simp +contextual only [Nat.add_zero, Nat.add_assoc, Wp_some, Wp_none, Wp_ite, Wc_some, Wc_none, Wc_ite, Wp_thenRun, seqQ_normal, seqQ_exit, seqQ_ret, Wp_inBlock, blkQ_normal, blkQ_ret, blkQ_same, blkQ_exit, Wp_opThen, opQ_at, Wp_guardP, retQ_normal, retQ_ret, loopQ_normal, loopQ_exit, loopQ_ret, go_sem, entry, joinEsc, if_pos, reduceIte, Nat.reduceAdd, Nat.reduceLeDiff, Nat.reduceLT, Nat.reduceEqDiff]
      have := r y2 z2 (slI (H.length + 4) os.length cap) (.bool false) .undef .undef (.bool false) .undef (.cells (encI os) true) hy20 (by omega)
      simp +contextual only [c_s_DrawSafeStep, seqTl, Nat.add_zero, Nat.add_assoc, Wp_some, Wp_none, Wp_ite, Wc_some, Wc_none, Wc_ite, Wp_thenRun, seqQ_normal, seqQ_exit, seqQ_ret, Wp_inBlock, blkQ_normal, blkQ_ret, blkQ_same, blkQ_exit, Wp_opThen, opQ_at, Wp_guardP, retQ_normal, retQ_ret, loopQ_normal, loopQ_exit, loopQ_ret, go_sem, entry, joinEsc, if_pos, reduceIte, Nat.reduceAdd, Nat.reduceLeDiff, Nat.reduceLT, Nat.reduceEqDiff] at this
      exact this
    | true =>
      have hd : ¬ (0 : Int) < (os.length : Int) := fun h => hgo ⟨rfl, by omega⟩
      have hd' : ¬ 0 < os.length := fun h => hgo ⟨rfl, h⟩
      simp +contextual only [hd, hd', gt_iff_lt, decide_false, Nat.add_zero, Nat.add_assoc, Wp_some, Wp_none, Wp_ite, Wc_some, Wc_none, Wc_ite, Wp_thenRun, seqQ_normal, seqQ_exit, seqQ_ret, Wp_inBlock, blkQ_normal, blkQ_ret, blkQ_same, blkQ_exit, Wp_opThen, opQ_at, Wp_guardP, retQ_normal, retQ_ret, loopQ_normal, loopQ_exit, loopQ_ret, go_sem, entry, joinEsc, if_pos, reduceIte, Nat.reduceAdd, Nat.reduceLeDiff, Nat.reduceLT, Nat.reduceEqDiff]
      have := r y2 z2 (slI (H.length + 4) os.length cap) (.bool true) .undef .undef (.bool false) .undef (.cells (encI os) true) hy20 (by omega)
      simp +contextual only [c_s_DrawSafeStep, seqTl, Nat.add_zero, Nat.add_assoc, Wp_some, Wp_none, Wp_ite, Wc_some, Wc_none, Wc_ite, Wp_thenRun, seqQ_normal, seqQ_exit, seqQ_ret, Wp_inBlock, blkQ_normal, blkQ_ret, blkQ_same, blkQ_exit, Wp_opThen, opQ_at, Wp_guardP, retQ_normal, retQ_ret, loopQ_normal, loopQ_exit, loopQ_ret, go_sem, entry, joinEsc, if_pos, reduceIte, Nat.reduceAdd, Nat.reduceLeDiff, Nat.reduceLT, Nat.reduceEqDiff] at this
      exact this

end Go.Proofs.Ytlcklonakjhoiaa.Slim

/- Rafts: the law on safe orders, its end. -/
namespace Go.Proofs.Ytlcklonakjhoiaa.Slim

open Go

set_option linter.unusedSimpArgs false

set_option linter.unusedVariables false

variable {pr : Prims} {H : List Blk} {e : Option Nat}

theorem fin_true (m0 : Mem) (L : List Blk) : finish 1 m0.H.length m0.esc (.bool true) ⟨L, none⟩ = some (.bool true, ⟨L.take m0.H.length, m0.esc⟩) := by
  unfold finish
  simp [AV.under, clean]

theorem so_loop {a0 a1 a2 a3 a4 a5 a6 a7 a8 a9 a10 a11 a13 a14 a15 a16 a17 a18 a19 a20 a21 a22 a23 a24 a25 a26 a27 a28 a29 a30 a31 a32 a33 a34 a35 a36 a37 a38 a39 a42 a43 a44 a45 a46 a47 a48 a49 a50 a51 a52 a53 a54 a55 a56 a57 a58 a59 a61 a62 a60 : AV} {q : Nat} {c : Option Nat} {os : List Int} (hq : cellsAt H q = some (encI os)) (hn : os.length ≤ 1000000) :
    Wp (run T pr (.loop w_l_FnSafeOrders_1) ⟨[a0, a1, a2, a3, a4, a5, a6, a7, a8, a9, a10, a11, slI q os.length c, a13, a14, a15, a16, a17, a18, a19, a20, a21, a22, a23, a24, a25, a26, a27, a28, a29, a30, a31, a32, a33, a34, a35, a36, a37, a38, a39, slI H.length 0 (some 0), .int .i64 ((os.length : Int) - 1), a42, a43, a44, a45, a46, a47, a48, a49, a50, a51, a52, a53, a54, a55, a56, a57, a58, a59, a60, a61, a62], ⟨H ++ [.cells [] true], none⟩⟩) (fun ex st => ex = .exit 0 ∧ ∃ (L : List Blk) (b : Nat) (c' : Option Nat) (w41 w60 : AV), Grown H L ∧ L[b]? = some (.cells (encI os.reverse) true) ∧ st = ⟨[a0, a1, a2, a3, a4, a5, a6, a7, a8, a9, a10, a11, slI q os.length c, a13, a14, a15, a16, a17, a18, a19, a20, a21, a22, a23, a24, a25, a26, a27, a28, a29, a30, a31, a32, a33, a34, a35, a36, a37, a38, a39, slI b os.length c', w41, a42, a43, a44, a45, a46, a47, a48, a49, a50, a51, a52, a53, a54, a55, a56, a57, a58, a59, w60, a61, a62], ⟨L, none⟩⟩) := by
  refine Wp_loop (fun k st => ∃ (L : List Blk) (b : Nat) (c' : Option Nat) (w60 : AV), k ≤ os.length ∧ H.length ≤ b ∧ (c' = some 0 → (os.drop k).reverse.length = 0) ∧ Grown H L ∧ L[b]? = some (.cells (encI (os.drop k).reverse) true) ∧ st = ⟨[a0, a1, a2, a3, a4, a5, a6, a7, a8, a9, a10, a11, slI q os.length c, a13, a14, a15, a16, a17, a18, a19, a20, a21, a22, a23, a24, a25, a26, a27, a28, a29, a30, a31, a32, a33, a34, a35, a36, a37, a38, a39, slI b (os.drop k).reverse.length c', .int .i64 ((k : Int) - 1), a42, a43, a44, a45, a46, a47, a48, a49, a50, a51, a52, a53, a54, a55, a56, a57, a58, a59, w60, a61, a62], ⟨L, none⟩⟩) ?_ os.length _ ?_
  · rintro k _ ⟨L, b, c', w60, hk, hb, hcap, hg, hL, rfl⟩
    by_cases h0 : k = 0
    · subst h0
      have hge : ¬ (0 : Int) ≤ ((0 : Nat) : Int) - 1 := by omega
      rw [List.drop_zero, List.length_reverse]
      rw [List.drop_zero] at hL
      simp (maxSteps := 2000000) +contextual only [w_l_FnSafeOrders_1, ge_iff_le, hge, decide_false, Wp_some, Wp_none, Wp_ite, Wc_some, Wc_none, Wc_ite, Wp_thenRun, seqQ_normal, seqQ_exit, seqQ_ret, Wp_inBlock, blkQ_normal, blkQ_ret, blkQ_same, blkQ_exit, Wp_opThen, opQ_at, Wp_guardP, retQ_normal, retQ_ret, loopQ_normal, loopQ_exit, loopQ_ret, go_sem, entry, joinEsc, if_pos, reduceIte, Nat.reduceAdd, Nat.reduceLeDiff, Nat.reduceLT, Nat.reduceEqDiff]
      exact ⟨L, b, c', _, _, hg, hL, rfl⟩
    · obtain ⟨k', rfl⟩ : ∃ k', k = k' + 1 := ⟨k - 1, by omega⟩
      have hlt : k' < os.length := by omega
      have hl : os[k']? = some os[k'] := List.getElem?_eq_getElem hlt
      have hix : ((k' + 1 : Nat) : Int) - 1 = (k' : Int) := by omega
      have hge : (0 : Int) ≤ (k' : Int) := by omega
      have hwk : IntKind.i64.wrap ((k' : Int) - 1) = (k' : Int) - 1 := wrap64 (by omega) (by omega)
      have hqL : cellsAt L q = some (encI os) := by
        obtain ⟨G, rfl⟩ := hg
        exact cells_mono hq G
      have hdr : (os.drop k').reverse = (os.drop (k' + 1)).reverse ++ [os[k']] := by rw [List.drop_eq_getElem_cons hlt, List.reverse_cons]
      have hrl : (os.drop (k' + 1)).reverse.length = os.length - (k' + 1) := by rw [List.length_reverse, List.length_drop]
      rw [hix]
      simp (maxSteps := 2000000) +contextual only [w_l_FnSafeOrders_1, fillParts, ge_iff_le, hge, hlt, hqL, part_encI _ hl, Nat.mul_one, decide_true, Wp_some, Wp_none, Wp_ite, Wc_some, Wc_none, Wc_ite, Wp_thenRun, seqQ_normal, seqQ_exit, seqQ_ret, Wp_inBlock, blkQ_normal, blkQ_ret, blkQ_same, blkQ_exit, Wp_opThen, opQ_at, Wp_guardP, retQ_normal, retQ_ret, loopQ_normal, loopQ_exit, loopQ_ret, go_sem, entry, joinEsc, if_pos, reduceIte, Nat.reduceAdd, Nat.reduceLeDiff, Nat.reduceLT, Nat.reduceEqDiff]
      refine wc_ap (k := 1) (new := [.int .i64 os[k']]) (get_more hL _) (src_new _ 1 1 _ _ L.length (by simp +contextual only [go_sem, entry, joinEsc, if_pos, reduceIte, Nat.reduceAdd, Nat.reduceLeDiff, Nat.reduceLT, Nat.reduceEqDiff]) rfl) (by simp) rfl (by unfold maxBytes; omega) hcap ?_
      intro L2 e1 e2 e3 e4
      rw [encI_snoc, ← hdr] at e3
      simp (maxSteps := 2000000) +contextual only [hwk, Wp_some, Wp_none, Wp_ite, Wc_some, Wc_none, Wc_ite, Wp_thenRun, seqQ_normal, seqQ_exit, seqQ_ret, Wp_inBlock, blkQ_normal, blkQ_ret, blkQ_same, blkQ_exit, Wp_opThen, opQ_at, Wp_guardP, retQ_normal, retQ_ret, loopQ_normal, loopQ_exit, loopQ_ret, go_sem, entry, joinEsc, if_pos, reduceIte, Nat.reduceAdd, Nat.reduceLeDiff, Nat.reduceLT, Nat.reduceEqDiff]
      rw [show (os.drop (k' + 1)).reverse.length + 1 = (os.drop k').reverse.length by rw [hdr]; simp]
      exact ⟨k', by omega, L2, _, none, _, by omega, by have := hg.le; omega, by simp, e4 _ (hg.more _) hb, by simpa using e3, rfl⟩
  · have hdl : os.drop os.length = [] := List.drop_length
    rw [hdl]
    exact ⟨_, H.length, some 0, _, Nat.le_refl _, Nat.le_refl _, fun _ => rfl, ⟨_, rfl⟩, by rw [blkAt_new0]; rfl, rfl⟩

theorem order_head (W : List Int) (n c : Nat) : ∀ {k : Nat}, 0 < k → ∃ tl, orderW W n k c = ((firstW W n c : Nat) : Int) :: tl
  | k + 1, _ => ⟨_, rfl⟩

set_option maxHeartbeats 4000000 in
theorem so_end {w0 w5 w6 w7 w8 w9 w10 w11 w13 w14 w15 w16 w17 w18 w19 w21 w22 w23 w24 w25 w26 w27 w28 w29 w30 w31 w32 w33 w34 w35 w36 w37 w38 w39 w40 w41 w42 w43 w44 w45 w46 w47 w48 w49 w50 w51 w52 w53 w54 w55 w56 w57 w58 w59 w60 w61 w62 : AV} {m0 : Mem} {q q1 q2 u : Nat} {c c1 c2 : Option Nat} {ls : List Ld} {a b o s : Int} {L : List Blk} (hq : cellsAt L q = some (encL ls)) (hu : cellsAt L u = some [.int .i64 a, .int .i64 b, .int .i64 o]) (hcan : canW a b o ls = true) (hq1 : cellsAt L q1 = some (encI (soW a b o ls))) (hq2 : cellsAt L q2 = some (encI (uoW a b o ls))) (hs1 : s ≤ ls.length) (hs2 : (ls.length : Int) ≤ 2 * s) :
    Wp (run T pr (seqTl (seqTl (seqTl (seqTl (seqTl (seqTl (seqTl (seqTl (seqTl (seqTl (seqTl (seqTl (seqTl (seqTl (seqTl (seqTl (seqTl (seqTl (seqTl (seqTl c_l_FnSafeOrders)))))))))))))))))))) ⟨[w0, .bool false, .ptr (some (u, 0)), slL q ls.length c, slI q1 (soW a b o ls).length c1, w5, w6, w7, w8, w9, w10, w11, slI q2 (uoW a b o ls).length c2, w13, w14, w15, w16, w17, w18, w19, .int .i64 s, w21, w22, w23, w24, w25, w26, w27, w28, w29, w30, w31, w32, w33, w34, w35, w36, w37, w38, w39, w40, w41, w42, w43, w44, w45, w46, w47, w48, w49, w50, w51, w52, w53, w54, w55, w56, w57, w58, w59, w60, w61, w62], ⟨L, none⟩⟩) (retQ a_l_FnSafeOrders m0 fun v m => v = .bool true) := by
  have hcg := (Bool.and_eq_true_iff.mp hcan).1
  have hn8 := cargo_le hcg
  have hways := waysW_all (a := a) (b := b) (o := o) hn8
  have hpow := Nat.two_pow_pos ls.length
  have hpos : 0 < (waysW a b o ls).getD 0 0 := by
    have h1 := (hways.good 0 hpow).1
    have h2 := (Bool.and_eq_true_iff.mp hcan).2
    have h3 : ¬ (waysW a b o ls).getD 0 0 = 0 := by simpa using h2
    omega
  have hback := (ways_back hways).mp hpos
  obtain ⟨o1, o2⟩ := order_safe (a := a) (b := b) (o := o) hn8 ls.length 0 0 hpow (mu_zero _) hpos
  have hnu := (nu_facts ls.length (by omega) (2 ^ ls.length - 1) (by omega)).2.1 (by omega)
  obtain ⟨u1, u2, u3⟩ := unload_safe (a := a) (b := b) (o := o) hn8 ls.length (2 ^ ls.length - 1) (by omega) hnu hback
  have hsl : (soW a b o ls).length = ls.length := soW_length _ _ _ _
  have hul : (uoW a b o ls).length = ls.length := uoW_length _ _ _ _
  have hor1 : ordR a b o ls (soW a b o ls) = true := by
    unfold ordR
    rw [hcg, hsl]
    unfold soW
    rw [o1]
    simp
  have hor2 : ordR a b o ls (uoW a b o ls).reverse = true := by
    unfold ordR
    rw [hcg, List.length_reverse, hul]
    unfold uoW
    rw [u1]
    simp
  have ht1 : tipFrom a b o ls 0 0 (soW a b o ls) = 0 := o2
  have ht2 : tipFrom a b o ls 0 0 (uoW a b o ls).reverse = 0 := u3
  have hi1 := fun G => e_i_IsSafeOrder (pr := pr) (H := L ++ G) (e := none) (c := c) (c' := c1) (cells_mono hq G) (cells_mono hq1 G) (by omega) a b o
  have hi1' := e_i_IsSafeOrder (pr := pr) (H := L) (e := none) (c := c) (c' := c1) hq hq1 (by omega) a b o
  rw [hor1, ht1] at hi1 hi1'
  have hcS : canS a b o ls [] = true := by
    unfold canS setOk
    rw [hcg]
    exact hways.isSafe hpow hpos
  have hwn : IntKind.i64.wrap (((uoW a b o ls).length : Int) - 1) = ((uoW a b o ls).length : Int) - 1 := wrap64 (by omega) (by omega)
  simp (maxSteps := 2000000) +contextual only [c_l_FnSafeOrders, seqTl, fillParts, hu, hi1', hwn, decide_true, Wp_some, Wp_none, Wp_ite, Wc_some, Wc_none, Wc_ite, Wp_thenRun, seqQ_normal, seqQ_exit, seqQ_ret, Wp_inBlock, blkQ_normal, blkQ_ret, blkQ_same, blkQ_exit, Wp_opThen, opQ_at, Wp_guardP, retQ_normal, retQ_ret, loopQ_normal, loopQ_exit, loopQ_ret, go_sem, entry, joinEsc, if_pos, reduceIte, Nat.reduceAdd, Nat.reduceLeDiff, Nat.reduceLT, Nat.reduceEqDiff]
  refine (so_loop (H := L) hq2 (by omega)).mono ?_
  rintro ex st ⟨rfl, L1, b1, c3, w41', w60', hg1, hL1, rfl⟩
  obtain ⟨G1, rfl⟩ := hg1
  have hi2 := e_i_IsSafeOrder (pr := pr) (H := L ++ G1) (e := none) (c := c) (c' := c3) (cells_mono hq G1) (cellsAt_of hL1) (by rw [List.length_reverse]; omega) a b o
  rw [hor2, ht2, List.length_reverse] at hi2
  have hu1 := cells_mono hu G1
  rw [hul]
  rw [hul] at hi2
  simp (maxSteps := 2000000) +contextual only [fillParts, hu1, hi2, decide_true, Wp_some, Wp_none, Wp_ite, Wc_some, Wc_none, Wc_ite, Wp_thenRun, seqQ_normal, seqQ_exit, seqQ_ret, Wp_inBlock, blkQ_normal, blkQ_ret, blkQ_same, blkQ_exit, Wp_opThen, opQ_at, Wp_guardP, retQ_normal, retQ_ret, loopQ_normal, loopQ_exit, loopQ_ret, go_sem, entry, joinEsc, if_pos, reduceIte, Nat.reduceAdd, Nat.reduceLeDiff, Nat.reduceLT, Nat.reduceEqDiff]
  have hlen1 : (L ++ (G1 ++ [Blk.cells [] true])).length = L.length + G1.length + 1 := by simp; omega
  have hemp : cellsAt (L ++ (G1 ++ [Blk.cells [] true])) (L.length + G1.length) = some (encI []) := by
    rw [← List.append_assoc, ← List.length_append]
    simp +contextual only [go_sem, entry, joinEsc, if_pos, reduceIte, Nat.reduceAdd, Nat.reduceLeDiff, Nat.reduceLT, Nat.reduceEqDiff]
  obtain ⟨M1, hM1⟩ : ∃ M1, M1 = L ++ (G1 ++ [Blk.cells [] true]) := ⟨_, rfl⟩
  rw [← hM1] at hlen1 hemp ⊢
  have hg : ∀ (X : List Blk) (b : Nat) (cs : List AV), cellsAt L b = some cs → cellsAt (M1 ++ X) b = some cs := fun X b cs h => by rw [hM1]; exact cells_mono (cells_mono h _) X
  have hg0 : ∀ (b : Nat) (cs : List AV), cellsAt L b = some cs → cellsAt M1 b = some cs := fun b cs h => by rw [hM1]; exact cells_mono h _
  obtain ⟨cap1, hs1'⟩ := e_i_SafeStep (pr := pr) (H := M1) (e := none) (q := q) (q' := L.length + G1.length) (c := c) (c' := some 0) (os := []) (hg0 _ _ hq) hemp (by simp) a b o hcS
  refine Wc.of_eq hs1' ?_
  have huS := fun X => hg X _ _ hu
  have hqS := fun X => hg X _ _ hq
  have hq1S := fun X => hg X _ _ hq1
  simp (maxSteps := 2000000) +contextual only [fillParts, huS, decide_true, Wp_some, Wp_none, Wp_ite, Wc_some, Wc_none, Wc_ite, Wp_thenRun, seqQ_normal, seqQ_exit, seqQ_ret, Wp_inBlock, blkQ_normal, blkQ_ret, blkQ_same, blkQ_exit, Wp_opThen, opQ_at, Wp_guardP, retQ_normal, retQ_ret, loopQ_normal, loopQ_exit, loopQ_ret, go_sem, entry, joinEsc, if_pos, reduceIte, Nat.reduceAdd, Nat.reduceLeDiff, Nat.reduceLT, Nat.reduceEqDiff]
  obtain ⟨cap2, hs2'⟩ := e_s_SafeStep (pr := pr) (H := M1 ++ [.cells (encI (ssW a b o ls [])) true, .cells [] true]) (e := none) (q := q) (q' := M1.length + 1) (c := c) (c' := some 0) (os := []) (hqS _) (by simp +contextual only [go_sem, entry, joinEsc, if_pos, reduceIte, Nat.reduceAdd, Nat.reduceLeDiff, Nat.reduceLT, Nat.reduceEqDiff]) (by simp) a b o hcS
  refine Wc.of_eq hs2' ?_
  have hssl : (ssW a b o ls []).length ≤ 1048576 := Nat.le_trans (ssW_le _ _ _ _ _) (by omega)
  have hri := e_l_rInts (pr := pr) (H := M1 ++ [.cells (encI (ssW a b o ls [])) true, .cells [] true, .cells (encI (ssW a b o ls [])) true]) (e := none) (b1 := M1.length) (b2 := M1.length + 2) (c1 := cap1) (c2 := cap2) (ls := ssW a b o ls []) (by simp +contextual only [go_sem, entry, joinEsc, if_pos, reduceIte, Nat.reduceAdd, Nat.reduceLeDiff, Nat.reduceLT, Nat.reduceEqDiff]) (by simp +contextual only [go_sem, entry, joinEsc, if_pos, reduceIte, Nat.reduceAdd, Nat.reduceLeDiff, Nat.reduceLT, Nat.reduceEqDiff]) hssl
  have hw2 : IntKind.i64.wrap (2 * s) = 2 * s := wrap64 (by omega) (by omega)
  have hgt : ¬ (ls.length : Int) < s := by omega
  have hlt2 : ¬ 2 * s < (ls.length : Int) := by omega
  rw [hsl]
  by_cases hn0 : ls.length = 0
  · simp (maxSteps := 2000000) +contextual only [a_l_FnSafeOrders, fillParts, hri, hw2, hgt, hlt2, hn0, gt_iff_lt, fin_true, Int.natCast_zero, decide_true, decide_false, Wp_some, Wp_none, Wp_ite, Wc_some, Wc_none, Wc_ite, Wp_thenRun, seqQ_normal, seqQ_exit, seqQ_ret, Wp_inBlock, blkQ_normal, blkQ_ret, blkQ_same, blkQ_exit, Wp_opThen, opQ_at, Wp_guardP, retQ_normal, retQ_ret, loopQ_normal, loopQ_exit, loopQ_ret, go_sem, entry, joinEsc, if_pos, reduceIte, Nat.reduceAdd, Nat.reduceLeDiff, Nat.reduceLT, Nat.reduceEqDiff]
    refine ⟨fun h => ?_, fun _ => trivial⟩
    simp only [Bool.or_eq_true, decide_eq_true_eq] at h
    omega
  · have hmu : mu ls.length 0 ≠ 0 := by rw [mu_zero]; exact hn0
    obtain ⟨f1, f2, f3, rest, f4⟩ := first_spec (hways.good 0 hpow) hpos hmu
    have e1 : ssW a b o ls [] = ((firstW (waysW a b o ls) ls.length 0 : Nat) : Int) :: rest := f4
    obtain ⟨tl, e2⟩ := order_head (waysW a b o ls) ls.length 0 (Nat.pos_of_ne_zero hn0)
    have e2 : soW a b o ls = ((firstW (waysW a b o ls) ls.length 0 : Nat) : Int) :: tl := e2
    generalize ((firstW (waysW a b o ls) ls.length 0 : Nat) : Int) = f at *
    have hpa := part_encI 1 (show (ssW a b o ls [])[0]? = some f by rw [e1]; rfl)
    have hpb := part_encI 1 (show (soW a b o ls)[0]? = some f by rw [e2]; rfl)
    have hn1 : 0 < ls.length := Nat.pos_of_ne_zero hn0
    have hss1 : 0 < (ssW a b o ls []).length := by rw [e1]; simp
    have hd0 : ¬ (ls.length : Int) = 0 := by omega
    have hd1 : (0 : Int) < (ls.length : Int) := by omega
    have hd2 : (0 : Int) < ((ssW a b o ls []).length : Int) := by omega
    simp (maxSteps := 2000000) +contextual only [a_l_FnSafeOrders, fillParts, hri, hw2, hgt, hlt2, hn0, hn1, hss1, hd0, hd1, hd2, hpa, hpb, hq1S, gt_iff_lt, fin_true, Int.le_refl, Int.toNat_zero, Nat.zero_mul, Nat.mul_one, decide_true, decide_false, Wp_some, Wp_none, Wp_ite, Wc_some, Wc_none, Wc_ite, Wp_thenRun, seqQ_normal, seqQ_exit, seqQ_ret, Wp_inBlock, blkQ_normal, blkQ_ret, blkQ_same, blkQ_exit, Wp_opThen, opQ_at, Wp_guardP, retQ_normal, retQ_ret, loopQ_normal, loopQ_exit, loopQ_ret, go_sem, entry, joinEsc, if_pos, reduceIte, Nat.reduceAdd, Nat.reduceLeDiff, Nat.reduceLT, Nat.reduceEqDiff]

end Go.Proofs.Ytlcklonakjhoiaa.Slim
