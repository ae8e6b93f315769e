/- Stands: the drawn stand. -/
import Derived.Test.YtlocjmbfcdfjfaaSlimZ11
/- Stands: the drawn stand. -/
namespace Go.Proofs.Ytlocjmbfcdfjfaa.Slim

open Go

set_option linter.unusedSimpArgs false

set_option linter.unusedVariables false

variable {pr : Prims} {H : List Blk} {e : Option Nat}

theorem app_hd {L : List Blk} {b q sz bytes n : Nat} {cs : List AV} {c : Option Nat} (hq : cellsAt L q = some cs) (hb : L[b]? = some (.cells [] true)) (hcs : cs.length = n * sz) (hm : n * bytes ≤ maxBytes) :
    appendV L e false sz bytes (.slice (some (b, 0)) sz 0 (some 0)) (.slice (some (q, 0)) sz n c) = some (.slice (some (L.length, 0)) sz n none, ⟨L.set b (if n = 0 then .dead else .cells [] true) ++ [.cells cs true], e⟩) := by
  have hs := src_new L n sz c cs q hq hcs
  unfold appendV
  simp only [hb, hs]
  rw [if_pos ⟨trivial, by rw [Nat.zero_add]; exact hm, hcs, by simp⟩]
  by_cases h0 : n = 0
  · subst h0
    rw [if_neg (by simp), if_pos trivial, if_pos rfl]
    simp
  · rw [if_pos ⟨trivial, by omega⟩, if_neg h0, Nat.zero_add]
    have : L.set b (.cells [] true) = L := by
      obtain ⟨hlt, he⟩ := List.getElem?_eq_some_iff.mp hb
      rw [← he, List.set_getElem_self]
    rw [this]

theorem app_two {L : List Blk} {b q n : Nat} {cs new : List AV} {c : Option Nat} (hb : L[b]? = some (.cells cs true)) (hq : cellsAt L q = some new) (hcs : cs.length = n * 2) (hnew : new.length = 2) (hn : n ≤ 1000000) :
    appendV L e false 2 16 (.slice (some (b, 0)) 2 n none) (.slice (some (q, 0)) 2 1 c) = some (.slice (some (L.length, 0)) 2 (n + 1) none, ⟨L.set b .dead ++ [.cells (cs ++ new) true], e⟩) := by
  have hs := src_new L 1 2 c new q hq (by omega)
  unfold appendV
  simp only [hb, hs]
  rw [if_pos ⟨trivial, by unfold maxBytes; omega, by omega, by omega⟩, if_neg (by simp), List.drop_zero, List.take_of_length_le (by omega), if_pos trivial]

theorem finish_stand_set {q j1 j2 n1 n2 : Nat} {X : Blk} {G : List Blk} {cs1 cs2 : List AV} (a b t k : Int) (e0 e1 : Option Nat) (hc : clean H.length e1 = true) (h1 : G[j1]? = some (.cells cs1 true)) (h2 : G[j2]? = some (.cells cs2 true)) (hne : j1 ≠ j2) (u1 : (cs1.all fun c => c.under H.length) = true) (u2 : (cs2.all fun c => c.under H.length) = true) :
    finish 2 H.length e0 (stV (slL (H.length + j1) n1 none) a b (slS (H.length + j2) n2 none) t k) ⟨H.set q X ++ G, e1⟩ = some (stV (slL H.length n1 none) a b (slS (H.length + 1) n2 none) t k, ⟨H.set q X ++ [.cells cs1 true, .cells cs2 true], e0⟩) := by
  have hl : (H.set q X).length = H.length := List.length_set
  have := finish_stand (H := H.set q X) (n1 := n1) (n2 := n2) (c1 := none) (c2 := none) a b t k e0 e1 (by rw [hl]; exact hc) h1 h2 hne (by rw [hl]; exact u1) (by rw [hl]; exact u2)
  rw [hl] at this
  exact this

set_option maxHeartbeats 4000000 in
theorem wc_stand {q : Nat} {av : AV} {p : Int} (h : Cu H q av p) (hp : p ≤ 100000000) : Wc (call T pr f_s_l1Cur_stand [.ptr (some (q, 0))] ⟨H, e⟩) (fun v m => ∃ (s : Sd) (y z : Int), v = stV (slL H.length s.ls.length none) s.a s.b (slS (H.length + 1) s.ss.length none) s.t s.c ∧ s.ls.length ≤ 13 ∧ s.ss.length ≤ 5 ∧ 0 ≤ y ∧ y ≤ p + 2000 ∧ m = ⟨H.set q (curB av y z) ++ [.cells (encL s.ls) true, .cells (encS s.ss) true], e⟩) := by
  have hl := h.lt
  rw [call_wc t_s_l1Cur_stand]
  obtain ⟨R2, hR2⟩ : ∃ R, R = seqTl (seqTl (seqTl (seqTl (seqTl c_s_l1Cur_stand)))) := ⟨_, rfl⟩
  obtain ⟨R1, hR1⟩ : ∃ R, R = seqTl (seqTl (seqTl (seqTl c_s_l1Cur_stand))) := ⟨_, rfl⟩
  have hc1 : R1 = .seq (seqHd (seqTl (seqTl (seqTl (seqTl c_s_l1Cur_stand))))) R2 := by rw [hR1, hR2]; rfl
  have hc : c_s_l1Cur_stand = .seq (seqHd c_s_l1Cur_stand) (.seq (seqHd (seqTl c_s_l1Cur_stand)) (.seq (seqHd (seqTl (seqTl c_s_l1Cur_stand))) (.seq (seqHd (seqTl (seqTl (seqTl c_s_l1Cur_stand)))) R1))) := by rw [hR1]; rfl
  have r2 : ∀ (s : Sd) (j1 j2 : Nat) (y z : Int) (B0 B1 B2 : Blk) (G : List Blk) (e' : Option Nat) (w2 w4 w5 w6 w7 w8 w9 w10 w11 w12 w13 w14 : AV), 0 ≤ y → y ≤ p + 2000 → s.ls.length ≤ 13 → s.ss.length ≤ 5 → j1 ≠ j2 → clean H.length e' = true → (∀ M N, (M :: B1 :: B2 :: N :: G)[j1]? = some (.cells (encL s.ls) true)) → (∀ M N, (M :: B1 :: B2 :: N :: G)[j2]? = some (.cells (encS s.ss) true)) → (∃ v0 v1 v2 v3 v4 v5, B0 = .cells [v0, v1, v2, v3, v4, v5] true) →
      Wp (run T pr R2 ⟨[.ptr (some (q, 0)), .ptr (some (H.length, 0)), w2, .ptr (some (H.length + 3, 0)), w4, w5, w6, w7, w8, w9, w10, w11, w12, w13, w14], ⟨H.set q (curB av y z) ++ (B0 :: B1 :: B2 :: .cells (sdC s (H.length + j1) (H.length + j2)) true :: G), e'⟩⟩) (retQ a_s_l1Cur_stand ⟨H, e⟩ fun v m => ∃ (s : Sd) (y z : Int), v = stV (slL H.length s.ls.length none) s.a s.b (slS (H.length + 1) s.ss.length none) s.t s.c ∧ s.ls.length ≤ 13 ∧ s.ss.length ≤ 5 ∧ 0 ≤ y ∧ y ≤ p + 2000 ∧ m = ⟨H.set q (curB av y z) ++ [.cells (encL s.ls) true, .cells (encS s.ss) true], e⟩) := by
    rintro s j1 j2 y z B0 B1 B2 G e' w2 w4 w5 w6 w7 w8 w9 w10 w11 w12 w13 w14 hy0 hy1 hl1 hl2 hne he' g1 g2 ⟨v0, v1, v2, v3, v4, v5, rfl⟩
    have hf := fun (M N : Blk) (e0 e1 : Option Nat) (hc : clean H.length e1 = true) => finish_stand_set (H := H) (q := q) (X := curB av y z) (G := M :: B1 :: B2 :: N :: G) (n1 := s.ls.length) (n2 := s.ss.length) s.a s.b s.t s.c e0 e1 hc (g1 M N) (g2 M N) hne (under_encL _ _) (under_encS _ _)
    rw [hR2]
    simp (maxSteps := 2000000) +contextual only [a_s_l1Cur_stand, c_s_l1Cur_stand, seqTl, seqHd, hl, hf, clean_ite, clean_minEsc, he', Nat.le_add_right, Nat.le_refl, ite_self, decide_true, cellsAt_s0, cellsAt_sk, blkAt_s0, blkAt_sk, set_s0, set_sk, set_sapp, set_app, List.set_set, List.length_set, finish_one_setG, finish_one_set0, clean_none', Nat.add_assoc, Wp_some, Wp_none, Wp_ite, Wc_some, Wc_none, Wc_ite, Wp_thenRun, seqQ_normal, seqQ_exit, seqQ_ret, Wp_inBlock, blkQ_normal, blkQ_ret, blkQ_same, blkQ_exit, Wp_opThen, opQ_at, Wp_guardP, retQ_normal, retQ_ret, loopQ_normal, loopQ_exit, loopQ_ret, go_sem, entry, joinEsc, if_pos, reduceIte, Nat.reduceAdd, Nat.reduceLeDiff, Nat.reduceLT, Nat.reduceEqDiff]
    exact ⟨s, y, z, rfl, hl1, hl2, hy0, hy1, rfl⟩
  have r1 : ∀ (s : Sd) (j1 j2 : Nat) (y z : Int) (B0 B1 B2 : Blk) (G : List Blk) (e' : Option Nat) (w2 w4 w5 w6 w7 w8 w9 w10 w11 w12 w13 w14 : AV), 0 ≤ y → y ≤ p + 1000 → s.ls.length ≤ 12 → s.ss.length ≤ 5 → j1 ≠ j2 → clean H.length e' = true → (∀ M N, (M :: B1 :: B2 :: N :: G)[j1]? = some (.cells (encL s.ls) true)) → (∀ M N, (M :: B1 :: B2 :: N :: G)[j2]? = some (.cells (encS s.ss) true)) → (∃ v0 v1 v2 v3 v4 v5, B0 = .cells [v0, v1, v2, v3, v4, v5] true) →
      Wp (run T pr R1 ⟨[.ptr (some (q, 0)), .ptr (some (H.length, 0)), w2, .ptr (some (H.length + 3, 0)), w4, w5, w6, w7, w8, w9, w10, w11, w12, w13, w14], ⟨H.set q (curB av y z) ++ (B0 :: B1 :: B2 :: .cells (sdC s (H.length + j1) (H.length + j2)) true :: G), e'⟩⟩) (retQ a_s_l1Cur_stand ⟨H, e⟩ fun v m => ∃ (s : Sd) (y z : Int), v = stV (slL H.length s.ls.length none) s.a s.b (slS (H.length + 1) s.ss.length none) s.t s.c ∧ s.ls.length ≤ 13 ∧ s.ss.length ≤ 5 ∧ 0 ≤ y ∧ y ≤ p + 2000 ∧ m = ⟨H.set q (curB av y z) ++ [.cells (encL s.ls) true, .cells (encS s.ss) true], e⟩) := by
    rintro s j1 j2 y z B0 B1 B2 G e' w2 w4 w5 w6 w7 w8 w9 w10 w11 w12 w13 w14 hy0 hy1 hl1 hl2 hne he' g1 g2 hB
    have h1 := h.step hy0 z
    rw [hc1]
    simp (maxSteps := 2000000) +contextual only [c_s_l1Cur_stand, seqTl, seqHd, hl, cellsAt_s0, cellsAt_sk, blkAt_s0, blkAt_sk, set_s0, set_sk, set_sapp, set_app, List.set_set, List.length_set, finish_one_setG, finish_one_set0, clean_none', Nat.add_assoc, Wp_some, Wp_none, Wp_ite, Wc_some, Wc_none, Wc_ite, Wp_thenRun, seqQ_normal, seqQ_exit, seqQ_ret, Wp_inBlock, blkQ_normal, blkQ_ret, blkQ_same, blkQ_exit, Wp_opThen, opQ_at, Wp_guardP, retQ_normal, retQ_ret, loopQ_normal, loopQ_exit, loopQ_ret, go_sem, entry, joinEsc, if_pos, reduceIte, Nat.reduceAdd, Nat.reduceLeDiff, Nat.reduceLT, Nat.reduceEqDiff]
    refine (wc_pick 48 (h1.more _) (by omega) (by omega)).mono ?_
    rintro v m ⟨x2, y2, z2, rfl, hx20, hx21, hy20, hy21, rfl⟩
    have h2 := h1.step hy20 z2
    rw [List.set_set] at h2
    by_cases c0 : x2 = 0
    · subst c0
      simp (maxSteps := 2000000) +contextual only [fillParts, hl,  decide_true, cellsAt_s0, cellsAt_sk, blkAt_s0, blkAt_sk, set_s0, set_sk, set_sapp, set_app, List.set_set, List.length_set, finish_one_setG, finish_one_set0, clean_none', Nat.add_assoc, Wp_some, Wp_none, Wp_ite, Wc_some, Wc_none, Wc_ite, Wp_thenRun, seqQ_normal, seqQ_exit, seqQ_ret, Wp_inBlock, blkQ_normal, blkQ_ret, blkQ_same, blkQ_exit, Wp_opThen, opQ_at, Wp_guardP, retQ_normal, retQ_ret, loopQ_normal, loopQ_exit, loopQ_ret, go_sem, entry, joinEsc, if_pos, reduceIte, Nat.reduceAdd, Nat.reduceLeDiff, Nat.reduceLT, Nat.reduceEqDiff]
      refine (amongN (n := 3) [-1, 1000, 1001] (h2.more _) (by omega) (by simp +contextual only [cellsAt_s0, cellsAt_sk, blkAt_s0, blkAt_sk, set_s0, set_sk, set_sapp, set_app, List.set_set, List.length_set, finish_one_setG, finish_one_set0, clean_none', Nat.add_assoc, go_sem, entry, joinEsc, if_pos, reduceIte, Nat.reduceAdd, Nat.reduceLeDiff, Nat.reduceLT, Nat.reduceEqDiff]) (by omega) rfl (by omega) (by omega)).mono ?_
      rintro v m ⟨x3, y3, z3, rfl, hx3, hy30, hy31, rfl⟩
      simp (maxSteps := 2000000) +contextual only [fillParts, hl, decide_true, cellsAt_s0, cellsAt_sk, blkAt_s0, blkAt_sk, set_s0, set_sk, set_sapp, set_app, List.set_set, List.length_set, finish_one_setG, finish_one_set0, clean_none', Nat.add_assoc, Wp_some, Wp_none, Wp_ite, Wc_some, Wc_none, Wc_ite, Wp_thenRun, seqQ_normal, seqQ_exit, seqQ_ret, Wp_inBlock, blkQ_normal, blkQ_ret, blkQ_same, blkQ_exit, Wp_opThen, opQ_at, Wp_guardP, retQ_normal, retQ_ret, loopQ_normal, loopQ_exit, loopQ_ret, go_sem, entry, joinEsc, if_pos, reduceIte, Nat.reduceAdd, Nat.reduceLeDiff, Nat.reduceLT, Nat.reduceEqDiff]
      exact r2 ⟨s.ls, s.ss, s.a, s.b, s.t, x3⟩ j1 j2 y3 z3 _ _ _ _ _ _ _ _ _ _ _ _ _ _ _ _ _ hy30 (by omega) (show s.ls.length ≤ 13 by omega) hl2 hne (by simp only [clean_ite, clean_minEsc, clean_none', he', Nat.le_add_right, Nat.le_refl, Nat.add_assoc, decide_true, Bool.true_and, ite_self]) (fun M N => get_more (g1 M N) _) (fun M N => get_more (g2 M N) _) hB
    · have c0' : decide (x2 = 0) = false := decide_eq_false c0
      by_cases c1 : x2 = 1
      · subst c1
        simp (maxSteps := 2000000) +contextual only [fillParts, hl, c0', decide_true, cellsAt_s0, cellsAt_sk, blkAt_s0, blkAt_sk, set_s0, set_sk, set_sapp, set_app, List.set_set, List.length_set, finish_one_setG, finish_one_set0, clean_none', Nat.add_assoc, Wp_some, Wp_none, Wp_ite, Wc_some, Wc_none, Wc_ite, Wp_thenRun, seqQ_normal, seqQ_exit, seqQ_ret, Wp_inBlock, blkQ_normal, blkQ_ret, blkQ_same, blkQ_exit, Wp_opThen, opQ_at, Wp_guardP, retQ_normal, retQ_ret, loopQ_normal, loopQ_exit, loopQ_ret, go_sem, entry, joinEsc, if_pos, reduceIte, Nat.reduceAdd, Nat.reduceLeDiff, Nat.reduceLT, Nat.reduceEqDiff]
        refine (amongN (n := 3) [-1, IntKind.i64.wrap (s.c + 1), 0] (h2.more _) (by omega) (by simp +contextual only [cellsAt_s0, cellsAt_sk, blkAt_s0, blkAt_sk, set_s0, set_sk, set_sapp, set_app, List.set_set, List.length_set, finish_one_setG, finish_one_set0, clean_none', Nat.add_assoc, go_sem, entry, joinEsc, if_pos, reduceIte, Nat.reduceAdd, Nat.reduceLeDiff, Nat.reduceLT, Nat.reduceEqDiff]) (by omega) rfl (by omega) (by omega)).mono ?_
        rintro v m ⟨x3, y3, z3, rfl, hx3, hy30, hy31, rfl⟩
        simp (maxSteps := 2000000) +contextual only [fillParts, hl, decide_true, cellsAt_s0, cellsAt_sk, blkAt_s0, blkAt_sk, set_s0, set_sk, set_sapp, set_app, List.set_set, List.length_set, finish_one_setG, finish_one_set0, clean_none', Nat.add_assoc, Wp_some, Wp_none, Wp_ite, Wc_some, Wc_none, Wc_ite, Wp_thenRun, seqQ_normal, seqQ_exit, seqQ_ret, Wp_inBlock, blkQ_normal, blkQ_ret, blkQ_same, blkQ_exit, Wp_opThen, opQ_at, Wp_guardP, retQ_normal, retQ_ret, loopQ_normal, loopQ_exit, loopQ_ret, go_sem, entry, joinEsc, if_pos, reduceIte, Nat.reduceAdd, Nat.reduceLeDiff, Nat.reduceLT, Nat.reduceEqDiff]
        exact r2 ⟨s.ls, s.ss, s.a, s.b, x3, s.c⟩ j1 j2 y3 z3 _ _ _ _ _ _ _ _ _ _ _ _ _ _ _ _ _ hy30 (by omega) (show s.ls.length ≤ 13 by omega) hl2 hne (by simp only [clean_ite, clean_minEsc, clean_none', he', Nat.le_add_right, Nat.le_refl, Nat.add_assoc, decide_true, Bool.true_and, ite_self]) (fun M N => get_more (g1 M N) _) (fun M N => get_more (g2 M N) _) hB
      · have c1' : decide (x2 = 1) = false := decide_eq_false c1
        by_cases c2 : x2 = 2
        · subst c2
          simp (maxSteps := 2000000) +contextual only [fillParts, hl, c0', c1', decide_true, cellsAt_s0, cellsAt_sk, blkAt_s0, blkAt_sk, set_s0, set_sk, set_sapp, set_app, List.set_set, List.length_set, finish_one_setG, finish_one_set0, clean_none', Nat.add_assoc, Wp_some, Wp_none, Wp_ite, Wc_some, Wc_none, Wc_ite, Wp_thenRun, seqQ_normal, seqQ_exit, seqQ_ret, Wp_inBlock, blkQ_normal, blkQ_ret, blkQ_same, blkQ_exit, Wp_opThen, opQ_at, Wp_guardP, retQ_normal, retQ_ret, loopQ_normal, loopQ_exit, loopQ_ret, go_sem, entry, joinEsc, if_pos, reduceIte, Nat.reduceAdd, Nat.reduceLeDiff, Nat.reduceLT, Nat.reduceEqDiff]
          refine (amongN (n := 4) [-1, 60, 61, 0] (h2.more _) (by omega) (by simp +contextual only [cellsAt_s0, cellsAt_sk, blkAt_s0, blkAt_sk, set_s0, set_sk, set_sapp, set_app, List.set_set, List.length_set, finish_one_setG, finish_one_set0, clean_none', Nat.add_assoc, go_sem, entry, joinEsc, if_pos, reduceIte, Nat.reduceAdd, Nat.reduceLeDiff, Nat.reduceLT, Nat.reduceEqDiff]) (by omega) rfl (by omega) (by omega)).mono ?_
          rintro v m ⟨x3, y3, z3, rfl, hx3, hy30, hy31, rfl⟩
          simp (maxSteps := 2000000) +contextual only [fillParts, hl, decide_true, cellsAt_s0, cellsAt_sk, blkAt_s0, blkAt_sk, set_s0, set_sk, set_sapp, set_app, List.set_set, List.length_set, finish_one_setG, finish_one_set0, clean_none', Nat.add_assoc, Wp_some, Wp_none, Wp_ite, Wc_some, Wc_none, Wc_ite, Wp_thenRun, seqQ_normal, seqQ_exit, seqQ_ret, Wp_inBlock, blkQ_normal, blkQ_ret, blkQ_same, blkQ_exit, Wp_opThen, opQ_at, Wp_guardP, retQ_normal, retQ_ret, loopQ_normal, loopQ_exit, loopQ_ret, go_sem, entry, joinEsc, if_pos, reduceIte, Nat.reduceAdd, Nat.reduceLeDiff, Nat.reduceLT, Nat.reduceEqDiff]
          exact r2 ⟨s.ls, s.ss, s.a, x3, s.t, s.c⟩ j1 j2 y3 z3 _ _ _ _ _ _ _ _ _ _ _ _ _ _ _ _ _ hy30 (by omega) (show s.ls.length ≤ 13 by omega) hl2 hne (by simp only [clean_ite, clean_minEsc, clean_none', he', Nat.le_add_right, Nat.le_refl, Nat.add_assoc, decide_true, Bool.true_and, ite_self]) (fun M N => get_more (g1 M N) _) (fun M N => get_more (g2 M N) _) hB
        · have c2' : decide (x2 = 2) = false := decide_eq_false c2
          by_cases c3 : x2 = 3
          · subst c3
            have hcl : ∀ M N X, cellsAt (M :: B1 :: B2 :: N :: (G ++ X)) j1 = some (encL s.ls) := fun M N X => cellsAt_of (get_more (g1 M N) X)
            have hh1 := fun L b e' (hq : cellsAt L (H.length + j1) = some (encL s.ls)) (hb : L[b]? = some (Blk.cells [] true)) => app_hd (e := e') (sz := 2) (bytes := 16) (n := s.ls.length) (c := none) hq hb (encL_length _) (by unfold maxBytes; omega)
            have hh2 := fun L b q' e' c (hb : L[b]? = some (Blk.cells (encL s.ls) true)) (hq : cellsAt L q' = some [AV.int .i64 61, .int .i64 0]) => app_two (e := e') (n := s.ls.length) (c := c) hb hq (encL_length _) rfl (by omega)
            simp (maxSteps := 2000000) +contextual only [fillParts, hl, c0', c1', c2', hcl, hh1, hh2, decide_true, cellsAt_s0, cellsAt_sk, blkAt_s0, blkAt_sk, set_s0, set_sk, set_sapp, set_app, List.set_set, List.length_set, finish_one_setG, finish_one_set0, clean_none', Nat.add_assoc, Wp_some, Wp_none, Wp_ite, Wc_some, Wc_none, Wc_ite, Wp_thenRun, seqQ_normal, seqQ_exit, seqQ_ret, Wp_inBlock, blkQ_normal, blkQ_ret, blkQ_same, blkQ_exit, Wp_opThen, opQ_at, Wp_guardP, retQ_normal, retQ_ret, loopQ_normal, loopQ_exit, loopQ_ret, go_sem, entry, joinEsc, if_pos, reduceIte, Nat.reduceAdd, Nat.reduceLeDiff, Nat.reduceLT, Nat.reduceEqDiff]
            have hj2 : j2 < G.length + 4 := (List.getElem?_eq_some_iff.mp (g2 B0 B0)).1
            have hen : encL s.ls ++ [AV.int .i64 61, AV.int .i64 0] = encL (s.ls ++ [(61, 0)]) := by rw [encL_append]; rfl
            have hle : s.ls.length + 1 = (s.ls ++ [(61, 0)]).length := by simp
            rw [hen, hle]
            exact r2 ⟨s.ls ++ [(61, 0)], s.ss, s.a, s.b, s.t, s.c⟩ (G.length + 7) j2 y2 z2 _ _ _ _ _ _ _ _ _ _ _ _ _ _ _ _ _ hy20 (by omega) (by rw [← hle]; omega) hl2 (by omega) (by simp only [clean_ite, clean_minEsc, clean_none', he', Nat.le_add_right, Nat.le_refl, Nat.add_assoc, decide_true, Bool.true_and, ite_self]) (fun M N => by
              show (G ++ _)[G.length + 3]? = _
              rw [blkAt_newk]
              rfl) (fun M N => get_more (g2 M N) _) hB
          · have c3' : decide (x2 = 3) = false := decide_eq_false c3
            simp (maxSteps := 2000000) +contextual only [hl, c0', c1', c2', c3', cellsAt_s0, cellsAt_sk, blkAt_s0, blkAt_sk, set_s0, set_sk, set_sapp, set_app, List.set_set, List.length_set, finish_one_setG, finish_one_set0, clean_none', Nat.add_assoc, Wp_some, Wp_none, Wp_ite, Wc_some, Wc_none, Wc_ite, Wp_thenRun, seqQ_normal, seqQ_exit, seqQ_ret, Wp_inBlock, blkQ_normal, blkQ_ret, blkQ_same, blkQ_exit, Wp_opThen, opQ_at, Wp_guardP, retQ_normal, retQ_ret, loopQ_normal, loopQ_exit, loopQ_ret, go_sem, entry, joinEsc, if_pos, reduceIte, Nat.reduceAdd, Nat.reduceLeDiff, Nat.reduceLT, Nat.reduceEqDiff]
            exact r2 s j1 j2 y2 z2 _ _ _ _ _ _ _ _ _ _ _ _ _ _ _ _ _ hy20 (by omega) (show s.ls.length ≤ 13 by omega) hl2 hne he' g1 g2 hB
  have hz0 : ∀ x : Int, 0 ≤ x → x < 100 → IntKind.i64.wrap (27 + x) = 27 + x := fun x h1 h2 => wrap64 (by omega) (by omega)
  show Wp (run T pr c_s_l1Cur_stand _) _
  rw [hc]
  simp (maxSteps := 2000000) +contextual only [a_s_l1Cur_stand, c_s_l1Cur_stand, seqTl, seqHd, fillParts, cellsAt_s0, cellsAt_sk, blkAt_s0, blkAt_sk, set_s0, set_sk, set_sapp, set_app, List.set_set, List.length_set, finish_one_setG, finish_one_set0, clean_none', Nat.add_assoc, Wp_some, Wp_none, Wp_ite, Wc_some, Wc_none, Wc_ite, Wp_thenRun, seqQ_normal, seqQ_exit, seqQ_ret, Wp_inBlock, blkQ_normal, blkQ_ret, blkQ_same, blkQ_exit, Wp_opThen, opQ_at, Wp_guardP, retQ_normal, retQ_ret, loopQ_normal, loopQ_exit, loopQ_ret, go_sem, entry, joinEsc, if_pos, reduceIte, Nat.reduceAdd, Nat.reduceLeDiff, Nat.reduceLT, Nat.reduceEqDiff]
  refine (wc_pick 4 (h.more _) (by omega) (by omega)).mono ?_
  rintro v m ⟨x1, y1, z1, rfl, hx10, hx11, hy10, hy11, rfl⟩
  have h1 := h.step hy10 z1
  have hw1 : IntKind.i64.wrap (27 + x1) = 27 + x1 := wrap64 (by omega) (by omega)
  simp (maxSteps := 2000000) +contextual only [hl, hw1, cellsAt_s0, cellsAt_sk, blkAt_s0, blkAt_sk, set_s0, set_sk, set_sapp, set_app, List.set_set, List.length_set, finish_one_setG, finish_one_set0, clean_none', Nat.add_assoc, Wp_some, Wp_none, Wp_ite, Wc_some, Wc_none, Wc_ite, Wp_thenRun, seqQ_normal, seqQ_exit, seqQ_ret, Wp_inBlock, blkQ_normal, blkQ_ret, blkQ_same, blkQ_exit, Wp_opThen, opQ_at, Wp_guardP, retQ_normal, retQ_ret, loopQ_normal, loopQ_exit, loopQ_ret, go_sem, entry, joinEsc, if_pos, reduceIte, Nat.reduceAdd, Nat.reduceLeDiff, Nat.reduceLT, Nat.reduceEqDiff]
  refine (wc_pick 5 (h1.more _) (by omega) (by omega)).mono ?_
  rintro v m ⟨x2, y2, z2, rfl, hx20, hx21, hy20, hy21, rfl⟩
  have h2 := h1.step hy20 z2
  rw [List.set_set] at h2
  have hw2 : IntKind.i64.wrap (27 + x1 + x2) = 27 + x1 + x2 := wrap64 (by omega) (by omega)
  have hbase : baseOk (27 + x1) (27 + x1 + x2) = true := by
    unfold baseOk
    simp only [Bool.and_eq_true, decide_eq_true_eq]
    omega
  have hns := fun L e' => e_s_NewStand_yes (pr := pr) (H := L) (e := e') (27 + x1) (27 + x1 + x2) hbase
  simp (maxSteps := 2000000) +contextual only [hl, hw2, hns, under_slice, cellsAt_s0, cellsAt_sk, blkAt_s0, blkAt_sk, set_s0, set_sk, set_sapp, set_app, List.set_set, List.length_set, finish_one_setG, finish_one_set0, clean_none', Nat.add_assoc, Wp_some, Wp_none, Wp_ite, Wc_some, Wc_none, Wc_ite, Wp_thenRun, seqQ_normal, seqQ_exit, seqQ_ret, Wp_inBlock, blkQ_normal, blkQ_ret, blkQ_same, blkQ_exit, Wp_opThen, opQ_at, Wp_guardP, retQ_normal, retQ_ret, loopQ_normal, loopQ_exit, loopQ_ret, go_sem, entry, joinEsc, if_pos, reduceIte, Nat.reduceAdd, Nat.reduceLeDiff, Nat.reduceLT, Nat.reduceEqDiff]
  refine (wc_pick 8 (h2.more _) (by omega) (by omega)).mono ?_
  rintro v m ⟨x3, y3, z3, rfl, hx30, hx31, hy30, hy31, rfl⟩
  obtain ⟨n, hn⟩ : ∃ n : Nat, 1 + x3 = (n : Int) := ⟨(1 + x3).toNat, by omega⟩
  have hw3 : IntKind.i64.wrap (1 + x3) = (n : Int) := by rw [hn]; exact wrap64 (by omega) (by omega)
  simp (maxSteps := 2000000) +contextual only [hl, hw3, cellsAt_s0, cellsAt_sk, blkAt_s0, blkAt_sk, set_s0, set_sk, set_sapp, set_app, List.set_set, List.length_set, finish_one_setG, finish_one_set0, clean_none', Nat.add_assoc, Wp_some, Wp_none, Wp_ite, Wc_some, Wc_none, Wc_ite, Wp_thenRun, seqQ_normal, seqQ_exit, seqQ_ret, Wp_inBlock, blkQ_normal, blkQ_ret, blkQ_same, blkQ_exit, Wp_opThen, opQ_at, Wp_guardP, retQ_normal, retQ_ret, loopQ_normal, loopQ_exit, loopQ_ret, go_sem, entry, joinEsc, if_pos, reduceIte, Nat.reduceAdd, Nat.reduceLeDiff, Nat.reduceLT, Nat.reduceEqDiff]
  refine Wp_loop (fun k st => ∃ (s : Sd) (j1 j2 : Nat) (y z : Int) (B1 B2 : Blk) (G : List Blk) (e' : Option Nat) (w6 w7 w8 w9 w10 w11 w12 w13 w14 : AV), s.ok = true ∧ j1 ≠ j2 ∧ clean H.length e' = true ∧ 0 ≤ y ∧ y + (k : Int) * 62 ≤ p + 800 ∧
      (∀ M N, (M :: B1 :: B2 :: N :: G)[j1]? = some (.cells (encL s.ls) true)) ∧ (∀ M N, (M :: B1 :: B2 :: N :: G)[j2]? = some (.cells (encS s.ss) true)) ∧
      st = ⟨[.ptr (some (q, 0)), .ptr (some (H.length, 0)), .int .i64 (27 + x1), .ptr (some (H.length + 3, 0)), .bool true, .int .i64 k, w6, w7, w8, w9, w10, w11, w12, w13, w14], ⟨H.set q (curB av y z) ++ (.cells [.slice none 0 0 none, .int .i64 0, .int .i64 0, .slice none 0 0 none, .int .i64 0, .int .i64 0] true :: B1 :: B2 :: .cells (sdC s (H.length + j1) (H.length + j2)) true :: G), e'⟩⟩) ?_ n _
    ⟨⟨[], [], 27 + x1, 27 + x1 + x2, 0, 0⟩, 1, 2, y3, z3, _, _, [], _, _, _, _, _, _, _, _, _, _, ?_, by decide, ?_, hy30, by omega, fun M N => rfl, fun M N => rfl, rfl⟩
  · rintro k _ ⟨s, j1, j2, y, z, B1, B2, G, e', w6, w7, w8, w9, w10, w11, w12, w13, w14, hok, hne, he', hy0, hy1, g1, g2, rfl⟩
    have hss := st_small hok
    have h4 := h.step hy0 z
    by_cases hk : k = 0
    · subst hk
      have hd : decide ((0 : Int) < ((0 : Nat) : Int)) = false := by decide
      have hd' : ¬ ((0 : Int) < ((0 : Nat) : Int)) := by omega
      simp (maxSteps := 2000000) +contextual only [w_s_l1Cur_stand_1, gt_iff_lt, hd, hd', decide_false, cellsAt_s0, cellsAt_sk, blkAt_s0, blkAt_sk, set_s0, set_sk, set_sapp, set_app, List.set_set, List.length_set, finish_one_setG, finish_one_set0, clean_none', Nat.add_assoc, Wp_some, Wp_none, Wp_ite, Wc_some, Wc_none, Wc_ite, Wp_thenRun, seqQ_normal, seqQ_exit, seqQ_ret, Wp_inBlock, blkQ_normal, blkQ_ret, blkQ_same, blkQ_exit, Wp_opThen, opQ_at, Wp_guardP, retQ_normal, retQ_ret, loopQ_normal, loopQ_exit, loopQ_ret, go_sem, entry, joinEsc, if_pos, reduceIte, Nat.reduceAdd, Nat.reduceLeDiff, Nat.reduceLT, Nat.reduceEqDiff]
      exact r1 s j1 j2 y z _ _ _ _ _ _ _ _ _ _ _ _ _ _ _ _ _ hy0 (by omega) hss.1 hss.2 hne he' g1 g2 ⟨_, _, _, _, _, _, rfl⟩
    · have hd : decide ((0 : Int) < (k : Int)) = true := decide_eq_true (by omega)
      have hd' : (0 : Int) < (k : Int) := by omega
      simp (maxSteps := 2000000) +contextual only [w_s_l1Cur_stand_1, gt_iff_lt, hd, hd', hl, decide_true, cellsAt_s0, cellsAt_sk, blkAt_s0, blkAt_sk, set_s0, set_sk, set_sapp, set_app, List.set_set, List.length_set, finish_one_setG, finish_one_set0, clean_none', Nat.add_assoc, Wp_some, Wp_none, Wp_ite, Wc_some, Wc_none, Wc_ite, Wp_thenRun, seqQ_normal, seqQ_exit, seqQ_ret, Wp_inBlock, blkQ_normal, blkQ_ret, blkQ_same, blkQ_exit, Wp_opThen, opQ_at, Wp_guardP, retQ_normal, retQ_ret, loopQ_normal, loopQ_exit, loopQ_ret, go_sem, entry, joinEsc, if_pos, reduceIte, Nat.reduceAdd, Nat.reduceLeDiff, Nat.reduceLT, Nat.reduceEqDiff]
      refine (wc_task12 s.a s.b s.t s.c (h4.more _) (by omega)).mono ?_
      rintro v m ⟨tk, ta, tb, tc, y5, z5, rfl, hy50, hy51, rfl⟩
      have hg1 : ∀ M N X, cellsAt (M :: B1 :: B2 :: N :: (G ++ X)) j1 = some (encL s.ls) := fun M N X => cellsAt_of (get_more (g1 M N) X)
      have hg2 : ∀ M N X, cellsAt (M :: B1 :: B2 :: N :: (G ++ X)) j2 = some (encS s.ss) := fun M N X => cellsAt_of (get_more (g2 M N) X)
      have hg1' : ∀ M N, cellsAt (M :: B1 :: B2 :: N :: G) j1 = some (encL s.ls) := fun M N => cellsAt_of (g1 M N)
      have hg2' : ∀ M N, cellsAt (M :: B1 :: B2 :: N :: G) j2 = some (encS s.ss) := fun M N => cellsAt_of (g2 M N)
      have hdo := fun L e' (h1 : cellsAt L (H.length + j1) = some (encL s.ls)) (h2 : cellsAt L (H.length + j2) = some (encS s.ss)) => (e_s_l12Do (pr := pr) (H := L) (e := e') (c1 := none) (c2 := none) h1 h2 (by omega) (by omega) s.a s.b s.t s.c tk ta tb tc).trans (step_res L e' s (tk, ta, tb, tc))
      have hwk : IntKind.i64.wrap ((k : Int) - 1) = ((k - 1 : Nat) : Int) := by
        rw [show ((k : Int) - 1) = ((k - 1 : Nat) : Int) by omega]; exact wrap64 (by omega) (by omega)
      cases hst : stepT s (tk, ta, tb, tc) with
      | none =>
        simp only [hst] at hdo
        simp (maxSteps := 2000000) +contextual only [hl, hg1, hg2, hg1', hg2', hdo, hwk, cellsAt_s0, cellsAt_sk, blkAt_s0, blkAt_sk, set_s0, set_sk, set_sapp, set_app, List.set_set, List.length_set, finish_one_setG, finish_one_set0, clean_none', Nat.add_assoc, Wp_some, Wp_none, Wp_ite, Wc_some, Wc_none, Wc_ite, Wp_thenRun, seqQ_normal, seqQ_exit, seqQ_ret, Wp_inBlock, blkQ_normal, blkQ_ret, blkQ_same, blkQ_exit, Wp_opThen, opQ_at, Wp_guardP, retQ_normal, retQ_ret, loopQ_normal, loopQ_exit, loopQ_ret, go_sem, entry, joinEsc, if_pos, reduceIte, Nat.reduceAdd, Nat.reduceLeDiff, Nat.reduceLT, Nat.reduceEqDiff]
        exact ⟨k - 1, by omega, s, j1, j2, y5, z5, B1, B2, _, _, _, _, _, _, _, _, _, _, _, hok, hne, by simp only [clean_ite, clean_minEsc, clean_none', he', Nat.le_add_right, Nat.le_refl, Nat.add_assoc, decide_true, Bool.true_and, ite_self], hy50, by omega, fun M N => get_more (g1 M N) _, fun M N => get_more (g2 M N) _, rfl⟩
      | some s' =>
        simp only [hst] at hdo
        simp (maxSteps := 2000000) +contextual only [hl, hg1, hg2, hg1', hg2', hdo, hwk, cellsAt_s0, cellsAt_sk, blkAt_s0, blkAt_sk, set_s0, set_sk, set_sapp, set_app, List.set_set, List.length_set, finish_one_setG, finish_one_set0, clean_none', Nat.add_assoc, Wp_some, Wp_none, Wp_ite, Wc_some, Wc_none, Wc_ite, Wp_thenRun, seqQ_normal, seqQ_exit, seqQ_ret, Wp_inBlock, blkQ_normal, blkQ_ret, blkQ_same, blkQ_exit, Wp_opThen, opQ_at, Wp_guardP, retQ_normal, retQ_ret, loopQ_normal, loopQ_exit, loopQ_ret, go_sem, entry, joinEsc, if_pos, reduceIte, Nat.reduceAdd, Nat.reduceLeDiff, Nat.reduceLT, Nat.reduceEqDiff]
        refine ⟨k - 1, by omega, s', G.length + 4, G.length + 5, y5, z5, B1, B2, _, _, _, _, _, _, _, _, _, _, _, stepT_ok hok hst, by omega, ?_, hy50, by omega, fun M N => ?_, fun M N => ?_, rfl⟩
        · simp only [clean_ite, clean_minEsc, clean_none', he', Nat.le_add_right, Nat.le_refl, Nat.add_assoc, decide_true, Bool.true_and, ite_self]
        · show (G ++ _)[G.length + 0]? = _
          rw [blkAt_newk]; rfl
        · show (G ++ _)[G.length + 1]? = _
          rw [blkAt_newk]; rfl
  · simp [Sd.ok, stOk, rowOk, chainOk, restOk, hbase]
  · rfl

end Go.Proofs.Ytlocjmbfcdfjfaa.Slim

/- Stands: the drawn arguments. -/
namespace Go.Proofs.Ytlocjmbfcdfjfaa.Slim

open Go

set_option linter.unusedSimpArgs false

set_option linter.unusedVariables false

variable {pr : Prims} {H : List Blk} {e : Option Nat}

theorem wc_DrawNewStand {av : AV} (hc : CodeAt H av) : Wc (call T pr f_s_DrawNewStand [av] ⟨H, e⟩) (fun v m => ∃ a b : Int, v = .tup [.int .i64 a, .int .i64 b] ∧ m = ⟨H, e⟩) := by
  obtain ⟨p0, s0, n0, c0, rfl⟩ := hc.form
  rw [call_wc t_s_DrawNewStand]
  simp +contextual only [a_s_DrawNewStand, c_s_DrawNewStand, fillParts, Nat.add_assoc, Wp_some, Wp_none, Wp_ite, Wc_some, Wc_none, Wc_ite, Wp_thenRun, seqQ_normal, seqQ_exit, seqQ_ret, Wp_inBlock, blkQ_normal, blkQ_ret, blkQ_same, blkQ_exit, Wp_opThen, opQ_at, Wp_guardP, retQ_normal, retQ_ret, loopQ_normal, loopQ_exit, loopQ_ret, go_sem, entry, joinEsc, if_pos, reduceIte, Nat.reduceAdd, Nat.reduceLeDiff, Nat.reduceLT, Nat.reduceEqDiff]
  refine (wc_placeIn (Cu.new (k := 0) (G := [curB _ 0 0]) rfl hc (by omega)) (by omega)).mono ?_
  rintro v m ⟨x1, y1, z1, rfl, hy10, hy11, rfl⟩
  simp +contextual only [Nat.add_zero, Nat.add_assoc, Wp_some, Wp_none, Wp_ite, Wc_some, Wc_none, Wc_ite, Wp_thenRun, seqQ_normal, seqQ_exit, seqQ_ret, Wp_inBlock, blkQ_normal, blkQ_ret, blkQ_same, blkQ_exit, Wp_opThen, opQ_at, Wp_guardP, retQ_normal, retQ_ret, loopQ_normal, loopQ_exit, loopQ_ret, go_sem, entry, joinEsc, if_pos, reduceIte, Nat.reduceAdd, Nat.reduceLeDiff, Nat.reduceLT, Nat.reduceEqDiff]
  refine (wc_placeIn (Cu.new (H := H) (k := 0) (y := y1) (z := z1) rfl hc hy10) (by omega)).mono ?_
  rintro v m ⟨x2, y2, z2, rfl, hy20, hy21, rfl⟩
  simp +contextual only [a_s_DrawNewStand, Nat.add_zero, Nat.add_assoc, Wp_some, Wp_none, Wp_ite, Wc_some, Wc_none, Wc_ite, Wp_thenRun, seqQ_normal, seqQ_exit, seqQ_ret, Wp_inBlock, blkQ_normal, blkQ_ret, blkQ_same, blkQ_exit, Wp_opThen, opQ_at, Wp_guardP, retQ_normal, retQ_ret, loopQ_normal, loopQ_exit, loopQ_ret, finish_one_eq, finish_one_eq0, finish_two_eq, finish_two_eq0, roots_slice_new, roots_slice_new0, roots_slice_none, roots_ptr_new, roots_ptr_new0, roots_int, roots_bool, roots_str, roots_agg, roots_tup, roots_cons, roots_nil, rename_slice, rename_slice_none, rename_ptr, rename_int, rename_bool, rename_str, rename_agg, rename_tup, rename_cons, rename_nil, keepBlks_nil, keepBlks_cons, flatAll_nil, flatAll_cons, flatBlk_cells, dedup_nil, dedup_one, dedup_two, renum_one, renum_one0, renum_two0, renum_two1, clean_none', clean_some, minEsc_none, minEsc_some, Nat.add_left_cancel_iff, Nat.le_add_right, Nat.le_refl, decide_true, go_sem, entry, joinEsc, if_pos, reduceIte, Nat.reduceAdd, Nat.reduceLeDiff, Nat.reduceLT, Nat.reduceEqDiff]
  exact ⟨x1, x2, rfl⟩

theorem wc_DrawIsStand {av : AV} (hc : CodeAt H av) : Wc (call T pr f_s_DrawIsStand [av] ⟨H, e⟩) (fun v m => ∃ s : Sd, v = stV (slL H.length s.ls.length none) s.a s.b (slS (H.length + 1) s.ss.length none) s.t s.c ∧ s.ls.length ≤ 13 ∧ s.ss.length ≤ 5 ∧ m = ⟨H ++ [.cells (encL s.ls) true, .cells (encS s.ss) true], e⟩) := by
  obtain ⟨p0, s0, n0, c0, rfl⟩ := hc.form
  rw [call_wc t_s_DrawIsStand]
  simp +contextual only [a_s_DrawIsStand, c_s_DrawIsStand, fillParts, Nat.add_assoc, Wp_some, Wp_none, Wp_ite, Wc_some, Wc_none, Wc_ite, Wp_thenRun, seqQ_normal, seqQ_exit, seqQ_ret, Wp_inBlock, blkQ_normal, blkQ_ret, blkQ_same, blkQ_exit, Wp_opThen, opQ_at, Wp_guardP, retQ_normal, retQ_ret, loopQ_normal, loopQ_exit, loopQ_ret, go_sem, entry, joinEsc, if_pos, reduceIte, Nat.reduceAdd, Nat.reduceLeDiff, Nat.reduceLT, Nat.reduceEqDiff]
  refine (wc_stand (Cu.new (k := 1) (G := [.cells [.slice none 0 0 none, .int .i64 0, .int .i64 0, .slice none 0 0 none, .int .i64 0, .int .i64 0] true, curB _ 0 0]) rfl hc (by omega)) (by omega)).mono ?_
  rintro v m ⟨s, y1, z1, rfl, hl1, hl2, hy10, hy11, rfl⟩
  have hf := fun (B0 B1 : Blk) (e0 e1 : Option Nat) (hc : clean H.length e1 = true) => finish_stand (H := H) (G := [B0, B1, .cells (encL s.ls) true, .cells (encS s.ss) true]) (j1 := 2) (j2 := 3) (n1 := s.ls.length) (n2 := s.ss.length) (c1 := none) (c2 := none) s.a s.b s.t s.c e0 e1 hc rfl rfl (by omega) (under_encL _ _) (under_encS _ _)
  simp +contextual only [a_s_DrawIsStand, hf, clean_ite, clean_minEsc, clean_none', Nat.le_add_right, Nat.le_refl, ite_self, Nat.add_assoc, decide_true, Wp_some, Wp_none, Wp_ite, Wc_some, Wc_none, Wc_ite, Wp_thenRun, seqQ_normal, seqQ_exit, seqQ_ret, Wp_inBlock, blkQ_normal, blkQ_ret, blkQ_same, blkQ_exit, Wp_opThen, opQ_at, Wp_guardP, retQ_normal, retQ_ret, loopQ_normal, loopQ_exit, loopQ_ret, go_sem, entry, joinEsc, if_pos, reduceIte, Nat.reduceAdd, Nat.reduceLeDiff, Nat.reduceLT, Nat.reduceEqDiff]
  exact ⟨s, rfl, hl1, hl2, rfl⟩

theorem wc_DrawRowPull {av : AV} (hc : CodeAt H av) : Wc (call T pr f_s_DrawRowPull [av] ⟨H, e⟩) (fun v m => ∃ s : Sd, v = stV (slL H.length s.ls.length none) s.a s.b (slS (H.length + 1) s.ss.length none) s.t s.c ∧ s.ls.length ≤ 13 ∧ s.ss.length ≤ 5 ∧ m = ⟨H ++ [.cells (encL s.ls) true, .cells (encS s.ss) true], e⟩) := by
  rw [call_wc t_s_DrawRowPull]
  simp +contextual only [a_s_DrawRowPull, c_s_DrawRowPull, fillParts, Nat.add_assoc, Wp_some, Wp_none, Wp_ite, Wc_some, Wc_none, Wc_ite, Wp_thenRun, seqQ_normal, seqQ_exit, seqQ_ret, Wp_inBlock, blkQ_normal, blkQ_ret, blkQ_same, blkQ_exit, Wp_opThen, opQ_at, Wp_guardP, retQ_normal, retQ_ret, loopQ_normal, loopQ_exit, loopQ_ret, go_sem, entry, joinEsc, if_pos, reduceIte, Nat.reduceAdd, Nat.reduceLeDiff, Nat.reduceLT, Nat.reduceEqDiff]
  refine (wc_DrawIsStand (hc.more _)).mono ?_
  rintro v m ⟨s, rfl, hl1, hl2, rfl⟩
  have hf := fun (B0 : Blk) (e0 e1 : Option Nat) (hc : clean H.length e1 = true) => finish_stand (H := H) (G := [B0, .cells (encL s.ls) true, .cells (encS s.ss) true]) (j1 := 1) (j2 := 2) (n1 := s.ls.length) (n2 := s.ss.length) (c1 := none) (c2 := none) s.a s.b s.t s.c e0 e1 hc rfl rfl (by omega) (under_encL _ _) (under_encS _ _)
  simp +contextual only [a_s_DrawRowPull, hf, clean_ite, clean_minEsc, clean_none', Nat.le_add_right, Nat.le_refl, ite_self, Nat.add_assoc, decide_true, Wp_some, Wp_none, Wp_ite, Wc_some, Wc_none, Wc_ite, Wp_thenRun, seqQ_normal, seqQ_exit, seqQ_ret, Wp_inBlock, blkQ_normal, blkQ_ret, blkQ_same, blkQ_exit, Wp_opThen, opQ_at, Wp_guardP, retQ_normal, retQ_ret, loopQ_normal, loopQ_exit, loopQ_ret, go_sem, entry, joinEsc, if_pos, reduceIte, Nat.reduceAdd, Nat.reduceLeDiff, Nat.reduceLT, Nat.reduceEqDiff]
  exact ⟨s, rfl, hl1, hl2, rfl⟩

theorem finish_standT {G : List Blk} {j1 j2 n1 n2 : Nat} {c1 c2 : Option Nat} {cs1 cs2 : List AV} {w1 w2 : Bool} (a b t k x y z w : Int) (e0 e1 : Option Nat) (hc : clean H.length e1 = true) (h1 : G[j1]? = some (.cells cs1 w1)) (h2 : G[j2]? = some (.cells cs2 w2)) (hne : j1 ≠ j2)
    (u1 : (cs1.all fun c => c.under H.length) = true) (u2 : (cs2.all fun c => c.under H.length) = true) :
    finish 2 H.length e0 (.tup [stV (slL (H.length + j1) n1 c1) a b (slS (H.length + j2) n2 c2) t k, tkV x y z w]) ⟨H ++ G, e1⟩ = some (.tup [stV (slL H.length n1 c1) a b (slS (H.length + 1) n2 c2) t k, tkV x y z w], ⟨H ++ [.cells cs1 w1, .cells cs2 w2], e0⟩) := by
  have hlt1 : ¬ H.length + j1 < H.length := by omega
  have hlt2 : ¬ H.length + j2 < H.length := by omega
  have hne' : ¬ H.length + j2 = H.length + j1 := by omega
  have hr : dedup (AV.roots H.length (.tup [stV (slL (H.length + j1) n1 c1) a b (slS (H.length + j2) n2 c2) t k, tkV x y z w])) = [H.length + j1, H.length + j2] := by
    simp only [AV.roots, AV.roots.go, if_neg hlt1, if_neg hlt2, List.nil_append, List.cons_append, List.append_nil]
    simp [dedup, hne', hne, Ne.symm hne]
  have hb1 : (H ++ G)[H.length + j1]? = some (.cells cs1 w1) := by rw [List.getElem?_append_right (by omega)]; simpa using h1
  have hb2 : (H ++ G)[H.length + j2]? = some (.cells cs2 w2) := by rw [List.getElem?_append_right (by omega)]; simpa using h2
  unfold finish
  simp only [hr]
  have h3 : ([H.length + j1, H.length + j2].all fun b => flatBlk H.length (H ++ G)[b]?) = true := by
    simp only [List.all_cons, List.all_nil, Bool.and_true, hb1, hb2, flatBlk, u1, u2, Bool.and_self]
  simp only [hc, h3, and_self, if_true]
  have hq : (H.length + j1 == H.length + j2) = false := by simpa using hne
  simp [AV.rename, AV.rename.go, renum, hb1, hb2, List.idxOf_cons]
  refine ⟨fun h => by omega, ?_⟩
  rw [if_neg hlt2, hq]
  rfl

theorem wc_DrawDoTask {av : AV} (hc : CodeAt H av) : Wc (call T pr f_s_DrawDoTask [av] ⟨H, e⟩) (fun v m => ∃ (s : Sd) (k x y z : Int), v = .tup [stV (slL H.length s.ls.length none) s.a s.b (slS (H.length + 1) s.ss.length none) s.t s.c, tkV k x y z] ∧ s.ls.length ≤ 13 ∧ s.ss.length ≤ 5 ∧ m = ⟨H ++ [.cells (encL s.ls) true, .cells (encS s.ss) true], e⟩) := by
  obtain ⟨p0, s0, n0, c0, rfl⟩ := hc.form
  rw [call_wc t_s_DrawDoTask]
  simp +contextual only [a_s_DrawDoTask, c_s_DrawDoTask, fillParts, Nat.add_assoc, Wp_some, Wp_none, Wp_ite, Wc_some, Wc_none, Wc_ite, Wp_thenRun, seqQ_normal, seqQ_exit, seqQ_ret, Wp_inBlock, blkQ_normal, blkQ_ret, blkQ_same, blkQ_exit, Wp_opThen, opQ_at, Wp_guardP, retQ_normal, retQ_ret, loopQ_normal, loopQ_exit, loopQ_ret, go_sem, entry, joinEsc, if_pos, reduceIte, Nat.reduceAdd, Nat.reduceLeDiff, Nat.reduceLT, Nat.reduceEqDiff]
  refine (wc_stand (Cu.new (k := 2) (G := [.cells [.slice none 0 0 none, .int .i64 0, .int .i64 0, .slice none 0 0 none, .int .i64 0, .int .i64 0] true, .cells [.int .i64 0, .int .i64 0, .int .i64 0, .int .i64 0] true, curB _ 0 0]) rfl hc (by omega)) (by omega)).mono ?_
  rintro v m ⟨s, y1, z1, rfl, hl1, hl2, hy10, hy11, rfl⟩
  simp +contextual only [Nat.add_assoc, Wp_some, Wp_none, Wp_ite, Wc_some, Wc_none, Wc_ite, Wp_thenRun, seqQ_normal, seqQ_exit, seqQ_ret, Wp_inBlock, blkQ_normal, blkQ_ret, blkQ_same, blkQ_exit, Wp_opThen, opQ_at, Wp_guardP, retQ_normal, retQ_ret, loopQ_normal, loopQ_exit, loopQ_ret, go_sem, entry, joinEsc, if_pos, reduceIte, Nat.reduceAdd, Nat.reduceLeDiff, Nat.reduceLT, Nat.reduceEqDiff]
  refine (wc_task12 s.a s.b s.t s.c (Cu.new (H := H) (k := 2) (y := y1) (z := z1) rfl hc hy10) (by omega)).mono ?_
  rintro v m ⟨k, x, y, z, y2, z2, rfl, hy20, hy21, rfl⟩
  have hf := fun (B0 B1 B2 B5 : Blk) (e0 e1 : Option Nat) (hc : clean H.length e1 = true) => finish_standT (H := H) (G := [B0, B1, B2, .cells (encL s.ls) true, .cells (encS s.ss) true, B5]) (j1 := 3) (j2 := 4) (n1 := s.ls.length) (n2 := s.ss.length) (c1 := none) (c2 := none) s.a s.b s.t s.c k x y z e0 e1 hc rfl rfl (by omega) (under_encL _ _) (under_encS _ _)
  simp +contextual only [a_s_DrawDoTask, hf, clean_ite, clean_minEsc, clean_none', Nat.le_add_right, Nat.le_refl, ite_self, Nat.add_assoc, decide_true, Wp_some, Wp_none, Wp_ite, Wc_some, Wc_none, Wc_ite, Wp_thenRun, seqQ_normal, seqQ_exit, seqQ_ret, Wp_inBlock, blkQ_normal, blkQ_ret, blkQ_same, blkQ_exit, Wp_opThen, opQ_at, Wp_guardP, retQ_normal, retQ_ret, loopQ_normal, loopQ_exit, loopQ_ret, go_sem, entry, joinEsc, if_pos, reduceIte, Nat.reduceAdd, Nat.reduceLeDiff, Nat.reduceLT, Nat.reduceEqDiff]
  exact ⟨s, k, x, y, z, rfl, hl1, hl2, rfl⟩

end Go.Proofs.Ytlocjmbfcdfjfaa.Slim

/- Stands: a drawn row of tasks. -/
namespace Go.Proofs.Ytlocjmbfcdfjfaa.Slim

open Go

set_option linter.unusedSimpArgs false

set_option linter.unusedVariables false

variable {pr : Prims} {H : List Blk} {e : Option Nat}

theorem finish_three {G : List Blk} {j1 j2 j3 n1 n2 n3 : Nat} {c1 c2 c3 : Option Nat} {cs1 cs2 cs3 : List AV} {w1 w2 w3 : Bool} (a b t k : Int) (e0 e1 : Option Nat) (hc : clean H.length e1 = true) (h1 : G[j1]? = some (.cells cs1 w1)) (h2 : G[j2]? = some (.cells cs2 w2)) (h3 : G[j3]? = some (.cells cs3 w3)) (hne : j1 ≠ j2) (hne2 : j1 ≠ j3) (hne3 : j2 ≠ j3)
    (u1 : (cs1.all fun c => c.under H.length) = true) (u2 : (cs2.all fun c => c.under H.length) = true) (u3 : (cs3.all fun c => c.under H.length) = true) :
    finish 2 H.length e0 (.tup [stV (slL (H.length + j1) n1 c1) a b (slS (H.length + j2) n2 c2) t k, slT (H.length + j3) n3 c3]) ⟨H ++ G, e1⟩ = some (.tup [stV (slL H.length n1 c1) a b (slS (H.length + 1) n2 c2) t k, slT (H.length + 2) n3 c3], ⟨H ++ [.cells cs1 w1, .cells cs2 w2, .cells cs3 w3], e0⟩) := by
  have hlt1 : ¬ H.length + j1 < H.length := by omega
  have hlt2 : ¬ H.length + j2 < H.length := by omega
  have hlt3 : ¬ H.length + j3 < H.length := by omega
  have q12 : (H.length + j1 == H.length + j2) = false := by simpa using hne
  have q13 : (H.length + j1 == H.length + j3) = false := by simpa using hne2
  have q23 : (H.length + j2 == H.length + j3) = false := by simpa using hne3
  have q21 : (H.length + j2 == H.length + j1) = false := by simpa using Ne.symm hne
  have q31 : (H.length + j3 == H.length + j1) = false := by simpa using Ne.symm hne2
  have q32 : (H.length + j3 == H.length + j2) = false := by simpa using Ne.symm hne3
  have hr : dedup (AV.roots H.length (.tup [stV (slL (H.length + j1) n1 c1) a b (slS (H.length + j2) n2 c2) t k, slT (H.length + j3) n3 c3])) = [H.length + j1, H.length + j2, H.length + j3] := by
    simp only [AV.roots, AV.roots.go, if_neg hlt1, if_neg hlt2, if_neg hlt3, List.nil_append, List.cons_append, List.append_nil]
    simp [dedup, Ne.symm hne, Ne.symm hne2, Ne.symm hne3, hne, hne2, hne3]
  have hb1 : (H ++ G)[H.length + j1]? = some (.cells cs1 w1) := by rw [List.getElem?_append_right (by omega)]; simpa using h1
  have hb2 : (H ++ G)[H.length + j2]? = some (.cells cs2 w2) := by rw [List.getElem?_append_right (by omega)]; simpa using h2
  have hb3 : (H ++ G)[H.length + j3]? = some (.cells cs3 w3) := by rw [List.getElem?_append_right (by omega)]; simpa using h3
  unfold finish
  simp only [hr]
  have hh : ([H.length + j1, H.length + j2, H.length + j3].all fun b => flatBlk H.length (H ++ G)[b]?) = true := by
    simp only [List.all_cons, List.all_nil, Bool.and_true, hb1, hb2, hb3, flatBlk, u1, u2, u3, Bool.and_self]
  simp only [hc, hh, and_self, if_true]
  simp only [AV.rename, AV.rename.go, renum, hb1, hb2, hb3, List.idxOf_cons, hlt1, hlt2, hlt3, q12, q13, q23, beq_self_eq_true, if_false, if_true, List.take_left', List.map_cons, List.map_nil, Option.getD_some, cond_true, cond_false, Bool.false_eq_true, Nat.add_zero, Nat.zero_add]

theorem app_tk1 {L : List Blk} {b q : Nat} {new : List AV} {c : Option Nat} (hb : L[b]? = some (.cells [] true)) (hq : cellsAt L q = some new) (hnew : new.length = 4) :
    appendV L e false 4 32 (.slice (some (b, 0)) 4 0 (some 0)) (.slice (some (q, 0)) 4 1 c) = some (.slice (some (L.length, 0)) 4 1 none, ⟨L ++ [.cells new true], e⟩) := by
  have hs := src_new L 1 4 c new q hq (by omega)
  unfold appendV
  simp only [hb, hs]
  rw [if_pos ⟨trivial, by unfold maxBytes; omega, by omega, by simp⟩, if_pos ⟨trivial, by omega⟩]

theorem app_tk2 {L : List Blk} {b q n : Nat} {cs new : List AV} {c : Option Nat} (hb : L[b]? = some (.cells cs true)) (hq : cellsAt L q = some new) (hcs : cs.length = n * 4) (hnew : new.length = 4) (hn : n ≤ 1000000) :
    appendV L e false 4 32 (.slice (some (b, 0)) 4 n none) (.slice (some (q, 0)) 4 1 c) = some (.slice (some (L.length, 0)) 4 (n + 1) none, ⟨L.set b .dead ++ [.cells (cs ++ new) true], e⟩) := by
  have hs := src_new L 1 4 c new q hq (by omega)
  unfold appendV
  simp only [hb, hs]
  rw [if_pos ⟨trivial, by unfold maxBytes; omega, by omega, by omega⟩, if_neg (by simp), List.drop_zero, List.take_of_length_le (by omega), if_pos trivial]

theorem get_dead {B0 B1 B2 B3 B4 B5 B6 : Blk} {G : List Blk} {i j : Nat} {x : Blk} (hi : i < G.length) (hj : j ≠ i + 7) (h : (B0 :: B1 :: B2 :: B3 :: B4 :: B5 :: B6 :: G)[j]? = some x) (X : List Blk) : (B0 :: B1 :: B2 :: B3 :: B4 :: B5 :: B6 :: (G.set i .dead ++ X))[j]? = some x := by
  have h1 : (B0 :: B1 :: B2 :: B3 :: B4 :: B5 :: B6 :: (G.set i .dead ++ X)) = ((B0 :: B1 :: B2 :: B3 :: B4 :: B5 :: B6 :: G) ++ X).set (i + 7) .dead := by
    simp only [List.cons_append, List.set_cons_succ]
    rw [List.set_append_left _ _ hi]
  rw [h1, List.getElem?_set_ne (fun h => hj h.symm)]
  have hlt := (List.getElem?_eq_some_iff.mp h).1
  rw [List.getElem?_append_left hlt]
  exact h

theorem step_small {s s' : Sd} {m : Tk} (h : stepT s m = some s') : s'.ls.length ≤ 13 ∧ s'.ss.length ≤ 5 := by
  unfold stepT at h
  split at h
  · cases h
    rename_i hok
    unfold doOk at hok
    simp only [Bool.and_eq_true] at hok
    have := st_small hok.2
    constructor <;> simp only <;> omega
  · cases h

set_option maxHeartbeats 4000000 in
theorem wc_DrawDoTasks {av : AV} (hc : CodeAt H av) : Wc (call T pr f_s_DrawDoTasks [av] ⟨H, e⟩) (fun v m => ∃ (s : Sd) (ts : List Tk) (cap : Option Nat), v = .tup [stV (slL H.length s.ls.length none) s.a s.b (slS (H.length + 1) s.ss.length none) s.t s.c, slT (H.length + 2) ts.length cap] ∧ s.ls.length ≤ 13 ∧ s.ss.length ≤ 5 ∧ ts.length ≤ 100 ∧ m = ⟨H ++ [.cells (encL s.ls) true, .cells (encS s.ss) true, .cells (encT ts) true], e⟩) := by
  obtain ⟨p0, s0, n0, c0, rfl⟩ := hc.form
  rw [call_wc t_s_DrawDoTasks]
  obtain ⟨R, hR⟩ : ∃ R, R = seqTl (seqTl (seqTl (seqTl (seqTl (seqTl c_s_DrawDoTasks))))) := ⟨_, rfl⟩
  have hcc : c_s_DrawDoTasks = .seq (seqHd c_s_DrawDoTasks) (.seq (seqHd (seqTl c_s_DrawDoTasks)) (.seq (seqHd (seqTl (seqTl c_s_DrawDoTasks))) (.seq (seqHd (seqTl (seqTl (seqTl c_s_DrawDoTasks)))) (.seq (seqHd (seqTl (seqTl (seqTl (seqTl c_s_DrawDoTasks))))) (.seq (seqHd (seqTl (seqTl (seqTl (seqTl (seqTl c_s_DrawDoTasks)))))) R))))) := by rw [hR]; rfl
  have r : ∀ (s : Sd) (ts : List Tk) (jl : Nat) (cap : Option Nat) (M N : Blk) (G : List Blk) (e' : Option Nat) (w2 w6 w7 w8 w9 w10 w11 w12 : AV), s.ls.length ≤ 13 → s.ss.length ≤ 5 → ts.length ≤ 100 → jl ≠ 0 → jl ≠ 2 → jl ≠ 3 → clean H.length e' = true → (Blk.cells [.slice none 0 0 none, .int .i64 0, .int .i64 0, .slice none 0 0 none, .int .i64 0, .int .i64 0] true :: M :: .cells (encL s.ls) true :: .cells (encS s.ss) true :: .cells (sdC s (H.length + 2) (H.length + 3)) true :: .cells [] true :: N :: G)[jl]? = some (.cells (encT ts) true) →
      Wp (run T pr R ⟨[.slice p0 s0 n0 c0, .ptr (some (H.length, 0)), w2, .ptr (some (H.length + 1, 0)), .ptr (some (H.length + 4, 0)), slT (H.length + jl) ts.length cap, w6, w7, w8, w9, w10, w11, w12], ⟨H ++ (Blk.cells [.slice none 0 0 none, .int .i64 0, .int .i64 0, .slice none 0 0 none, .int .i64 0, .int .i64 0] true :: M :: .cells (encL s.ls) true :: .cells (encS s.ss) true :: .cells (sdC s (H.length + 2) (H.length + 3)) true :: .cells [] true :: N :: G), e'⟩⟩) (retQ a_s_DrawDoTasks ⟨H, e⟩ fun v m => ∃ (s : Sd) (ts : List Tk) (cap : Option Nat), v = .tup [stV (slL H.length s.ls.length none) s.a s.b (slS (H.length + 1) s.ss.length none) s.t s.c, slT (H.length + 2) ts.length cap] ∧ s.ls.length ≤ 13 ∧ s.ss.length ≤ 5 ∧ ts.length ≤ 100 ∧ m = ⟨H ++ [.cells (encL s.ls) true, .cells (encS s.ss) true, .cells (encT ts) true], e⟩) := by
    rintro s ts jl cap M N G e' w2 w6 w7 w8 w9 w10 w11 w12 hl1 hl2 hl3 h0 h2 h3 he' hjl
    have hjl' : ∀ B0, (B0 :: M :: .cells (encL s.ls) true :: .cells (encS s.ss) true :: .cells (sdC s (H.length + 2) (H.length + 3)) true :: .cells [] true :: N :: G)[jl]? = some (.cells (encT ts) true) := fun B0 => by
      match jl, h0 with
      | jl + 1, _ => exact hjl
    have hf := fun (B0 : Blk) (e0 e1 : Option Nat) (hc : clean H.length e1 = true) => finish_three (H := H) (G := (B0 :: M :: .cells (encL s.ls) true :: .cells (encS s.ss) true :: .cells (sdC s (H.length + 2) (H.length + 3)) true :: .cells [] true :: N :: G)) (j1 := 2) (j2 := 3) (j3 := jl) (n1 := s.ls.length) (n2 := s.ss.length) (n3 := ts.length) (c1 := none) (c2 := none) (c3 := cap) s.a s.b s.t s.c e0 e1 hc rfl rfl (hjl' B0) (by omega) (Ne.symm h2) (Ne.symm h3) (under_encL _ _) (under_encS _ _) (under_encE tkC_under _ _)
    rw [hR]
    simp (maxSteps := 2000000) +contextual only [a_s_DrawDoTasks, c_s_DrawDoTasks, seqTl, seqHd, hf, clean_ite, clean_minEsc, he', Nat.le_add_right, Nat.le_refl, ite_self, Nat.add_assoc, decide_true, Wp_some, Wp_none, Wp_ite, Wc_some, Wc_none, Wc_ite, Wp_thenRun, seqQ_normal, seqQ_exit, seqQ_ret, Wp_inBlock, blkQ_normal, blkQ_ret, blkQ_same, blkQ_exit, Wp_opThen, opQ_at, Wp_guardP, retQ_normal, retQ_ret, loopQ_normal, loopQ_exit, loopQ_ret, go_sem, entry, joinEsc, if_pos, reduceIte, Nat.reduceAdd, Nat.reduceLeDiff, Nat.reduceLT, Nat.reduceEqDiff]
    exact ⟨s, ts, cap, rfl, hl1, hl2, hl3, rfl⟩
  show Wp (run T pr c_s_DrawDoTasks _) _
  rw [hcc]
  simp (maxSteps := 2000000) +contextual only [a_s_DrawDoTasks, c_s_DrawDoTasks, seqTl, seqHd, fillParts, Nat.add_assoc, Wp_some, Wp_none, Wp_ite, Wc_some, Wc_none, Wc_ite, Wp_thenRun, seqQ_normal, seqQ_exit, seqQ_ret, Wp_inBlock, blkQ_normal, blkQ_ret, blkQ_same, blkQ_exit, Wp_opThen, opQ_at, Wp_guardP, retQ_normal, retQ_ret, loopQ_normal, loopQ_exit, loopQ_ret, go_sem, entry, joinEsc, if_pos, reduceIte, Nat.reduceAdd, Nat.reduceLeDiff, Nat.reduceLT, Nat.reduceEqDiff]
  refine (wc_stand (Cu.new (k := 1) (G := [Blk.cells [.slice none 0 0 none, .int .i64 0, .int .i64 0, .slice none 0 0 none, .int .i64 0, .int .i64 0] true, curB _ 0 0]) rfl hc (by omega)) (by omega)).mono ?_
  rintro v m ⟨s, y1, z1, rfl, hl1, hl2, hy10, hy11, rfl⟩
  simp (maxSteps := 2000000) +contextual only [fillParts, Nat.add_assoc, Wp_some, Wp_none, Wp_ite, Wc_some, Wc_none, Wc_ite, Wp_thenRun, seqQ_normal, seqQ_exit, seqQ_ret, Wp_inBlock, blkQ_normal, blkQ_ret, blkQ_same, blkQ_exit, Wp_opThen, opQ_at, Wp_guardP, retQ_normal, retQ_ret, loopQ_normal, loopQ_exit, loopQ_ret, go_sem, entry, joinEsc, if_pos, reduceIte, Nat.reduceAdd, Nat.reduceLeDiff, Nat.reduceLT, Nat.reduceEqDiff]
  refine (wc_pick 6 (Cu.new (H := H) (k := 1) (y := y1) (z := z1) rfl hc hy10) (by omega) (by omega)).mono ?_
  rintro v m ⟨x2, y2, z2, rfl, hx20, hx21, hy20, hy21, rfl⟩
  obtain ⟨n, rfl⟩ : ∃ n : Nat, x2 = (n : Int) := ⟨x2.toNat, by omega⟩
  simp (maxSteps := 2000000) +contextual only [Nat.add_assoc, Wp_some, Wp_none, Wp_ite, Wc_some, Wc_none, Wc_ite, Wp_thenRun, seqQ_normal, seqQ_exit, seqQ_ret, Wp_inBlock, blkQ_normal, blkQ_ret, blkQ_same, blkQ_exit, Wp_opThen, opQ_at, Wp_guardP, retQ_normal, retQ_ret, loopQ_normal, loopQ_exit, loopQ_ret, go_sem, entry, joinEsc, if_pos, reduceIte, Nat.reduceAdd, Nat.reduceLeDiff, Nat.reduceLT, Nat.reduceEqDiff]
  refine Wp_loop (fun k st => ∃ (now : Sd) (ts : List Tk) (jl j1 j2 : Nat) (cap : Option Nat) (y z : Int) (G : List Blk) (e' : Option Nat) (w8 w9 w10 w11 w12 wa : AV), j1 ≠ 1 ∧ j2 ≠ 1 ∧ j1 ≠ j2 ∧ j1 ≠ jl ∧ j2 ≠ jl ∧ clean H.length e' = true ∧ 0 ≤ y ∧ y + (k : Int) * 62 ≤ 3000 ∧ now.ls.length ≤ 13 ∧ now.ss.length ≤ 5 ∧ ts.length + k ≤ 10 ∧
      (∀ M N, (Blk.cells [.slice none 0 0 none, .int .i64 0, .int .i64 0, .slice none 0 0 none, .int .i64 0, .int .i64 0] true :: M :: .cells (encL s.ls) true :: .cells (encS s.ss) true :: .cells (sdC s (H.length + 2) (H.length + 3)) true :: .cells [] true :: N :: G)[j1]? = some (.cells (encL now.ls) true)) ∧ (∀ M N, (Blk.cells [.slice none 0 0 none, .int .i64 0, .int .i64 0, .slice none 0 0 none, .int .i64 0, .int .i64 0] true :: M :: .cells (encL s.ls) true :: .cells (encS s.ss) true :: .cells (sdC s (H.length + 2) (H.length + 3)) true :: .cells [] true :: N :: G)[j2]? = some (.cells (encS now.ss) true)) ∧
      ((ts = [] ∧ cap = some 0 ∧ jl = 5) ∨ (cap = none ∧ ∃ i, jl = i + 7 ∧ G[i]? = some (.cells (encT ts) true))) ∧
      st = ⟨[.slice p0 s0 n0 c0, .ptr (some (H.length, 0)), .slice none 0 0 none, .ptr (some (H.length + 1, 0)), .ptr (some (H.length + 4, 0)), slT (H.length + jl) ts.length cap, .ptr (some (H.length + 6, 0)), .int .i64 k, w8, w9, w10, w11, w12], ⟨H ++ (Blk.cells [.slice none 0 0 none, .int .i64 0, .int .i64 0, .slice none 0 0 none, .int .i64 0, .int .i64 0] true :: curB (.slice p0 s0 n0 c0) y z :: .cells (encL s.ls) true :: .cells (encS s.ss) true :: .cells (sdC s (H.length + 2) (H.length + 3)) true :: .cells [] true :: .cells (sdC now (H.length + j1) (H.length + j2)) true :: G), e'⟩⟩) ?_ n _
    ⟨s, [], 5, 2, 3, some 0, y2, z2, [], _, _, _, _, _, _, .undef, by omega, by omega, by omega, by omega, by omega, ?_, hy20, by omega, by omega, by omega, by simp; omega, fun M N => rfl, fun M N => rfl, .inl ⟨rfl, rfl, rfl⟩, rfl⟩
  · rintro k _ ⟨now, ts, jl, j1, j2, cap, y, z, G, e', w8, w9, w10, w11, w12, wa, hj10, hj20, hne, hjl1, hjl2, he', hy0, hy1, hl4, hl5, hl6, g1, g2, hlist, rfl⟩
    have hlist' : jl ≠ 0 ∧ jl ≠ 2 ∧ jl ≠ 3 ∧ ∀ M N, (Blk.cells [.slice none 0 0 none, .int .i64 0, .int .i64 0, .slice none 0 0 none, .int .i64 0, .int .i64 0] true :: M :: .cells (encL s.ls) true :: .cells (encS s.ss) true :: .cells (sdC s (H.length + 2) (H.length + 3)) true :: .cells [] true :: N :: G)[jl]? = some (.cells (encT ts) true) := by
      rcases hlist with ⟨rfl, _, rfl⟩ | ⟨_, i, rfl, hi⟩
      · exact ⟨by omega, by omega, by omega, fun M N => rfl⟩
      · exact ⟨by omega, by omega, by omega, fun M N => hi⟩
    have hg1 : ∀ M N X, cellsAt (Blk.cells [.slice none 0 0 none, .int .i64 0, .int .i64 0, .slice none 0 0 none, .int .i64 0, .int .i64 0] true :: M :: .cells (encL s.ls) true :: .cells (encS s.ss) true :: .cells (sdC s (H.length + 2) (H.length + 3)) true :: .cells [] true :: N :: (G ++ X)) j1 = some (encL now.ls) := fun M N X => cellsAt_of (get_more (g1 M N) X)
    have hg2 : ∀ M N X, cellsAt (Blk.cells [.slice none 0 0 none, .int .i64 0, .int .i64 0, .slice none 0 0 none, .int .i64 0, .int .i64 0] true :: M :: .cells (encL s.ls) true :: .cells (encS s.ss) true :: .cells (sdC s (H.length + 2) (H.length + 3)) true :: .cells [] true :: N :: (G ++ X)) j2 = some (encS now.ss) := fun M N X => cellsAt_of (get_more (g2 M N) X)
    have hg1' : ∀ M N, cellsAt (Blk.cells [.slice none 0 0 none, .int .i64 0, .int .i64 0, .slice none 0 0 none, .int .i64 0, .int .i64 0] true :: M :: .cells (encL s.ls) true :: .cells (encS s.ss) true :: .cells (sdC s (H.length + 2) (H.length + 3)) true :: .cells [] true :: N :: G) j1 = some (encL now.ls) := fun M N => cellsAt_of (g1 M N)
    have hg2' : ∀ M N, cellsAt (Blk.cells [.slice none 0 0 none, .int .i64 0, .int .i64 0, .slice none 0 0 none, .int .i64 0, .int .i64 0] true :: M :: .cells (encL s.ls) true :: .cells (encS s.ss) true :: .cells (sdC s (H.length + 2) (H.length + 3)) true :: .cells [] true :: N :: G) j2 = some (encS now.ss) := fun M N => cellsAt_of (g2 M N)
    have hjb1 : j1 < G.length + 7 := (List.getElem?_eq_some_iff.mp (g1 (.cells [] true) (.cells [] true))).1
    have hjb2 : j2 < G.length + 7 := (List.getElem?_eq_some_iff.mp (g2 (.cells [] true) (.cells [] true))).1
    have hgood := fun L e' (h1 : cellsAt L (H.length + j1) = some (encL now.ls)) (h2 : cellsAt L (H.length + j2) = some (encS now.ss)) => good_at (pr := pr) (e := e') (c1 := none) (c2 := none) (ls := now.ls) (ss := now.ss) rfl rfl (Nat.le_trans hl5 (by decide)) now.a now.b now.t now.c h1 h2
    by_cases hk : k = 0 ∨ stOk now.ls now.ss now.a now.b now.t now.c = false
    · have hcond : k = 0 ∨ (k ≠ 0 ∧ stOk now.ls now.ss now.a now.b now.t now.c = false) := by
        rcases hk with h | h
        · exact .inl h
        · by_cases h0 : k = 0
          · exact .inl h0
          · exact .inr ⟨h0, h⟩
      rcases hcond with rfl | ⟨hk0, hbad⟩
      · have hd : decide ((0 : Int) < ((0 : Nat) : Int)) = false := by decide
        have hd' : ¬ ((0 : Int) < ((0 : Nat) : Int)) := by omega
        simp (maxSteps := 2000000) +contextual only [w_s_DrawDoTasks_1, gt_iff_lt, hd, hd', decide_false, Wp_some, Wp_none, Wp_ite, Wc_some, Wc_none, Wc_ite, Wp_thenRun, seqQ_normal, seqQ_exit, seqQ_ret, Wp_inBlock, blkQ_normal, blkQ_ret, blkQ_same, blkQ_exit, Wp_opThen, opQ_at, Wp_guardP, retQ_normal, retQ_ret, loopQ_normal, loopQ_exit, loopQ_ret, go_sem, entry, joinEsc, if_pos, reduceIte, Nat.reduceAdd, Nat.reduceLeDiff, Nat.reduceLT, Nat.reduceEqDiff]
        exact r s ts jl cap _ _ _ _ _ _ _ _ _ _ _ _ hl1 hl2 (by omega) hlist'.1 hlist'.2.1 hlist'.2.2.1 he' (hlist'.2.2.2 _ _)
      · have hd : decide ((0 : Int) < (k : Int)) = true := decide_eq_true (by omega)
        have hd' : (0 : Int) < (k : Int) := by omega
        rw [hbad] at hgood
        simp (maxSteps := 2000000) +contextual only [w_s_DrawDoTasks_1, gt_iff_lt, hd, hd', hg1', hg2', hgood, decide_true, Wp_some, Wp_none, Wp_ite, Wc_some, Wc_none, Wc_ite, Wp_thenRun, seqQ_normal, seqQ_exit, seqQ_ret, Wp_inBlock, blkQ_normal, blkQ_ret, blkQ_same, blkQ_exit, Wp_opThen, opQ_at, Wp_guardP, retQ_normal, retQ_ret, loopQ_normal, loopQ_exit, loopQ_ret, go_sem, entry, joinEsc, if_pos, reduceIte, Nat.reduceAdd, Nat.reduceLeDiff, Nat.reduceLT, Nat.reduceEqDiff]
        exact r s ts jl cap _ _ _ _ _ _ _ _ _ _ _ _ hl1 hl2 (by omega) hlist'.1 hlist'.2.1 hlist'.2.2.1 he' (hlist'.2.2.2 _ _)
    · have hk0 : k ≠ 0 := fun h => hk (.inl h)
      have hok : stOk now.ls now.ss now.a now.b now.t now.c = true := by
        cases h : stOk now.ls now.ss now.a now.b now.t now.c
        · exact absurd (.inr h) hk
        · rfl
      have hd : decide ((0 : Int) < (k : Int)) = true := decide_eq_true (by omega)
      have hd' : (0 : Int) < (k : Int) := by omega
      rw [hok] at hgood
      simp (maxSteps := 2000000) +contextual only [w_s_DrawDoTasks_1, gt_iff_lt, hd, hd', hg1', hg2', hgood, decide_true, Wp_some, Wp_none, Wp_ite, Wc_some, Wc_none, Wc_ite, Wp_thenRun, seqQ_normal, seqQ_exit, seqQ_ret, Wp_inBlock, blkQ_normal, blkQ_ret, blkQ_same, blkQ_exit, Wp_opThen, opQ_at, Wp_guardP, retQ_normal, retQ_ret, loopQ_normal, loopQ_exit, loopQ_ret, go_sem, entry, joinEsc, if_pos, reduceIte, Nat.reduceAdd, Nat.reduceLeDiff, Nat.reduceLT, Nat.reduceEqDiff]
      refine (wc_task12 now.a now.b now.t now.c (Cu.new (H := H) (k := 1) (y := y) (z := z) rfl hc hy0) (by omega)).mono ?_
      rintro v m ⟨tk, ta, tb, tc, y5, z5, rfl, hy50, hy51, rfl⟩
      have hdo := fun L e' (h1 : cellsAt L (H.length + j1) = some (encL now.ls)) (h2 : cellsAt L (H.length + j2) = some (encS now.ss)) => (e_s_l12Do (pr := pr) (H := L) (e := e') (c1 := none) (c2 := none) h1 h2 (Nat.le_trans hl4 (by decide)) (Nat.le_trans hl5 (by decide)) now.a now.b now.t now.c tk ta tb tc).trans (step_res L e' now (tk, ta, tb, tc))
      have hwk : IntKind.i64.wrap ((k : Int) - 1) = ((k - 1 : Nat) : Int) := by
        rw [show ((k : Int) - 1) = ((k - 1 : Nat) : Int) by omega]; exact wrap64 (by omega) (by omega)
      rcases hlist with ⟨rfl, rfl, rfl⟩ | ⟨rfl, i, rfl, hi⟩
      · have hap := fun L b q' e' c (hb : L[b]? = some (Blk.cells [] true)) (hq : cellsAt L q' = some [AV.int .i64 tk, .int .i64 ta, .int .i64 tb, .int .i64 tc]) => app_tk1 (e := e') (c := c) hb hq rfl
        have hgi : True := trivial
        have hs1 : True := trivial
        have hs2 : True := trivial
        cases hst : stepT now (tk, ta, tb, tc) with
        | none =>
          simp only [hst] at hdo
          simp (maxSteps := 2000000) +contextual only [fillParts, hg1, hg2, hg1', hg2', hs1, hs2, hap, hgi, hdo, hwk, List.length_set, Nat.add_assoc, Wp_some, Wp_none, Wp_ite, Wc_some, Wc_none, Wc_ite, Wp_thenRun, seqQ_normal, seqQ_exit, seqQ_ret, Wp_inBlock, blkQ_normal, blkQ_ret, blkQ_same, blkQ_exit, Wp_opThen, opQ_at, Wp_guardP, retQ_normal, retQ_ret, loopQ_normal, loopQ_exit, loopQ_ret, go_sem, entry, joinEsc, if_pos, reduceIte, Nat.reduceAdd, Nat.reduceLeDiff, Nat.reduceLT, Nat.reduceEqDiff]
          refine ⟨k - 1, by omega, now, [(tk, ta, tb, tc)], G.length + 9, j1, j2, none, y5, z5, _, _, _, _, _, _, _, .undef, hj10, hj20, hne, by omega, by omega, ?_, hy50, by omega, hl4, hl5, by simp at hl6 ⊢; omega, fun M N => get_more (g1 M N) _, fun M N => get_more (g2 M N) _, .inr ⟨rfl, G.length + 2, by omega, ?_⟩, rfl⟩
          · simp only [clean_ite, clean_minEsc, clean_none', he', Nat.le_add_right, Nat.le_refl, Nat.add_assoc, decide_true, Bool.true_and, ite_self]
          · show (G ++ _)[G.length + 2]? = _
            rw [blkAt_newk]; rfl
        | some s' =>
          simp only [hst] at hdo
          simp (maxSteps := 2000000) +contextual only [fillParts, hg1, hg2, hg1', hg2', hs1, hs2, hap, hgi, hdo, hwk, List.length_set, Nat.add_assoc, Wp_some, Wp_none, Wp_ite, Wc_some, Wc_none, Wc_ite, Wp_thenRun, seqQ_normal, seqQ_exit, seqQ_ret, Wp_inBlock, blkQ_normal, blkQ_ret, blkQ_same, blkQ_exit, Wp_opThen, opQ_at, Wp_guardP, retQ_normal, retQ_ret, loopQ_normal, loopQ_exit, loopQ_ret, go_sem, entry, joinEsc, if_pos, reduceIte, Nat.reduceAdd, Nat.reduceLeDiff, Nat.reduceLT, Nat.reduceEqDiff]
          have hso := step_small hst
          refine ⟨k - 1, by omega, s', [(tk, ta, tb, tc)], G.length + 9, G.length + 10, G.length + 11, none, y5, z5, _, _, _, _, _, _, _, .undef, by omega, by omega, by omega, by omega, by omega, ?_, hy50, by omega, hso.1, hso.2, by simp at hl6 ⊢; omega, fun M N => ?_, fun M N => ?_, .inr ⟨rfl, G.length + 2, by omega, ?_⟩, rfl⟩
          · simp only [clean_ite, clean_minEsc, clean_none', he', Nat.le_add_right, Nat.le_refl, Nat.add_assoc, decide_true, Bool.true_and, ite_self]
          · show (G ++ _)[G.length + 3]? = _
            rw [blkAt_newk]; rfl
          · show (G ++ _)[G.length + 4]? = _
            rw [blkAt_newk]; rfl
          · show (G ++ _)[G.length + 2]? = _
            rw [blkAt_newk]; rfl
      · have hil : i < G.length := (List.getElem?_eq_some_iff.mp hi).1
        have hap := fun L b q' e' c (hb : L[b]? = some (Blk.cells (encT ts) true)) (hq : cellsAt L q' = some [AV.int .i64 tk, .int .i64 ta, .int .i64 tb, .int .i64 tc]) => app_tk2 (e := e') (n := ts.length) (c := c) hb hq (encE_length tkC_length ts) rfl (by omega)
        have hgi : ∀ X, (G ++ X)[i]? = some (.cells (encT ts) true) := fun X => by rw [List.getElem?_append_left hil]; exact hi
        have hsl : (G.set i .dead).length = G.length := List.length_set
        have hset : ∀ Y, (G ++ Y).set i .dead = G.set i .dead ++ Y := fun Y => List.set_append_left _ _ hil
        have hs1 : ∀ M N X, cellsAt (Blk.cells [.slice none 0 0 none, .int .i64 0, .int .i64 0, .slice none 0 0 none, .int .i64 0, .int .i64 0] true :: M :: .cells (encL s.ls) true :: .cells (encS s.ss) true :: .cells (sdC s (H.length + 2) (H.length + 3)) true :: .cells [] true :: N :: (G.set i .dead ++ X)) j1 = some (encL now.ls) := fun M N X => cellsAt_of (get_dead hil hjl1 (g1 M N) X)
        have hs2 : ∀ M N X, cellsAt (Blk.cells [.slice none 0 0 none, .int .i64 0, .int .i64 0, .slice none 0 0 none, .int .i64 0, .int .i64 0] true :: M :: .cells (encL s.ls) true :: .cells (encS s.ss) true :: .cells (sdC s (H.length + 2) (H.length + 3)) true :: .cells [] true :: N :: (G.set i .dead ++ X)) j2 = some (encS now.ss) := fun M N X => cellsAt_of (get_dead hil hjl2 (g2 M N) X)
        have hen : encT ts ++ [AV.int .i64 tk, .int .i64 ta, .int .i64 tb, .int .i64 tc] = encT (ts ++ [(tk, ta, tb, tc)]) := (encE_append (f := tkC) ts [(tk, ta, tb, tc)]).symm
        cases hst : stepT now (tk, ta, tb, tc) with
        | none =>
          simp only [hst] at hdo
          simp (maxSteps := 2000000) +contextual only [fillParts, hg1, hg2, hg1', hg2', hs1, hs2, hap, hgi, hset, hdo, hwk, cellsAt_s0, cellsAt_sk, blkAt_s0, blkAt_sk, set_s0, set_sk, List.length_set, Nat.add_assoc, Wp_some, Wp_none, Wp_ite, Wc_some, Wc_none, Wc_ite, Wp_thenRun, seqQ_normal, seqQ_exit, seqQ_ret, Wp_inBlock, blkQ_normal, blkQ_ret, blkQ_same, blkQ_exit, Wp_opThen, opQ_at, Wp_guardP, retQ_normal, retQ_ret, loopQ_normal, loopQ_exit, loopQ_ret, go_sem, entry, joinEsc, if_pos, reduceIte, Nat.reduceAdd, Nat.reduceLeDiff, Nat.reduceLT, Nat.reduceEqDiff]
          rw [hen, show ts.length + 1 = (ts ++ [(tk, ta, tb, tc)]).length by simp]
          refine ⟨k - 1, by omega, now, ts ++ [(tk, ta, tb, tc)], G.length + 9, j1, j2, none, y5, z5, _, _, _, _, _, _, _, .undef, hj10, hj20, hne, by omega, by omega, ?_, hy50, by omega, hl4, hl5, by rw [List.length_append, List.length_singleton]; omega, fun M N => get_dead hil (by omega) (g1 M N) _, fun M N => get_dead hil (by omega) (g2 M N) _, .inr ⟨rfl, G.length + 2, by omega, ?_⟩, rfl⟩
          · simp only [clean_ite, clean_minEsc, clean_none', he', Nat.le_add_right, Nat.le_refl, Nat.add_assoc, decide_true, Bool.true_and, ite_self]
          · show (G.set i .dead ++ _)[G.length + 2]? = _
            rw [← hsl, blkAt_newk]; rfl
        | some s' =>
          simp only [hst] at hdo
          simp (maxSteps := 2000000) +contextual only [fillParts, hg1, hg2, hg1', hg2', hs1, hs2, hap, hgi, hset, hdo, hwk, cellsAt_s0, cellsAt_sk, blkAt_s0, blkAt_sk, set_s0, set_sk, List.length_set, Nat.add_assoc, Wp_some, Wp_none, Wp_ite, Wc_some, Wc_none, Wc_ite, Wp_thenRun, seqQ_normal, seqQ_exit, seqQ_ret, Wp_inBlock, blkQ_normal, blkQ_ret, blkQ_same, blkQ_exit, Wp_opThen, opQ_at, Wp_guardP, retQ_normal, retQ_ret, loopQ_normal, loopQ_exit, loopQ_ret, go_sem, entry, joinEsc, if_pos, reduceIte, Nat.reduceAdd, Nat.reduceLeDiff, Nat.reduceLT, Nat.reduceEqDiff]
          have hso := step_small hst
          rw [hen, show ts.length + 1 = (ts ++ [(tk, ta, tb, tc)]).length by simp]
          refine ⟨k - 1, by omega, s', ts ++ [(tk, ta, tb, tc)], G.length + 9, G.length + 10, G.length + 11, none, y5, z5, _, _, _, _, _, _, _, .undef, by omega, by omega, by omega, by omega, by omega, ?_, hy50, by omega, hso.1, hso.2, by rw [List.length_append, List.length_singleton]; omega, fun M N => ?_, fun M N => ?_, .inr ⟨rfl, G.length + 2, by omega, ?_⟩, rfl⟩
          · simp only [clean_ite, clean_minEsc, clean_none', he', Nat.le_add_right, Nat.le_refl, Nat.add_assoc, decide_true, Bool.true_and, ite_self]
          · show (G.set i .dead ++ _)[G.length + 3]? = _
            rw [← hsl, blkAt_newk]; rfl
          · show (G.set i .dead ++ _)[G.length + 4]? = _
            rw [← hsl, blkAt_newk]; rfl
          · show (G.set i .dead ++ _)[G.length + 2]? = _
            rw [← hsl, blkAt_newk]; rfl
  · simp only [clean_ite, clean_minEsc, clean_none', Nat.le_add_right, Nat.le_refl, Nat.add_assoc, decide_true, Bool.true_and, ite_self]

end Go.Proofs.Ytlocjmbfcdfjfaa.Slim

/- Stands: the law on drawn pulls. -/
namespace Go.Proofs.Ytlocjmbfcdfjfaa.Slim

open Go

set_option linter.unusedSimpArgs false

set_option linter.unusedVariables false

variable {pr : Prims} {H : List Blk} {e : Option Nat}

theorem e_i_WeightOf_ok {q : Nat} {c : Option Nat} {ls : List Ld} (h : cellsAt H q = some (encL ls)) (hn : ls.length ≤ 1048576) (hr : rowOk ls = true) : call T pr f_i_WeightOf [slL q ls.length c] ⟨H, e⟩ = some (.tup [.int .i64 (weightW ls), .bool true], ⟨H, e⟩) := by
  have h1 := fun G => e_i_IsRow (pr := pr) (e := none) (c := c) (cells_mono h G)
  have h2 := fun G => e_i_weightOf (pr := pr) (e := none) (c := c) (cells_mono h G) (by omega)
  have h10 := h1 []
  have h20 := h2 []
  rw [List.append_nil] at h10 h20
  rw [hr] at h1 h10
  rw [call_eq t_i_WeightOf]
  simp +contextual only [a_i_WeightOf, c_i_WeightOf, h1, h2, h10, h20, go_sem, entry, joinEsc, if_pos, reduceIte, Nat.reduceAdd, Nat.reduceLeDiff, Nat.reduceLT, Nat.reduceEqDiff]

theorem e_i_ChainGain_ok {q : Nat} {c : Option Nat} {ss : List Sg} (h : cellsAt H q = some (encS ss)) (hc : chainOk ss = true) (hn : ss.length ≤ 1048576) : call T pr f_i_ChainGain [slS q ss.length c] ⟨H, e⟩ = some (.tup [fvV (chainA 1 1 ss) (chainB 1 1 ss), .bool true], ⟨H, e⟩) := by
  have h1 := fun G => e_i_isChain (pr := pr) (e := none) (c := c) (cells_mono h G) (by omega)
  have h2 := fun G => e_i_chainGain (pr := pr) (e := none) (c := c) (cells_mono h G) hc
  rw [hc] at h1
  rw [call_eq t_i_ChainGain]
  simp +contextual only [a_i_ChainGain, c_i_ChainGain, fillParts, h1, h2, go_sem, entry, joinEsc, if_pos, reduceIte, Nat.reduceAdd, Nat.reduceLeDiff, Nat.reduceLT, Nat.reduceEqDiff]

theorem chain_snoc : ∀ (ss : List Sg) (P Q : Nat) (s : Sg), chainA P Q (ss ++ [s]) = fracA (chainA P Q ss * gainA s) (chainB P Q ss * gainB s) ∧ chainB P Q (ss ++ [s]) = fracB (chainA P Q ss * gainA s) (chainB P Q ss * gainB s)
  | [], P, Q, s => ⟨rfl, rfl⟩
  | x :: ss, P, Q, s => by
    rw [List.cons_append, chainA, chainB, chainA, chainB]
    exact chain_snoc ss _ _ s

theorem ceil_facts {a b p : Nat} (hb : 0 < b) (h : p = (a + b - 1) / b) : a ≤ p * b ∧ p * b < a + b := by
  have h1 := Nat.div_add_mod (a + b - 1) b
  have h2 := Nat.mod_lt (a + b - 1) hb
  rw [← h, Nat.mul_comm] at h1
  omega

theorem pull_law (n P Q : Nat) (hP : 0 < P) (hQ : 0 < Q) : (n * fracB (P * 3) (Q * 1) + fracA (P * 3) (Q * 1) - 1) / fracA (P * 3) (Q * 1) ≤ (n * Q + P - 1) / P ∧ (n * Q + P - 1) / P ≤ 3 * ((n * fracB (P * 3) (Q * 1) + fracA (P * 3) (Q * 1) - 1) / fracA (P * 3) (Q * 1)) := by
  rw [Nat.mul_one]
  obtain ⟨f1, f2, _, _⟩ := frac_pos (x := P * 3) (y := Q) (by omega) hQ
  have hg1 : fracA (P * 3) Q * Nat.gcd Q (P * 3) = P * 3 := Nat.div_mul_cancel (Nat.gcd_dvd_right _ _)
  have hg2 : fracB (P * 3) Q * Nat.gcd Q (P * 3) = Q := Nat.div_mul_cancel (Nat.gcd_dvd_left _ _)
  have hg : 0 < Nat.gcd Q (P * 3) := Nat.gcd_pos_of_pos_left _ hQ
  generalize Nat.gcd Q (P * 3) = g at *
  generalize fracA (P * 3) Q = A at *
  generalize fracB (P * 3) Q = B at *
  obtain ⟨p1, p2⟩ := ceil_facts (a := n * Q) hP rfl
  obtain ⟨q1, q2⟩ := ceil_facts (a := n * B) f1 rfl
  generalize (n * Q + P - 1) / P = p at *
  generalize (n * B + A - 1) / A = q at *
  have e1 : n * B * g = n * Q := by rw [Nat.mul_assoc, hg2]
  have e2 : q * A * g = q * P * 3 := by rw [Nat.mul_assoc, hg1, Nat.mul_assoc]
  have q1' : n * Q ≤ q * P * 3 := by rw [← e1, ← e2]; exact Nat.mul_le_mul_right _ q1
  have q2' : q * P * 3 < n * Q + P * 3 := by
    rw [← e2, ← e1, ← hg1, ← Nat.add_mul]
    exact Nat.mul_lt_mul_of_pos_right q2 hg
  constructor
  · apply Nat.le_of_not_lt
    intro h
    have := Nat.mul_le_mul_right P (show p + 1 ≤ q by omega)
    rw [Nat.add_mul, Nat.one_mul] at this
    omega
  · apply Nat.le_of_not_lt
    intro h
    have := Nat.mul_le_mul_right P (show 3 * q + 1 ≤ p by omega)
    rw [Nat.add_mul, Nat.one_mul, Nat.mul_assoc] at this
    omega

end Go.Proofs.Ytlocjmbfcdfjfaa.Slim

/- Stands: the law on drawn pulls, walked. -/
namespace Go.Proofs.Ytlocjmbfcdfjfaa.Slim

open Go

set_option linter.unusedSimpArgs false

set_option linter.unusedVariables false

variable {pr : Prims} {H : List Blk} {e : Option Nat}

set_option maxHeartbeats 4000000 in
theorem wc_FnRowPulls (hp : HasDelete pr) {p0 : Option (Nat × Nat)} {s0 n0 : Nat} {c0 : Option Nat} (hc0 : n0 ≤ 65536 → CodeAt H (.slice p0 s0 n0 c0)) : Wc (call T pr f_l_FnRowPulls [.slice p0 s0 n0 c0] ⟨H, none⟩) (fun v m => v = .bool true) := by
  rw [call_wc t_l_FnRowPulls]
  by_cases hb : 65536 < n0
  · have hb' : decide ((65536 : Int) < ((n0 : Nat) : Int)) = true := decide_eq_true (by omega)
    simp +contextual only [a_l_FnRowPulls, c_l_FnRowPulls, e_l_vBig, hb', Wp_some, Wp_none, Wp_ite, Wc_some, Wc_none, Wc_ite, Wp_thenRun, seqQ_normal, seqQ_exit, seqQ_ret, Wp_inBlock, blkQ_normal, blkQ_ret, blkQ_same, blkQ_exit, Wp_opThen, opQ_at, Wp_guardP, retQ_normal, retQ_ret, loopQ_normal, loopQ_exit, loopQ_ret, finish_one_eq, finish_one_eq0, finish_two_eq, finish_two_eq0, roots_slice_new, roots_slice_new0, roots_slice_none, roots_ptr_new, roots_ptr_new0, roots_int, roots_bool, roots_str, roots_agg, roots_tup, roots_cons, roots_nil, rename_slice, rename_slice_none, rename_ptr, rename_int, rename_bool, rename_str, rename_agg, rename_tup, rename_cons, rename_nil, keepBlks_nil, keepBlks_cons, flatAll_nil, flatAll_cons, flatBlk_cells, dedup_nil, dedup_one, dedup_two, renum_one, renum_one0, renum_two0, renum_two1, clean_none', clean_some, minEsc_none, minEsc_some, Nat.add_left_cancel_iff, Nat.le_add_right, Nat.le_refl, decide_true, go_sem, entry, joinEsc, if_pos, reduceIte, Nat.reduceAdd, Nat.reduceLeDiff, Nat.reduceLT, Nat.reduceEqDiff]
  · have hb' : decide ((65536 : Int) < ((n0 : Nat) : Int)) = false := decide_eq_false (by omega)
    have hc := hc0 (by omega)
    simp +contextual only [a_l_FnRowPulls, c_l_FnRowPulls, e_l_vBig, hb', Wp_some, Wp_none, Wp_ite, Wc_some, Wc_none, Wc_ite, Wp_thenRun, seqQ_normal, seqQ_exit, seqQ_ret, Wp_inBlock, blkQ_normal, blkQ_ret, blkQ_same, blkQ_exit, Wp_opThen, opQ_at, Wp_guardP, retQ_normal, retQ_ret, loopQ_normal, loopQ_exit, loopQ_ret, go_sem, entry, joinEsc, if_pos, reduceIte, Nat.reduceAdd, Nat.reduceLeDiff, Nat.reduceLT, Nat.reduceEqDiff]
    refine (wc_DrawRowPull hc).mono ?_
    rintro v m ⟨⟨ls, ss, a, b, t, c⟩, rfl, hl1, hl2, rfl⟩
    simp only at hl1 hl2
    have hir := fun L e' (h1 : cellsAt L H.length = some (encL ls)) (h2 : cellsAt L (H.length + 1) = some (encS ss)) => e_i_RowPull (pr := pr) (H := L) (e := e') (c := none) (c' := none) h1 h2 (by omega) (by omega) a b t c
    have hsr := fun L e' (h1 : cellsAt L H.length = some (encL ls)) (h2 : cellsAt L (H.length + 1) = some (encS ss)) => e_s_RowPull (pr := pr) (H := L) (e := e') (c := none) (c' := none) h1 h2 (by omega) (by omega) a b t c
    have bxx : ∀ x : Bool, (!decide (x = x)) = false := fun x => by simp
    cases hok : (rowOk ls && (chainOk ss && restOk a b t c)) with
    | false =>
      have hs := fun L e' (h1 : cellsAt L H.length = some (encL ls)) (h2 : cellsAt L (H.length + 1) = some (encS ss)) => e_s_IsStand (pr := pr) (H := L) (e := e') (row := slL H.length ls.length none) (chain := slS (H.length + 1) ss.length none) (fun G => e_s_l2Row (cells_mono h1 G)) (fun G => e_s_l7Stages (cells_mono h2 G) (by omega)) a b t c
      simp only [hok] at hir hsr hs
      simp +contextual only [a_l_FnRowPulls, hir, hsr, hs, bxx, beq_self_eq_true, ne_eq, not_true_eq_false, decide_true, decide_false, clean_ite, clean_minEsc, Nat.le_add_right, ite_self, Nat.add_assoc, Wp_some, Wp_none, Wp_ite, Wc_some, Wc_none, Wc_ite, Wp_thenRun, seqQ_normal, seqQ_exit, seqQ_ret, Wp_inBlock, blkQ_normal, blkQ_ret, blkQ_same, blkQ_exit, Wp_opThen, opQ_at, Wp_guardP, retQ_normal, retQ_ret, loopQ_normal, loopQ_exit, loopQ_ret, finish_one_eq, finish_one_eq0, finish_two_eq, finish_two_eq0, roots_slice_new, roots_slice_new0, roots_slice_none, roots_ptr_new, roots_ptr_new0, roots_int, roots_bool, roots_str, roots_agg, roots_tup, roots_cons, roots_nil, rename_slice, rename_slice_none, rename_ptr, rename_int, rename_bool, rename_str, rename_agg, rename_tup, rename_cons, rename_nil, keepBlks_nil, keepBlks_cons, flatAll_nil, flatAll_cons, flatBlk_cells, dedup_nil, dedup_one, dedup_two, renum_one, renum_one0, renum_two0, renum_two1, clean_none', clean_some, minEsc_none, minEsc_some, Nat.add_left_cancel_iff, Nat.le_add_right, Nat.le_refl, decide_true, go_sem, entry, joinEsc, if_pos, reduceIte, Nat.reduceAdd, Nat.reduceLeDiff, Nat.reduceLT, Nat.reduceEqDiff]
    | true =>
      simp only [hok] at hir hsr
      obtain ⟨k1, k2⟩ := Bool.and_eq_true_iff.mp hok
      obtain ⟨k3, k4⟩ := Bool.and_eq_true_iff.mp k2
      obtain ⟨n, n1, n2⟩ := weight_ok k1
      have hrw : rowPullW ls ss true = pullW ss n := by unfold rowPullW; rw [if_pos rfl, n1, Int.toNat_natCast]
      have hc' := k3
      unfold chainOk at hc'
      rw [Bool.and_eq_true, decide_eq_true_eq] at hc'
      obtain ⟨b1, b2, b3, b4⟩ := chain_bounds ss 0 1 1 hc'.1 (by omega) (by decide) (by decide)
      have hw := fun L e' (h1 : cellsAt L H.length = some (encL ls)) => e_i_WeightOf_ok (pr := pr) (H := L) (e := e') (c := none) h1 (by omega) k1
      have hlp := fun L e' (h2 : cellsAt L (H.length + 1) = some (encS ss)) => e_i_LeastPull (pr := pr) (H := L) (e := e') (c := none) h2 k3 n n2
      have hcg := fun L e' (h2 : cellsAt L (H.length + 1) = some (encS ss)) => e_i_ChainGain_ok (pr := pr) (H := L) (e := e') (c := none) h2 k3 (by omega)
      have hdo := fun L e' (h1 : cellsAt L H.length = some (encL ls)) (h2 : cellsAt L (H.length + 1) = some (encS ss)) => e_i_DoTask (pr := pr) (H := L) (e := e') hp (c1 := none) (c2 := none) (a := a) (b := b) (t := t) (c := c) h1 h2 (by omega) (by omega) 5 2 3 0 hok
      have d1 : rowT ls 5 2 3 = ls := rfl
      have d2 : chainT ss 5 2 3 0 = ss ++ [(2, 3, 0)] := rfl
      have d3 : baseA a 5 2 = a := rfl
      have d4 : baseA b 5 3 = b := rfl
      rw [hrw] at hir hsr
      rw [n1] at hw
      simp only [d1, d2, d3, d4] at hdo
      have hpw : pullW ss n = (n * chainB 1 1 ss + chainA 1 1 ss - 1) / chainA 1 1 ss := rfl
      obtain ⟨c1, c2⟩ := ceil_facts (a := n * chainB 1 1 ss) b1 hpw
      have hmul : n * chainB 1 1 ss ≤ 1000000 * 254803968 := Nat.mul_le_mul n2 b4
      have hsn := chain_snoc ss 1 1 (2, 3, 0)
      have hga : gainA (2, 3, 0) = 3 := rfl
      have hgb : gainB (2, 3, 0) = 1 := rfl
      rw [hga, hgb] at hsn
      have hpw2 : pullW (ss ++ [(2, 3, 0)]) n = (n * fracB (chainA 1 1 ss * 3) (chainB 1 1 ss * 1) + fracA (chainA 1 1 ss * 3) (chainB 1 1 ss * 1) - 1) / fracA (chainA 1 1 ss * 3) (chainB 1 1 ss * 1) := by
        unfold pullW
        rw [hsn.1, hsn.2]
      obtain ⟨q1, q2⟩ := pull_law n (chainA 1 1 ss) (chainB 1 1 ss) b1 b3
      rw [← hpw, ← hpw2] at q1 q2
      have hple : pullW ss n ≤ pullW ss n * chainA 1 1 ss := Nat.le_mul_of_pos_right _ b1
      have w1 : IntKind.i64.wrap ((pullW ss n : Int) * (chainA 1 1 ss : Int)) = ((pullW ss n * chainA 1 1 ss : Nat) : Int) := by rw [← Int.natCast_mul]; exact wrapN (by omega)
      have w2 : IntKind.i64.wrap ((n : Int) * (chainB 1 1 ss : Int)) = ((n * chainB 1 1 ss : Nat) : Int) := by rw [← Int.natCast_mul]; exact wrapN (by omega)
      have w3 : IntKind.i64.wrap (3 * (pullW (ss ++ [(2, 3, 0)]) n : Int)) = ((3 * pullW (ss ++ [(2, 3, 0)]) n : Nat) : Int) := by
        rw [show (3 * (pullW (ss ++ [(2, 3, 0)]) n : Int)) = ((3 * pullW (ss ++ [(2, 3, 0)]) n : Nat) : Int) by omega]
        exact wrapN (by omega)
      have l1 : decide (((pullW ss n * chainA 1 1 ss : Nat) : Int) < ((n * chainB 1 1 ss : Nat) : Int)) = false := decide_eq_false (by omega)
      have l1' : ¬ ((pullW ss n * chainA 1 1 ss : Nat) < (n * chainB 1 1 ss : Nat)) := by omega
      have l2 : decide ((pullW (ss ++ [(2, 3, 0)]) n : Int) ≤ (pullW ss n : Int)) = true := decide_eq_true (by omega)
      have l3 : decide ((pullW ss n : Int) ≤ ((3 * pullW (ss ++ [(2, 3, 0)]) n : Nat) : Int)) = true := decide_eq_true (by omega)
      cases hdk : doOk ls ss a b t c 5 2 3 0 with
      | false =>
        unfold doRes at hdo
        simp only [hdk, Bool.false_eq_true, if_false] at hdo
        simp (maxSteps := 2000000) +contextual only [a_l_FnRowPulls, fillParts, hir, hsr, hw, hlp, hcg, hdo, w1, w2, l1, l1', ix02, ix12, ix01, Int.le_refl, Int.toNat_zero, Int.toNat_one, Nat.zero_mul, Nat.one_mul, bxx, beq_self_eq_true, ne_eq, not_true_eq_false, decide_true, decide_false, clean_ite, clean_minEsc, Nat.le_add_right, ite_self, Nat.add_assoc, Wp_some, Wp_none, Wp_ite, Wc_some, Wc_none, Wc_ite, Wp_thenRun, seqQ_normal, seqQ_exit, seqQ_ret, Wp_inBlock, blkQ_normal, blkQ_ret, blkQ_same, blkQ_exit, Wp_opThen, opQ_at, Wp_guardP, retQ_normal, retQ_ret, loopQ_normal, loopQ_exit, loopQ_ret, finish_one_eq, finish_one_eq0, finish_two_eq, finish_two_eq0, roots_slice_new, roots_slice_new0, roots_slice_none, roots_ptr_new, roots_ptr_new0, roots_int, roots_bool, roots_str, roots_agg, roots_tup, roots_cons, roots_nil, rename_slice, rename_slice_none, rename_ptr, rename_int, rename_bool, rename_str, rename_agg, rename_tup, rename_cons, rename_nil, keepBlks_nil, keepBlks_cons, flatAll_nil, flatAll_cons, flatBlk_cells, dedup_nil, dedup_one, dedup_two, renum_one, renum_one0, renum_two0, renum_two1, clean_none', clean_some, minEsc_none, minEsc_some, Nat.add_left_cancel_iff, Nat.le_add_right, Nat.le_refl, decide_true, go_sem, entry, joinEsc, if_pos, reduceIte, Nat.reduceAdd, Nat.reduceLeDiff, Nat.reduceLT, Nat.reduceEqDiff]
      | true =>
        have hst : (rowOk ls && (chainOk (ss ++ [(2, 3, 0)]) && restOk a b (tipsT ls a b t 5 2 3) (wr (c + 1)))) = true := by
          have hs1 : stepT ⟨ls, ss, a, b, t, c⟩ (5, 2, 3, 0) = some ⟨ls, ss ++ [(2, 3, 0)], a, b, tipsT ls a b t 5 2 3, wr (c + 1)⟩ := by
            unfold stepT
            rw [if_pos hdk]
            rfl
          exact stepT_ok (s := ⟨ls, ss, a, b, t, c⟩) hok hs1
        unfold doRes at hdo
        simp only [hdk, if_true] at hdo
        have hrw2 : rowPullW ls (ss ++ [(2, 3, 0)]) true = pullW (ss ++ [(2, 3, 0)]) n := by unfold rowPullW; rw [if_pos rfl, n1, Int.toNat_natCast]
        have hnx := fun L e' q1 q2 (h1 : cellsAt L q1 = some (encL ls)) (h2 : cellsAt L q2 = some (encS (ss ++ [(2, 3, 0)]))) => e_i_RowPull (pr := pr) (H := L) (e := e') (c := none) (c' := none) h1 h2 (by omega) (by rw [List.length_append]; simp; omega) a b (tipsT ls a b t 5 2 3) (wr (c + 1))
        simp only [hst, hrw2] at hnx
        generalize tipsT ls a b t 5 2 3 = t' at *
        generalize wr (c + 1) = c' at *
        generalize hS : ss ++ [(2, 3, 0)] = S at *
        simp (maxSteps := 2000000) +contextual only [a_l_FnRowPulls, fillParts, hir, hsr, hw, hlp, hcg, hdo, hnx, w1, w2, w3, l1, l1', l2, l3, ix02, ix12, ix01, Int.le_refl, Int.toNat_zero, Int.toNat_one, Nat.zero_mul, Nat.one_mul, bxx, beq_self_eq_true, ne_eq, not_true_eq_false, decide_true, decide_false, clean_ite, clean_minEsc, Nat.le_add_right, ite_self, Nat.add_assoc, Wp_some, Wp_none, Wp_ite, Wc_some, Wc_none, Wc_ite, Wp_thenRun, seqQ_normal, seqQ_exit, seqQ_ret, Wp_inBlock, blkQ_normal, blkQ_ret, blkQ_same, blkQ_exit, Wp_opThen, opQ_at, Wp_guardP, retQ_normal, retQ_ret, loopQ_normal, loopQ_exit, loopQ_ret, finish_one_eq, finish_one_eq0, finish_two_eq, finish_two_eq0, roots_slice_new, roots_slice_new0, roots_slice_none, roots_ptr_new, roots_ptr_new0, roots_int, roots_bool, roots_str, roots_agg, roots_tup, roots_cons, roots_nil, rename_slice, rename_slice_none, rename_ptr, rename_int, rename_bool, rename_str, rename_agg, rename_tup, rename_cons, rename_nil, keepBlks_nil, keepBlks_cons, flatAll_nil, flatAll_cons, flatBlk_cells, dedup_nil, dedup_one, dedup_two, renum_one, renum_one0, renum_two0, renum_two1, clean_none', clean_some, minEsc_none, minEsc_some, Nat.add_left_cancel_iff, Nat.le_add_right, Nat.le_refl, decide_true, go_sem, entry, joinEsc, if_pos, reduceIte, Nat.reduceAdd, Nat.reduceLeDiff, Nat.reduceLT, Nat.reduceEqDiff]

theorem law_RowPulls (hp : HasDelete pr) {av : AV} {zs : List Int} (h : ArgB H av zs) : ∃ m', call T pr f_l_FnRowPulls [av] ⟨H, none⟩ = some (.bool true, m') := by
  obtain ⟨p, sz, n, c, rfl, hc⟩ := h.form
  obtain ⟨v, m, h1, rfl⟩ := wc_FnRowPulls (pr := pr) hp hc
  exact ⟨m, h1⟩

end Go.Proofs.Ytlocjmbfcdfjfaa.Slim

/- Stands: what the law on drawn stands compares. -/
namespace Go.Proofs.Ytlocjmbfcdfjfaa.Slim

open Go

set_option linter.unusedSimpArgs false

set_option linter.unusedVariables false

variable {pr : Prims} {H : List Blk} {e : Option Nat}

theorem eqc2 (x y : Int) : eqList [0, 0] [.int .i64 x, .int .i64 y] [.int .i64 x, .int .i64 y] = some true := by
  simp [eqList, eqCell]

theorem eqc3 (x y z : Int) : eqList [0, 0, 0] [.int .i64 x, .int .i64 y, .int .i64 z] [.int .i64 x, .int .i64 y, .int .i64 z] = some true := by
  simp [eqList, eqCell]

theorem e_l_vRow {b1 b2 : Nat} {c1 c2 : Option Nat} {ts : List Ld} (h1 : cellsAt H b1 = some (encL ts)) (h2 : cellsAt H b2 = some (encL ts)) (hn : ts.length ≤ 1048576) :
    call T pr f_l_vRow [slL b1 ts.length c1, slL b2 ts.length c2] ⟨H, e⟩ = some (.bool true, ⟨H, e⟩) := by
  apply Wc.eq
  rw [call_wc t_l_vRow]
  simp +contextual only [a_l_vRow, c_l_vRow, decide_true, Wp_some, Wp_none, Wp_ite, Wc_some, Wc_none, Wc_ite, Wp_thenRun, seqQ_normal, seqQ_exit, seqQ_ret, Wp_inBlock, blkQ_normal, blkQ_ret, blkQ_same, blkQ_exit, Wp_opThen, opQ_at, Wp_guardP, retQ_normal, retQ_ret, loopQ_normal, loopQ_exit, loopQ_ret, go_sem, entry, joinEsc, if_pos, reduceIte, Nat.reduceAdd, Nat.reduceLeDiff, Nat.reduceLT, Nat.reduceEqDiff]
  refine Wp_loop (fun k st => ∃ (i : Nat) (y z w : AV), k + i = ts.length ∧ st = ⟨[slL b1 ts.length c1, slL b2 ts.length c2, .bool false, .int .i64 i, y, z, w], ⟨H, none⟩⟩) ?_ ts.length _ ⟨0, _, _, _, rfl, rfl⟩
  rintro k _ ⟨i, y, z, w, hk, rfl⟩
  by_cases hi : i < ts.length
  · have hl : ts[i]? = some ts[i] := List.getElem?_eq_getElem hi
    simp +contextual only [w_l_vRow_1, h1, h2, hi, part_encL hl, eqc2, wrap_succ (show i < 9223372036854775807 by omega), decide_true, Wp_some, Wp_none, Wp_ite, Wc_some, Wc_none, Wc_ite, Wp_thenRun, seqQ_normal, seqQ_exit, seqQ_ret, Wp_inBlock, blkQ_normal, blkQ_ret, blkQ_same, blkQ_exit, Wp_opThen, opQ_at, Wp_guardP, retQ_normal, retQ_ret, loopQ_normal, loopQ_exit, loopQ_ret, go_sem, entry, joinEsc, if_pos, reduceIte, Nat.reduceAdd, Nat.reduceLeDiff, Nat.reduceLT, Nat.reduceEqDiff]
    exact ⟨k - 1, by omega, i + 1, _, _, _, by omega, rfl⟩
  · obtain rfl : i = ts.length := by omega
    simp +contextual only [w_l_vRow_1, hi, decide_false, Wp_some, Wp_none, Wp_ite, Wc_some, Wc_none, Wc_ite, Wp_thenRun, seqQ_normal, seqQ_exit, seqQ_ret, Wp_inBlock, blkQ_normal, blkQ_ret, blkQ_same, blkQ_exit, Wp_opThen, opQ_at, Wp_guardP, retQ_normal, retQ_ret, loopQ_normal, loopQ_exit, loopQ_ret, finish_one_eq, finish_one_eq0, finish_two_eq, finish_two_eq0, roots_slice_new, roots_slice_new0, roots_slice_none, roots_ptr_new, roots_ptr_new0, roots_int, roots_bool, roots_str, roots_agg, roots_tup, roots_cons, roots_nil, rename_slice, rename_slice_none, rename_ptr, rename_int, rename_bool, rename_str, rename_agg, rename_tup, rename_cons, rename_nil, keepBlks_nil, keepBlks_cons, flatAll_nil, flatAll_cons, flatBlk_cells, dedup_nil, dedup_one, dedup_two, renum_one, renum_one0, renum_two0, renum_two1, clean_none', clean_some, minEsc_none, minEsc_some, Nat.add_left_cancel_iff, Nat.le_add_right, Nat.le_refl, decide_true, go_sem, entry, joinEsc, if_pos, reduceIte, Nat.reduceAdd, Nat.reduceLeDiff, Nat.reduceLT, Nat.reduceEqDiff]

theorem e_l_vRow_none {p1 p2 : Option (Nat × Nat)} {s1 s2 : Nat} {c1 c2 : Option Nat} : call T pr f_l_vRow [.slice p1 s1 0 c1, .slice p2 s2 0 c2] ⟨H, e⟩ = some (.bool true, ⟨H, e⟩) := by
  apply Wc.eq
  rw [call_wc t_l_vRow]
  simp +contextual only [a_l_vRow, c_l_vRow, decide_true, Wp_some, Wp_none, Wp_ite, Wc_some, Wc_none, Wc_ite, Wp_thenRun, seqQ_normal, seqQ_exit, seqQ_ret, Wp_inBlock, blkQ_normal, blkQ_ret, blkQ_same, blkQ_exit, Wp_opThen, opQ_at, Wp_guardP, retQ_normal, retQ_ret, loopQ_normal, loopQ_exit, loopQ_ret, go_sem, entry, joinEsc, if_pos, reduceIte, Nat.reduceAdd, Nat.reduceLeDiff, Nat.reduceLT, Nat.reduceEqDiff]
  refine Wp_loop (fun k st => st = ⟨[.slice p1 s1 0 c1, .slice p2 s2 0 c2, .bool false, .int .i64 0, .bool false, .undef, .undef], ⟨H, none⟩⟩) ?_ 0 _ rfl
  rintro k _ rfl
  simp +contextual only [w_l_vRow_1, show ¬ ((0 : Int) < ((0 : Nat) : Int)) by omega, decide_false, Wp_some, Wp_none, Wp_ite, Wc_some, Wc_none, Wc_ite, Wp_thenRun, seqQ_normal, seqQ_exit, seqQ_ret, Wp_inBlock, blkQ_normal, blkQ_ret, blkQ_same, blkQ_exit, Wp_opThen, opQ_at, Wp_guardP, retQ_normal, retQ_ret, loopQ_normal, loopQ_exit, loopQ_ret, finish_one_eq, finish_one_eq0, finish_two_eq, finish_two_eq0, roots_slice_new, roots_slice_new0, roots_slice_none, roots_ptr_new, roots_ptr_new0, roots_int, roots_bool, roots_str, roots_agg, roots_tup, roots_cons, roots_nil, rename_slice, rename_slice_none, rename_ptr, rename_int, rename_bool, rename_str, rename_agg, rename_tup, rename_cons, rename_nil, keepBlks_nil, keepBlks_cons, flatAll_nil, flatAll_cons, flatBlk_cells, dedup_nil, dedup_one, dedup_two, renum_one, renum_one0, renum_two0, renum_two1, clean_none', clean_some, minEsc_none, minEsc_some, Nat.add_left_cancel_iff, Nat.le_add_right, Nat.le_refl, decide_true, go_sem, entry, joinEsc, if_pos, reduceIte, Nat.reduceAdd, Nat.reduceLeDiff, Nat.reduceLT, Nat.reduceEqDiff]

theorem e_l_vChain {b1 b2 : Nat} {c1 c2 : Option Nat} {ts : List Sg} (h1 : cellsAt H b1 = some (encS ts)) (h2 : cellsAt H b2 = some (encS ts)) (hn : ts.length ≤ 1048576) :
    call T pr f_l_vChain [slS b1 ts.length c1, slS b2 ts.length c2] ⟨H, e⟩ = some (.bool true, ⟨H, e⟩) := by
  apply Wc.eq
  rw [call_wc t_l_vChain]
  simp +contextual only [a_l_vChain, c_l_vChain, decide_true, Wp_some, Wp_none, Wp_ite, Wc_some, Wc_none, Wc_ite, Wp_thenRun, seqQ_normal, seqQ_exit, seqQ_ret, Wp_inBlock, blkQ_normal, blkQ_ret, blkQ_same, blkQ_exit, Wp_opThen, opQ_at, Wp_guardP, retQ_normal, retQ_ret, loopQ_normal, loopQ_exit, loopQ_ret, go_sem, entry, joinEsc, if_pos, reduceIte, Nat.reduceAdd, Nat.reduceLeDiff, Nat.reduceLT, Nat.reduceEqDiff]
  refine Wp_loop (fun k st => ∃ (i : Nat) (y z w : AV), k + i = ts.length ∧ st = ⟨[slS b1 ts.length c1, slS b2 ts.length c2, .bool false, .int .i64 i, y, z, w], ⟨H, none⟩⟩) ?_ ts.length _ ⟨0, _, _, _, rfl, rfl⟩
  rintro k _ ⟨i, y, z, w, hk, rfl⟩
  by_cases hi : i < ts.length
  · have hl : ts[i]? = some ts[i] := List.getElem?_eq_getElem hi
    simp +contextual only [w_l_vChain_1, h1, h2, hi, part_encS hl, eqc3, wrap_succ (show i < 9223372036854775807 by omega), decide_true, Wp_some, Wp_none, Wp_ite, Wc_some, Wc_none, Wc_ite, Wp_thenRun, seqQ_normal, seqQ_exit, seqQ_ret, Wp_inBlock, blkQ_normal, blkQ_ret, blkQ_same, blkQ_exit, Wp_opThen, opQ_at, Wp_guardP, retQ_normal, retQ_ret, loopQ_normal, loopQ_exit, loopQ_ret, go_sem, entry, joinEsc, if_pos, reduceIte, Nat.reduceAdd, Nat.reduceLeDiff, Nat.reduceLT, Nat.reduceEqDiff]
    exact ⟨k - 1, by omega, i + 1, _, _, _, by omega, rfl⟩
  · obtain rfl : i = ts.length := by omega
    simp +contextual only [w_l_vChain_1, hi, decide_false, Wp_some, Wp_none, Wp_ite, Wc_some, Wc_none, Wc_ite, Wp_thenRun, seqQ_normal, seqQ_exit, seqQ_ret, Wp_inBlock, blkQ_normal, blkQ_ret, blkQ_same, blkQ_exit, Wp_opThen, opQ_at, Wp_guardP, retQ_normal, retQ_ret, loopQ_normal, loopQ_exit, loopQ_ret, finish_one_eq, finish_one_eq0, finish_two_eq, finish_two_eq0, roots_slice_new, roots_slice_new0, roots_slice_none, roots_ptr_new, roots_ptr_new0, roots_int, roots_bool, roots_str, roots_agg, roots_tup, roots_cons, roots_nil, rename_slice, rename_slice_none, rename_ptr, rename_int, rename_bool, rename_str, rename_agg, rename_tup, rename_cons, rename_nil, keepBlks_nil, keepBlks_cons, flatAll_nil, flatAll_cons, flatBlk_cells, dedup_nil, dedup_one, dedup_two, renum_one, renum_one0, renum_two0, renum_two1, clean_none', clean_some, minEsc_none, minEsc_some, Nat.add_left_cancel_iff, Nat.le_add_right, Nat.le_refl, decide_true, go_sem, entry, joinEsc, if_pos, reduceIte, Nat.reduceAdd, Nat.reduceLeDiff, Nat.reduceLT, Nat.reduceEqDiff]

theorem e_l_vChain_none {p1 p2 : Option (Nat × Nat)} {s1 s2 : Nat} {c1 c2 : Option Nat} : call T pr f_l_vChain [.slice p1 s1 0 c1, .slice p2 s2 0 c2] ⟨H, e⟩ = some (.bool true, ⟨H, e⟩) := by
  apply Wc.eq
  rw [call_wc t_l_vChain]
  simp +contextual only [a_l_vChain, c_l_vChain, decide_true, Wp_some, Wp_none, Wp_ite, Wc_some, Wc_none, Wc_ite, Wp_thenRun, seqQ_normal, seqQ_exit, seqQ_ret, Wp_inBlock, blkQ_normal, blkQ_ret, blkQ_same, blkQ_exit, Wp_opThen, opQ_at, Wp_guardP, retQ_normal, retQ_ret, loopQ_normal, loopQ_exit, loopQ_ret, go_sem, entry, joinEsc, if_pos, reduceIte, Nat.reduceAdd, Nat.reduceLeDiff, Nat.reduceLT, Nat.reduceEqDiff]
  refine Wp_loop (fun k st => st = ⟨[.slice p1 s1 0 c1, .slice p2 s2 0 c2, .bool false, .int .i64 0, .bool false, .undef, .undef], ⟨H, none⟩⟩) ?_ 0 _ rfl
  rintro k _ rfl
  simp +contextual only [w_l_vChain_1, show ¬ ((0 : Int) < ((0 : Nat) : Int)) by omega, decide_false, Wp_some, Wp_none, Wp_ite, Wc_some, Wc_none, Wc_ite, Wp_thenRun, seqQ_normal, seqQ_exit, seqQ_ret, Wp_inBlock, blkQ_normal, blkQ_ret, blkQ_same, blkQ_exit, Wp_opThen, opQ_at, Wp_guardP, retQ_normal, retQ_ret, loopQ_normal, loopQ_exit, loopQ_ret, finish_one_eq, finish_one_eq0, finish_two_eq, finish_two_eq0, roots_slice_new, roots_slice_new0, roots_slice_none, roots_ptr_new, roots_ptr_new0, roots_int, roots_bool, roots_str, roots_agg, roots_tup, roots_cons, roots_nil, rename_slice, rename_slice_none, rename_ptr, rename_int, rename_bool, rename_str, rename_agg, rename_tup, rename_cons, rename_nil, keepBlks_nil, keepBlks_cons, flatAll_nil, flatAll_cons, flatBlk_cells, dedup_nil, dedup_one, dedup_two, renum_one, renum_one0, renum_two0, renum_two1, clean_none', clean_some, minEsc_none, minEsc_some, Nat.add_left_cancel_iff, Nat.le_add_right, Nat.le_refl, decide_true, go_sem, entry, joinEsc, if_pos, reduceIte, Nat.reduceAdd, Nat.reduceLeDiff, Nat.reduceLT, Nat.reduceEqDiff]

theorem vStand_true {r1 r2 c1 c2 : AV} (a b t k : Int) (h1 : ∀ G, call T pr f_l_vRow [r1, r2] ⟨H ++ G, none⟩ = some (.bool true, ⟨H ++ G, none⟩)) (h2 : ∀ G, call T pr f_l_vChain [c1, c2] ⟨H ++ G, none⟩ = some (.bool true, ⟨H ++ G, none⟩)) :
    call T pr f_l_vStand [stV r1 a b c1 t k, stV r2 a b c2 t k] ⟨H, e⟩ = some (.bool true, ⟨H, e⟩) := by
  rw [call_eq t_l_vStand]
  simp +contextual only [a_l_vStand, c_l_vStand, h1, h2, decide_true, beq_self_eq_true, go_sem, entry, joinEsc, if_pos, reduceIte, Nat.reduceAdd, Nat.reduceLeDiff, Nat.reduceLT, Nat.reduceEqDiff]

theorem e_l_vStand {q1 q2 q3 q4 : Nat} {c1 c2 c3 c4 : Option Nat} {ls : List Ld} {ss : List Sg} (a b t k : Int) (h1 : cellsAt H q1 = some (encL ls)) (h2 : cellsAt H q2 = some (encL ls)) (h3 : cellsAt H q3 = some (encS ss)) (h4 : cellsAt H q4 = some (encS ss)) (hn : ls.length ≤ 1048576) (hm : ss.length ≤ 1048576) :
    call T pr f_l_vStand [stV (slL q1 ls.length c1) a b (slS q3 ss.length c3) t k, stV (slL q2 ls.length c2) a b (slS q4 ss.length c4) t k] ⟨H, e⟩ = some (.bool true, ⟨H, e⟩) :=
  vStand_true a b t k (fun G => e_l_vRow (cells_mono h1 G) (cells_mono h2 G) hn) (fun G => e_l_vChain (cells_mono h3 G) (cells_mono h4 G) hm)

theorem e_l_vStand_none {p1 p2 p3 p4 : Option (Nat × Nat)} {s1 s2 s3 s4 : Nat} {c1 c2 c3 c4 : Option Nat} (a b t k : Int) :
    call T pr f_l_vStand [stV (.slice p1 s1 0 c1) a b (.slice p3 s3 0 c3) t k, stV (.slice p2 s2 0 c2) a b (.slice p4 s4 0 c4) t k] ⟨H, e⟩ = some (.bool true, ⟨H, e⟩) :=
  vStand_true a b t k (fun G => e_l_vRow_none) (fun G => e_l_vChain_none)

theorem e_i_TipSide_ok {q : Nat} {c : Option Nat} {ls : List Ld} (h : cellsAt H q = some (encL ls)) (hn : ls.length ≤ 1048576) (a b : Int) (hr : rowOk ls = true) (hb : baseOk a b = true) : call T pr f_i_TipSide [slL q ls.length c, .int .i64 a, .int .i64 b] ⟨H, e⟩ = some (.tup [.int .i64 (sideW ls a b), .bool true], ⟨H, e⟩) := by
  have h1 := fun G => e_i_IsRow (pr := pr) (e := none) (c := c) (cells_mono h G)
  have h2 := fun G => e_i_tipSide (pr := pr) (e := none) (c := c) (cells_mono h G) (by omega) a b
  have h10 := h1 []
  have h20 := h2 []
  rw [List.append_nil] at h10 h20
  rw [hr] at h1 h10
  rw [call_eq t_i_TipSide]
  simp +contextual only [a_i_TipSide, c_i_TipSide, h1, h2, h10, h20, e_i_isBase, hb, go_sem, entry, joinEsc, if_pos, reduceIte, Nat.reduceAdd, Nat.reduceLeDiff, Nat.reduceLT, Nat.reduceEqDiff]

end Go.Proofs.Ytlocjmbfcdfjfaa.Slim

/- Stands: the law on drawn stands. -/
namespace Go.Proofs.Ytlocjmbfcdfjfaa.Slim

open Go

set_option linter.unusedSimpArgs false

set_option linter.unusedVariables false

variable {pr : Prims} {H : List Blk} {e : Option Nat}

theorem step_of {s : Sd} {k x y z : Int} (h : doOk s.ls s.ss s.a s.b s.t s.c k x y z = true) : stepT s (k, x, y, z) = some ⟨rowT s.ls k x y, chainT s.ss k x y z, baseA s.a k x, baseA s.b k y, tipsT s.ls s.a s.b s.t k x y, wr (s.c + 1)⟩ := by
  unfold stepT
  rw [if_pos h]

theorem erase_last {α : Type} (l : List α) (x : α) : (l ++ [x]).eraseIdx l.length = l := by
  rw [List.eraseIdx_append_of_length_le (Nat.le_refl _), Nat.sub_self]
  simp

theorem undo_load {ls : List Ld} {ss : List Sg} {a b t c x y z : Int} (hv : stOk ls ss a b t c = true) (hd : doOk ls ss a b t c 1 x y z = true) (hc : wr (c + 1) ≠ 1000) :
    doOk (ls ++ [(x, y)]) ss a b (tipsT ls a b t 1 x y) (wr (c + 1)) 2 (ls.length : Nat) 0 0 = true ∧ rowT (ls ++ [(x, y)]) 2 (ls.length : Nat) 0 = ls := by
  have hs := stepT_ok (s := ⟨ls, ss, a, b, t, c⟩) hv (step_of hd)
  have hr : rowT (ls ++ [(x, y)]) 2 (ls.length : Nat) 0 = ls := by
    show (ls ++ [(x, y)]).eraseIdx ((ls.length : Int)).toNat = ls
    rw [Int.toNat_natCast, erase_last]
  refine ⟨?_, hr⟩
  have e1 : rowT ls 1 x y = ls ++ [(x, y)] := rfl
  have e2 : chainT ss 1 x y z = ss := rfl
  have e3 : baseA a 1 x = a := rfl
  have e4 : baseA b 1 y = b := rfl
  simp only [e1, e2, e3, e4] at hs
  unfold Sd.ok at hs
  simp only at hs
  unfold doOk
  rw [hr]
  have e5 : ∀ w, chainT ss 2 (ls.length : Nat) 0 w = ss := fun w => rfl
  have e6 : baseA a 2 (ls.length : Nat) = a := rfl
  have e7 : baseA b 2 0 = b := rfl
  rw [e5, e6, e7, Bool.and_eq_true]
  generalize tipsT ls a b t 1 x y = t' at *
  generalize wr (c + 1) = c' at *
  constructor
  · unfold mayT
    simp
  · unfold stOk restOk at *
    simp only [Bool.and_eq_true, decide_eq_true_eq] at *
    have hw : wr (c' + 1) = c' + 1 := wrap64 (by omega) (by omega)
    rw [hw]
    refine ⟨hv.1, hs.2.1, hs.2.2.1, ?_⟩
    omega

theorem undo_stage {ls : List Ld} {ss : List Sg} {a b t c x y z : Int} (hv : stOk ls ss a b t c = true) (hd : doOk ls ss a b t c 5 x y z = true) (hc : wr (c + 1) ≠ 1000) :
    doOk ls (ss ++ [(x, y, z)]) a b (tipsT ls a b t 5 x y) (wr (c + 1)) 6 (ss.length : Nat) 0 0 = true ∧ chainT (ss ++ [(x, y, z)]) 6 (ss.length : Nat) 0 0 = ss := by
  have hs := stepT_ok (s := ⟨ls, ss, a, b, t, c⟩) hv (step_of hd)
  have hr : chainT (ss ++ [(x, y, z)]) 6 (ss.length : Nat) 0 0 = ss := by
    show (ss ++ [(x, y, z)]).eraseIdx ((ss.length : Int)).toNat = ss
    rw [Int.toNat_natCast, erase_last]
  refine ⟨?_, hr⟩
  have e1 : rowT ls 5 x y = ls := rfl
  have e2 : chainT ss 5 x y z = ss ++ [(x, y, z)] := rfl
  have e3 : baseA a 5 x = a := rfl
  have e4 : baseA b 5 y = b := rfl
  simp only [e1, e2, e3, e4] at hs
  unfold Sd.ok at hs
  simp only at hs
  unfold doOk
  rw [hr]
  have e5 : rowT ls 6 (ss.length : Nat) 0 = ls := rfl
  have e6 : baseA a 6 (ss.length : Nat) = a := rfl
  have e7 : baseA b 6 0 = b := rfl
  rw [e5, e6, e7, Bool.and_eq_true]
  generalize tipsT ls a b t 5 x y = t' at *
  generalize wr (c + 1) = c' at *
  constructor
  · unfold mayT
    simp
  · unfold stOk restOk at *
    simp only [Bool.and_eq_true, decide_eq_true_eq] at *
    have hw : wr (c' + 1) = c' + 1 := wrap64 (by omega) (by omega)
    rw [hw]
    refine ⟨hs.1, hv.2.1, hs.2.2.1, ?_⟩
    omega

/-- what is behind the calls -/
def restF : ACode := seqTl (seqTl (seqTl (seqTl (seqTl (seqTl (seqTl (seqTl (seqTl (seqTl (seqTl c_l_FnStands))))))))))

theorem stands_no {p0 : Option (Nat × Nat)} {s0 n0 : Nat} {c0 : Option Nat} {x y n : Int} {b4 th bI : Bool} {k4 k6 k8 k9 k10 k12 k16 k19 : Nat} {G : List Blk} {e' : Option Nat} {S4 S6 S8 S10 S12 S16 S19 w14 w15 w22 w23 w24 w25 w26 w27 w28 w29 w30 w31 w32 w33 w34 w35 : AV} (he' : clean H.length e' = true)
    (f4 : partOf true (cellsAt G k4) 0 6 = some S4) (f6 : partOf true (cellsAt G k6) 0 6 = some S6) (f8 : partOf true (cellsAt G k8) 0 6 = some S8) (f10 : partOf true (cellsAt G k10) 0 6 = some S10) (f12 : partOf true (cellsAt G k12) 0 6 = some S12) (f16 : partOf true (cellsAt G k16) 0 6 = some S16) (f19 : partOf true (cellsAt G k19) 0 6 = some S19)
    (v1 : ∀ e, call T pr f_l_vStand [S4, S6] ⟨H ++ G, e⟩ = some (.bool true, ⟨H ++ G, e⟩)) (v2 : ∀ e, call T pr f_l_vStand [S10, S12] ⟨H ++ G, e⟩ = some (.bool true, ⟨H ++ G, e⟩)) (v3 : ∀ e, call T pr f_l_vStand [S16, S19] ⟨H ++ G, e⟩ = some (.bool true, ⟨H ++ G, e⟩))
    (i1 : ∀ e, call T pr f_i_IsStand [S8] ⟨H ++ G, e⟩ = some (.bool bI, ⟨H ++ G, e⟩)) (i2 : ∀ e, call T pr f_s_IsStand [S8] ⟨H ++ G, e⟩ = some (.bool bI, ⟨H ++ G, e⟩)) (i3 : th = true → ∀ e, call T pr f_i_IsStand [S16] ⟨H ++ G, e⟩ = some (.bool true, ⟨H ++ G, e⟩)) :
    Wp (run T pr restF ⟨[.slice p0 s0 n0 c0, .bool false, .int .i64 x, .int .i64 y, .ptr (some (H.length + k4, 0)), .bool b4, .ptr (some (H.length + k6, 0)), .bool b4, .ptr (some (H.length + k8, 0)), .ptr (some (H.length + k9, 0)), .ptr (some (H.length + k10, 0)), .bool false, .ptr (some (H.length + k12, 0)), .bool false, w14, w15, .ptr (some (H.length + k16, 0)), .int .i64 n, .bool th, .ptr (some (H.length + k19, 0)), .int .i64 n, .bool th, w22, w23, w24, w25, w26, w27, w28, w29, w30, w31, w32, w33, w34, w35], ⟨H ++ G, e'⟩⟩) (retQ a_l_FnStands ⟨H, none⟩ fun v m => v = .bool true) := by
  have bxx : ∀ x : Bool, (!decide (x = x)) = false := fun x => by simp
  unfold restF
  cases th with
  | false =>
             simp (maxSteps := 2000000) +contextual only [a_l_FnStands, c_l_FnStands, seqTl, f4, f6, f8, f10, f12, f16, f19, v1, v2, v3, i1, i2, he', bxx, beq_self_eq_true, ne_eq, not_true_eq_false, decide_true, decide_false, Wp_some, Wp_none, Wp_ite, Wc_some, Wc_none, Wc_ite, Wp_thenRun, seqQ_normal, seqQ_exit, seqQ_ret, Wp_inBlock, blkQ_normal, blkQ_ret, blkQ_same, blkQ_exit, Wp_opThen, opQ_at, Wp_guardP, retQ_normal, retQ_ret, loopQ_normal, loopQ_exit, loopQ_ret, finish_one_eq, finish_one_eq0, finish_two_eq, finish_two_eq0, roots_slice_new, roots_slice_new0, roots_slice_none, roots_ptr_new, roots_ptr_new0, roots_int, roots_bool, roots_str, roots_agg, roots_tup, roots_cons, roots_nil, rename_slice, rename_slice_none, rename_ptr, rename_int, rename_bool, rename_str, rename_agg, rename_tup, rename_cons, rename_nil, keepBlks_nil, keepBlks_cons, flatAll_nil, flatAll_cons, flatBlk_cells, dedup_nil, dedup_one, dedup_two, renum_one, renum_one0, renum_two0, renum_two1, clean_none', clean_some, minEsc_none, minEsc_some, Nat.add_left_cancel_iff, Nat.le_add_right, Nat.le_refl, decide_true, go_sem, entry, joinEsc, if_pos, reduceIte, Nat.reduceAdd, Nat.reduceLeDiff, Nat.reduceLT, Nat.reduceEqDiff]
             simp
  | true =>
    have i3' := i3 rfl
    simp (maxSteps := 2000000) +contextual only [a_l_FnStands, c_l_FnStands, seqTl, f4, f6, f8, f10, f12, f16, f19, v1, v2, v3, i1, i2, i3', he', bxx, beq_self_eq_true, ne_eq, not_true_eq_false, decide_true, decide_false, Wp_some, Wp_none, Wp_ite, Wc_some, Wc_none, Wc_ite, Wp_thenRun, seqQ_normal, seqQ_exit, seqQ_ret, Wp_inBlock, blkQ_normal, blkQ_ret, blkQ_same, blkQ_exit, Wp_opThen, opQ_at, Wp_guardP, retQ_normal, retQ_ret, loopQ_normal, loopQ_exit, loopQ_ret, finish_one_eq, finish_one_eq0, finish_two_eq, finish_two_eq0, roots_slice_new, roots_slice_new0, roots_slice_none, roots_ptr_new, roots_ptr_new0, roots_int, roots_bool, roots_str, roots_agg, roots_tup, roots_cons, roots_nil, rename_slice, rename_slice_none, rename_ptr, rename_int, rename_bool, rename_str, rename_agg, rename_tup, rename_cons, rename_nil, keepBlks_nil, keepBlks_cons, flatAll_nil, flatAll_cons, flatBlk_cells, dedup_nil, dedup_one, dedup_two, renum_one, renum_one0, renum_two0, renum_two1, clean_none', clean_some, minEsc_none, minEsc_some, Nat.add_left_cancel_iff, Nat.le_add_right, Nat.le_refl, decide_true, go_sem, entry, joinEsc, if_pos, reduceIte, Nat.reduceAdd, Nat.reduceLeDiff, Nat.reduceLT, Nat.reduceEqDiff]
    simp

set_option maxHeartbeats 8000000 in
theorem stands_yes (hp : HasDelete pr) {p0 : Option (Nat × Nat)} {s0 n0 : Nat} {c0 : Option Nat} {x y n : Int} {b4 th : Bool} {k4 k6 k8 k9 k10 k12 k16 k19 q1 q2 q3 q4 : Nat} {G : List Blk} {e' : Option Nat} {S4 S6 S12 S16 S19 w14 w15 w22 w23 w24 w25 w26 w27 w28 w29 w30 w31 w32 w33 w34 w35 : AV} {ls : List Ld} {ss : List Sg} {a b t c k kx ky kz : Int} (he' : clean H.length e' = true)
    (f4 : partOf true (cellsAt G k4) 0 6 = some S4) (f6 : partOf true (cellsAt G k6) 0 6 = some S6) (f8 : cellsAt G k8 = some [slL q1 ls.length none, .int .i64 a, .int .i64 b, slS q2 ss.length none, .int .i64 t, .int .i64 c]) (f9 : cellsAt G k9 = some [.int .i64 k, .int .i64 kx, .int .i64 ky, .int .i64 kz])
    (f10 : cellsAt G k10 = some [slL q3 (rowT ls k kx ky).length none, .int .i64 (baseA a k kx), .int .i64 (baseA b k ky), slS q4 (chainT ss k kx ky kz).length none, .int .i64 (tipsT ls a b t k kx ky), .int .i64 (wr (c + 1))]) (f12 : partOf true (cellsAt G k12) 0 6 = some S12) (f16 : partOf true (cellsAt G k16) 0 6 = some S16) (f19 : partOf true (cellsAt G k19) 0 6 = some S19)
    (g1 : cellsAt (H ++ G) q1 = some (encL ls)) (g2 : cellsAt (H ++ G) q2 = some (encS ss)) (g3 : cellsAt (H ++ G) q3 = some (encL (rowT ls k kx ky))) (g4 : cellsAt (H ++ G) q4 = some (encS (chainT ss k kx ky kz)))
    (hv : stOk ls ss a b t c = true) (hd : doOk ls ss a b t c k kx ky kz = true)
    (v1 : ∀ e, call T pr f_l_vStand [S4, S6] ⟨H ++ G, e⟩ = some (.bool true, ⟨H ++ G, e⟩)) (v2 : ∀ e, call T pr f_l_vStand [stV (slL q3 (rowT ls k kx ky).length none) (baseA a k kx) (baseA b k ky) (slS q4 (chainT ss k kx ky kz).length none) (tipsT ls a b t k kx ky) (wr (c + 1)), S12] ⟨H ++ G, e⟩ = some (.bool true, ⟨H ++ G, e⟩)) (v3 : ∀ e, call T pr f_l_vStand [S16, S19] ⟨H ++ G, e⟩ = some (.bool true, ⟨H ++ G, e⟩))
    (i3 : th = true → ∀ e, call T pr f_i_IsStand [S16] ⟨H ++ G, e⟩ = some (.bool true, ⟨H ++ G, e⟩)) :
    Wp (run T pr restF ⟨[.slice p0 s0 n0 c0, .bool false, .int .i64 x, .int .i64 y, .ptr (some (H.length + k4, 0)), .bool b4, .ptr (some (H.length + k6, 0)), .bool b4, .ptr (some (H.length + k8, 0)), .ptr (some (H.length + k9, 0)), .ptr (some (H.length + k10, 0)), .bool true, .ptr (some (H.length + k12, 0)), .bool true, w14, w15, .ptr (some (H.length + k16, 0)), .int .i64 n, .bool th, .ptr (some (H.length + k19, 0)), .int .i64 n, .bool th, w22, w23, w24, w25, w26, w27, w28, w29, w30, w31, w32, w33, w34, w35], ⟨H ++ G, e'⟩⟩) (retQ a_l_FnStands ⟨H, none⟩ fun v m => v = .bool true) := by
  have bxx : ∀ x : Bool, (!decide (x = x)) = false := fun x => by simp
  have hs1 := stepT_ok (s := ⟨ls, ss, a, b, t, c⟩) hv (step_of hd)
  have hsm := st_small hv
  have hsm1 := st_small (show stOk (rowT ls k kx ky) (chainT ss k kx ky kz) (baseA a k kx) (baseA b k ky) (tipsT ls a b t k kx ky) (wr (c + 1)) = true from hs1)
  have hib := fun e => isStand_at (pr := pr) (e := e) (c1 := none) (c2 := none) (L := H ++ G) (ls := rowT ls k kx ky) (ss := chainT ss k kx ky kz) rfl rfl (by omega) (baseA a k kx) (baseA b k ky) (tipsT ls a b t k kx ky) (wr (c + 1)) g3 g4
  rw [show stOk (rowT ls k kx ky) (chainT ss k kx ky kz) (baseA a k kx) (baseA b k ky) (tipsT ls a b t k kx ky) (wr (c + 1)) = true from hs1] at hib
  have hi1 := fun e => isStand_at (pr := pr) (e := e) (c1 := none) (c2 := none) (L := H ++ G) (ls := ls) (ss := ss) rfl rfl (by omega) a b t c g1 g2
  have hi2 := fun e => e_s_IsStand (pr := pr) (H := H ++ G) (e := e) (row := slL q1 ls.length none) (chain := slS q2 ss.length none) (fun X => e_s_l2Row (cells_mono g1 X)) (fun X => e_s_l7Stages (cells_mono g2 X) (by omega)) a b t c
  rw [show (rowOk ls && (chainOk ss && restOk a b t c)) = true from hv] at hi2
  rw [hv] at hi1
  have hs2 := hs1
  unfold Sd.ok stOk restOk at hs2
  simp only [Bool.and_eq_true, decide_eq_true_eq] at hs2
  have hts := fun e => e_i_TipSide_ok (pr := pr) (H := H ++ G) (e := e) (c := none) g3 (by omega) (baseA a k kx) (baseA b k ky) hs2.1 hs2.2.2.1
  have gx3 : ∀ X, cellsAt (H ++ (G ++ X)) q3 = some (encL (rowT ls k kx ky)) := fun X => by rw [← List.append_assoc]; exact cells_mono g3 X
  have gx4 : ∀ X, cellsAt (H ++ (G ++ X)) q4 = some (encS (chainT ss k kx ky kz)) := fun X => by rw [← List.append_assoc]; exact cells_mono g4 X
  have gx1 : ∀ X, cellsAt (H ++ (G ++ X)) q1 = some (encL ls) := fun X => by rw [← List.append_assoc]; exact cells_mono g1 X
  have gx2 : ∀ X, cellsAt (H ++ (G ++ X)) q2 = some (encS ss) := fun X => by rw [← List.append_assoc]; exact cells_mono g2 X
  have fx8 := fun X => cells_mono f8 X
  have fx9 := fun X => cells_mono f9 X
  have fx10 := fun X => cells_mono f10 X
  unfold restF
  have hcnt : decide (wr (c + 1) = IntKind.i64.wrap (c + 1)) = true := decide_eq_true rfl
  have i3' : ∀ e, th = true → call T pr f_i_IsStand [S16] ⟨H ++ G, e⟩ = some (.bool true, ⟨H ++ G, e⟩) := fun e h => i3 h e
  by_cases hside : sideW (rowT ls k kx ky) (baseA a k kx) (baseA b k ky) = 0
  · have htips : decide (tipsT ls a b t k kx ky = t) = true := decide_eq_true (by unfold tipsT; rw [if_pos (decide_eq_true hside)])
    rw [hside] at hts
    cases th
    · skip
      by_cases h1000 : wr (c + 1) = 1000
      · have d1 : decide (wr (c + 1) = 1000) = true := decide_eq_true h1000
        simp (maxSteps := 2000000) +contextual only [a_l_FnStands, c_l_FnStands, seqTl, fillParts, f4, f6, f8, f9, f10, f12, f16, f19, fx8, fx9, fx10, v1, v2, v3, hib, hi1, hi2, hts, d1, htips, hcnt, he', bxx, beq_self_eq_true, ne_eq, not_true_eq_false, decide_true, decide_false, clean_ite, clean_minEsc, Nat.le_add_right, ite_self, List.length_append, Nat.add_assoc, Wp_some, Wp_none, Wp_ite, Wc_some, Wc_none, Wc_ite, Wp_thenRun, seqQ_normal, seqQ_exit, seqQ_ret, Wp_inBlock, blkQ_normal, blkQ_ret, blkQ_same, blkQ_exit, Wp_opThen, opQ_at, Wp_guardP, retQ_normal, retQ_ret, loopQ_normal, loopQ_exit, loopQ_ret, finish_one_eq, finish_one_eq0, finish_two_eq, finish_two_eq0, roots_slice_new, roots_slice_new0, roots_slice_none, roots_ptr_new, roots_ptr_new0, roots_int, roots_bool, roots_str, roots_agg, roots_tup, roots_cons, roots_nil, rename_slice, rename_slice_none, rename_ptr, rename_int, rename_bool, rename_str, rename_agg, rename_tup, rename_cons, rename_nil, keepBlks_nil, keepBlks_cons, flatAll_nil, flatAll_cons, flatBlk_cells, dedup_nil, dedup_one, dedup_two, renum_one, renum_one0, renum_two0, renum_two1, clean_none', clean_some, minEsc_none, minEsc_some, Nat.add_left_cancel_iff, Nat.le_add_right, Nat.le_refl, decide_true, go_sem, entry, joinEsc, if_pos, reduceIte, Nat.reduceAdd, Nat.reduceLeDiff, Nat.reduceLT, Nat.reduceEqDiff]
        try simp
      · have d1 : decide (wr (c + 1) = 1000) = false := decide_eq_false h1000
        by_cases k1 : k = 1
        · subst k1
          have hu := undo_load hv hd h1000
          have hu1 : doOk (rowT ls 1 kx ky) (chainT ss 1 kx ky kz) (baseA a 1 kx) (baseA b 1 ky) (tipsT ls a b t 1 kx ky) (wr (c + 1)) 2 (ls.length : Nat) 0 0 = true := hu.1
          have hu2 : rowT (rowT ls 1 kx ky) 2 (ls.length : Nat) 0 = ls := hu.2
          have hu3 : chainT (chainT ss 1 kx ky kz) 2 (ls.length : Nat) 0 0 = ss := rfl
          have hdo := fun L e (h1 : cellsAt L q3 = some (encL (rowT ls 1 kx ky))) (h2 : cellsAt L q4 = some (encS (chainT ss 1 kx ky kz))) => e_i_DoTask (pr := pr) (H := L) (e := e) hp (c1 := none) (c2 := none) (a := baseA a 1 kx) (b := baseA b 1 ky) (t := tipsT ls a b t 1 kx ky) (c := wr (c + 1)) h1 h2 (by omega) (by omega) 2 (ls.length : Nat) 0 0 hs1
          unfold doRes at hdo
          simp only [hu1, if_true, hu2, hu3] at hdo
          have hvr := fun L e q (h1 : cellsAt L q = some (encL ls)) (h2 : cellsAt L q1 = some (encL ls)) => e_l_vRow (pr := pr) (H := L) (e := e) (c1 := none) (c2 := none) h1 h2 (by omega)
          have hvc := fun L e q (h1 : cellsAt L q = some (encS ss)) (h2 : cellsAt L q2 = some (encS ss)) => e_l_vChain (pr := pr) (H := L) (e := e) (c1 := none) (c2 := none) h1 h2 (by omega)
          simp (maxSteps := 2000000) +contextual only [a_l_FnStands, c_l_FnStands, seqTl, fillParts, f4, f6, f8, f9, f10, f12, f16, f19, fx8, fx9, fx10, v1, v2, v3, hib, hi1, hi2, hts, d1, hdo, hvr, hvc, gx1, gx2, gx3, gx4, htips, hcnt, he', bxx, beq_self_eq_true, ne_eq, not_true_eq_false, decide_true, decide_false, clean_ite, clean_minEsc, Nat.le_add_right, ite_self, List.length_append, Nat.add_assoc, Wp_some, Wp_none, Wp_ite, Wc_some, Wc_none, Wc_ite, Wp_thenRun, seqQ_normal, seqQ_exit, seqQ_ret, Wp_inBlock, blkQ_normal, blkQ_ret, blkQ_same, blkQ_exit, Wp_opThen, opQ_at, Wp_guardP, retQ_normal, retQ_ret, loopQ_normal, loopQ_exit, loopQ_ret, finish_one_eq, finish_one_eq0, finish_two_eq, finish_two_eq0, roots_slice_new, roots_slice_new0, roots_slice_none, roots_ptr_new, roots_ptr_new0, roots_int, roots_bool, roots_str, roots_agg, roots_tup, roots_cons, roots_nil, rename_slice, rename_slice_none, rename_ptr, rename_int, rename_bool, rename_str, rename_agg, rename_tup, rename_cons, rename_nil, keepBlks_nil, keepBlks_cons, flatAll_nil, flatAll_cons, flatBlk_cells, dedup_nil, dedup_one, dedup_two, renum_one, renum_one0, renum_two0, renum_two1, clean_none', clean_some, minEsc_none, minEsc_some, Nat.add_left_cancel_iff, Nat.le_add_right, Nat.le_refl, decide_true, go_sem, entry, joinEsc, if_pos, reduceIte, Nat.reduceAdd, Nat.reduceLeDiff, Nat.reduceLT, Nat.reduceEqDiff]
          try simp
        · have d2 : decide (k = 1) = false := decide_eq_false k1
          by_cases k5 : k = 5
          · subst k5
            have hu := undo_stage hv hd h1000
            have hu1 : doOk (rowT ls 5 kx ky) (chainT ss 5 kx ky kz) (baseA a 5 kx) (baseA b 5 ky) (tipsT ls a b t 5 kx ky) (wr (c + 1)) 6 (ss.length : Nat) 0 0 = true := hu.1
            have hu2 : rowT (rowT ls 5 kx ky) 6 (ss.length : Nat) 0 = ls := rfl
            have hu3 : chainT (chainT ss 5 kx ky kz) 6 (ss.length : Nat) 0 0 = ss := hu.2
            have hdo := fun L e (h1 : cellsAt L q3 = some (encL (rowT ls 5 kx ky))) (h2 : cellsAt L q4 = some (encS (chainT ss 5 kx ky kz))) => e_i_DoTask (pr := pr) (H := L) (e := e) hp (c1 := none) (c2 := none) (a := baseA a 5 kx) (b := baseA b 5 ky) (t := tipsT ls a b t 5 kx ky) (c := wr (c + 1)) h1 h2 (by omega) (by omega) 6 (ss.length : Nat) 0 0 hs1
            unfold doRes at hdo
            simp only [hu1, if_true, hu2, hu3] at hdo
            have hvr := fun L e q (h1 : cellsAt L q = some (encL ls)) (h2 : cellsAt L q1 = some (encL ls)) => e_l_vRow (pr := pr) (H := L) (e := e) (c1 := none) (c2 := none) h1 h2 (by omega)
            have hvc := fun L e q (h1 : cellsAt L q = some (encS ss)) (h2 : cellsAt L q2 = some (encS ss)) => e_l_vChain (pr := pr) (H := L) (e := e) (c1 := none) (c2 := none) h1 h2 (by omega)
            simp (maxSteps := 2000000) +contextual only [a_l_FnStands, c_l_FnStands, seqTl, fillParts, f4, f6, f8, f9, f10, f12, f16, f19, fx8, fx9, fx10, v1, v2, v3, hib, hi1, hi2, hts, d1, d2, hdo, hvr, hvc, gx1, gx2, gx3, gx4, htips, hcnt, he', bxx, beq_self_eq_true, ne_eq, not_true_eq_false, decide_true, decide_false, clean_ite, clean_minEsc, Nat.le_add_right, ite_self, List.length_append, Nat.add_assoc, Wp_some, Wp_none, Wp_ite, Wc_some, Wc_none, Wc_ite, Wp_thenRun, seqQ_normal, seqQ_exit, seqQ_ret, Wp_inBlock, blkQ_normal, blkQ_ret, blkQ_same, blkQ_exit, Wp_opThen, opQ_at, Wp_guardP, retQ_normal, retQ_ret, loopQ_normal, loopQ_exit, loopQ_ret, finish_one_eq, finish_one_eq0, finish_two_eq, finish_two_eq0, roots_slice_new, roots_slice_new0, roots_slice_none, roots_ptr_new, roots_ptr_new0, roots_int, roots_bool, roots_str, roots_agg, roots_tup, roots_cons, roots_nil, rename_slice, rename_slice_none, rename_ptr, rename_int, rename_bool, rename_str, rename_agg, rename_tup, rename_cons, rename_nil, keepBlks_nil, keepBlks_cons, flatAll_nil, flatAll_cons, flatBlk_cells, dedup_nil, dedup_one, dedup_two, renum_one, renum_one0, renum_two0, renum_two1, clean_none', clean_some, minEsc_none, minEsc_some, Nat.add_left_cancel_iff, Nat.le_add_right, Nat.le_refl, decide_true, go_sem, entry, joinEsc, if_pos, reduceIte, Nat.reduceAdd, Nat.reduceLeDiff, Nat.reduceLT, Nat.reduceEqDiff]
            try simp
          · have d3 : decide (k = 5) = false := decide_eq_false k5
            simp (maxSteps := 2000000) +contextual only [a_l_FnStands, c_l_FnStands, seqTl, fillParts, f4, f6, f8, f9, f10, f12, f16, f19, fx8, fx9, fx10, v1, v2, v3, hib, hi1, hi2, hts, d1, d2, d3, htips, hcnt, he', bxx, beq_self_eq_true, ne_eq, not_true_eq_false, decide_true, decide_false, clean_ite, clean_minEsc, Nat.le_add_right, ite_self, List.length_append, Nat.add_assoc, Wp_some, Wp_none, Wp_ite, Wc_some, Wc_none, Wc_ite, Wp_thenRun, seqQ_normal, seqQ_exit, seqQ_ret, Wp_inBlock, blkQ_normal, blkQ_ret, blkQ_same, blkQ_exit, Wp_opThen, opQ_at, Wp_guardP, retQ_normal, retQ_ret, loopQ_normal, loopQ_exit, loopQ_ret, finish_one_eq, finish_one_eq0, finish_two_eq, finish_two_eq0, roots_slice_new, roots_slice_new0, roots_slice_none, roots_ptr_new, roots_ptr_new0, roots_int, roots_bool, roots_str, roots_agg, roots_tup, roots_cons, roots_nil, rename_slice, rename_slice_none, rename_ptr, rename_int, rename_bool, rename_str, rename_agg, rename_tup, rename_cons, rename_nil, keepBlks_nil, keepBlks_cons, flatAll_nil, flatAll_cons, flatBlk_cells, dedup_nil, dedup_one, dedup_two, renum_one, renum_one0, renum_two0, renum_two1, clean_none', clean_some, minEsc_none, minEsc_some, Nat.add_left_cancel_iff, Nat.le_add_right, Nat.le_refl, decide_true, go_sem, entry, joinEsc, if_pos, reduceIte, Nat.reduceAdd, Nat.reduceLeDiff, Nat.reduceLT, Nat.reduceEqDiff]
            try simp
    · have i4 := i3 rfl
      by_cases h1000 : wr (c + 1) = 1000
      · have d1 : decide (wr (c + 1) = 1000) = true := decide_eq_true h1000
        simp (maxSteps := 2000000) +contextual only [a_l_FnStands, c_l_FnStands, seqTl, fillParts, f4, f6, f8, f9, f10, f12, f16, f19, fx8, fx9, fx10, v1, v2, v3, hib, hi1, hi2, hts, d1, htips, hcnt, i4, he', bxx, beq_self_eq_true, ne_eq, not_true_eq_false, decide_true, decide_false, clean_ite, clean_minEsc, Nat.le_add_right, ite_self, List.length_append, Nat.add_assoc, Wp_some, Wp_none, Wp_ite, Wc_some, Wc_none, Wc_ite, Wp_thenRun, seqQ_normal, seqQ_exit, seqQ_ret, Wp_inBlock, blkQ_normal, blkQ_ret, blkQ_same, blkQ_exit, Wp_opThen, opQ_at, Wp_guardP, retQ_normal, retQ_ret, loopQ_normal, loopQ_exit, loopQ_ret, finish_one_eq, finish_one_eq0, finish_two_eq, finish_two_eq0, roots_slice_new, roots_slice_new0, roots_slice_none, roots_ptr_new, roots_ptr_new0, roots_int, roots_bool, roots_str, roots_agg, roots_tup, roots_cons, roots_nil, rename_slice, rename_slice_none, rename_ptr, rename_int, rename_bool, rename_str, rename_agg, rename_tup, rename_cons, rename_nil, keepBlks_nil, keepBlks_cons, flatAll_nil, flatAll_cons, flatBlk_cells, dedup_nil, dedup_one, dedup_two, renum_one, renum_one0, renum_two0, renum_two1, clean_none', clean_some, minEsc_none, minEsc_some, Nat.add_left_cancel_iff, Nat.le_add_right, Nat.le_refl, decide_true, go_sem, entry, joinEsc, if_pos, reduceIte, Nat.reduceAdd, Nat.reduceLeDiff, Nat.reduceLT, Nat.reduceEqDiff]
        try simp
      · have d1 : decide (wr (c + 1) = 1000) = false := decide_eq_false h1000
        by_cases k1 : k = 1
        · subst k1
          have hu := undo_load hv hd h1000
          have hu1 : doOk (rowT ls 1 kx ky) (chainT ss 1 kx ky kz) (baseA a 1 kx) (baseA b 1 ky) (tipsT ls a b t 1 kx ky) (wr (c + 1)) 2 (ls.length : Nat) 0 0 = true := hu.1
          have hu2 : rowT (rowT ls 1 kx ky) 2 (ls.length : Nat) 0 = ls := hu.2
          have hu3 : chainT (chainT ss 1 kx ky kz) 2 (ls.length : Nat) 0 0 = ss := rfl
          have hdo := fun L e (h1 : cellsAt L q3 = some (encL (rowT ls 1 kx ky))) (h2 : cellsAt L q4 = some (encS (chainT ss 1 kx ky kz))) => e_i_DoTask (pr := pr) (H := L) (e := e) hp (c1 := none) (c2 := none) (a := baseA a 1 kx) (b := baseA b 1 ky) (t := tipsT ls a b t 1 kx ky) (c := wr (c + 1)) h1 h2 (by omega) (by omega) 2 (ls.length : Nat) 0 0 hs1
          unfold doRes at hdo
          simp only [hu1, if_true, hu2, hu3] at hdo
          have hvr := fun L e q (h1 : cellsAt L q = some (encL ls)) (h2 : cellsAt L q1 = some (encL ls)) => e_l_vRow (pr := pr) (H := L) (e := e) (c1 := none) (c2 := none) h1 h2 (by omega)
          have hvc := fun L e q (h1 : cellsAt L q = some (encS ss)) (h2 : cellsAt L q2 = some (encS ss)) => e_l_vChain (pr := pr) (H := L) (e := e) (c1 := none) (c2 := none) h1 h2 (by omega)
          simp (maxSteps := 2000000) +contextual only [a_l_FnStands, c_l_FnStands, seqTl, fillParts, f4, f6, f8, f9, f10, f12, f16, f19, fx8, fx9, fx10, v1, v2, v3, hib, hi1, hi2, hts, d1, hdo, hvr, hvc, gx1, gx2, gx3, gx4, htips, hcnt, i4, he', bxx, beq_self_eq_true, ne_eq, not_true_eq_false, decide_true, decide_false, clean_ite, clean_minEsc, Nat.le_add_right, ite_self, List.length_append, Nat.add_assoc, Wp_some, Wp_none, Wp_ite, Wc_some, Wc_none, Wc_ite, Wp_thenRun, seqQ_normal, seqQ_exit, seqQ_ret, Wp_inBlock, blkQ_normal, blkQ_ret, blkQ_same, blkQ_exit, Wp_opThen, opQ_at, Wp_guardP, retQ_normal, retQ_ret, loopQ_normal, loopQ_exit, loopQ_ret, finish_one_eq, finish_one_eq0, finish_two_eq, finish_two_eq0, roots_slice_new, roots_slice_new0, roots_slice_none, roots_ptr_new, roots_ptr_new0, roots_int, roots_bool, roots_str, roots_agg, roots_tup, roots_cons, roots_nil, rename_slice, rename_slice_none, rename_ptr, rename_int, rename_bool, rename_str, rename_agg, rename_tup, rename_cons, rename_nil, keepBlks_nil, keepBlks_cons, flatAll_nil, flatAll_cons, flatBlk_cells, dedup_nil, dedup_one, dedup_two, renum_one, renum_one0, renum_two0, renum_two1, clean_none', clean_some, minEsc_none, minEsc_some, Nat.add_left_cancel_iff, Nat.le_add_right, Nat.le_refl, decide_true, go_sem, entry, joinEsc, if_pos, reduceIte, Nat.reduceAdd, Nat.reduceLeDiff, Nat.reduceLT, Nat.reduceEqDiff]
          try simp
        · have d2 : decide (k = 1) = false := decide_eq_false k1
          by_cases k5 : k = 5
          · subst k5
            have hu := undo_stage hv hd h1000
            have hu1 : doOk (rowT ls 5 kx ky) (chainT ss 5 kx ky kz) (baseA a 5 kx) (baseA b 5 ky) (tipsT ls a b t 5 kx ky) (wr (c + 1)) 6 (ss.length : Nat) 0 0 = true := hu.1
            have hu2 : rowT (rowT ls 5 kx ky) 6 (ss.length : Nat) 0 = ls := rfl
            have hu3 : chainT (chainT ss 5 kx ky kz) 6 (ss.length : Nat) 0 0 = ss := hu.2
            have hdo := fun L e (h1 : cellsAt L q3 = some (encL (rowT ls 5 kx ky))) (h2 : cellsAt L q4 = some (encS (chainT ss 5 kx ky kz))) => e_i_DoTask (pr := pr) (H := L) (e := e) hp (c1 := none) (c2 := none) (a := baseA a 5 kx) (b := baseA b 5 ky) (t := tipsT ls a b t 5 kx ky) (c := wr (c + 1)) h1 h2 (by omega) (by omega) 6 (ss.length : Nat) 0 0 hs1
            unfold doRes at hdo
            simp only [hu1, if_true, hu2, hu3] at hdo
            have hvr := fun L e q (h1 : cellsAt L q = some (encL ls)) (h2 : cellsAt L q1 = some (encL ls)) => e_l_vRow (pr := pr) (H := L) (e := e) (c1 := none) (c2 := none) h1 h2 (by omega)
            have hvc := fun L e q (h1 : cellsAt L q = some (encS ss)) (h2 : cellsAt L q2 = some (encS ss)) => e_l_vChain (pr := pr) (H := L) (e := e) (c1 := none) (c2 := none) h1 h2 (by omega)
            simp (maxSteps := 2000000) +contextual only [a_l_FnStands, c_l_FnStands, seqTl, fillParts, f4, f6, f8, f9, f10, f12, f16, f19, fx8, fx9, fx10, v1, v2, v3, hib, hi1, hi2, hts, d1, d2, hdo, hvr, hvc, gx1, gx2, gx3, gx4, htips, hcnt, i4, he', bxx, beq_self_eq_true, ne_eq, not_true_eq_false, decide_true, decide_false, clean_ite, clean_minEsc, Nat.le_add_right, ite_self, List.length_append, Nat.add_assoc, Wp_some, Wp_none, Wp_ite, Wc_some, Wc_none, Wc_ite, Wp_thenRun, seqQ_normal, seqQ_exit, seqQ_ret, Wp_inBlock, blkQ_normal, blkQ_ret, blkQ_same, blkQ_exit, Wp_opThen, opQ_at, Wp_guardP, retQ_normal, retQ_ret, loopQ_normal, loopQ_exit, loopQ_ret, finish_one_eq, finish_one_eq0, finish_two_eq, finish_two_eq0, roots_slice_new, roots_slice_new0, roots_slice_none, roots_ptr_new, roots_ptr_new0, roots_int, roots_bool, roots_str, roots_agg, roots_tup, roots_cons, roots_nil, rename_slice, rename_slice_none, rename_ptr, rename_int, rename_bool, rename_str, rename_agg, rename_tup, rename_cons, rename_nil, keepBlks_nil, keepBlks_cons, flatAll_nil, flatAll_cons, flatBlk_cells, dedup_nil, dedup_one, dedup_two, renum_one, renum_one0, renum_two0, renum_two1, clean_none', clean_some, minEsc_none, minEsc_some, Nat.add_left_cancel_iff, Nat.le_add_right, Nat.le_refl, decide_true, go_sem, entry, joinEsc, if_pos, reduceIte, Nat.reduceAdd, Nat.reduceLeDiff, Nat.reduceLT, Nat.reduceEqDiff]
            try simp
          · have d3 : decide (k = 5) = false := decide_eq_false k5
            simp (maxSteps := 2000000) +contextual only [a_l_FnStands, c_l_FnStands, seqTl, fillParts, f4, f6, f8, f9, f10, f12, f16, f19, fx8, fx9, fx10, v1, v2, v3, hib, hi1, hi2, hts, d1, d2, d3, htips, hcnt, i4, he', bxx, beq_self_eq_true, ne_eq, not_true_eq_false, decide_true, decide_false, clean_ite, clean_minEsc, Nat.le_add_right, ite_self, List.length_append, Nat.add_assoc, Wp_some, Wp_none, Wp_ite, Wc_some, Wc_none, Wc_ite, Wp_thenRun, seqQ_normal, seqQ_exit, seqQ_ret, Wp_inBlock, blkQ_normal, blkQ_ret, blkQ_same, blkQ_exit, Wp_opThen, opQ_at, Wp_guardP, retQ_normal, retQ_ret, loopQ_normal, loopQ_exit, loopQ_ret, finish_one_eq, finish_one_eq0, finish_two_eq, finish_two_eq0, roots_slice_new, roots_slice_new0, roots_slice_none, roots_ptr_new, roots_ptr_new0, roots_int, roots_bool, roots_str, roots_agg, roots_tup, roots_cons, roots_nil, rename_slice, rename_slice_none, rename_ptr, rename_int, rename_bool, rename_str, rename_agg, rename_tup, rename_cons, rename_nil, keepBlks_nil, keepBlks_cons, flatAll_nil, flatAll_cons, flatBlk_cells, dedup_nil, dedup_one, dedup_two, renum_one, renum_one0, renum_two0, renum_two1, clean_none', clean_some, minEsc_none, minEsc_some, Nat.add_left_cancel_iff, Nat.le_add_right, Nat.le_refl, decide_true, go_sem, entry, joinEsc, if_pos, reduceIte, Nat.reduceAdd, Nat.reduceLeDiff, Nat.reduceLT, Nat.reduceEqDiff]
            try simp
  · have htips : decide (tipsT ls a b t k kx ky = IntKind.i64.wrap (t + 1)) = true := decide_eq_true (by unfold tipsT; rw [if_neg (by simpa using hside)])
    have hsd : decide (sideW (rowT ls k kx ky) (baseA a k kx) (baseA b k ky) = 0) = false := decide_eq_false hside
    cases th
    · skip
      by_cases h1000 : wr (c + 1) = 1000
      · have d1 : decide (wr (c + 1) = 1000) = true := decide_eq_true h1000
        simp (maxSteps := 2000000) +contextual only [a_l_FnStands, c_l_FnStands, seqTl, fillParts, f4, f6, f8, f9, f10, f12, f16, f19, fx8, fx9, fx10, v1, v2, v3, hib, hi1, hi2, hts, d1, htips, hcnt, hside, hsd, he', bxx, beq_self_eq_true, ne_eq, not_true_eq_false, decide_true, decide_false, clean_ite, clean_minEsc, Nat.le_add_right, ite_self, List.length_append, Nat.add_assoc, Wp_some, Wp_none, Wp_ite, Wc_some, Wc_none, Wc_ite, Wp_thenRun, seqQ_normal, seqQ_exit, seqQ_ret, Wp_inBlock, blkQ_normal, blkQ_ret, blkQ_same, blkQ_exit, Wp_opThen, opQ_at, Wp_guardP, retQ_normal, retQ_ret, loopQ_normal, loopQ_exit, loopQ_ret, finish_one_eq, finish_one_eq0, finish_two_eq, finish_two_eq0, roots_slice_new, roots_slice_new0, roots_slice_none, roots_ptr_new, roots_ptr_new0, roots_int, roots_bool, roots_str, roots_agg, roots_tup, roots_cons, roots_nil, rename_slice, rename_slice_none, rename_ptr, rename_int, rename_bool, rename_str, rename_agg, rename_tup, rename_cons, rename_nil, keepBlks_nil, keepBlks_cons, flatAll_nil, flatAll_cons, flatBlk_cells, dedup_nil, dedup_one, dedup_two, renum_one, renum_one0, renum_two0, renum_two1, clean_none', clean_some, minEsc_none, minEsc_some, Nat.add_left_cancel_iff, Nat.le_add_right, Nat.le_refl, decide_true, go_sem, entry, joinEsc, if_pos, reduceIte, Nat.reduceAdd, Nat.reduceLeDiff, Nat.reduceLT, Nat.reduceEqDiff]
        try simp
      · have d1 : decide (wr (c + 1) = 1000) = false := decide_eq_false h1000
        by_cases k1 : k = 1
        · subst k1
          have hu := undo_load hv hd h1000
          have hu1 : doOk (rowT ls 1 kx ky) (chainT ss 1 kx ky kz) (baseA a 1 kx) (baseA b 1 ky) (tipsT ls a b t 1 kx ky) (wr (c + 1)) 2 (ls.length : Nat) 0 0 = true := hu.1
          have hu2 : rowT (rowT ls 1 kx ky) 2 (ls.length : Nat) 0 = ls := hu.2
          have hu3 : chainT (chainT ss 1 kx ky kz) 2 (ls.length : Nat) 0 0 = ss := rfl
          have hdo := fun L e (h1 : cellsAt L q3 = some (encL (rowT ls 1 kx ky))) (h2 : cellsAt L q4 = some (encS (chainT ss 1 kx ky kz))) => e_i_DoTask (pr := pr) (H := L) (e := e) hp (c1 := none) (c2 := none) (a := baseA a 1 kx) (b := baseA b 1 ky) (t := tipsT ls a b t 1 kx ky) (c := wr (c + 1)) h1 h2 (by omega) (by omega) 2 (ls.length : Nat) 0 0 hs1
          unfold doRes at hdo
          simp only [hu1, if_true, hu2, hu3] at hdo
          have hvr := fun L e q (h1 : cellsAt L q = some (encL ls)) (h2 : cellsAt L q1 = some (encL ls)) => e_l_vRow (pr := pr) (H := L) (e := e) (c1 := none) (c2 := none) h1 h2 (by omega)
          have hvc := fun L e q (h1 : cellsAt L q = some (encS ss)) (h2 : cellsAt L q2 = some (encS ss)) => e_l_vChain (pr := pr) (H := L) (e := e) (c1 := none) (c2 := none) h1 h2 (by omega)
          simp (maxSteps := 2000000) +contextual only [a_l_FnStands, c_l_FnStands, seqTl, fillParts, f4, f6, f8, f9, f10, f12, f16, f19, fx8, fx9, fx10, v1, v2, v3, hib, hi1, hi2, hts, d1, hdo, hvr, hvc, gx1, gx2, gx3, gx4, htips, hcnt, hside, hsd, he', bxx, beq_self_eq_true, ne_eq, not_true_eq_false, decide_true, decide_false, clean_ite, clean_minEsc, Nat.le_add_right, ite_self, List.length_append, Nat.add_assoc, Wp_some, Wp_none, Wp_ite, Wc_some, Wc_none, Wc_ite, Wp_thenRun, seqQ_normal, seqQ_exit, seqQ_ret, Wp_inBlock, blkQ_normal, blkQ_ret, blkQ_same, blkQ_exit, Wp_opThen, opQ_at, Wp_guardP, retQ_normal, retQ_ret, loopQ_normal, loopQ_exit, loopQ_ret, finish_one_eq, finish_one_eq0, finish_two_eq, finish_two_eq0, roots_slice_new, roots_slice_new0, roots_slice_none, roots_ptr_new, roots_ptr_new0, roots_int, roots_bool, roots_str, roots_agg, roots_tup, roots_cons, roots_nil, rename_slice, rename_slice_none, rename_ptr, rename_int, rename_bool, rename_str, rename_agg, rename_tup, rename_cons, rename_nil, keepBlks_nil, keepBlks_cons, flatAll_nil, flatAll_cons, flatBlk_cells, dedup_nil, dedup_one, dedup_two, renum_one, renum_one0, renum_two0, renum_two1, clean_none', clean_some, minEsc_none, minEsc_some, Nat.add_left_cancel_iff, Nat.le_add_right, Nat.le_refl, decide_true, go_sem, entry, joinEsc, if_pos, reduceIte, Nat.reduceAdd, Nat.reduceLeDiff, Nat.reduceLT, Nat.reduceEqDiff]
          try simp
        · have d2 : decide (k = 1) = false := decide_eq_false k1
          by_cases k5 : k = 5
          · subst k5
            have hu := undo_stage hv hd h1000
            have hu1 : doOk (rowT ls 5 kx ky) (chainT ss 5 kx ky kz) (baseA a 5 kx) (baseA b 5 ky) (tipsT ls a b t 5 kx ky) (wr (c + 1)) 6 (ss.length : Nat) 0 0 = true := hu.1
            have hu2 : rowT (rowT ls 5 kx ky) 6 (ss.length : Nat) 0 = ls := rfl
            have hu3 : chainT (chainT ss 5 kx ky kz) 6 (ss.length : Nat) 0 0 = ss := hu.2
            have hdo := fun L e (h1 : cellsAt L q3 = some (encL (rowT ls 5 kx ky))) (h2 : cellsAt L q4 = some (encS (chainT ss 5 kx ky kz))) => e_i_DoTask (pr := pr) (H := L) (e := e) hp (c1 := none) (c2 := none) (a := baseA a 5 kx) (b := baseA b 5 ky) (t := tipsT ls a b t 5 kx ky) (c := wr (c + 1)) h1 h2 (by omega) (by omega) 6 (ss.length : Nat) 0 0 hs1
            unfold doRes at hdo
            simp only [hu1, if_true, hu2, hu3] at hdo
            have hvr := fun L e q (h1 : cellsAt L q = some (encL ls)) (h2 : cellsAt L q1 = some (encL ls)) => e_l_vRow (pr := pr) (H := L) (e := e) (c1 := none) (c2 := none) h1 h2 (by omega)
            have hvc := fun L e q (h1 : cellsAt L q = some (encS ss)) (h2 : cellsAt L q2 = some (encS ss)) => e_l_vChain (pr := pr) (H := L) (e := e) (c1 := none) (c2 := none) h1 h2 (by omega)
            simp (maxSteps := 2000000) +contextual only [a_l_FnStands, c_l_FnStands, seqTl, fillParts, f4, f6, f8, f9, f10, f12, f16, f19, fx8, fx9, fx10, v1, v2, v3, hib, hi1, hi2, hts, d1, d2, hdo, hvr, hvc, gx1, gx2, gx3, gx4, htips, hcnt, hside, hsd, he', bxx, beq_self_eq_true, ne_eq, not_true_eq_false, decide_true, decide_false, clean_ite, clean_minEsc, Nat.le_add_right, ite_self, List.length_append, Nat.add_assoc, Wp_some, Wp_none, Wp_ite, Wc_some, Wc_none, Wc_ite, Wp_thenRun, seqQ_normal, seqQ_exit, seqQ_ret, Wp_inBlock, blkQ_normal, blkQ_ret, blkQ_same, blkQ_exit, Wp_opThen, opQ_at, Wp_guardP, retQ_normal, retQ_ret, loopQ_normal, loopQ_exit, loopQ_ret, finish_one_eq, finish_one_eq0, finish_two_eq, finish_two_eq0, roots_slice_new, roots_slice_new0, roots_slice_none, roots_ptr_new, roots_ptr_new0, roots_int, roots_bool, roots_str, roots_agg, roots_tup, roots_cons, roots_nil, rename_slice, rename_slice_none, rename_ptr, rename_int, rename_bool, rename_str, rename_agg, rename_tup, rename_cons, rename_nil, keepBlks_nil, keepBlks_cons, flatAll_nil, flatAll_cons, flatBlk_cells, dedup_nil, dedup_one, dedup_two, renum_one, renum_one0, renum_two0, renum_two1, clean_none', clean_some, minEsc_none, minEsc_some, Nat.add_left_cancel_iff, Nat.le_add_right, Nat.le_refl, decide_true, go_sem, entry, joinEsc, if_pos, reduceIte, Nat.reduceAdd, Nat.reduceLeDiff, Nat.reduceLT, Nat.reduceEqDiff]
            try simp
          · have d3 : decide (k = 5) = false := decide_eq_false k5
            simp (maxSteps := 2000000) +contextual only [a_l_FnStands, c_l_FnStands, seqTl, fillParts, f4, f6, f8, f9, f10, f12, f16, f19, fx8, fx9, fx10, v1, v2, v3, hib, hi1, hi2, hts, d1, d2, d3, htips, hcnt, hside, hsd, he', bxx, beq_self_eq_true, ne_eq, not_true_eq_false, decide_true, decide_false, clean_ite, clean_minEsc, Nat.le_add_right, ite_self, List.length_append, Nat.add_assoc, Wp_some, Wp_none, Wp_ite, Wc_some, Wc_none, Wc_ite, Wp_thenRun, seqQ_normal, seqQ_exit, seqQ_ret, Wp_inBlock, blkQ_normal, blkQ_ret, blkQ_same, blkQ_exit, Wp_opThen, opQ_at, Wp_guardP, retQ_normal, retQ_ret, loopQ_normal, loopQ_exit, loopQ_ret, finish_one_eq, finish_one_eq0, finish_two_eq, finish_two_eq0, roots_slice_new, roots_slice_new0, roots_slice_none, roots_ptr_new, roots_ptr_new0, roots_int, roots_bool, roots_str, roots_agg, roots_tup, roots_cons, roots_nil, rename_slice, rename_slice_none, rename_ptr, rename_int, rename_bool, rename_str, rename_agg, rename_tup, rename_cons, rename_nil, keepBlks_nil, keepBlks_cons, flatAll_nil, flatAll_cons, flatBlk_cells, dedup_nil, dedup_one, dedup_two, renum_one, renum_one0, renum_two0, renum_two1, clean_none', clean_some, minEsc_none, minEsc_some, Nat.add_left_cancel_iff, Nat.le_add_right, Nat.le_refl, decide_true, go_sem, entry, joinEsc, if_pos, reduceIte, Nat.reduceAdd, Nat.reduceLeDiff, Nat.reduceLT, Nat.reduceEqDiff]
            try simp
    · have i4 := i3 rfl
      by_cases h1000 : wr (c + 1) = 1000
      · have d1 : decide (wr (c + 1) = 1000) = true := decide_eq_true h1000
        simp (maxSteps := 2000000) +contextual only [a_l_FnStands, c_l_FnStands, seqTl, fillParts, f4, f6, f8, f9, f10, f12, f16, f19, fx8, fx9, fx10, v1, v2, v3, hib, hi1, hi2, hts, d1, htips, hcnt, i4, hside, hsd, he', bxx, beq_self_eq_true, ne_eq, not_true_eq_false, decide_true, decide_false, clean_ite, clean_minEsc, Nat.le_add_right, ite_self, List.length_append, Nat.add_assoc, Wp_some, Wp_none, Wp_ite, Wc_some, Wc_none, Wc_ite, Wp_thenRun, seqQ_normal, seqQ_exit, seqQ_ret, Wp_inBlock, blkQ_normal, blkQ_ret, blkQ_same, blkQ_exit, Wp_opThen, opQ_at, Wp_guardP, retQ_normal, retQ_ret, loopQ_normal, loopQ_exit, loopQ_ret, finish_one_eq, finish_one_eq0, finish_two_eq, finish_two_eq0, roots_slice_new, roots_slice_new0, roots_slice_none, roots_ptr_new, roots_ptr_new0, roots_int, roots_bool, roots_str, roots_agg, roots_tup, roots_cons, roots_nil, rename_slice, rename_slice_none, rename_ptr, rename_int, rename_bool, rename_str, rename_agg, rename_tup, rename_cons, rename_nil, keepBlks_nil, keepBlks_cons, flatAll_nil, flatAll_cons, flatBlk_cells, dedup_nil, dedup_one, dedup_two, renum_one, renum_one0, renum_two0, renum_two1, clean_none', clean_some, minEsc_none, minEsc_some, Nat.add_left_cancel_iff, Nat.le_add_right, Nat.le_refl, decide_true, go_sem, entry, joinEsc, if_pos, reduceIte, Nat.reduceAdd, Nat.reduceLeDiff, Nat.reduceLT, Nat.reduceEqDiff]
        try simp
      · have d1 : decide (wr (c + 1) = 1000) = false := decide_eq_false h1000
        by_cases k1 : k = 1
        · subst k1
          have hu := undo_load hv hd h1000
          have hu1 : doOk (rowT ls 1 kx ky) (chainT ss 1 kx ky kz) (baseA a 1 kx) (baseA b 1 ky) (tipsT ls a b t 1 kx ky) (wr (c + 1)) 2 (ls.length : Nat) 0 0 = true := hu.1
          have hu2 : rowT (rowT ls 1 kx ky) 2 (ls.length : Nat) 0 = ls := hu.2
          have hu3 : chainT (chainT ss 1 kx ky kz) 2 (ls.length : Nat) 0 0 = ss := rfl
          have hdo := fun L e (h1 : cellsAt L q3 = some (encL (rowT ls 1 kx ky))) (h2 : cellsAt L q4 = some (encS (chainT ss 1 kx ky kz))) => e_i_DoTask (pr := pr) (H := L) (e := e) hp (c1 := none) (c2 := none) (a := baseA a 1 kx) (b := baseA b 1 ky) (t := tipsT ls a b t 1 kx ky) (c := wr (c + 1)) h1 h2 (by omega) (by omega) 2 (ls.length : Nat) 0 0 hs1
          unfold doRes at hdo
          simp only [hu1, if_true, hu2, hu3] at hdo
          have hvr := fun L e q (h1 : cellsAt L q = some (encL ls)) (h2 : cellsAt L q1 = some (encL ls)) => e_l_vRow (pr := pr) (H := L) (e := e) (c1 := none) (c2 := none) h1 h2 (by omega)
          have hvc := fun L e q (h1 : cellsAt L q = some (encS ss)) (h2 : cellsAt L q2 = some (encS ss)) => e_l_vChain (pr := pr) (H := L) (e := e) (c1 := none) (c2 := none) h1 h2 (by omega)
          simp (maxSteps := 2000000) +contextual only [a_l_FnStands, c_l_FnStands, seqTl, fillParts, f4, f6, f8, f9, f10, f12, f16, f19, fx8, fx9, fx10, v1, v2, v3, hib, hi1, hi2, hts, d1, hdo, hvr, hvc, gx1, gx2, gx3, gx4, htips, hcnt, i4, hside, hsd, he', bxx, beq_self_eq_true, ne_eq, not_true_eq_false, decide_true, decide_false, clean_ite, clean_minEsc, Nat.le_add_right, ite_self, List.length_append, Nat.add_assoc, Wp_some, Wp_none, Wp_ite, Wc_some, Wc_none, Wc_ite, Wp_thenRun, seqQ_normal, seqQ_exit, seqQ_ret, Wp_inBlock, blkQ_normal, blkQ_ret, blkQ_same, blkQ_exit, Wp_opThen, opQ_at, Wp_guardP, retQ_normal, retQ_ret, loopQ_normal, loopQ_exit, loopQ_ret, finish_one_eq, finish_one_eq0, finish_two_eq, finish_two_eq0, roots_slice_new, roots_slice_new0, roots_slice_none, roots_ptr_new, roots_ptr_new0, roots_int, roots_bool, roots_str, roots_agg, roots_tup, roots_cons, roots_nil, rename_slice, rename_slice_none, rename_ptr, rename_int, rename_bool, rename_str, rename_agg, rename_tup, rename_cons, rename_nil, keepBlks_nil, keepBlks_cons, flatAll_nil, flatAll_cons, flatBlk_cells, dedup_nil, dedup_one, dedup_two, renum_one, renum_one0, renum_two0, renum_two1, clean_none', clean_some, minEsc_none, minEsc_some, Nat.add_left_cancel_iff, Nat.le_add_right, Nat.le_refl, decide_true, go_sem, entry, joinEsc, if_pos, reduceIte, Nat.reduceAdd, Nat.reduceLeDiff, Nat.reduceLT, Nat.reduceEqDiff]
          try simp
        · have d2 : decide (k = 1) = false := decide_eq_false k1
          by_cases k5 : k = 5
          · subst k5
            have hu := undo_stage hv hd h1000
            have hu1 : doOk (rowT ls 5 kx ky) (chainT ss 5 kx ky kz) (baseA a 5 kx) (baseA b 5 ky) (tipsT ls a b t 5 kx ky) (wr (c + 1)) 6 (ss.length : Nat) 0 0 = true := hu.1
            have hu2 : rowT (rowT ls 5 kx ky) 6 (ss.length : Nat) 0 = ls := rfl
            have hu3 : chainT (chainT ss 5 kx ky kz) 6 (ss.length : Nat) 0 0 = ss := hu.2
            have hdo := fun L e (h1 : cellsAt L q3 = some (encL (rowT ls 5 kx ky))) (h2 : cellsAt L q4 = some (encS (chainT ss 5 kx ky kz))) => e_i_DoTask (pr := pr) (H := L) (e := e) hp (c1 := none) (c2 := none) (a := baseA a 5 kx) (b := baseA b 5 ky) (t := tipsT ls a b t 5 kx ky) (c := wr (c + 1)) h1 h2 (by omega) (by omega) 6 (ss.length : Nat) 0 0 hs1
            unfold doRes at hdo
            simp only [hu1, if_true, hu2, hu3] at hdo
            have hvr := fun L e q (h1 : cellsAt L q = some (encL ls)) (h2 : cellsAt L q1 = some (encL ls)) => e_l_vRow (pr := pr) (H := L) (e := e) (c1 := none) (c2 := none) h1 h2 (by omega)
            have hvc := fun L e q (h1 : cellsAt L q = some (encS ss)) (h2 : cellsAt L q2 = some (encS ss)) => e_l_vChain (pr := pr) (H := L) (e := e) (c1 := none) (c2 := none) h1 h2 (by omega)
            simp (maxSteps := 2000000) +contextual only [a_l_FnStands, c_l_FnStands, seqTl, fillParts, f4, f6, f8, f9, f10, f12, f16, f19, fx8, fx9, fx10, v1, v2, v3, hib, hi1, hi2, hts, d1, d2, hdo, hvr, hvc, gx1, gx2, gx3, gx4, htips, hcnt, i4, hside, hsd, he', bxx, beq_self_eq_true, ne_eq, not_true_eq_false, decide_true, decide_false, clean_ite, clean_minEsc, Nat.le_add_right, ite_self, List.length_append, Nat.add_assoc, Wp_some, Wp_none, Wp_ite, Wc_some, Wc_none, Wc_ite, Wp_thenRun, seqQ_normal, seqQ_exit, seqQ_ret, Wp_inBlock, blkQ_normal, blkQ_ret, blkQ_same, blkQ_exit, Wp_opThen, opQ_at, Wp_guardP, retQ_normal, retQ_ret, loopQ_normal, loopQ_exit, loopQ_ret, finish_one_eq, finish_one_eq0, finish_two_eq, finish_two_eq0, roots_slice_new, roots_slice_new0, roots_slice_none, roots_ptr_new, roots_ptr_new0, roots_int, roots_bool, roots_str, roots_agg, roots_tup, roots_cons, roots_nil, rename_slice, rename_slice_none, rename_ptr, rename_int, rename_bool, rename_str, rename_agg, rename_tup, rename_cons, rename_nil, keepBlks_nil, keepBlks_cons, flatAll_nil, flatAll_cons, flatBlk_cells, dedup_nil, dedup_one, dedup_two, renum_one, renum_one0, renum_two0, renum_two1, clean_none', clean_some, minEsc_none, minEsc_some, Nat.add_left_cancel_iff, Nat.le_add_right, Nat.le_refl, decide_true, go_sem, entry, joinEsc, if_pos, reduceIte, Nat.reduceAdd, Nat.reduceLeDiff, Nat.reduceLT, Nat.reduceEqDiff]
            try simp
          · have d3 : decide (k = 5) = false := decide_eq_false k5
            simp (maxSteps := 2000000) +contextual only [a_l_FnStands, c_l_FnStands, seqTl, fillParts, f4, f6, f8, f9, f10, f12, f16, f19, fx8, fx9, fx10, v1, v2, v3, hib, hi1, hi2, hts, d1, d2, d3, htips, hcnt, i4, hside, hsd, he', bxx, beq_self_eq_true, ne_eq, not_true_eq_false, decide_true, decide_false, clean_ite, clean_minEsc, Nat.le_add_right, ite_self, List.length_append, Nat.add_assoc, Wp_some, Wp_none, Wp_ite, Wc_some, Wc_none, Wc_ite, Wp_thenRun, seqQ_normal, seqQ_exit, seqQ_ret, Wp_inBlock, blkQ_normal, blkQ_ret, blkQ_same, blkQ_exit, Wp_opThen, opQ_at, Wp_guardP, retQ_normal, retQ_ret, loopQ_normal, loopQ_exit, loopQ_ret, finish_one_eq, finish_one_eq0, finish_two_eq, finish_two_eq0, roots_slice_new, roots_slice_new0, roots_slice_none, roots_ptr_new, roots_ptr_new0, roots_int, roots_bool, roots_str, roots_agg, roots_tup, roots_cons, roots_nil, rename_slice, rename_slice_none, rename_ptr, rename_int, rename_bool, rename_str, rename_agg, rename_tup, rename_cons, rename_nil, keepBlks_nil, keepBlks_cons, flatAll_nil, flatAll_cons, flatBlk_cells, dedup_nil, dedup_one, dedup_two, renum_one, renum_one0, renum_two0, renum_two1, clean_none', clean_some, minEsc_none, minEsc_some, Nat.add_left_cancel_iff, Nat.le_add_right, Nat.le_refl, decide_true, go_sem, entry, joinEsc, if_pos, reduceIte, Nat.reduceAdd, Nat.reduceLeDiff, Nat.reduceLT, Nat.reduceEqDiff]
            try simp

end Go.Proofs.Ytlocjmbfcdfjfaa.Slim

/- Stands: the law on drawn stands, walked. -/
namespace Go.Proofs.Ytlocjmbfcdfjfaa.Slim

open Go

set_option linter.unusedSimpArgs false

set_option linter.unusedVariables false

variable {pr : Prims} {H : List Blk} {e : Option Nat}

def restD : ACode := seqTl (seqTl (seqTl (seqTl (seqTl (seqTl (seqTl (seqTl c_l_FnStands)))))))

set_option maxHeartbeats 8000000 in
theorem stands_tasks (hp : HasDelete pr) {p0 : Option (Nat × Nat)} {s0 n0 : Nat} {c0 : Option Nat} (hc : CodeAt H (.slice p0 s0 n0 c0)) (hn : codeLen (.slice p0 s0 n0 c0) ≤ 65536) {x y : Int} {b4 fine : Bool} {k6 k8 k9 k10 k12 : Nat} {G : List Blk} {e' : Option Nat} {w14 w15 w16 w17 w18 w19 w20 w21 w22 w23 w24 w25 w26 w27 w28 w29 w30 w31 w32 w33 w34 w35 : AV} (he' : clean H.length e' = true) {Q : Ex → St → Prop}
    (hk : ∀ (n : Int) (th : Bool) (k16 k19 : Nat) (X : List Blk) (e' : Option Nat) (S16 S19 w14 w15 w22 w23 w24 w25 w26 w27 w28 w29 w30 w31 w32 w33 w34 w35 : AV), clean H.length e' = true → partOf true (cellsAt (G ++ X) k16) 0 6 = some S16 → partOf true (cellsAt (G ++ X) k19) 0 6 = some S19 → (∀ e, call T pr f_l_vStand [S16, S19] ⟨H ++ (G ++ X), e⟩ = some (.bool true, ⟨H ++ (G ++ X), e⟩)) → (th = true → ∀ e, call T pr f_i_IsStand [S16] ⟨H ++ (G ++ X), e⟩ = some (.bool true, ⟨H ++ (G ++ X), e⟩)) →
      Wp (run T pr restF ⟨[.slice p0 s0 n0 c0, .bool false, .int .i64 x, .int .i64 y, .ptr (some (H.length, 0)), .bool b4, .ptr (some (H.length + k6, 0)), .bool b4, .ptr (some (H.length + k8, 0)), .ptr (some (H.length + k9, 0)), .ptr (some (H.length + k10, 0)), .bool fine, .ptr (some (H.length + k12, 0)), .bool fine, w14, w15, .ptr (some (H.length + k16, 0)), .int .i64 n, .bool th, .ptr (some (H.length + k19, 0)), .int .i64 n, .bool th, w22, w23, w24, w25, w26, w27, w28, w29, w30, w31, w32, w33, w34, w35], ⟨H ++ (G ++ X), e'⟩⟩) Q) :
    Wp (run T pr restD ⟨[.slice p0 s0 n0 c0, .bool false, .int .i64 x, .int .i64 y, .ptr (some (H.length, 0)), .bool b4, .ptr (some (H.length + k6, 0)), .bool b4, .ptr (some (H.length + k8, 0)), .ptr (some (H.length + k9, 0)), .ptr (some (H.length + k10, 0)), .bool fine, .ptr (some (H.length + k12, 0)), .bool fine, w14, w15, w16, w17, w18, w19, w20, w21, w22, w23, w24, w25, w26, w27, w28, w29, w30, w31, w32, w33, w34, w35], ⟨H ++ G, e'⟩⟩) Q := by
  obtain ⟨R, hR⟩ : ∃ R, R = restF := ⟨_, rfl⟩
  have hc2 : restD = .seq (seqHd restD) (.seq (seqHd (seqTl restD)) (.seq (seqHd (seqTl (seqTl restD))) R)) := by rw [hR]; rfl
  rw [hc2]
  simp (maxSteps := 2000000) +contextual only [restD, c_l_FnStands, seqTl, seqHd, Nat.add_assoc, Wp_some, Wp_none, Wp_ite, Wc_some, Wc_none, Wc_ite, Wp_thenRun, seqQ_normal, seqQ_exit, seqQ_ret, Wp_inBlock, blkQ_normal, blkQ_ret, blkQ_same, blkQ_exit, Wp_opThen, opQ_at, Wp_guardP, retQ_normal, retQ_ret, loopQ_normal, loopQ_exit, loopQ_ret, go_sem, entry, joinEsc, if_pos, reduceIte, Nat.reduceAdd, Nat.reduceLeDiff, Nat.reduceLT, Nat.reduceEqDiff]
  refine (wcCut 2 (by omega) (hc.more _) hn).mono ?_
  rintro v m ⟨zs2, rfl, rfl, hz2, hz2'⟩
  simp (maxSteps := 2000000) +contextual only [List.length_append, Nat.add_assoc, Wp_some, Wp_none, Wp_ite, Wc_some, Wc_none, Wc_ite, Wp_thenRun, seqQ_normal, seqQ_exit, seqQ_ret, Wp_inBlock, blkQ_normal, blkQ_ret, blkQ_same, blkQ_exit, Wp_opThen, opQ_at, Wp_guardP, retQ_normal, retQ_ret, loopQ_normal, loopQ_exit, loopQ_ret, go_sem, entry, joinEsc, if_pos, reduceIte, Nat.reduceAdd, Nat.reduceLeDiff, Nat.reduceLT, Nat.reduceEqDiff]
  refine (wc_DrawDoTasks (H := H ++ (G ++ [.cells (zs2.map (AV.int .u8)) true])) (CodeAt.new (H := H) (G := G ++ [.cells (zs2.map (AV.int .u8)) true]) (k := G.length) (zs := zs2) (c := none) (by simp) hz2 hz2')).mono ?_
  rintro v m ⟨⟨ls, ss, a, b, t, c⟩, ts, cap, rfl, hl1, hl2, hl3, rfl⟩
  simp only at hl1 hl2
  have hsm : ∀ s : Sd, s.ok = true → s.ls.length ≤ 12 ∧ s.ss.length ≤ 5 := fun s h => st_small h
  cases hv : stOk ls ss a b t c with
  | false =>
    have hi := fun L e (h1 : cellsAt L (H.length + (G.length + 1)) = some (encL ls)) (h2 : cellsAt L (H.length + (G.length + 2)) = some (encS ss)) => e_i_DoTasks_no (pr := pr) (H := L) (e := e) (c1 := none) (c2 := none) (ct := cap) (qt := H.length + (G.length + 3)) (n := ts.length) h1 h2 (by omega) a b t c hv
    have hs := fun L e (h1 : cellsAt L (H.length + (G.length + 1)) = some (encL ls)) (h2 : cellsAt L (H.length + (G.length + 2)) = some (encS ss)) => e_s_DoTasks_no (pr := pr) (H := L) (e := e) (c1 := none) (c2 := none) (ct := cap) (qt := H.length + (G.length + 3)) (n := ts.length) h1 h2 (by omega) a b t c hv
    rw [opQ_at]
    simp (maxSteps := 2000000) +contextual only [hi, hs, under_sliceN, List.length_append, Nat.add_assoc, Wp_some, Wp_none, Wp_ite, Wc_some, Wc_none, Wc_ite, Wp_thenRun, seqQ_normal, seqQ_exit, seqQ_ret, Wp_inBlock, blkQ_normal, blkQ_ret, blkQ_same, blkQ_exit, Wp_opThen, opQ_at, Wp_guardP, retQ_normal, retQ_ret, loopQ_normal, loopQ_exit, loopQ_ret, go_sem, entry, joinEsc, if_pos, reduceIte, Nat.reduceAdd, Nat.reduceLeDiff, Nat.reduceLT, Nat.reduceEqDiff]
    rw [hR]
    refine hk _ _ _ _ _ _ noStand noStand _ _ _ _ _ _ _ _ _ _ _ _ _ _ _ _ ?_ ?_ ?_ ?_ ?_
    · simp only [clean_ite, clean_minEsc, clean_none', he', Nat.le_add_right, Nat.le_refl, Nat.add_assoc, decide_true, Bool.true_and, ite_self]
    · rw [cellsAt_newk]; rfl
    · rw [cellsAt_newk]; rfl
    · intro e; exact e_l_vStand_none 0 0 0 0
    · intro h; cases h
  | true =>
    have hi := fun L e (h1 : cellsAt L (H.length + (G.length + 1)) = some (encL ls)) (h2 : cellsAt L (H.length + (G.length + 2)) = some (encS ss)) (h3 : cellsAt L (H.length + (G.length + 3)) = some (encT ts)) => e_i_DoTasks (pr := pr) (H := L) (e := e) hp (c1 := none) (c2 := none) (ct := cap) h1 h2 h3 (by omega) a b t c hv
    have hs := fun L e (h1 : cellsAt L (H.length + (G.length + 1)) = some (encL ls)) (h2 : cellsAt L (H.length + (G.length + 2)) = some (encS ss)) (h3 : cellsAt L (H.length + (G.length + 3)) = some (encT ts)) => e_s_DoTasks (pr := pr) (H := L) (e := e) (c1 := none) (c2 := none) (ct := cap) h1 h2 h3 (by omega) a b t c hv
    have hfin := tasksT_ok ts ⟨ls, ss, a, b, t, c⟩ 0 hv
    generalize (tasksT ⟨ls, ss, a, b, t, c⟩ 0 ts).2 = cnt at *
    generalize (tasksT ⟨ls, ss, a, b, t, c⟩ 0 ts).1 = fs at *
    have hfs := hsm fs hfin
    rw [opQ_at]
    simp (maxSteps := 2000000) +contextual only [hi, hs, under_sliceN, List.length_append, Nat.add_assoc, Wp_some, Wp_none, Wp_ite, Wc_some, Wc_none, Wc_ite, Wp_thenRun, seqQ_normal, seqQ_exit, seqQ_ret, Wp_inBlock, blkQ_normal, blkQ_ret, blkQ_same, blkQ_exit, Wp_opThen, opQ_at, Wp_guardP, retQ_normal, retQ_ret, loopQ_normal, loopQ_exit, loopQ_ret, go_sem, entry, joinEsc, if_pos, reduceIte, Nat.reduceAdd, Nat.reduceLeDiff, Nat.reduceLT, Nat.reduceEqDiff]
    rw [hR]
    refine hk _ true _ _ _ _ (stV (slL (H.length + (G.length + 5)) fs.ls.length none) fs.a fs.b (slS (H.length + (G.length + 6)) fs.ss.length none) fs.t fs.c) (stV (slL (H.length + (G.length + 8)) fs.ls.length none) fs.a fs.b (slS (H.length + (G.length + 9)) fs.ss.length none) fs.t fs.c) _ _ _ _ _ _ _ _ _ _ _ _ _ _ _ _ ?_ ?_ ?_ ?_ ?_
    · simp only [clean_ite, clean_minEsc, clean_none', he', Nat.le_add_right, Nat.le_refl, Nat.add_assoc, decide_true, Bool.true_and, ite_self]
    · rw [cellsAt_newk]; rfl
    · rw [cellsAt_newk]; rfl
    · intro e
      exact e_l_vStand fs.a fs.b fs.t fs.c (by rw [cellsAt_newk, cellsAt_newk]; rfl) (by rw [cellsAt_newk, cellsAt_newk]; rfl) (by rw [cellsAt_newk, cellsAt_newk]; rfl) (by rw [cellsAt_newk, cellsAt_newk]; rfl) (by omega) (by omega)
    · intro _ e
      have hfin' : stOk fs.ls fs.ss fs.a fs.b fs.t fs.c = true := hfin
      refine Eq.trans (isStand_at (pr := pr) (e := e) (c1 := none) (c2 := none) (q1 := H.length + (G.length + 5)) (q2 := H.length + (G.length + 6)) (ls := fs.ls) (ss := fs.ss) rfl rfl (by omega) fs.a fs.b fs.t fs.c ?_ ?_) ?_
      · rw [cellsAt_newk, cellsAt_newk]; rfl
      · rw [cellsAt_newk, cellsAt_newk]; rfl
      · rw [hfin']

end Go.Proofs.Ytlocjmbfcdfjfaa.Slim

/- Stands: the law on drawn stands, walked. -/
namespace Go.Proofs.Ytlocjmbfcdfjfaa.Slim

open Go

set_option linter.unusedSimpArgs false

set_option linter.unusedVariables false

variable {pr : Prims} {H : List Blk} {e : Option Nat}

set_option maxHeartbeats 8000000 in
theorem wc_FnStands (hp : HasDelete pr) {p0 : Option (Nat × Nat)} {s0 n0 : Nat} {c0 : Option Nat} (hc0 : n0 ≤ 65536 → CodeAt H (.slice p0 s0 n0 c0)) : Wc (call T pr f_l_FnStands [.slice p0 s0 n0 c0] ⟨H, none⟩) (fun v m => v = .bool true) := by
  rw [call_wc t_l_FnStands]
  obtain ⟨R1, hR1⟩ : ∃ R, R = seqTl (seqTl (seqTl (seqTl (seqTl c_l_FnStands)))) := ⟨_, rfl⟩
  have hcc : c_l_FnStands = .seq (seqHd c_l_FnStands) (.seq (seqHd (seqTl c_l_FnStands)) (.seq (seqHd (seqTl (seqTl c_l_FnStands))) (.seq (seqHd (seqTl (seqTl (seqTl c_l_FnStands)))) (.seq (seqHd (seqTl (seqTl (seqTl (seqTl c_l_FnStands))))) R1)))) := by rw [hR1]; rfl
  have r1 : CodeAt H (.slice p0 s0 n0 c0) → codeLen (.slice p0 s0 n0 c0) ≤ 65536 → ∀ (x y : Int) (b4 : Bool) (k6 : Nat) (G : List Blk) (S4 S6 : AV), (∀ X, partOf true (cellsAt (G ++ X) 0) 0 6 = some S4) → (∀ X, partOf true (cellsAt (G ++ X) k6) 0 6 = some S6) → (∀ L e, call T pr f_l_vStand [S4, S6] ⟨H ++ (G ++ L), e⟩ = some (.bool true, ⟨H ++ (G ++ L), e⟩)) →
      Wp (run T pr R1 ⟨[.slice p0 s0 n0 c0, .bool false, .int .i64 x, .int .i64 y, .ptr (some (H.length, 0)), .bool b4, .ptr (some (H.length + k6, 0)), .bool b4, .undef, .undef, .undef, .undef, .undef, .undef, .undef, .undef, .undef, .undef, .undef, .undef, .undef, .undef, .undef, .undef, .undef, .undef, .undef, .undef, .bool false, .undef, .undef, .undef, .undef, .undef, .undef, .undef], ⟨H ++ G, none⟩⟩) (retQ a_l_FnStands ⟨H, none⟩ fun v m => v = .bool true) := by
    intro hc hn x y b4 k6 G S4 S6 f4 f6 v1
    obtain ⟨R2, hR2⟩ : ∃ R, R = restD := ⟨_, rfl⟩
    have hc2 : R1 = .seq (seqHd R1) (.seq (seqHd (seqTl R1)) (.seq (seqHd (seqTl (seqTl R1))) R2)) := by rw [hR1, hR2]; rfl
    rw [hc2]
    rw [hR1]
    simp (maxSteps := 2000000) +contextual only [c_l_FnStands, seqTl, seqHd, Nat.add_assoc, Wp_some, Wp_none, Wp_ite, Wc_some, Wc_none, Wc_ite, Wp_thenRun, seqQ_normal, seqQ_exit, seqQ_ret, Wp_inBlock, blkQ_normal, blkQ_ret, blkQ_same, blkQ_exit, Wp_opThen, opQ_at, Wp_guardP, retQ_normal, retQ_ret, loopQ_normal, loopQ_exit, loopQ_ret, go_sem, entry, joinEsc, if_pos, reduceIte, Nat.reduceAdd, Nat.reduceLeDiff, Nat.reduceLT, Nat.reduceEqDiff]
    refine (wcCut 1 (by omega) (hc.more _) hn).mono ?_
    rintro v m ⟨zs1, rfl, rfl, hz1, hz1'⟩
    simp (maxSteps := 2000000) +contextual only [Nat.add_assoc, Wp_some, Wp_none, Wp_ite, Wc_some, Wc_none, Wc_ite, Wp_thenRun, seqQ_normal, seqQ_exit, seqQ_ret, Wp_inBlock, blkQ_normal, blkQ_ret, blkQ_same, blkQ_exit, Wp_opThen, opQ_at, Wp_guardP, retQ_normal, retQ_ret, loopQ_normal, loopQ_exit, loopQ_ret, go_sem, entry, joinEsc, if_pos, reduceIte, Nat.reduceAdd, Nat.reduceLeDiff, Nat.reduceLT, Nat.reduceEqDiff]
    refine (wc_DrawDoTask (H := H ++ (G ++ [.cells (zs1.map (AV.int .u8)) true])) (by
      have := CodeAt.new (H := H) (G := G ++ [.cells (zs1.map (AV.int .u8)) true]) (k := G.length) (zs := zs1) (c := none) (by simp) hz1 hz1'
      exact this)).mono ?_
    rintro v m ⟨⟨ls, ss, a, b, t, c⟩, k, kx, ky, kz, rfl, hl1, hl2, rfl⟩
    simp only at hl1 hl2
    have hdi := fun L e (h1 : cellsAt L (H.length + (G.length + 1)) = some (encL ls)) (h2 : cellsAt L (H.length + (G.length + 2)) = some (encS ss)) (hv : stOk ls ss a b t c = true) => e_i_DoTask (pr := pr) (H := L) (e := e) hp (c1 := none) (c2 := none) h1 h2 (by omega) (by omega) k kx ky kz hv
    have hds := fun L e (h1 : cellsAt L (H.length + (G.length + 1)) = some (encL ls)) (h2 : cellsAt L (H.length + (G.length + 2)) = some (encS ss)) (hv : stOk ls ss a b t c = true) => e_s_DoTask (pr := pr) (H := L) (e := e) (c1 := none) (c2 := none) h1 h2 a b t c k kx ky kz hv
    have hin := fun L e (h1 : cellsAt L (H.length + (G.length + 1)) = some (encL ls)) (h2 : cellsAt L (H.length + (G.length + 2)) = some (encS ss)) (hv : stOk ls ss a b t c = false) => e_i_DoTask_no (pr := pr) (H := L) (e := e) (c1 := none) (c2 := none) h1 h2 (by omega) a b t c k kx ky kz hv
    have hsn := fun L e (h1 : cellsAt L (H.length + (G.length + 1)) = some (encL ls)) (h2 : cellsAt L (H.length + (G.length + 2)) = some (encS ss)) (hv : stOk ls ss a b t c = false) => e_s_DoTask_no (pr := pr) (H := L) (e := e) (c1 := none) (c2 := none) h1 h2 (by omega) a b t c k kx ky kz hv
    by_cases hno : stOk ls ss a b t c = true ∧ doOk ls ss a b t c k kx ky kz = true
    · obtain ⟨hv, hd⟩ := hno
      have hdi' := fun L e (h1 : cellsAt L (H.length + (G.length + 1)) = some (encL ls)) (h2 : cellsAt L (H.length + (G.length + 2)) = some (encS ss)) => hdi L e h1 h2 hv
      have hds' := fun L e (h1 : cellsAt L (H.length + (G.length + 1)) = some (encL ls)) (h2 : cellsAt L (H.length + (G.length + 2)) = some (encS ss)) => hds L e h1 h2 hv
      unfold doRes at hdi' hds'
      simp only [hd, if_true] at hdi' hds'
      rw [opQ_at]
      simp (maxSteps := 2000000) +contextual only [hdi', hds', under_sliceN, List.length_append, Nat.add_assoc, Wp_some, Wp_none, Wp_ite, Wc_some, Wc_none, Wc_ite, Wp_thenRun, seqQ_normal, seqQ_exit, seqQ_ret, Wp_inBlock, blkQ_normal, blkQ_ret, blkQ_same, blkQ_exit, Wp_opThen, opQ_at, Wp_guardP, retQ_normal, retQ_ret, loopQ_normal, loopQ_exit, loopQ_ret, go_sem, entry, joinEsc, if_pos, reduceIte, Nat.reduceAdd, Nat.reduceLeDiff, Nat.reduceLT, Nat.reduceEqDiff]
      rw [hR2]
      refine stands_tasks hp hc hn ?_ ?_
      · simp only [clean_ite, clean_minEsc, clean_none', Nat.le_add_right, Nat.le_refl, Nat.add_assoc, decide_true, Bool.true_and, ite_self]
      · intro n th k16 k19 X e' S16 S19 w14 w15 w22 w23 w24 w25 w26 w27 w28 w29 w30 w31 w32 w33 w34 w35 he' f16 f19 v3 i3
        simp only [List.append_assoc] at f16 f19 v3 i3 ⊢
        have hs1 := st_small (show stOk (rowT ls k kx ky) (chainT ss k kx ky kz) (baseA a k kx) (baseA b k ky) (tipsT ls a b t k kx ky) (wr (c + 1)) = true from stepT_ok (s := ⟨ls, ss, a, b, t, c⟩) hv (step_of hd))
        refine stands_yes hp (k4 := 0) (k8 := G.length + 3) (k9 := G.length + 4) (k10 := G.length + 7) (k12 := G.length + 10) (q1 := H.length + (G.length + 1)) (q2 := H.length + (G.length + 2)) (q3 := H.length + (G.length + 5)) (q4 := H.length + (G.length + 6)) (S4 := S4) (S6 := S6) (S12 := stV (slL (H.length + (G.length + 8)) (rowT ls k kx ky).length none) (baseA a k kx) (baseA b k ky) (slS (H.length + (G.length + 9)) (chainT ss k kx ky kz).length none) (tipsT ls a b t k kx ky) (wr (c + 1))) (ls := ls) (ss := ss) (a := a) (b := b) (t := t) (c := c) (k := k) (kx := kx) (ky := ky) (kz := kz) he' (f4 _) (f6 _) ?_ ?_ ?_ ?_ f16 f19 ?_ ?_ ?_ ?_ hv hd (fun e => v1 _ e) (fun e => e_l_vStand _ _ _ _ ?_ ?_ ?_ ?_ (by omega) (by omega)) v3 i3
        · rw [cellsAt_newk]; rfl
        · rw [cellsAt_newk]; rfl
        · rw [cellsAt_newk]; rfl
        · rw [cellsAt_newk]; rfl
        all_goals (rw [cellsAt_newk, cellsAt_newk]; rfl)
    · have hni : ∀ L e, cellsAt L (H.length + (G.length + 1)) = some (encL ls) → cellsAt L (H.length + (G.length + 2)) = some (encS ss) → call T pr f_i_DoTask [stV (slL (H.length + (G.length + 1)) ls.length none) a b (slS (H.length + (G.length + 2)) ss.length none) t c, tkV k kx ky kz] ⟨L, e⟩ = some (.tup [noStand, .bool false], ⟨L, e⟩) := by
        intro L e h1 h2
        cases hv : stOk ls ss a b t c with
        | false => exact hin L e h1 h2 hv
        | true =>
          rw [hdi L e h1 h2 hv]
          have : doOk ls ss a b t c k kx ky kz = false := by
            cases h : doOk ls ss a b t c k kx ky kz
            · rfl
            · exact absurd ⟨hv, h⟩ hno
          unfold doRes
          rw [this, if_neg Bool.false_ne_true]
      have hns : ∀ L e, cellsAt L (H.length + (G.length + 1)) = some (encL ls) → cellsAt L (H.length + (G.length + 2)) = some (encS ss) → call T pr f_s_DoTask [stV (slL (H.length + (G.length + 1)) ls.length none) a b (slS (H.length + (G.length + 2)) ss.length none) t c, tkV k kx ky kz] ⟨L, e⟩ = some (.tup [noStand, .bool false], ⟨L, e⟩) := by
        intro L e h1 h2
        cases hv : stOk ls ss a b t c with
        | false => exact hsn L e h1 h2 hv
        | true =>
          rw [hds L e h1 h2 hv]
          have : doOk ls ss a b t c k kx ky kz = false := by
            cases h : doOk ls ss a b t c k kx ky kz
            · rfl
            · exact absurd ⟨hv, h⟩ hno
          unfold doRes
          rw [this, if_neg Bool.false_ne_true]
      rw [opQ_at]
      simp (maxSteps := 2000000) +contextual only [hni, hns, under_sliceN, List.length_append, Nat.add_assoc, Wp_some, Wp_none, Wp_ite, Wc_some, Wc_none, Wc_ite, Wp_thenRun, seqQ_normal, seqQ_exit, seqQ_ret, Wp_inBlock, blkQ_normal, blkQ_ret, blkQ_same, blkQ_exit, Wp_opThen, opQ_at, Wp_guardP, retQ_normal, retQ_ret, loopQ_normal, loopQ_exit, loopQ_ret, go_sem, entry, joinEsc, if_pos, reduceIte, Nat.reduceAdd, Nat.reduceLeDiff, Nat.reduceLT, Nat.reduceEqDiff]
      rw [hR2]
      refine stands_tasks hp hc hn ?_ ?_
      · simp only [clean_ite, clean_minEsc, clean_none', Nat.le_add_right, Nat.le_refl, Nat.add_assoc, decide_true, Bool.true_and, ite_self]
      · intro n th k16 k19 X e' S16 S19 w14 w15 w22 w23 w24 w25 w26 w27 w28 w29 w30 w31 w32 w33 w34 w35 he' f16 f19 v3 i3
        simp only [List.append_assoc] at f16 f19 v3 i3 ⊢
        refine stands_no (k4 := 0) (k8 := G.length + 3) (k9 := G.length + 4) (k10 := G.length + 5) (k12 := G.length + 6) (S4 := S4) (S6 := S6) (S8 := (stV (slL (H.length + (G.length + 1)) ls.length none) a b (slS (H.length + (G.length + 2)) ss.length none) t c)) (S10 := noStand) (S12 := noStand) (bI := stOk ls ss a b t c) he' (f4 _) (f6 _) ?_ ?_ ?_ f16 f19 (fun e => v1 _ e) (fun e => e_l_vStand_none 0 0 0 0) v3 ?_ ?_ i3
        · rw [cellsAt_newk]; rfl
        · rw [cellsAt_newk]; rfl
        · rw [cellsAt_newk]; rfl
        · intro e
          refine isStand_at (pr := pr) (e := e) (c1 := none) (c2 := none) (ls := ls) (ss := ss) rfl rfl (by omega) a b t c ?_ ?_
          · rw [cellsAt_newk, cellsAt_newk]; rfl
          · rw [cellsAt_newk, cellsAt_newk]; rfl
        · intro e
          refine e_s_IsStand (pr := pr) (e := e) (row := slL (H.length + (G.length + 1)) ls.length none) (chain := slS (H.length + (G.length + 2)) ss.length none) (fun Y => e_s_l2Row (cells_mono ?_ Y)) (fun Y => e_s_l7Stages (cells_mono ?_ Y) (by omega)) a b t c
          · rw [cellsAt_newk, cellsAt_newk]; rfl
          · rw [cellsAt_newk, cellsAt_newk]; rfl
  by_cases hb : 65536 < n0
  · have hb' : decide ((65536 : Int) < ((n0 : Nat) : Int)) = true := decide_eq_true (by omega)
    simp +contextual only [a_l_FnStands, c_l_FnStands, e_l_vBig, hb', Wp_some, Wp_none, Wp_ite, Wc_some, Wc_none, Wc_ite, Wp_thenRun, seqQ_normal, seqQ_exit, seqQ_ret, Wp_inBlock, blkQ_normal, blkQ_ret, blkQ_same, blkQ_exit, Wp_opThen, opQ_at, Wp_guardP, retQ_normal, retQ_ret, loopQ_normal, loopQ_exit, loopQ_ret, finish_one_eq, finish_one_eq0, finish_two_eq, finish_two_eq0, roots_slice_new, roots_slice_new0, roots_slice_none, roots_ptr_new, roots_ptr_new0, roots_int, roots_bool, roots_str, roots_agg, roots_tup, roots_cons, roots_nil, rename_slice, rename_slice_none, rename_ptr, rename_int, rename_bool, rename_str, rename_agg, rename_tup, rename_cons, rename_nil, keepBlks_nil, keepBlks_cons, flatAll_nil, flatAll_cons, flatBlk_cells, dedup_nil, dedup_one, dedup_two, renum_one, renum_one0, renum_two0, renum_two1, clean_none', clean_some, minEsc_none, minEsc_some, Nat.add_left_cancel_iff, Nat.le_add_right, Nat.le_refl, decide_true, go_sem, entry, joinEsc, if_pos, reduceIte, Nat.reduceAdd, Nat.reduceLeDiff, Nat.reduceLT, Nat.reduceEqDiff]
  · have hb' : decide ((65536 : Int) < ((n0 : Nat) : Int)) = false := decide_eq_false (by omega)
    have hc := hc0 (by omega)
    have hn : codeLen (.slice p0 s0 n0 c0) ≤ 65536 := by simp only [codeLen]; omega
    show Wp (run T pr c_l_FnStands _) _
    rw [hcc]
    simp (maxSteps := 2000000) +contextual only [a_l_FnStands, c_l_FnStands, seqTl, seqHd, e_l_vBig, hb', Wp_some, Wp_none, Wp_ite, Wc_some, Wc_none, Wc_ite, Wp_thenRun, seqQ_normal, seqQ_exit, seqQ_ret, Wp_inBlock, blkQ_normal, blkQ_ret, blkQ_same, blkQ_exit, Wp_opThen, opQ_at, Wp_guardP, retQ_normal, retQ_ret, loopQ_normal, loopQ_exit, loopQ_ret, go_sem, entry, joinEsc, if_pos, reduceIte, Nat.reduceAdd, Nat.reduceLeDiff, Nat.reduceLT, Nat.reduceEqDiff]
    refine (wc_DrawNewStand hc).mono ?_
    rintro v m ⟨x, y, rfl, rfl⟩
    have hin := fun L e' => e_i_NewStand (pr := pr) (H := L) (e := e') x y
    cases hba : baseOk x y with
    | false =>
      have hsn := fun L e' => e_s_NewStand_no (pr := pr) (H := L) (e := e') x y hba
      simp only [hba, Bool.false_eq_true, if_false] at hin
      simp (maxSteps := 2000000) +contextual only [hin, hsn, under_slice, under_sliceN, Nat.add_assoc, Wp_some, Wp_none, Wp_ite, Wc_some, Wc_none, Wc_ite, Wp_thenRun, seqQ_normal, seqQ_exit, seqQ_ret, Wp_inBlock, blkQ_normal, blkQ_ret, blkQ_same, blkQ_exit, Wp_opThen, opQ_at, Wp_guardP, retQ_normal, retQ_ret, loopQ_normal, loopQ_exit, loopQ_ret, go_sem, entry, joinEsc, if_pos, reduceIte, Nat.reduceAdd, Nat.reduceLeDiff, Nat.reduceLT, Nat.reduceEqDiff]
      exact r1 hc hn x y _ 1 _ noStand noStand (fun X => rfl) (fun X => rfl) (fun L e => e_l_vStand_none 0 0 0 0)
    | true =>
      have hsn := fun L e' => e_s_NewStand_yes (pr := pr) (H := L) (e := e') x y hba
      simp only [hba, if_true] at hin
      simp (maxSteps := 2000000) +contextual only [hin, hsn, under_slice, under_sliceN, Nat.add_assoc, Nat.add_lt_add_iff_left, Nat.lt_irrefl, decide_true, decide_false, Wp_some, Wp_none, Wp_ite, Wc_some, Wc_none, Wc_ite, Wp_thenRun, seqQ_normal, seqQ_exit, seqQ_ret, Wp_inBlock, blkQ_normal, blkQ_ret, blkQ_same, blkQ_exit, Wp_opThen, opQ_at, Wp_guardP, retQ_normal, retQ_ret, loopQ_normal, loopQ_exit, loopQ_ret, go_sem, entry, joinEsc, if_pos, reduceIte, Nat.reduceAdd, Nat.reduceLeDiff, Nat.reduceLT, Nat.reduceEqDiff]
      exact r1 hc hn x y _ 3 _ (stV (.slice none 0 0 none) x y (.slice none 0 0 none) 0 0) (stV (slL (H.length + 1) 0 none) x y (slS (H.length + 2) 0 none) 0 0) (fun X => rfl) (fun X => rfl) (fun L e => e_l_vStand_none x y 0 0)

theorem law_Stands (hp : HasDelete pr) {av : AV} {zs : List Int} (h : ArgB H av zs) : ∃ m', call T pr f_l_FnStands [av] ⟨H, none⟩ = some (.bool true, m') := by
  obtain ⟨p, sz, n, c, rfl, hc⟩ := h.form
  obtain ⟨v, m, h1, rfl⟩ := wc_FnStands (pr := pr) hp hc
  exact ⟨m, h1⟩

end Go.Proofs.Ytlocjmbfcdfjfaa.Slim
