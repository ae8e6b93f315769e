/- Tasks of a stand: the law of DoTask. -/
import Derived.Test.YtlocjmbfcdfjfaaSlimE51
namespace Go.Proofs.Ytlocjmbfcdfjfaa.Slim

open Go

set_option linter.unusedSimpArgs false

set_option linter.unusedVariables false

variable {pr : Prims} {H : List Blk} {e : Option Nat}

theorem e_l_toTask (k x y z : Int) : call T pr f_l_toTask [tkV k x y z] ⟨H, e⟩ = some (tkV k x y z, ⟨H, e⟩) := by
  rw [call_eq t_l_toTask]
  simp +contextual only [a_l_toTask, c_l_toTask, fillParts, go_sem, entry, joinEsc, if_pos, reduceIte, Nat.reduceAdd, Nat.reduceLeDiff, Nat.reduceLT, Nat.reduceEqDiff]

theorem st_small {ls : List Ld} {ss : List Sg} {a b t c : Int} (h : stOk ls ss a b t c = true) : ls.length ≤ 12 ∧ ss.length ≤ 5 := by
  unfold stOk rowOk chainOk at h
  simp only [Bool.and_eq_true, decide_eq_true_eq] at h
  exact ⟨h.1.1, h.2.1.2⟩

theorem e_s_DoTask_no {q1 q2 : Nat} {c1 c2 : Option Nat} {ls : List Ld} {ss : List Sg} (h1 : cellsAt H q1 = some (encL ls)) (h2 : cellsAt H q2 = some (encS ss)) (hm : ss.length ≤ 1048576) (a b t c k x y z : Int) (hv : stOk ls ss a b t c = false) :
    call T pr f_s_DoTask [stV (slL q1 ls.length c1) a b (slS q2 ss.length c2) t c, tkV k x y z] ⟨H, e⟩ = some (.tup [noStand, .bool false], ⟨H, e⟩) := by
  have hfN : ∀ (G : List Blk) (e0 e1 : Option Nat), clean H.length e1 = true → finish 2 H.length e0 (.tup [noStand, .bool false]) ⟨H ++ G, e1⟩ = some (.tup [noStand, .bool false], ⟨H, e0⟩) :=
    fun G e0 e1 hc => finish_standN 0 0 0 0 false e0 e1 hc
  have hgood := fun G => good_at (pr := pr) (e := none) (c1 := c1) (c2 := c2) (ls := ls) (ss := ss) rfl rfl hm a b t c (cells_mono h1 G) (cells_mono h2 G)
  rw [hv] at hgood
  rw [call_eq t_s_DoTask]
  simp +contextual only [a_s_DoTask, c_s_DoTask, fillParts, hgood, hfN, under_sliceN, clean_minEsc, clean_none, Nat.le_add_right, decide_true, go_sem, entry, joinEsc, if_pos, reduceIte, Nat.reduceAdd, Nat.reduceLeDiff, Nat.reduceLT, Nat.reduceEqDiff]

theorem e_i_DoTask_no {q1 q2 : Nat} {c1 c2 : Option Nat} {ls : List Ld} {ss : List Sg} (h1 : cellsAt H q1 = some (encL ls)) (h2 : cellsAt H q2 = some (encS ss)) (hm : ss.length ≤ 1048576) (a b t c k x y z : Int) (hv : stOk ls ss a b t c = false) :
    call T pr f_i_DoTask [stV (slL q1 ls.length c1) a b (slS q2 ss.length c2) t c, tkV k x y z] ⟨H, e⟩ = some (.tup [noStand, .bool false], ⟨H, e⟩) := by
  have hfN : ∀ (G : List Blk) (e0 e1 : Option Nat), clean H.length e1 = true → finish 2 H.length e0 (.tup [noStand, .bool false]) ⟨H ++ G, e1⟩ = some (.tup [noStand, .bool false], ⟨H, e0⟩) :=
    fun G e0 e1 hc => finish_standN 0 0 0 0 false e0 e1 hc
  have his := fun G => isStand_at (pr := pr) (e := none) (c1 := c1) (c2 := c2) (ls := ls) (ss := ss) rfl rfl hm a b t c (cells_mono h1 G) (cells_mono h2 G)
  rw [hv] at his
  rw [call_eq t_i_DoTask]
  simp +contextual only [a_i_DoTask, c_i_DoTask, fillParts, his, hfN, under_sliceN, clean_minEsc, clean_none, Nat.le_add_right, decide_true, go_sem, entry, joinEsc, if_pos, reduceIte, Nat.reduceAdd, Nat.reduceLeDiff, Nat.reduceLT, Nat.reduceEqDiff]

theorem e_s_DoTask {q1 q2 : Nat} {c1 c2 : Option Nat} {ls : List Ld} {ss : List Sg} (h1 : cellsAt H q1 = some (encL ls)) (h2 : cellsAt H q2 = some (encS ss)) (a b t c k x y z : Int) (hv : stOk ls ss a b t c = true) :
    call T pr f_s_DoTask [stV (slL q1 ls.length c1) a b (slS q2 ss.length c2) t c, tkV k x y z] ⟨H, e⟩ =
      doRes H e (doOk ls ss a b t c k x y z) (rowT ls k x y) (chainT ss k x y z) (baseA a k x) (baseA b k y) (tipsT ls a b t k x y) (wr (c + 1)) := by
  have hs := st_small hv
  have hfN : ∀ (G : List Blk) (e0 e1 : Option Nat), clean H.length e1 = true → finish 2 H.length e0 (.tup [noStand, .bool false]) ⟨H ++ G, e1⟩ = some (.tup [noStand, .bool false], ⟨H, e0⟩) :=
    fun G e0 e1 hc => finish_standN 0 0 0 0 false e0 e1 hc
  have hgood := fun G => good_at (pr := pr) (e := none) (c1 := c1) (c2 := c2) (ls := ls) (ss := ss) rfl rfl (by omega) a b t c (cells_mono h1 G) (cells_mono h2 G)
  rw [hv] at hgood
  have hdo := fun G => e_s_l12Do (pr := pr) (e := none) (H := H ++ G) (c1 := c1) (c2 := c2) (cells_mono h1 G) (cells_mono h2 G) (by omega) (by omega) a b t c k x y z
  unfold doRes at hdo ⊢
  generalize rowT ls k x y = ls' at hdo ⊢
  generalize chainT ss k x y z = ss' at hdo ⊢
  generalize baseA a k x = a' at hdo ⊢
  generalize baseA b k y = b' at hdo ⊢
  generalize tipsT ls a b t k x y = t' at hdo ⊢
  generalize wr (c + 1) = c' at hdo ⊢
  have hf : ∀ (B0 B1 B2 : Blk) (e0 e1 : Option Nat), clean H.length e1 = true → finish 2 H.length e0 (.tup [stV (slL (H.length + 3) ls'.length none) a' b' (slS (H.length + 4) ss'.length none) t' c', .bool true]) ⟨H ++ [B0, B1, B2, .cells (encL ls') true, .cells (encS ss') true], e1⟩ =
      some (.tup [stV (slL H.length ls'.length none) a' b' (slS (H.length + 1) ss'.length none) t' c', .bool true], ⟨H ++ [.cells (encL ls') true, .cells (encS ss') true], e0⟩) :=
    fun B0 B1 B2 e0 e1 hc => finish_standB a' b' t' c' true e0 e1 hc rfl rfl (by decide) (under_encL _ _) (under_encS _ _)
  rw [call_eq t_s_DoTask]
  cases hk : doOk ls ss a b t c k x y z with
  | false =>
    simp only [hk, Bool.false_eq_true, if_false] at hdo
    simp +contextual only [a_s_DoTask, c_s_DoTask, fillParts, hgood, hdo, hfN, under_sliceN, clean_minEsc, clean_none, Nat.le_add_right, decide_true, go_sem, entry, joinEsc, if_pos, reduceIte, Nat.reduceAdd, Nat.reduceLeDiff, Nat.reduceLT, Nat.reduceEqDiff]
  | true =>
    simp only [hk, if_true] at hdo
    simp +contextual only [a_s_DoTask, c_s_DoTask, fillParts, hgood, hdo, hf, under_slice, under_sliceN, Nat.add_assoc, Nat.add_lt_add_iff_left, Nat.lt_irrefl, decide_false, clean_minEsc, clean_none, Nat.le_add_right, Nat.le_refl, decide_true, go_sem, entry, joinEsc, if_pos, reduceIte, Nat.reduceAdd, Nat.reduceLeDiff, Nat.reduceLT, Nat.reduceEqDiff]

theorem law_DoTask (hp : HasDelete pr) {row chain : AV} {ls : List Ld} {ss : List Sg} (ha : ArgL H row ls) (hs : ArgS H chain ss) (a b t k kd x y z : Int) : ∃ m', call T pr f_l_FnExactDoTask [stV row a b chain t k, tkV kd x y z] ⟨H, none⟩ = some (.bool true, m') := by
  refine ⟨⟨H, none⟩, ?_⟩
  have hsz : ∀ G e', call T pr f_l_szStand [stV row a b chain t k, .int .i64 1048576] ⟨G, e'⟩ = some (.int .i64 (if ls.length + ss.length ≤ 1048576 then 1048576 - ((ls.length + ss.length : Nat) : Int) else -1), ⟨G, e'⟩) := by
    obtain ⟨p, sz, c, rfl, h2, h3⟩ := ha
    obtain ⟨p', sz', c', rfl, h2', h3'⟩ := hs
    exact fun G e' => e_l_szStand h2 h2' a b t k
  rw [call_eq t_l_FnExactDoTask]
  by_cases hn : ls.length + ss.length ≤ 1048576
  · have hneg : ¬ (1048576 - ((ls.length + ss.length : Nat) : Int) < 0) := by omega
    have hto := fun G => e_l_toStand (pr := pr) (e := none) (ha.more G) (hs.more G) (by omega) (by omega) a b t k
    have hn1 : ls.length ≤ 1048576 := by omega
    have hm1 : ss.length ≤ 1048576 := by omega
    have heq : ∀ L q1 q2 k1 k2 q3 q4 k3 k4, cellsAt L q1 = some (encL ls) → cellsAt L q2 = some (encL ls) → cellsAt L q3 = some (encS ss) → cellsAt L q4 = some (encS ss) → call T pr f_l_eqStand [stV (slL q1 ls.length k1) a b (slS q3 ss.length k3) t k, stV (slL q2 ls.length k2) a b (slS q4 ss.length k4) t k] ⟨L, none⟩ = some (.bool true, ⟨L, none⟩) :=
      fun L q1 q2 k1 k2 q3 q4 k3 k4 h1 h2 h3 h4 => e_l_eqStand (fun G => e_l_eqLoadS (cells_mono h1 G) (cells_mono h2 G) (by omega)) (fun G => e_l_eqStageS (cells_mono h3 G) (cells_mono h4 G) (by omega)) a b t k
    have hmark : ∀ L q1 q2 c1 c2, q1 ≠ q2 → L[q1]? = some (.cells (encL ls) true) → L[q2]? = some (.cells (encS ss) true) → call T pr f_l_markStand [stV (slL q1 ls.length c1) a b (slS q2 ss.length c2) t k, .int .i64 1] ⟨L, none⟩ = some (.int .i64 ((1 + ls.length * 2 + ss.length * 3 : Nat) : Int), ⟨markMem L q1 q2 ls.length ss.length 1, none⟩) :=
      fun L q1 q2 c1 c2 hne h1 h2 => e_l_markStand h1 h2 hne hn1 hm1 a b t k 1 (by omega)
    have hk0 : ¬ (((1 + ls.length * 2 + ss.length * 3 : Nat) : Int) < 0) := by omega
    have hk0' : ¬ (((1 + (ls.length * 2 + ss.length * 3) : Nat) : Int) < 0) := by omega
    have h10 : ¬ ((1 : Int) < 0) := by omega
    have hno : ∀ (hsi : ∀ L q q' c c', cellsAt L q = some (encL ls) → cellsAt L q' = some (encS ss) → call T pr f_s_DoTask [stV (slL q ls.length c) a b (slS q' ss.length c') t k, tkV kd x y z] ⟨L, none⟩ = some (.tup [noStand, .bool false], ⟨L, none⟩))
        (hii : ∀ L q q' c c', cellsAt L q = some (encL ls) → cellsAt L q' = some (encS ss) → call T pr f_i_DoTask [stV (slL q ls.length c) a b (slS q' ss.length c') t k, tkV kd x y z] ⟨L, none⟩ = some (.tup [noStand, .bool false], ⟨L, none⟩)),
        endCall a_l_FnExactDoTask ⟨H, none⟩ (run T pr a_l_FnExactDoTask.code ⟨entry a_l_FnExactDoTask [stV row a b chain t k, tkV kd x y z], ⟨H, none⟩⟩) = some (.bool true, ⟨H, none⟩) := by
      intro hsi hii
      have heqn := fun L p1 p2 p3 p4 s1 s2 s3 s4 k1 k2 k3 k4 x y z w => e_l_eqStand (pr := pr) (H := L) (e := none) (r1 := .slice p1 s1 0 k1) (r2 := .slice p2 s2 0 k2) (c1 := .slice p3 s3 0 k3) (c2 := .slice p4 s4 0 k4) (fun G => e_l_eqLoadS_none) (fun G => e_l_eqStageS_none) x y z w
      have hheld := fun L p1 p2 s1 s2 c1 c2 x y z w => e_l_heldStand_none (pr := pr) (H := L) (e := none) (p1 := p1) (p2 := p2) (s1 := s1) (s2 := s2) (c1 := c1) (c2 := c2) x y z w 1 (by omega)
      simp +contextual only [a_l_FnExactDoTask, c_l_FnExactDoTask, hsz, hn, hneg, hto, e_l_toTask, hsi, hii, heq, heqn, hheld, e_l_markStand_none, hmark, hk0, hk0', h10, markMem_new, ne_eq, Nat.add_right_inj, Nat.add_left_cancel_iff, Nat.reduceEqDiff, not_false_eq_true, under_slice, under_sliceN, Nat.add_assoc, Nat.add_lt_add_iff_left, Nat.lt_add_right_iff_pos, decide_true, decide_false, beq_self_eq_true, go_sem, entry, joinEsc, if_pos, reduceIte, Nat.reduceAdd, Nat.reduceLeDiff, Nat.reduceLT, Nat.reduceEqDiff]
    cases hv : stOk ls ss a b t k with
    | false =>
      exact hno (fun L q q' c c' h1 h2 => e_s_DoTask_no h1 h2 hm1 a b t k kd x y z hv) (fun L q q' c c' h1 h2 => e_i_DoTask_no h1 h2 hm1 a b t k kd x y z hv)
    | true =>
      have hsm := st_small hv
      cases hd : doOk ls ss a b t k kd x y z with
      | false =>
        refine hno (fun L q q' c c' h1 h2 => ?_) (fun L q q' c c' h1 h2 => ?_)
        · rw [e_s_DoTask h1 h2 a b t k kd x y z hv, hd]; rfl
        · rw [e_i_DoTask hp h1 h2 (by omega) (by omega) kd x y z hv, hd]; rfl
      | true =>
        have hsi := fun L q q' c c' h1 h2 => e_s_DoTask (pr := pr) (H := L) (e := none) (q1 := q) (q2 := q') (c1 := c) (c2 := c') (ls := ls) (ss := ss) h1 h2 a b t k kd x y z hv
        have hii := fun L q q' c c' h1 h2 => e_i_DoTask (pr := pr) (H := L) (e := none) hp (q1 := q) (q2 := q') (c1 := c) (c2 := c') (ls := ls) (ss := ss) h1 h2 (by omega) (by omega) kd x y z hv
        simp only [hd, doRes, if_true] at hsi hii
        have hr1 := rowT_length ls kd x y
        have hc1 := chainT_length ss kd x y z
        generalize rowT ls kd x y = ls' at hsi hii hr1
        generalize chainT ss kd x y z = ss' at hsi hii hc1
        generalize baseA a kd x = a' at hsi hii
        generalize baseA b kd y = b' at hsi hii
        generalize tipsT ls a b t kd x y = t' at hsi hii
        generalize wr (k + 1) = c' at hsi hii
        have heqr : ∀ L q1 q2 k1 k2 q3 q4 k3 k4, cellsAt L q1 = some (encL ls') → cellsAt L q2 = some (encL ls') → cellsAt L q3 = some (encS ss') → cellsAt L q4 = some (encS ss') → call T pr f_l_eqStand [stV (slL q1 ls'.length k1) a' b' (slS q3 ss'.length k3) t' c', stV (slL q2 ls'.length k2) a' b' (slS q4 ss'.length k4) t' c'] ⟨L, none⟩ = some (.bool true, ⟨L, none⟩) :=
          fun L q1 q2 k1 k2 q3 q4 k3 k4 h1 h2 h3 h4 => e_l_eqStand (fun G => e_l_eqLoadS (cells_mono h1 G) (cells_mono h2 G) (by omega)) (fun G => e_l_eqStageS (cells_mono h3 G) (cells_mono h4 G) (by omega)) a' b' t' c'
        have hmarkr : ∀ L q1 q2 c1 c2, q1 ≠ q2 → L[q1]? = some (.cells (encL ls') true) → L[q2]? = some (.cells (encS ss') true) → call T pr f_l_markStand [stV (slL q1 ls'.length c1) a' b' (slS q2 ss'.length c2) t' c', .int .i64 1] ⟨L, none⟩ = some (.int .i64 ((1 + ls'.length * 2 + ss'.length * 3 : Nat) : Int), ⟨markMem L q1 q2 ls'.length ss'.length 1, none⟩) :=
          fun L q1 q2 c1 c2 hne h1 h2 => e_l_markStand h1 h2 hne (by omega) (by omega) a' b' t' c' 1 (by omega)
        have hheld : ∀ L q1 q2 c1 c2, cellsAt L q1 = some (encL (markedL 1 ls'.length)) → cellsAt L q2 = some (encS (markedS (1 + ls'.length * 2) ss'.length)) → call T pr f_l_heldStand [stV (slL q1 ls'.length c1) a' b' (slS q2 ss'.length c2) t' c', .int .i64 1] ⟨L, none⟩ = some (.int .i64 ((1 + ls'.length * 2 + ss'.length * 3 : Nat) : Int), ⟨L, none⟩) :=
          fun L q1 q2 c1 c2 h1 h2 => e_l_heldStand (x := 1) h1 h2 (by omega) (by omega) a' b' t' c' (by omega)
        have hk1 : ¬ (((1 + ls'.length * 2 + ss'.length * 3 : Nat) : Int) < 0) := by omega
        have hk1' : ¬ (((1 + (ls'.length * 2 + ss'.length * 3) : Nat) : Int) < 0) := by omega
        simp +contextual only [a_l_FnExactDoTask, c_l_FnExactDoTask, hsz, hn, hneg, hto, e_l_toTask, hsi, hii, heq, heqr, hheld, hmarkr, hmark, hk0, hk0', hk1, hk1', h10, markMem_new, ne_eq, Nat.add_right_inj, Nat.add_left_cancel_iff, Nat.reduceEqDiff, not_false_eq_true, under_slice, under_sliceN, Nat.add_assoc, Nat.add_lt_add_iff_left, Nat.lt_add_right_iff_pos, decide_true, decide_false, beq_self_eq_true, go_sem, entry, joinEsc, if_pos, reduceIte, Nat.reduceAdd, Nat.reduceLeDiff, Nat.reduceLT, Nat.reduceEqDiff]
  · simp +contextual only [a_l_FnExactDoTask, c_l_FnExactDoTask, hsz, hn, decide_true, show ((-1 : Int) < 0) by omega, go_sem, entry, joinEsc, if_pos, reduceIte, Nat.reduceAdd, Nat.reduceLeDiff, Nat.reduceLT, Nat.reduceEqDiff]

end Go.Proofs.Ytlocjmbfcdfjfaa.Slim
