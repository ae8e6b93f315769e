/- Rafts: the law on safe orders. -/
import Derived.Test.YtlcklonakjhoiaaSlimZ11
/- Rafts: the law on safe orders. -/
namespace Go.Proofs.Ytlcklonakjhoiaa.Slim

open Go

set_option linter.unusedSimpArgs false

set_option linter.unusedVariables false

variable {pr : Prims} {H : List Blk} {e : Option Nat}

theorem own_facts {a b o : Int} {ls : List Ld} (hcg : cargoOk a b o ls = true) : (0 < (waysW a b o ls).getD 0 0 → 0 < ownF (ownG a b ls) 99 1 ∧ ((ownF (ownG a b ls) 99 1 : Nat) : Int) ≤ o) ∧ (¬ 0 < (waysW a b o ls).getD 0 0 → 0 < ownF (ownG a b ls) 99 1 → ¬ ((ownF (ownG a b ls) 99 1 : Nat) : Int) ≤ o) := by
  obtain ⟨h1, h2, h3, h4, h5, h6, h7⟩ := cargo_facts hcg
  obtain ⟨q, rfl⟩ : ∃ q : Nat, o = q := ⟨o.toNat, by omega⟩
  obtain ⟨f1, f2⟩ := ownF_facts (ownG a b ls) 99 1 (by omega)
  generalize ownF (ownG a b ls) 99 1 = n at *
  constructor
  · intro hp
    have hg : ownG a b ls q = true := decide_eq_true hp
    have hn : 0 < n := by
      apply Nat.pos_of_ne_zero
      intro h0
      have := f1 h0 q (by omega) (by omega)
      rw [hg] at this
      cases this
    obtain ⟨_, _, _, g4⟩ := f2 hn
    refine ⟨hn, ?_⟩
    apply Int.le_of_not_gt
    intro hlt
    have := g4 q (by omega) (by omega)
    rw [hg] at this
    cases this
  · intro hp hn hle
    obtain ⟨g1, g2, g3, _⟩ := f2 hn
    have hgn : 0 < (waysW a b (n : Int) ls).getD 0 0 := of_decide_eq_true g1
    have hcn := cargo_own hcg (p := (n : Int)) (by omega) (by omega)
    have := ways_own hcn (p := (q : Int)) (by omega) (by omega)
    omega

theorem so_yes {w0 w6 w7 w10 w11 w13 w14 w15 w18 w19 w21 w22 w23 w24 w25 w26 w27 w28 w29 w30 w31 w32 w33 w34 w35 w36 w37 w38 w39 w40 w41 w42 w43 w44 w45 w46 w47 w48 w49 w50 w51 w52 w53 w54 w55 w56 w57 w58 w59 w60 w61 w62 : AV} {m0 : Mem} {q q1 q2 u : Nat} {c c1 c2 : Option Nat} {ls : List Ld} {a b o s : Int} {L : List Blk} (hq : cellsAt L q = some (encL ls)) (hu : cellsAt L u = some [.int .i64 a, .int .i64 b, .int .i64 o]) (hcan : canW a b o ls = true) (hq1 : cellsAt L q1 = some (encI (soW a b o ls))) (hq2 : cellsAt L q2 = some (encI (uoW a b o ls))) (hs1 : s ≤ ls.length) (hs2 : (ls.length : Int) ≤ 2 * s) :
    Wp (run T pr (seqTl (seqTl (seqTl (seqTl (seqTl (seqTl (seqTl (seqTl (seqTl (seqTl (seqTl (seqTl (seqTl (seqTl (seqTl (seqTl (seqTl (seqTl c_l_FnSafeOrders)))))))))))))))))) ⟨[w0, .bool false, .ptr (some (u, 0)), slL q ls.length c, slI q1 (soW a b o ls).length c1, .bool true, w6, w7, .int .i64 ((waysW a b o ls).getD 0 0), .bool true, w10, w11, slI q2 (uoW a b o ls).length c2, w13, w14, w15, .int .i64 ((ownF (ownG a b ls) 99 1 : Nat) : Int), .bool (decide (0 < ownF (ownG a b ls) 99 1)), w18, w19, .int .i64 s, w21, w22, w23, w24, w25, w26, w27, w28, w29, w30, w31, w32, w33, w34, w35, w36, w37, w38, w39, w40, w41, w42, w43, w44, w45, w46, w47, w48, w49, w50, w51, w52, w53, w54, w55, w56, w57, w58, w59, w60, w61, w62], ⟨L, none⟩⟩) (retQ a_l_FnSafeOrders m0 fun v m => v = .bool true) := by
  have hcg := (Bool.and_eq_true_iff.mp hcan).1
  have hn8 := cargo_le hcg
  have hpow := Nat.two_pow_pos ls.length
  have hpos : 0 < (waysW a b o ls).getD 0 0 := by
    have h1 := (waysW_good (a := a) (b := b) (o := o) hn8 0 hpow).1
    have h2 := (Bool.and_eq_true_iff.mp hcan).2
    have h3 : ¬ (waysW a b o ls).getD 0 0 = 0 := by simpa using h2
    omega
  obtain ⟨o1, o2⟩ := (own_facts hcg).1 hpos
  obtain ⟨k1, k2, k3, k4, k5, _, _⟩ := cargo_facts hcg
  have hmono := ways_own hcg (p := 99) (by omega) (by omega)
  have hcn := fun G => e_i_CountSafe (pr := pr) (e := none) (c := c) (cells_mono hq G) a b 99
  unfold countT at hcn
  rw [cargo_own hcg (by omega) (by omega), if_pos rfl] at hcn
  have hnl : ¬ (waysW a b 99 ls).getD 0 0 < (waysW a b o ls).getD 0 0 := by omega
  have hend := fun X (z0 z5 z6 z7 z8 z9 z10 z11 z13 z14 z15 z16 z17 z18 z19 z21 z22 z23 z24 z25 z26 z27 z28 z29 z30 z31 z32 z33 z34 z35 z36 z37 z38 z39 z40 z41 z42 z43 z44 z45 z46 z47 z48 z49 z50 z51 z52 z53 z54 z55 z56 z57 z58 z59 z60 z61 z62 : AV) => so_end (pr := pr) (w0 := z0) (w5 := z5) (w6 := z6) (w7 := z7) (w8 := z8) (w9 := z9) (w10 := z10) (w11 := z11) (w13 := z13) (w14 := z14) (w15 := z15) (w16 := z16) (w17 := z17) (w18 := z18) (w19 := z19) (w21 := z21) (w22 := z22) (w23 := z23) (w24 := z24) (w25 := z25) (w26 := z26) (w27 := z27) (w28 := z28) (w29 := z29) (w30 := z30) (w31 := z31) (w32 := z32) (w33 := z33) (w34 := z34) (w35 := z35) (w36 := z36) (w37 := z37) (w38 := z38) (w39 := z39) (w40 := z40) (w41 := z41) (w42 := z42) (w43 := z43) (w44 := z44) (w45 := z45) (w46 := z46) (w47 := z47) (w48 := z48) (w49 := z49) (w50 := z50) (w51 := z51) (w52 := z52) (w53 := z53) (w54 := z54) (w55 := z55) (w56 := z56) (w57 := z57) (w58 := z58) (w59 := z59) (w60 := z60) (w61 := z61) (w62 := z62) (m0 := m0) (q := q) (q1 := q1) (q2 := q2) (u := u) (c := c) (c1 := c1) (c2 := c2) (s := s) (cells_mono hq X) (cells_mono hu X) hcan (cells_mono hq1 X) (cells_mono hq2 X) hs1 hs2
  obtain ⟨R, hR⟩ : ∃ R, R = (seqTl (seqTl (seqTl (seqTl (seqTl (seqTl (seqTl (seqTl (seqTl (seqTl (seqTl (seqTl (seqTl (seqTl (seqTl (seqTl (seqTl (seqTl (seqTl (seqTl c_l_FnSafeOrders)))))))))))))))))))) := ⟨_, rfl⟩
  rw [← hR] at hend
  have hc : (seqTl (seqTl (seqTl (seqTl (seqTl (seqTl (seqTl (seqTl (seqTl (seqTl (seqTl (seqTl (seqTl (seqTl (seqTl (seqTl (seqTl (seqTl c_l_FnSafeOrders)))))))))))))))))) = .seq (seqHd (seqTl (seqTl (seqTl (seqTl (seqTl (seqTl (seqTl (seqTl (seqTl (seqTl (seqTl (seqTl (seqTl (seqTl (seqTl (seqTl (seqTl (seqTl c_l_FnSafeOrders))))))))))))))))))) (.seq (seqHd (seqTl (seqTl (seqTl (seqTl (seqTl (seqTl (seqTl (seqTl (seqTl (seqTl (seqTl (seqTl (seqTl (seqTl (seqTl (seqTl (seqTl (seqTl (seqTl c_l_FnSafeOrders)))))))))))))))))))) R) := by rw [hR]; rfl
  rw [hc]
  simp (maxSteps := 2000000) +contextual only [c_l_FnSafeOrders, seqTl, seqHd, fillParts, hu, hcn, hnl, o1, o2, beq_self_eq_true, decide_true, decide_false, Wp_some, Wp_none, Wp_ite, Wc_some, Wc_none, Wc_ite, Wp_thenRun, seqQ_normal, seqQ_exit, seqQ_ret, Wp_inBlock, blkQ_normal, blkQ_ret, blkQ_same, blkQ_exit, Wp_opThen, opQ_at, Wp_guardP, retQ_normal, retQ_ret, loopQ_normal, loopQ_exit, loopQ_ret, go_sem, entry, joinEsc, if_pos, reduceIte, Nat.reduceAdd, Nat.reduceLeDiff, Nat.reduceLT, Nat.reduceEqDiff]
  exact hend _ _ _ _ _ _ _ _ _ _ _ _ _ _ _ _ _ _ _ _ _ _ _ _ _ _ _ _ _ _ _ _ _ _ _ _ _ _ _ _ _ _ _ _ _ _ _ _ _ _ _ _ _ _ _ _ _ _

theorem so_no {w0 w4 w6 w7 w10 w11 w12 w13 w14 w15 w18 w19 w20 w21 w22 w23 w24 w25 w26 w27 w28 w29 w30 w31 w32 w33 w34 w35 w36 w37 w38 w39 w40 w41 w42 w43 w44 w45 w46 w47 w48 w49 w50 w51 w52 w53 w54 w55 w56 w57 w58 w59 w60 w61 w62 : AV} {m0 : Mem} {q u : Nat} {c : Option Nat} {ls : List Ld} {a b o cnt own : Int} {one three : Bool} {L : List Blk} (hq : cellsAt L q = some (encL ls)) (hu : cellsAt L u = some [.int .i64 a, .int .i64 b, .int .i64 o]) (hcan : canW a b o ls = false) (h1 : one = cargoOk a b o ls) (h2 : one = true → cnt = (waysW a b o ls).getD 0 0 ∧ own = ((ownF (ownG a b ls) 99 1 : Nat) : Int) ∧ three = decide (0 < ownF (ownG a b ls) 99 1)) :
    Wp (run T pr (seqTl (seqTl (seqTl (seqTl (seqTl (seqTl (seqTl (seqTl (seqTl (seqTl (seqTl (seqTl (seqTl (seqTl (seqTl (seqTl (seqTl (seqTl c_l_FnSafeOrders)))))))))))))))))) ⟨[w0, .bool false, .ptr (some (u, 0)), slL q ls.length c, w4, .bool false, w6, w7, .int .i64 cnt, .bool one, w10, w11, w12, w13, w14, w15, .int .i64 own, .bool three, w18, w19, w20, w21, w22, w23, w24, w25, w26, w27, w28, w29, w30, w31, w32, w33, w34, w35, w36, w37, w38, w39, w40, w41, w42, w43, w44, w45, w46, w47, w48, w49, w50, w51, w52, w53, w54, w55, w56, w57, w58, w59, w60, w61, w62], ⟨L, none⟩⟩) (retQ a_l_FnSafeOrders m0 fun v m => v = .bool true) := by
  cases one with
  | false => simp (maxSteps := 2000000) +contextual only [a_l_FnSafeOrders, c_l_FnSafeOrders, seqTl, fin_true, Wp_some, Wp_none, Wp_ite, Wc_some, Wc_none, Wc_ite, Wp_thenRun, seqQ_normal, seqQ_exit, seqQ_ret, Wp_inBlock, blkQ_normal, blkQ_ret, blkQ_same, blkQ_exit, Wp_opThen, opQ_at, Wp_guardP, retQ_normal, retQ_ret, loopQ_normal, loopQ_exit, loopQ_ret, go_sem, entry, joinEsc, if_pos, reduceIte, Nat.reduceAdd, Nat.reduceLeDiff, Nat.reduceLT, Nat.reduceEqDiff]
  | true =>
    obtain ⟨rfl, rfl, rfl⟩ := h2 rfl
    have hcg := h1.symm
    have hn8 := cargo_le hcg
    have hnp : ¬ 0 < (waysW a b o ls).getD 0 0 := by
      have h3 : (waysW a b o ls).getD 0 0 = 0 := by
        unfold canW at hcan
        rw [hcg, Bool.true_and] at hcan
        simpa using hcan
      omega
    by_cases hn : 0 < ownF (ownG a b ls) 99 1
    · have ho := (own_facts hcg).2 hnp hn
      obtain ⟨k1, k2, k3, k4, k5, _, _⟩ := cargo_facts hcg
      have hmono := ways_own hcg (p := 99) (by omega) (by omega)
      have hcn := fun G => e_i_CountSafe (pr := pr) (e := none) (c := c) (cells_mono hq G) a b 99
      unfold countT at hcn
      rw [cargo_own hcg (by omega) (by omega), if_pos rfl] at hcn
      have hnl : ¬ (waysW a b 99 ls).getD 0 0 < (waysW a b o ls).getD 0 0 := by omega
      simp (maxSteps := 2000000) +contextual only [a_l_FnSafeOrders, c_l_FnSafeOrders, seqTl, fillParts, hu, hcn, hnl, hn, ho, fin_true, beq_self_eq_true, decide_true, decide_false, Wp_some, Wp_none, Wp_ite, Wc_some, Wc_none, Wc_ite, Wp_thenRun, seqQ_normal, seqQ_exit, seqQ_ret, Wp_inBlock, blkQ_normal, blkQ_ret, blkQ_same, blkQ_exit, Wp_opThen, opQ_at, Wp_guardP, retQ_normal, retQ_ret, loopQ_normal, loopQ_exit, loopQ_ret, go_sem, entry, joinEsc, if_pos, reduceIte, Nat.reduceAdd, Nat.reduceLeDiff, Nat.reduceLT, Nat.reduceEqDiff]
    · simp (maxSteps := 2000000) +contextual only [a_l_FnSafeOrders, c_l_FnSafeOrders, seqTl, hn, fin_true, decide_true, decide_false, Wp_some, Wp_none, Wp_ite, Wc_some, Wc_none, Wc_ite, Wp_thenRun, seqQ_normal, seqQ_exit, seqQ_ret, Wp_inBlock, blkQ_normal, blkQ_ret, blkQ_same, blkQ_exit, Wp_opThen, opQ_at, Wp_guardP, retQ_normal, retQ_ret, loopQ_normal, loopQ_exit, loopQ_ret, go_sem, entry, joinEsc, if_pos, reduceIte, Nat.reduceAdd, Nat.reduceLeDiff, Nat.reduceLT, Nat.reduceEqDiff]

/-- the part on next steps -/
theorem so_mid {w2 w3 w4 w5 w6 w7 w8 w9 w10 w11 w12 w13 w14 w15 w16 w17 w18 w19 w20 w21 w22 w23 w24 w25 w26 w27 w28 w29 w30 w31 w32 w33 w34 w35 w36 w37 w38 w39 w40 w41 w42 w43 w44 w45 w46 w47 w48 w49 w50 w51 w52 w53 w54 w55 w56 w57 w58 w59 w60 w61 w62 : AV} {m0 : Mem} {p0 : Option (Nat × Nat)} {s0 n0 : Nat} {c0 : Option Nat} {L : List Blk} (hc : CodeAt L (.slice p0 s0 n0 c0)) {Q : Ex → St → Prop}
    (hK : ∀ (G : List Blk) (z28 z29 z30 z31 z32 z33 z34 z55 : AV), Wp (run T pr (seqTl (seqTl (seqTl (seqTl (seqTl (seqTl (seqTl (seqTl (seqTl (seqTl (seqTl (seqTl (seqTl (seqTl (seqTl (seqTl (seqTl (seqTl c_l_FnSafeOrders)))))))))))))))))) ⟨[.slice p0 s0 n0 c0, .bool false, w2, w3, w4, w5, w6, w7, w8, w9, w10, w11, w12, w13, w14, w15, w16, w17, w18, w19, w20, w21, w22, w23, w24, w25, w26, w27, z28, z29, z30, z31, z32, z33, z34, w35, w36, w37, w38, w39, w40, w41, w42, w43, w44, w45, w46, w47, w48, w49, w50, w51, w52, w53, w54, z55, w56, w57, w58, w59, w60, w61, w62], ⟨L ++ G, none⟩⟩) Q) :
    Wp (run T pr (seqTl (seqTl (seqTl (seqTl (seqTl (seqTl (seqTl (seqTl (seqTl (seqTl (seqTl (seqTl (seqTl (seqTl (seqTl c_l_FnSafeOrders))))))))))))))) ⟨[.slice p0 s0 n0 c0, .bool false, w2, w3, w4, w5, w6, w7, w8, w9, w10, w11, w12, w13, w14, w15, w16, w17, w18, w19, w20, w21, w22, w23, w24, w25, w26, w27, w28, w29, w30, w31, w32, w33, w34, w35, w36, w37, w38, w39, w40, w41, w42, w43, w44, w45, w46, w47, w48, w49, w50, w51, w52, w53, w54, w55, w56, w57, w58, w59, w60, w61, w62], ⟨L, none⟩⟩) Q := by
  obtain ⟨R, hR⟩ : ∃ R, R = (seqTl (seqTl (seqTl (seqTl (seqTl (seqTl (seqTl (seqTl (seqTl (seqTl (seqTl (seqTl (seqTl (seqTl (seqTl (seqTl (seqTl (seqTl c_l_FnSafeOrders)))))))))))))))))) := ⟨_, rfl⟩
  rw [← hR] at hK
  have hcc : (seqTl (seqTl (seqTl (seqTl (seqTl (seqTl (seqTl (seqTl (seqTl (seqTl (seqTl (seqTl (seqTl (seqTl (seqTl c_l_FnSafeOrders))))))))))))))) = .seq (seqHd (seqTl (seqTl (seqTl (seqTl (seqTl (seqTl (seqTl (seqTl (seqTl (seqTl (seqTl (seqTl (seqTl (seqTl (seqTl c_l_FnSafeOrders)))))))))))))))) (.seq (seqHd (seqTl (seqTl (seqTl (seqTl (seqTl (seqTl (seqTl (seqTl (seqTl (seqTl (seqTl (seqTl (seqTl (seqTl (seqTl (seqTl c_l_FnSafeOrders))))))))))))))))) (.seq (seqHd (seqTl (seqTl (seqTl (seqTl (seqTl (seqTl (seqTl (seqTl (seqTl (seqTl (seqTl (seqTl (seqTl (seqTl (seqTl (seqTl (seqTl c_l_FnSafeOrders)))))))))))))))))) R)) := by rw [hR]; rfl
  rw [hcc]
  simp (maxSteps := 2000000) +contextual only [c_l_FnSafeOrders, seqTl, seqHd, Wp_some, Wp_none, Wp_ite, Wc_some, Wc_none, Wc_ite, Wp_thenRun, seqQ_normal, seqQ_exit, seqQ_ret, Wp_inBlock, blkQ_normal, blkQ_ret, blkQ_same, blkQ_exit, Wp_opThen, opQ_at, Wp_guardP, retQ_normal, retQ_ret, loopQ_normal, loopQ_exit, loopQ_ret, go_sem, entry, joinEsc, if_pos, reduceIte, Nat.reduceAdd, Nat.reduceLeDiff, Nat.reduceLT, Nat.reduceEqDiff]
  refine (wc_DrawSafeStep hc).mono ?_
  rintro v m ⟨a, b, o, ls, os, c1, c2, rfl, hn1, hn2, rfl⟩
  simp (maxSteps := 2000000) +contextual only [Nat.add_assoc, Wp_some, Wp_none, Wp_ite, Wc_some, Wc_none, Wc_ite, Wp_thenRun, seqQ_normal, seqQ_exit, seqQ_ret, Wp_inBlock, blkQ_normal, blkQ_ret, blkQ_same, blkQ_exit, Wp_opThen, opQ_at, Wp_guardP, retQ_normal, retQ_ret, loopQ_normal, loopQ_exit, loopQ_ret, go_sem, entry, joinEsc, if_pos, reduceIte, Nat.reduceAdd, Nat.reduceLeDiff, Nat.reduceLT, Nat.reduceEqDiff]
  cases hS : canS a b o ls os with
  | false =>
    have hi := fun G => e_i_SafeStep_no (pr := pr) (H := L ++ (.cells (encL ls) true :: .cells (encI os) true :: G)) (e := none) (q := L.length) (q' := L.length + 1) (c := c1) (c' := c2) (ls := ls) (os := os) (by simp +contextual only [go_sem, entry, joinEsc, if_pos, reduceIte, Nat.reduceAdd, Nat.reduceLeDiff, Nat.reduceLT, Nat.reduceEqDiff]) (by omega) (by simp +contextual only [go_sem, entry, joinEsc, if_pos, reduceIte, Nat.reduceAdd, Nat.reduceLeDiff, Nat.reduceLT, Nat.reduceEqDiff]) (by omega) a b o hS
    have hs := fun G => e_s_SafeStep_no (pr := pr) (H := L ++ (.cells (encL ls) true :: .cells (encI os) true :: G)) (e := none) (q := L.length) (q' := L.length + 1) (c := c1) (c' := c2) (ls := ls) (os := os) (by simp +contextual only [go_sem, entry, joinEsc, if_pos, reduceIte, Nat.reduceAdd, Nat.reduceLeDiff, Nat.reduceLT, Nat.reduceEqDiff]) (by simp +contextual only [go_sem, entry, joinEsc, if_pos, reduceIte, Nat.reduceAdd, Nat.reduceLeDiff, Nat.reduceLT, Nat.reduceEqDiff]) (by omega) a b o hS
    simp (maxSteps := 2000000) +contextual only [hi, hs, e_l_rInts_none, beq_self_eq_true, Nat.add_assoc, decide_true, Wp_some, Wp_none, Wp_ite, Wc_some, Wc_none, Wc_ite, Wp_thenRun, seqQ_normal, seqQ_exit, seqQ_ret, Wp_inBlock, blkQ_normal, blkQ_ret, blkQ_same, blkQ_exit, Wp_opThen, opQ_at, Wp_guardP, retQ_normal, retQ_ret, loopQ_normal, loopQ_exit, loopQ_ret, go_sem, entry, joinEsc, if_pos, reduceIte, Nat.reduceAdd, Nat.reduceLeDiff, Nat.reduceLT, Nat.reduceEqDiff]
    exact hK _ _ _ _ _ _ _ _ _
  | true =>
    obtain ⟨cap1, hi⟩ := e_i_SafeStep (pr := pr) (H := L ++ [.cells (encL ls) true, .cells (encI os) true, .cells [.int .i64 a, .int .i64 b, .int .i64 o] true]) (e := none) (q := L.length) (q' := L.length + 1) (c := c1) (c' := c2) (ls := ls) (os := os) (by simp +contextual only [go_sem, entry, joinEsc, if_pos, reduceIte, Nat.reduceAdd, Nat.reduceLeDiff, Nat.reduceLT, Nat.reduceEqDiff]) (by simp +contextual only [go_sem, entry, joinEsc, if_pos, reduceIte, Nat.reduceAdd, Nat.reduceLeDiff, Nat.reduceLT, Nat.reduceEqDiff]) (by omega) a b o hS
    refine Wc.of_eq hi ?_
    simp (maxSteps := 2000000) +contextual only [Nat.add_assoc, Wp_some, Wp_none, Wp_ite, Wc_some, Wc_none, Wc_ite, Wp_thenRun, seqQ_normal, seqQ_exit, seqQ_ret, Wp_inBlock, blkQ_normal, blkQ_ret, blkQ_same, blkQ_exit, Wp_opThen, opQ_at, Wp_guardP, retQ_normal, retQ_ret, loopQ_normal, loopQ_exit, loopQ_ret, go_sem, entry, joinEsc, if_pos, reduceIte, Nat.reduceAdd, Nat.reduceLeDiff, Nat.reduceLT, Nat.reduceEqDiff]
    obtain ⟨cap2, hs⟩ := e_s_SafeStep (pr := pr) (H := L ++ [.cells (encL ls) true, .cells (encI os) true, .cells [.int .i64 a, .int .i64 b, .int .i64 o] true, .cells (encI (ssW a b o ls os)) true]) (e := none) (q := L.length) (q' := L.length + 1) (c := c1) (c' := c2) (ls := ls) (os := os) (by simp +contextual only [go_sem, entry, joinEsc, if_pos, reduceIte, Nat.reduceAdd, Nat.reduceLeDiff, Nat.reduceLT, Nat.reduceEqDiff]) (by simp +contextual only [go_sem, entry, joinEsc, if_pos, reduceIte, Nat.reduceAdd, Nat.reduceLeDiff, Nat.reduceLT, Nat.reduceEqDiff]) (by omega) a b o hS
    refine Wc.of_eq hs ?_
    have hri := fun G => e_l_rInts (pr := pr) (H := L ++ (.cells (encL ls) true :: .cells (encI os) true :: .cells [.int .i64 a, .int .i64 b, .int .i64 o] true :: .cells (encI (ssW a b o ls os)) true :: .cells (encI (ssW a b o ls os)) true :: G)) (e := none) (b1 := L.length + 3) (b2 := L.length + 4) (c1 := cap1) (c2 := cap2) (ls := ssW a b o ls os) (by simp +contextual only [go_sem, entry, joinEsc, if_pos, reduceIte, Nat.reduceAdd, Nat.reduceLeDiff, Nat.reduceLT, Nat.reduceEqDiff]) (by simp +contextual only [go_sem, entry, joinEsc, if_pos, reduceIte, Nat.reduceAdd, Nat.reduceLeDiff, Nat.reduceLT, Nat.reduceEqDiff]) (by have := ssW_le a b o ls os; omega)
    simp (maxSteps := 2000000) +contextual only [hri, beq_self_eq_true, Nat.add_assoc, decide_true, Wp_some, Wp_none, Wp_ite, Wc_some, Wc_none, Wc_ite, Wp_thenRun, seqQ_normal, seqQ_exit, seqQ_ret, Wp_inBlock, blkQ_normal, blkQ_ret, blkQ_same, blkQ_exit, Wp_opThen, opQ_at, Wp_guardP, retQ_normal, retQ_ret, loopQ_normal, loopQ_exit, loopQ_ret, go_sem, entry, joinEsc, if_pos, reduceIte, Nat.reduceAdd, Nat.reduceLeDiff, Nat.reduceLT, Nat.reduceEqDiff]
    exact hK _ _ _ _ _ _ _ _ _

end Go.Proofs.Ytlcklonakjhoiaa.Slim

/- Rafts: the law on safe orders, joined. -/
namespace Go.Proofs.Ytlcklonakjhoiaa.Slim

open Go

set_option linter.unusedSimpArgs false

set_option linter.unusedVariables false

variable {pr : Prims} {H : List Blk} {e : Option Nat}

theorem canU_eq {a b o : Int} {ls : List Ld} : canU a b o ls = canW a b o ls := by
  unfold canU canW
  cases hcg : cargoOk a b o ls with
  | false => rfl
  | true =>
    have hn8 := cargo_le hcg
    have hpow := Nat.two_pow_pos ls.length
    have hw := waysW_all (a := a) (b := b) (o := o) hn8
    have hwb := ways_back hw
    have h0 := (hw.good 0 hpow).1
    rw [Bool.true_and, Bool.true_and, Bool.eq_iff_iff]
    have hb : (backL (fun c => safeW a b o ls (c : Int)) ls.length (2 ^ ls.length)) = backW a b o ls := rfl
    rw [hb] at hwb
    rw [← hwb]
    simp only [Bool.not_eq_true', decide_eq_false_iff_not]
    omega

theorem pair_can {a b o : Int} {ls : List Ld} (h : canW a b o ls = true) : ∃ s : Int, pairT a b o ls = .tup [.int .i64 s, .bool true] ∧ s ≤ ls.length ∧ (ls.length : Int) ≤ 2 * s := by
  have hcg := (Bool.and_eq_true_iff.mp h).1
  have hn8 := cargo_le hcg
  have hpow := Nat.two_pow_pos ls.length
  have hu : canU a b o ls = true := by rw [canU_eq]; exact h
  unfold canU at hu
  have hb := (Bool.and_eq_true_iff.mp hu).2
  have h1 : 0 ≤ (stepsW2 a b o ls).getD (2 ^ ls.length - 1) 0 := steps_back hn8 (2 ^ ls.length - 1) (by omega) hb
  have h2 : okP ls.length (2 ^ ls.length - 1) ((stepsW2 a b o ls).getD (2 ^ ls.length - 1) 0) := steps_ok hn8 (2 ^ ls.length - 1) (by omega)
  have hnu := (nu_facts ls.length (by omega) (2 ^ ls.length - 1) (by omega)).2.1 (by omega)
  refine ⟨(stepsW2 a b o ls).getD (2 ^ ls.length - 1) 0, ?_, ?_, ?_⟩
  · unfold pairT
    rw [if_pos ⟨hcg, h1⟩]
  · rcases h2 with h2 | h2
    · omega
    · omega
  · rcases h2 with h2 | h2
    · omega
    · omega

set_option maxHeartbeats 4000000 in
theorem wc_FnSafeOrders (hp : HasDelete pr) {p0 : Option (Nat × Nat)} {s0 n0 : Nat} {c0 : Option Nat} (hc0 : n0 ≤ 65536 → CodeAt H (.slice p0 s0 n0 c0)) : Wc (call T pr f_l_FnSafeOrders [.slice p0 s0 n0 c0] ⟨H, none⟩) (fun v m => v = .bool true) := by
  rw [call_wc t_l_FnSafeOrders]
  by_cases hb : 65536 < n0
  · have hb' : decide ((65536 : Int) < ((n0 : Nat) : Int)) = true := decide_eq_true (by omega)
    simp +contextual only [a_l_FnSafeOrders, c_l_FnSafeOrders, e_l_rBig, hb', Wp_some, Wp_none, Wp_ite, Wc_some, Wc_none, Wc_ite, Wp_thenRun, seqQ_normal, seqQ_exit, seqQ_ret, Wp_inBlock, blkQ_normal, blkQ_ret, blkQ_same, blkQ_exit, Wp_opThen, opQ_at, Wp_guardP, retQ_normal, retQ_ret, loopQ_normal, loopQ_exit, loopQ_ret, finish_one_eq, finish_one_eq0, finish_two_eq, finish_two_eq0, roots_slice_new, roots_slice_new0, roots_slice_none, roots_ptr_new, roots_ptr_new0, roots_int, roots_bool, roots_str, roots_agg, roots_tup, roots_cons, roots_nil, rename_slice, rename_slice_none, rename_ptr, rename_int, rename_bool, rename_str, rename_agg, rename_tup, rename_cons, rename_nil, keepBlks_nil, keepBlks_cons, flatAll_nil, flatAll_cons, flatBlk_cells, dedup_nil, dedup_one, dedup_two, renum_one, renum_one0, renum_two0, renum_two1, clean_none', clean_some, minEsc_none, minEsc_some, Nat.add_left_cancel_iff, Nat.le_add_right, Nat.le_refl, decide_true, go_sem, entry, joinEsc, if_pos, reduceIte, Nat.reduceAdd, Nat.reduceLeDiff, Nat.reduceLT, Nat.reduceEqDiff]
  · have hb' : decide ((65536 : Int) < ((n0 : Nat) : Int)) = false := decide_eq_false (by omega)
    have hc := hc0 (by omega)
    have bxx : ∀ x : Bool, (!decide (x = x)) = false := fun x => by simp
    have hbb : ∀ x : Bool, (!(x == x)) = false := fun x => by simp
    have hdd : ∀ x : Int, decide (x = x) = true := fun x => decide_eq_true rfl
    have hmid := fun L hcL (z2 z3 z4 z5 z6 z7 z8 z9 z10 z11 z12 z13 z14 z15 z16 z17 z18 z19 z20 z21 z22 z23 z24 z25 z26 z27 z28 z29 z30 z31 z32 z33 z34 z35 z36 z37 z38 z39 z40 z41 z42 z43 z44 z45 z46 z47 z48 z49 z50 z51 z52 z53 z54 z55 z56 z57 z58 z59 z60 z61 z62 : AV) => so_mid (pr := pr) (w2 := z2) (w3 := z3) (w4 := z4) (w5 := z5) (w6 := z6) (w7 := z7) (w8 := z8) (w9 := z9) (w10 := z10) (w11 := z11) (w12 := z12) (w13 := z13) (w14 := z14) (w15 := z15) (w16 := z16) (w17 := z17) (w18 := z18) (w19 := z19) (w20 := z20) (w21 := z21) (w22 := z22) (w23 := z23) (w24 := z24) (w25 := z25) (w26 := z26) (w27 := z27) (w28 := z28) (w29 := z29) (w30 := z30) (w31 := z31) (w32 := z32) (w33 := z33) (w34 := z34) (w35 := z35) (w36 := z36) (w37 := z37) (w38 := z38) (w39 := z39) (w40 := z40) (w41 := z41) (w42 := z42) (w43 := z43) (w44 := z44) (w45 := z45) (w46 := z46) (w47 := z47) (w48 := z48) (w49 := z49) (w50 := z50) (w51 := z51) (w52 := z52) (w53 := z53) (w54 := z54) (w55 := z55) (w56 := z56) (w57 := z57) (w58 := z58) (w59 := z59) (w60 := z60) (w61 := z61) (w62 := z62) (m0 := ⟨H, none⟩) (p0 := p0) (s0 := s0) (n0 := n0) (c0 := c0) (L := L) hcL (Q := retQ a_l_FnSafeOrders ⟨H, none⟩ fun v m => v = .bool true)
    obtain ⟨R, hR⟩ : ∃ R, R = (seqTl (seqTl (seqTl (seqTl (seqTl (seqTl (seqTl (seqTl (seqTl (seqTl (seqTl (seqTl (seqTl (seqTl (seqTl c_l_FnSafeOrders))))))))))))))) := ⟨_, rfl⟩
    rw [← hR] at hmid
    have hcut : c_l_FnSafeOrders = (.seq (seqHd c_l_FnSafeOrders) (.seq (seqHd (seqTl c_l_FnSafeOrders)) (.seq (seqHd (seqTl (seqTl c_l_FnSafeOrders))) (.seq (seqHd (seqTl (seqTl (seqTl c_l_FnSafeOrders)))) (.seq (seqHd (seqTl (seqTl (seqTl (seqTl c_l_FnSafeOrders))))) (.seq (seqHd (seqTl (seqTl (seqTl (seqTl (seqTl c_l_FnSafeOrders)))))) (.seq (seqHd (seqTl (seqTl (seqTl (seqTl (seqTl (seqTl c_l_FnSafeOrders))))))) (.seq (seqHd (seqTl (seqTl (seqTl (seqTl (seqTl (seqTl (seqTl c_l_FnSafeOrders)))))))) (.seq (seqHd (seqTl (seqTl (seqTl (seqTl (seqTl (seqTl (seqTl (seqTl c_l_FnSafeOrders))))))))) (.seq (seqHd (seqTl (seqTl (seqTl (seqTl (seqTl (seqTl (seqTl (seqTl (seqTl c_l_FnSafeOrders)))))))))) (.seq (seqHd (seqTl (seqTl (seqTl (seqTl (seqTl (seqTl (seqTl (seqTl (seqTl (seqTl c_l_FnSafeOrders))))))))))) (.seq (seqHd (seqTl (seqTl (seqTl (seqTl (seqTl (seqTl (seqTl (seqTl (seqTl (seqTl (seqTl c_l_FnSafeOrders)))))))))))) (.seq (seqHd (seqTl (seqTl (seqTl (seqTl (seqTl (seqTl (seqTl (seqTl (seqTl (seqTl (seqTl (seqTl c_l_FnSafeOrders))))))))))))) (.seq (seqHd (seqTl (seqTl (seqTl (seqTl (seqTl (seqTl (seqTl (seqTl (seqTl (seqTl (seqTl (seqTl (seqTl c_l_FnSafeOrders)))))))))))))) (.seq (seqHd (seqTl (seqTl (seqTl (seqTl (seqTl (seqTl (seqTl (seqTl (seqTl (seqTl (seqTl (seqTl (seqTl (seqTl c_l_FnSafeOrders))))))))))))))) R))))))))))))))) := by rw [hR]; rfl
    show Wp (run T pr c_l_FnSafeOrders _) _
    rw [hcut]
    simp (maxSteps := 2000000) +contextual only [a_l_FnSafeOrders, c_l_FnSafeOrders, seqTl, seqHd, e_l_rBig, hb', Wp_some, Wp_none, Wp_ite, Wc_some, Wc_none, Wc_ite, Wp_thenRun, seqQ_normal, seqQ_exit, seqQ_ret, Wp_inBlock, blkQ_normal, blkQ_ret, blkQ_same, blkQ_exit, Wp_opThen, opQ_at, Wp_guardP, retQ_normal, retQ_ret, loopQ_normal, loopQ_exit, loopQ_ret, go_sem, entry, joinEsc, if_pos, reduceIte, Nat.reduceAdd, Nat.reduceLeDiff, Nat.reduceLT, Nat.reduceEqDiff]
    refine (wc_DrawSafeOrder hc).mono ?_
    rintro v m ⟨a, b, o, ls, c1, rfl, hn1, rfl⟩
    have hci := fun G => e_i_CountSafe (pr := pr) (H := H ++ (.cells (encL ls) true :: G)) (e := none) (q := H.length) (c := c1) (ls := ls) (by simp +contextual only [go_sem, entry, joinEsc, if_pos, reduceIte, Nat.reduceAdd, Nat.reduceLeDiff, Nat.reduceLT, Nat.reduceEqDiff]) a b o
    have hcs := fun G => e_s_CountSafe (pr := pr) (H := H ++ (.cells (encL ls) true :: G)) (e := none) (q := H.length) (c := c1) (ls := ls) (by simp +contextual only [go_sem, entry, joinEsc, if_pos, reduceIte, Nat.reduceAdd, Nat.reduceLeDiff, Nat.reduceLT, Nat.reduceEqDiff]) a b o
    have hoi := fun G => e_i_LeastOwn (pr := pr) (H := H ++ (.cells (encL ls) true :: G)) (e := none) (q := H.length) (c := c1) (ls := ls) (by simp +contextual only [go_sem, entry, joinEsc, if_pos, reduceIte, Nat.reduceAdd, Nat.reduceLeDiff, Nat.reduceLT, Nat.reduceEqDiff]) a b o
    have hos := fun G => e_s_LeastOwn (pr := pr) (H := H ++ (.cells (encL ls) true :: G)) (e := none) (q := H.length) (c := c1) (ls := ls) (by simp +contextual only [go_sem, entry, joinEsc, if_pos, reduceIte, Nat.reduceAdd, Nat.reduceLeDiff, Nat.reduceLT, Nat.reduceEqDiff]) a b o
    have hpi := fun G => e_i_PairSteps (pr := pr) (H := H ++ (.cells (encL ls) true :: G)) (e := none) (q := H.length) (c := c1) (ls := ls) (by simp +contextual only [go_sem, entry, joinEsc, if_pos, reduceIte, Nat.reduceAdd, Nat.reduceLeDiff, Nat.reduceLT, Nat.reduceEqDiff]) a b o
    have hps := fun G => e_s_PairSteps (pr := pr) (H := H ++ (.cells (encL ls) true :: G)) (e := none) (q := H.length) (c := c1) (ls := ls) (by simp +contextual only [go_sem, entry, joinEsc, if_pos, reduceIte, Nat.reduceAdd, Nat.reduceLeDiff, Nat.reduceLT, Nat.reduceEqDiff]) a b o
    have hhi := fun G => i_hard (pr := pr) (H := H ++ (.cells (encL ls) true :: G)) (e := none) hp (q := H.length) (c := c1) (ls := ls) (by simp +contextual only [go_sem, entry, joinEsc, if_pos, reduceIte, Nat.reduceAdd, Nat.reduceLeDiff, Nat.reduceLT, Nat.reduceEqDiff]) a b o
    have hhs := fun G => s_hard (pr := pr) (H := H ++ (.cells (encL ls) true :: G)) (e := none) (q := H.length) (c := c1) (ls := ls) (by simp +contextual only [go_sem, entry, joinEsc, if_pos, reduceIte, Nat.reduceAdd, Nat.reduceLeDiff, Nat.reduceLT, Nat.reduceEqDiff]) a b o
    obtain ⟨hx, hy, hhard⟩ : ∃ x y, hardT a b o ls = .tup [.int .i64 x, .bool y] := by
      unfold hardT
      split
      · exact ⟨_, _, rfl⟩
      · exact ⟨_, _, rfl⟩
    rw [hhard] at hhi hhs
    cases hcan : canW a b o ls with
    | false =>
      have hiS := fun G => e_i_SafeOrder_no (pr := pr) (H := H ++ (.cells (encL ls) true :: G)) (e := none) (q := H.length) (c := c1) (ls := ls) (by simp +contextual only [go_sem, entry, joinEsc, if_pos, reduceIte, Nat.reduceAdd, Nat.reduceLeDiff, Nat.reduceLT, Nat.reduceEqDiff]) a b o hcan
      have hsS := fun G => e_s_SafeOrder_no (pr := pr) (H := H ++ (.cells (encL ls) true :: G)) (e := none) (q := H.length) (c := c1) (ls := ls) (by simp +contextual only [go_sem, entry, joinEsc, if_pos, reduceIte, Nat.reduceAdd, Nat.reduceLeDiff, Nat.reduceLT, Nat.reduceEqDiff]) a b o hcan
      have hiU : ∀ G, call T pr f_i_UnloadOrder [rfV a b o, slL H.length ls.length c1] ⟨H ++ (.cells (encL ls) true :: G), none⟩ = some (.tup [.slice none 0 0 none, .bool false], ⟨H ++ (.cells (encL ls) true :: G), none⟩) := fun G => by
        obtain ⟨cap, h⟩ := e_i_UnloadOrder (pr := pr) (H := H ++ (.cells (encL ls) true :: G)) (e := none) (q := H.length) (c := c1) (ls := ls) (by simp +contextual only [go_sem, entry, joinEsc, if_pos, reduceIte, Nat.reduceAdd, Nat.reduceLeDiff, Nat.reduceLT, Nat.reduceEqDiff]) a b o
        rw [canU_eq, hcan, if_neg (by simp)] at h
        exact h
      have hsU : ∀ G, call T pr f_s_UnloadOrder [rfV a b o, slL H.length ls.length c1] ⟨H ++ (.cells (encL ls) true :: G), none⟩ = some (.tup [slI (H ++ (.cells (encL ls) true :: G)).length 0 (some 0), .bool false], ⟨H ++ (.cells (encL ls) true :: G) ++ [.cells [] true], none⟩) := fun G => by
        obtain ⟨cap, h⟩ := e_s_UnloadOrder (pr := pr) (H := H ++ (.cells (encL ls) true :: G)) (e := none) (q := H.length) (c := c1) (ls := ls) (by simp +contextual only [go_sem, entry, joinEsc, if_pos, reduceIte, Nat.reduceAdd, Nat.reduceLeDiff, Nat.reduceLT, Nat.reduceEqDiff]) a b o
        rw [canU_eq, hcan, if_neg (by simp)] at h
        exact h
      obtain ⟨ps, pf, hpair⟩ : ∃ x y, pairT a b o ls = .tup [.int .i64 x, .bool y] := by
        unfold pairT
        split
        · exact ⟨_, _, rfl⟩
        · exact ⟨_, _, rfl⟩
      rw [hpair] at hpi hps
      unfold countT at hci hcs
      unfold ownT at hoi hos
      cases hcg : cargoOk a b o ls with
      | false =>
        simp only [hcg, Bool.false_eq_true, if_false] at hci hcs hoi hos
        simp (maxSteps := 2000000) +contextual only [hiS, hsS, hiU, hsU, hci, hcs, hoi, hos, hpi, hps, hhi, hhs, e_l_rInts_none, bxx, hbb, hdd, gt_iff_lt, Int.lt_irrefl, beq_self_eq_true, decide_true, decide_false, Nat.add_assoc, Wp_some, Wp_none, Wp_ite, Wc_some, Wc_none, Wc_ite, Wp_thenRun, seqQ_normal, seqQ_exit, seqQ_ret, Wp_inBlock, blkQ_normal, blkQ_ret, blkQ_same, blkQ_exit, Wp_opThen, opQ_at, Wp_guardP, retQ_normal, retQ_ret, loopQ_normal, loopQ_exit, loopQ_ret, go_sem, entry, joinEsc, if_pos, reduceIte, Nat.reduceAdd, Nat.reduceLeDiff, Nat.reduceLT, Nat.reduceEqDiff]
        refine hmid _ (hc.more _) _ _ _ _ _ _ _ _ _ _ _ _ _ _ _ _ _ _ _ _ _ _ _ _ _ _ _ _ _ _ _ _ _ _ _ _ _ _ _ _ _ _ _ _ _ _ _ _ _ _ _ _ _ _ _ _ _ _ _ _ _ ?_
        intro G z28 z29 z30 z31 z32 z33 z34 z55
        rw [hR]
        refine so_no (q := H.length) (u := H.length + 1) (ls := ls) (a := a) (b := b) (o := o) ?_ ?_ hcan hcg.symm (by simp) <;> simp +contextual only [go_sem, entry, joinEsc, if_pos, reduceIte, Nat.reduceAdd, Nat.reduceLeDiff, Nat.reduceLT, Nat.reduceEqDiff]
      | true =>
        simp only [hcg, if_true] at hci hcs hoi hos
        have hz : (waysW a b o ls).getD 0 0 = 0 := by
          have h3 := hcan
          unfold canW at h3
          rw [hcg, Bool.true_and] at h3
          simpa using h3
        simp (maxSteps := 2000000) +contextual only [hiS, hsS, hiU, hsU, hci, hcs, hoi, hos, hpi, hps, hhi, hhs, hz, e_l_rInts_none, bxx, hbb, hdd, gt_iff_lt, Int.lt_irrefl, beq_self_eq_true, decide_true, decide_false, Nat.add_assoc, Wp_some, Wp_none, Wp_ite, Wc_some, Wc_none, Wc_ite, Wp_thenRun, seqQ_normal, seqQ_exit, seqQ_ret, Wp_inBlock, blkQ_normal, blkQ_ret, blkQ_same, blkQ_exit, Wp_opThen, opQ_at, Wp_guardP, retQ_normal, retQ_ret, loopQ_normal, loopQ_exit, loopQ_ret, go_sem, entry, joinEsc, if_pos, reduceIte, Nat.reduceAdd, Nat.reduceLeDiff, Nat.reduceLT, Nat.reduceEqDiff]
        refine hmid _ (hc.more _) _ _ _ _ _ _ _ _ _ _ _ _ _ _ _ _ _ _ _ _ _ _ _ _ _ _ _ _ _ _ _ _ _ _ _ _ _ _ _ _ _ _ _ _ _ _ _ _ _ _ _ _ _ _ _ _ _ _ _ _ _ ?_
        intro G z28 z29 z30 z31 z32 z33 z34 z55
        rw [hR]
        refine so_no (q := H.length) (u := H.length + 1) (ls := ls) (a := a) (b := b) (o := o) ?_ ?_ hcan hcg.symm (fun _ => ⟨hz.symm, rfl, rfl⟩) <;> simp +contextual only [go_sem, entry, joinEsc, if_pos, reduceIte, Nat.reduceAdd, Nat.reduceLeDiff, Nat.reduceLT, Nat.reduceEqDiff]
    | true =>
      have hcg := (Bool.and_eq_true_iff.mp hcan).1
      have hn8 := cargo_le hcg
      have hpow := Nat.two_pow_pos ls.length
      have hpos : 0 < (waysW a b o ls).getD 0 0 := by
        have h1 := (waysW_good (a := a) (b := b) (o := o) hn8 0 hpow).1
        have h2 := (Bool.and_eq_true_iff.mp hcan).2
        have h3 : ¬ (waysW a b o ls).getD 0 0 = 0 := by simpa using h2
        omega
      obtain ⟨s, hpair, hs1, hs2⟩ := pair_can hcan
      rw [hpair] at hpi hps
      unfold countT at hci hcs
      unfold ownT at hoi hos
      simp only [hcg, if_true] at hci hcs hoi hos
      have hsl : (soW a b o ls).length ≤ 1048576 := by rw [soW_length]; omega
      have hul : (uoW a b o ls).length ≤ 1048576 := by rw [uoW_length]; omega
      simp (maxSteps := 2000000) +contextual only [Nat.add_assoc, Wp_some, Wp_none, Wp_ite, Wc_some, Wc_none, Wc_ite, Wp_thenRun, seqQ_normal, seqQ_exit, seqQ_ret, Wp_inBlock, blkQ_normal, blkQ_ret, blkQ_same, blkQ_exit, Wp_opThen, opQ_at, Wp_guardP, retQ_normal, retQ_ret, loopQ_normal, loopQ_exit, loopQ_ret, go_sem, entry, joinEsc, if_pos, reduceIte, Nat.reduceAdd, Nat.reduceLeDiff, Nat.reduceLT, Nat.reduceEqDiff]
      obtain ⟨k1, hiS⟩ := e_i_SafeOrder (pr := pr) (H := H ++ [.cells (encL ls) true, .cells [.int .i64 a, .int .i64 b, .int .i64 o] true]) (e := none) (q := H.length) (c := c1) (ls := ls) (by simp +contextual only [go_sem, entry, joinEsc, if_pos, reduceIte, Nat.reduceAdd, Nat.reduceLeDiff, Nat.reduceLT, Nat.reduceEqDiff]) a b o hcan
      refine Wc.of_eq hiS ?_
      simp (maxSteps := 2000000) +contextual only [Nat.add_assoc, Wp_some, Wp_none, Wp_ite, Wc_some, Wc_none, Wc_ite, Wp_thenRun, seqQ_normal, seqQ_exit, seqQ_ret, Wp_inBlock, blkQ_normal, blkQ_ret, blkQ_same, blkQ_exit, Wp_opThen, opQ_at, Wp_guardP, retQ_normal, retQ_ret, loopQ_normal, loopQ_exit, loopQ_ret, go_sem, entry, joinEsc, if_pos, reduceIte, Nat.reduceAdd, Nat.reduceLeDiff, Nat.reduceLT, Nat.reduceEqDiff]
      obtain ⟨k2, hsS⟩ := e_s_SafeOrder (pr := pr) (H := H ++ [.cells (encL ls) true, .cells [.int .i64 a, .int .i64 b, .int .i64 o] true, .cells (encI (soW a b o ls)) true]) (e := none) (q := H.length) (c := c1) (ls := ls) (by simp +contextual only [go_sem, entry, joinEsc, if_pos, reduceIte, Nat.reduceAdd, Nat.reduceLeDiff, Nat.reduceLT, Nat.reduceEqDiff]) a b o hcan
      refine Wc.of_eq hsS ?_
      have hr1 := fun G => e_l_rInts (pr := pr) (H := H ++ (.cells (encL ls) true :: .cells [.int .i64 a, .int .i64 b, .int .i64 o] true :: .cells (encI (soW a b o ls)) true :: .cells (encI (soW a b o ls)) true :: G)) (e := none) (b1 := H.length + 2) (b2 := H.length + 3) (c1 := k1) (c2 := k2) (ls := soW a b o ls) (by simp +contextual only [go_sem, entry, joinEsc, if_pos, reduceIte, Nat.reduceAdd, Nat.reduceLeDiff, Nat.reduceLT, Nat.reduceEqDiff]) (by simp +contextual only [go_sem, entry, joinEsc, if_pos, reduceIte, Nat.reduceAdd, Nat.reduceLeDiff, Nat.reduceLT, Nat.reduceEqDiff]) hsl
      simp (maxSteps := 2000000) +contextual only [hr1, hci, hcs, hpos, bxx, hbb, hdd, gt_iff_lt, beq_self_eq_true, decide_true, decide_false, Nat.add_assoc, Wp_some, Wp_none, Wp_ite, Wc_some, Wc_none, Wc_ite, Wp_thenRun, seqQ_normal, seqQ_exit, seqQ_ret, Wp_inBlock, blkQ_normal, blkQ_ret, blkQ_same, blkQ_exit, Wp_opThen, opQ_at, Wp_guardP, retQ_normal, retQ_ret, loopQ_normal, loopQ_exit, loopQ_ret, go_sem, entry, joinEsc, if_pos, reduceIte, Nat.reduceAdd, Nat.reduceLeDiff, Nat.reduceLT, Nat.reduceEqDiff]
      obtain ⟨k3, hiU⟩ := e_i_UnloadOrder (pr := pr) (H := H ++ [.cells (encL ls) true, .cells [.int .i64 a, .int .i64 b, .int .i64 o] true, .cells (encI (soW a b o ls)) true, .cells (encI (soW a b o ls)) true]) (e := none) (q := H.length) (c := c1) (ls := ls) (by simp +contextual only [go_sem, entry, joinEsc, if_pos, reduceIte, Nat.reduceAdd, Nat.reduceLeDiff, Nat.reduceLT, Nat.reduceEqDiff]) a b o
      rw [canU_eq, hcan, if_pos rfl] at hiU
      refine Wc.of_eq hiU ?_
      simp (maxSteps := 2000000) +contextual only [Nat.add_assoc, Wp_some, Wp_none, Wp_ite, Wc_some, Wc_none, Wc_ite, Wp_thenRun, seqQ_normal, seqQ_exit, seqQ_ret, Wp_inBlock, blkQ_normal, blkQ_ret, blkQ_same, blkQ_exit, Wp_opThen, opQ_at, Wp_guardP, retQ_normal, retQ_ret, loopQ_normal, loopQ_exit, loopQ_ret, go_sem, entry, joinEsc, if_pos, reduceIte, Nat.reduceAdd, Nat.reduceLeDiff, Nat.reduceLT, Nat.reduceEqDiff]
      obtain ⟨k4, hsU⟩ := e_s_UnloadOrder (pr := pr) (H := H ++ [.cells (encL ls) true, .cells [.int .i64 a, .int .i64 b, .int .i64 o] true, .cells (encI (soW a b o ls)) true, .cells (encI (soW a b o ls)) true, .cells (encI (uoW a b o ls)) true]) (e := none) (q := H.length) (c := c1) (ls := ls) (by simp +contextual only [go_sem, entry, joinEsc, if_pos, reduceIte, Nat.reduceAdd, Nat.reduceLeDiff, Nat.reduceLT, Nat.reduceEqDiff]) a b o
      rw [canU_eq, hcan, if_pos rfl] at hsU
      refine Wc.of_eq hsU ?_
      have hr2 := fun G => e_l_rInts (pr := pr) (H := H ++ (.cells (encL ls) true :: .cells [.int .i64 a, .int .i64 b, .int .i64 o] true :: .cells (encI (soW a b o ls)) true :: .cells (encI (soW a b o ls)) true :: .cells (encI (uoW a b o ls)) true :: .cells (encI (uoW a b o ls)) true :: G)) (e := none) (b1 := H.length + 4) (b2 := H.length + 5) (c1 := k3) (c2 := k4) (ls := uoW a b o ls) (by simp +contextual only [go_sem, entry, joinEsc, if_pos, reduceIte, Nat.reduceAdd, Nat.reduceLeDiff, Nat.reduceLT, Nat.reduceEqDiff]) (by simp +contextual only [go_sem, entry, joinEsc, if_pos, reduceIte, Nat.reduceAdd, Nat.reduceLeDiff, Nat.reduceLT, Nat.reduceEqDiff]) hul
      simp (maxSteps := 2000000) +contextual only [hr2, hci, hcs, hoi, hos, hpi, hps, hhi, hhs, hpos, bxx, hbb, hdd, gt_iff_lt, beq_self_eq_true, decide_true, decide_false, Nat.add_assoc, Wp_some, Wp_none, Wp_ite, Wc_some, Wc_none, Wc_ite, Wp_thenRun, seqQ_normal, seqQ_exit, seqQ_ret, Wp_inBlock, blkQ_normal, blkQ_ret, blkQ_same, blkQ_exit, Wp_opThen, opQ_at, Wp_guardP, retQ_normal, retQ_ret, loopQ_normal, loopQ_exit, loopQ_ret, go_sem, entry, joinEsc, if_pos, reduceIte, Nat.reduceAdd, Nat.reduceLeDiff, Nat.reduceLT, Nat.reduceEqDiff]
      refine hmid _ (hc.more _) _ _ _ _ _ _ _ _ _ _ _ _ _ _ _ _ _ _ _ _ _ _ _ _ _ _ _ _ _ _ _ _ _ _ _ _ _ _ _ _ _ _ _ _ _ _ _ _ _ _ _ _ _ _ _ _ _ _ _ _ _ ?_
      intro G z28 z29 z30 z31 z32 z33 z34 z55
      rw [hR]
      refine so_yes (q := H.length) (u := H.length + 1) (q1 := H.length + 2) (q2 := H.length + 4) (ls := ls) (a := a) (b := b) (o := o) ?_ ?_ hcan ?_ ?_ hs1 hs2 <;> simp +contextual only [go_sem, entry, joinEsc, if_pos, reduceIte, Nat.reduceAdd, Nat.reduceLeDiff, Nat.reduceLT, Nat.reduceEqDiff]

theorem law_SafeOrders (hp : HasDelete pr) {av : AV} {zs : List Int} (h : ArgB H av zs) : ∃ m', call T pr f_l_FnSafeOrders [av] ⟨H, none⟩ = some (.bool true, m') := by
  obtain ⟨p, sz, n, c, rfl, hc⟩ := h.form
  obtain ⟨v, m, h1, rfl⟩ := wc_FnSafeOrders (pr := pr) hp hc
  exact ⟨m, h1⟩

end Go.Proofs.Ytlcklonakjhoiaa.Slim
