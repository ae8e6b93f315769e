/- Moves as a law handles them: pairs and slices of pairs. -/
import Derived.Test.YthkgpblohjpcdaaSlimE39
namespace Go.Proofs.Ythkgpblohjpcdaa.Slim

open Go

set_option linter.unusedSimpArgs false

set_option linter.unusedVariables false

variable {pr : Prims} {H : List Blk} {e : Option Nat}

theorem w01 : IntKind.i64.wrap (0 + 1) = 1 := by decide

theorem w11 : IntKind.i64.wrap (1 + 1) = 2 := by decide

theorem l02 : ((0 : Int) < 2) = True := by simp

theorem l12 : ((1 : Int) < 2) = True := by simp

theorem l22 : ((2 : Int) < 2) = False := by simp

abbrev prV (x a : Int) : AV := .agg [.int .i64 x, .int .i64 a]

theorem e_l_eqIntA2 (x a y b : Int) : call T pr f_l_eqIntA2 [prV x a, prV y b] ⟨H, e⟩ = some (.bool (decide (x = y) && decide (a = b)), ⟨H, e⟩) := by
  have hs : ∀ L b1 b2 y0 y1 y6 y7 e', cellsAt L b1 = some [.int .i64 x, .int .i64 a] → cellsAt L b2 = some [.int .i64 y, .int .i64 b] → ∃ z5 z6 z7, run T pr (.loop w_l_eqIntA2_1) ⟨[y0, y1, .ptr (some (b1, 0)), .ptr (some (b2, 0)), .bool false, .int .i64 0, y6, y7], ⟨L, e'⟩⟩ =
      some (if (decide (x = y) && decide (a = b)) = true then Ex.exit 0 else Ex.ret, ⟨[y0, y1, .ptr (some (b1, 0)), .ptr (some (b2, 0)), .bool false, z5, z6, z7], ⟨L, e'⟩⟩) := by
    intro L b1 b2 y0 y1 y6 y7 e' h1 h2
    by_cases hx : x = y
    · have s1 : run T pr (.loop w_l_eqIntA2_1) ⟨[y0, y1, .ptr (some (b1, 0)), .ptr (some (b2, 0)), .bool false, .int .i64 0, y6, y7], ⟨L, e'⟩⟩ = run T pr (.loop w_l_eqIntA2_1) ⟨[y0, y1, .ptr (some (b1, 0)), .ptr (some (b2, 0)), .bool false, .int .i64 1, .bool true, .bool false], ⟨L, e'⟩⟩ := by
        rw [run_loop]
        generalize run T pr (.loop w_l_eqIntA2_1) = R
        simp +contextual only [w_l_eqIntA2_1, h1, h2, hx, at02, at12, toNat0, toNat1, w01, l02, not_true_eq_false, decide_false, decide_true, go_sem, entry, joinEsc, if_pos, reduceIte, Nat.reduceAdd, Nat.reduceLeDiff, Nat.reduceLT, Nat.reduceEqDiff]
      rw [s1]
      by_cases ha : a = b
      · have s2 : run T pr (.loop w_l_eqIntA2_1) ⟨[y0, y1, .ptr (some (b1, 0)), .ptr (some (b2, 0)), .bool false, .int .i64 1, .bool true, .bool false], ⟨L, e'⟩⟩ = run T pr (.loop w_l_eqIntA2_1) ⟨[y0, y1, .ptr (some (b1, 0)), .ptr (some (b2, 0)), .bool false, .int .i64 2, .bool true, .bool false], ⟨L, e'⟩⟩ := by
          rw [run_loop]
          generalize run T pr (.loop w_l_eqIntA2_1) = R
          simp +contextual only [w_l_eqIntA2_1, h1, h2, ha, at02, at12, toNat0, toNat1, w11, l12, not_true_eq_false, decide_false, decide_true, go_sem, entry, joinEsc, if_pos, reduceIte, Nat.reduceAdd, Nat.reduceLeDiff, Nat.reduceLT, Nat.reduceEqDiff]
        rw [s2]
        refine ⟨.int .i64 2, .bool false, .bool false, ?_⟩
        rw [run_loop]
        generalize run T pr (.loop w_l_eqIntA2_1) = R
        simp +contextual only [w_l_eqIntA2_1, hx, ha, l22, decide_false, decide_true, go_sem, entry, joinEsc, if_pos, reduceIte, Nat.reduceAdd, Nat.reduceLeDiff, Nat.reduceLT, Nat.reduceEqDiff]
      · refine ⟨.int .i64 1, .bool true, .bool true, ?_⟩
        rw [run_loop]
        generalize run T pr (.loop w_l_eqIntA2_1) = R
        simp +contextual only [w_l_eqIntA2_1, h1, h2, ha, hx, at02, at12, toNat0, toNat1, w11, l12, not_false_eq_true, decide_false, decide_true, go_sem, entry, joinEsc, if_pos, reduceIte, Nat.reduceAdd, Nat.reduceLeDiff, Nat.reduceLT, Nat.reduceEqDiff]
    · refine ⟨.int .i64 0, .bool true, .bool true, ?_⟩
      rw [run_loop]
      generalize run T pr (.loop w_l_eqIntA2_1) = R
      simp +contextual only [w_l_eqIntA2_1, h1, h2, hx, at02, at12, toNat0, toNat1, w11, l02, not_false_eq_true, decide_false, decide_true, go_sem, entry, joinEsc, if_pos, reduceIte, Nat.reduceAdd, Nat.reduceLeDiff, Nat.reduceLT, Nat.reduceEqDiff]
  obtain ⟨z5, z6, z7, hl⟩ := hs (H ++ [.cells [.int .i64 x, .int .i64 a] true, .cells [.int .i64 y, .int .i64 b] true]) H.length (H.length + 1) (prV x a) (prV y b) .undef .undef none (by rw [cellsAt_new0]; rfl) (by rw [cellsAt_newk]; rfl)
  rw [call_eq t_l_eqIntA2]
  cases hc : (decide (x = y) && decide (a = b)) <;> rw [hc] at hl <;> simp +contextual only [a_l_eqIntA2, c_l_eqIntA2, hl, go_sem, entry, joinEsc, if_pos, reduceIte, Nat.reduceAdd, Nat.reduceLeDiff, Nat.reduceLT, Nat.reduceEqDiff]

theorem e_l_toIntA2 (x a : Int) : call T pr f_l_toIntA2 [prV x a] ⟨H, e⟩ = some (prV x a, ⟨H, e⟩) := by
  have s0 : run T pr (.loop w_l_toIntA2_1) ⟨[prV x a, .ptr (some (H.length, 0)), .ptr (some (H.length + 1, 0)), .ptr (some (H.length + 2, 0)), .int .i64 0, .undef], ⟨H ++ [.cells [.int .i64 x, .int .i64 a] true, .cells [.int .i64 0, .int .i64 0] true, .cells [.int .i64 0, .int .i64 0] true], none⟩⟩ =
      run T pr (.loop w_l_toIntA2_1) ⟨[prV x a, .ptr (some (H.length, 0)), .ptr (some (H.length + 1, 0)), .ptr (some (H.length + 2, 0)), .int .i64 1, .bool true], ⟨H ++ [.cells [.int .i64 x, .int .i64 a] true, .cells [.int .i64 0, .int .i64 0] true, .cells [.int .i64 x, .int .i64 0] true], none⟩⟩ := by
    rw [run_loop]
    generalize run T pr (.loop w_l_toIntA2_1) = R
    simp +contextual only [w_l_toIntA2_1, at02, at12, toNat0, toNat1, w01, l02, decide_true, go_sem, entry, joinEsc, if_pos, reduceIte, Nat.reduceAdd, Nat.reduceLeDiff, Nat.reduceLT, Nat.reduceEqDiff]
  have s1 : run T pr (.loop w_l_toIntA2_1) ⟨[prV x a, .ptr (some (H.length, 0)), .ptr (some (H.length + 1, 0)), .ptr (some (H.length + 2, 0)), .int .i64 1, .bool true], ⟨H ++ [.cells [.int .i64 x, .int .i64 a] true, .cells [.int .i64 0, .int .i64 0] true, .cells [.int .i64 x, .int .i64 0] true], none⟩⟩ =
      run T pr (.loop w_l_toIntA2_1) ⟨[prV x a, .ptr (some (H.length, 0)), .ptr (some (H.length + 1, 0)), .ptr (some (H.length + 2, 0)), .int .i64 2, .bool true], ⟨H ++ [.cells [.int .i64 x, .int .i64 a] true, .cells [.int .i64 0, .int .i64 0] true, .cells [.int .i64 x, .int .i64 a] true], none⟩⟩ := by
    rw [run_loop]
    generalize run T pr (.loop w_l_toIntA2_1) = R
    simp +contextual only [w_l_toIntA2_1, at02, at12, toNat0, toNat1, w11, l12, decide_true, go_sem, entry, joinEsc, if_pos, reduceIte, Nat.reduceAdd, Nat.reduceLeDiff, Nat.reduceLT, Nat.reduceEqDiff]
  have s2 : run T pr (.loop w_l_toIntA2_1) ⟨[prV x a, .ptr (some (H.length, 0)), .ptr (some (H.length + 1, 0)), .ptr (some (H.length + 2, 0)), .int .i64 2, .bool true], ⟨H ++ [.cells [.int .i64 x, .int .i64 a] true, .cells [.int .i64 0, .int .i64 0] true, .cells [.int .i64 x, .int .i64 a] true], none⟩⟩ =
      some (Ex.exit 0, ⟨[prV x a, .ptr (some (H.length, 0)), .ptr (some (H.length + 1, 0)), .ptr (some (H.length + 2, 0)), .int .i64 2, .bool false], ⟨H ++ [.cells [.int .i64 x, .int .i64 a] true, .cells [.int .i64 0, .int .i64 0] true, .cells [.int .i64 x, .int .i64 a] true], none⟩⟩) := by
    rw [run_loop]
    generalize run T pr (.loop w_l_toIntA2_1) = R
    simp +contextual only [w_l_toIntA2_1, l22, decide_false, go_sem, entry, joinEsc, if_pos, reduceIte, Nat.reduceAdd, Nat.reduceLeDiff, Nat.reduceLT, Nat.reduceEqDiff]
  rw [s1, s2] at s0
  rw [call_eq t_l_toIntA2]
  simp +contextual only [a_l_toIntA2, c_l_toIntA2, s0, go_sem, entry, joinEsc, if_pos, reduceIte, Nat.reduceAdd, Nat.reduceLeDiff, Nat.reduceLT, Nat.reduceEqDiff]

theorem e_l_szIntA2S (n : Nat) (p : Option (Nat × Nat)) (sz : Nat) (c : Option Nat) (hn : n ≤ maxLen) (k : Nat) (hk : k ≤ 1048576) : call T pr f_l_szIntA2S [.slice p sz n c, .int .i64 k] ⟨H, e⟩ = some (.int .i64 (if n ≤ k then (k : Int) - n else -1), ⟨H, e⟩) := by
  rw [call_eq t_l_szIntA2S]
  have hm : maxLen = 9223372036854775807 := by decide
  simp +contextual only [a_l_szIntA2S, c_l_szIntA2S, go_sem, entry, joinEsc, if_pos, reduceIte, Nat.reduceAdd, Nat.reduceLeDiff, Nat.reduceLT, Nat.reduceEqDiff]
  rw [wrap64 (by omega) (by omega)]
  by_cases h1 : n ≤ k
  · rw [if_neg (by omega), if_pos h1]
  · rw [if_pos (by omega), if_neg h1]

theorem loop_l_toIntA2S {p : Option (Nat × Nat)} {sz : Nat} {c : Option Nat} {ls : List Ld} {r : AV} (ha : ls ≠ [] → sz = 2 ∧ ∃ b, p = some (b, 0) ∧ cellsAt H b = some (encL ls)) (hn : ls.length ≤ 1048576) :
    ∀ (k i : Nat) (X : List Ld) (y4 : AV), k + i = ls.length → X.length = ls.length → X.take i = ls.take i → ∃ z4, run T pr (.loop w_l_toIntA2S_1) ⟨[.slice p sz ls.length c, r, slL H.length ls.length (some ls.length), .int .i64 i, y4], ⟨H ++ [.cells (encL X) true], e⟩⟩ =
      some (Ex.exit 0, ⟨[.slice p sz ls.length c, r, slL H.length ls.length (some ls.length), .int .i64 ls.length, z4], ⟨H ++ [.cells (encL ls) true], e⟩⟩)
  | 0, i, X, y4, hk, hX, ht => by
    have hi : i = ls.length := by omega
    subst hi
    rw [List.take_of_length_le (by omega), List.take_of_length_le (by omega)] at ht
    subst ht
    refine ⟨.bool false, ?_⟩
    rw [run_loop]
    generalize run T pr (.loop w_l_toIntA2S_1) = R
    simp +contextual only [w_l_toIntA2S_1, Nat.lt_irrefl, decide_false, go_sem, entry, joinEsc, if_pos, reduceIte, Nat.reduceAdd, Nat.reduceLeDiff, Nat.reduceLT, Nat.reduceEqDiff]
  | k + 1, i, X, y4, hk, hX, ht => by
    have hi : i < ls.length := by omega
    obtain ⟨rfl, b, rfl, hb⟩ := ha (fun h => by rw [h] at hi; simp at hi)
    have hl : ls[i]? = some ls[i] := List.getElem?_eq_getElem hi
    obtain ⟨z4, ih⟩ := loop_l_toIntA2S (c := c) (r := r) ha hn k (i + 1) (X.set i ls[i]) (.bool true) (by omega) (by simpa using hX) (take_set_succ hi hX ht)
    refine ⟨z4, ?_⟩
    rw [run_loop]
    generalize run T pr (.loop w_l_toIntA2S_1) = R at ih ⊢
    have hle : i * 2 + 2 ≤ (encL X).length := by rw [encL_length]; omega
    simp +contextual only [w_l_toIntA2S_1, cells_mono hb, hi, hl, part_encL hl, e_l_toIntA2, hle, setRange_encL (show i < X.length by omega), wrap_succ (show i < 9223372036854775807 by omega), decide_true, go_sem, entry, joinEsc, if_pos, reduceIte, Nat.reduceAdd, Nat.reduceLeDiff, Nat.reduceLT, Nat.reduceEqDiff]
    exact ih

theorem e_l_toIntA2S {av : AV} {ls : List Ld} (ha : ArgL H av ls) (hn : ls.length ≤ 1048576) : call T pr f_l_toIntA2S [av] ⟨H, e⟩ = some (slL H.length ls.length (some ls.length), ⟨H ++ [.cells (encL ls) true], e⟩) := by
  obtain ⟨p, sz, c, rfl, _, ha⟩ := ha
  obtain ⟨z4, hl⟩ := loop_l_toIntA2S (pr := pr) (e := none) (c := c) (r := .slice none 0 0 none) ha hn ls.length 0 (List.replicate ls.length (0, 0)) .undef (by omega) (by simp) (by simp)
  rw [call_eq t_l_toIntA2S]
  have h0 : ((0 : Nat) : Int) = 0 := rfl
  have hmb : (ls.length : Int) * ((16 : Nat) : Int) ≤ ((maxBytes : Nat) : Int) := by unfold maxBytes; omega
  rw [h0, ← zeros_encL] at hl
  simp +contextual only [a_l_toIntA2S, c_l_toIntA2S, hmb, hl, under_encL, go_sem, entry, joinEsc, if_pos, reduceIte, Nat.reduceAdd, Nat.reduceLeDiff, Nat.reduceLT, Nat.reduceEqDiff]

theorem loop_l_eqIntA2S {b1 b2 : Nat} {c1 c2 : Option Nat} {ls : List Ld} {y4 : AV} (h1 : cellsAt H b1 = some (encL ls)) (h2 : cellsAt H b2 = some (encL ls)) (hn : ls.length ≤ 9223372036854775806) :
    ∀ (k i : Nat) (x5 x6 : AV), k + i = ls.length → ∃ y5 y6, run T pr (.loop w_l_eqIntA2S_1) ⟨[slL b1 ls.length c1, slL b2 ls.length c2, .bool false, .int .i64 i, y4, x5, x6], ⟨H, e⟩⟩ =
      some (.exit 0, ⟨[slL b1 ls.length c1, slL b2 ls.length c2, .bool false, .int .i64 ls.length, y4, y5, y6], ⟨H, e⟩⟩)
  | 0, i, x5, x6, hk => by
    have hi : i = ls.length := by omega
    subst hi
    refine ⟨.bool false, x6, ?_⟩
    rw [run_loop]
    generalize run T pr (.loop w_l_eqIntA2S_1) = R
    simp +contextual only [w_l_eqIntA2S_1, Nat.lt_irrefl, decide_false, go_sem, entry, joinEsc, if_pos, reduceIte, Nat.reduceAdd, Nat.reduceLeDiff, Nat.reduceLT, Nat.reduceEqDiff]
  | k + 1, i, x5, x6, hk => by
    have hi : i < ls.length := by omega
    obtain ⟨y5, y6, ih⟩ := loop_l_eqIntA2S (c1 := c1) (c2 := c2) (y4 := y4) h1 h2 hn k (i + 1) (.bool true) (.bool false) (by omega)
    refine ⟨y5, y6, ?_⟩
    rw [run_loop]
    generalize run T pr (.loop w_l_eqIntA2S_1) = R at ih ⊢
    have hl : ls[i]? = some ls[i] := List.getElem?_eq_getElem hi
    simp +contextual only [w_l_eqIntA2S_1, h1, h2, hi, hl, part_encL hl, e_l_eqIntA2, wrap_succ (show i < 9223372036854775807 by omega), decide_true, Bool.not_true, go_sem, entry, joinEsc, if_pos, reduceIte, Nat.reduceAdd, Nat.reduceLeDiff, Nat.reduceLT, Nat.reduceEqDiff]
    exact ih

theorem e_l_eqIntA2S {b1 b2 : Nat} {c1 c2 : Option Nat} {ls : List Ld} (h1 : cellsAt H b1 = some (encL ls)) (h2 : cellsAt H b2 = some (encL ls)) (hn : ls.length ≤ 9223372036854775806) :
    call T pr f_l_eqIntA2S [slL b1 ls.length c1, slL b2 ls.length c2] ⟨H, e⟩ = some (.bool true, ⟨H, e⟩) := by
  obtain ⟨z5, z6, hl⟩ := loop_l_eqIntA2S (pr := pr) (e := none) (c1 := c1) (c2 := c2) (y4 := .bool false) h1 h2 hn ls.length 0 .undef .undef rfl
  have h0 : ((0 : Nat) : Int) = 0 := rfl
  rw [h0] at hl
  rw [call_eq t_l_eqIntA2S]
  simp +contextual only [a_l_eqIntA2S, c_l_eqIntA2S, hl, decide_true, not_true_eq_false, decide_false, go_sem, entry, joinEsc, if_pos, reduceIte, Nat.reduceAdd, Nat.reduceLeDiff, Nat.reduceLT, Nat.reduceEqDiff]

theorem e_l_eqIntA2S_none {p1 p2 : Option (Nat × Nat)} {s1 s2 : Nat} {c1 c2 : Option Nat} : call T pr f_l_eqIntA2S [.slice p1 s1 0 c1, .slice p2 s2 0 c2] ⟨H, e⟩ = some (.bool true, ⟨H, e⟩) := by
  have h0 : ((0 : Nat) : Int) = 0 := rfl
  rw [call_eq t_l_eqIntA2S]
  have hl : run T pr (.loop w_l_eqIntA2S_1) ⟨[.slice p1 s1 0 c1, .slice p2 s2 0 c2, .bool false, .int .i64 0, .bool false, .undef, .undef], ⟨H, none⟩⟩ = some (.exit 0, ⟨[.slice p1 s1 0 c1, .slice p2 s2 0 c2, .bool false, .int .i64 0, .bool false, .bool false, .undef], ⟨H, none⟩⟩) := by
    rw [run_loop]
    generalize run T pr (.loop w_l_eqIntA2S_1) = R
    simp +contextual only [w_l_eqIntA2S_1, h0, Int.lt_irrefl, decide_false, go_sem, entry, joinEsc, if_pos, reduceIte, Nat.reduceAdd, Nat.reduceLeDiff, Nat.reduceLT, Nat.reduceEqDiff]
  simp +contextual only [a_l_eqIntA2S, c_l_eqIntA2S, hl, h0, decide_true, go_sem, entry, joinEsc, if_pos, reduceIte, Nat.reduceAdd, Nat.reduceLeDiff, Nat.reduceLT, Nat.reduceEqDiff]

theorem loop_l_markIntA2S_1 {L : List Blk} {b n k : Nat} {c : Option Nat} {r y5 y6 : AV} {P R : List Ld} {x : Ld} (hb : b < L.length) (hi : P.length < n) (hk : k ≤ 16777216) :
    run T pr (.loop w_l_markIntA2S_1) ⟨[slL b n c, .int .i64 k, r, .int .i64 P.length, .int .i64 0, y5, y6], ⟨L.set b (.cells (encL (P ++ x :: R)) true), e⟩⟩ =
      some (Ex.exit 2, ⟨[slL b n c, .int .i64 (k + 2 : Nat), r, .int .i64 P.length, .int .i64 2, y5, .bool false], ⟨L.set b (.cells (encL (P ++ ((k : Int), ((k + 1 : Nat) : Int)) :: R)) true), e⟩⟩) := by
  have hg : ∀ y : Ld, (L.set b (.cells (encL (P ++ y :: R)) true))[b]? = some (.cells (encL (P ++ y :: R)) true) := fun y => List.getElem?_set_self hb
  have hle : ∀ y : Ld, P.length * 2 + 1 ≤ (encL (P ++ y :: R)).length := by intro y; rw [encL_length]; simp; omega
  have hle' : ∀ y : Ld, P.length * 2 + 1 + 1 ≤ (encL (P ++ y :: R)).length := by intro y; rw [encL_length]; simp; omega
  have hw1 : IntKind.i64.wrap ((k : Int) + 1) = ((k + 1 : Nat) : Int) := wrap_succ (show k < 9223372036854775807 by omega)
  have hw2 : IntKind.i64.wrap (((k + 1 : Nat) : Int) + 1) = ((k + 2 : Nat) : Int) := wrap_succ (show k + 1 < 9223372036854775807 by omega)
  have s0 : run T pr (.loop w_l_markIntA2S_1) ⟨[slL b n c, .int .i64 k, r, .int .i64 P.length, .int .i64 0, y5, y6], ⟨L.set b (.cells (encL (P ++ x :: R)) true), e⟩⟩ =
      run T pr (.loop w_l_markIntA2S_1) ⟨[slL b n c, .int .i64 (k + 1 : Nat), r, .int .i64 P.length, .int .i64 1, y5, .bool true], ⟨L.set b (.cells (encL (P ++ ((k : Int), x.2) :: R)) true), e⟩⟩ := by
    rw [run_loop]
    generalize run T pr (.loop w_l_markIntA2S_1) = R'
    simp +contextual only [w_l_markIntA2S_1, hi, hg, hle, hle', setRange_midL0, List.set_set, at02, toNat0, w01, l02, hw1, decide_true, go_sem, entry, joinEsc, if_pos, reduceIte, Nat.reduceAdd, Nat.reduceLeDiff, Nat.reduceLT, Nat.reduceEqDiff]
  have s1 : run T pr (.loop w_l_markIntA2S_1) ⟨[slL b n c, .int .i64 (k + 1 : Nat), r, .int .i64 P.length, .int .i64 1, y5, .bool true], ⟨L.set b (.cells (encL (P ++ ((k : Int), x.2) :: R)) true), e⟩⟩ =
      run T pr (.loop w_l_markIntA2S_1) ⟨[slL b n c, .int .i64 (k + 2 : Nat), r, .int .i64 P.length, .int .i64 2, y5, .bool true], ⟨L.set b (.cells (encL (P ++ ((k : Int), ((k + 1 : Nat) : Int)) :: R)) true), e⟩⟩ := by
    rw [run_loop]
    generalize run T pr (.loop w_l_markIntA2S_1) = R'
    simp +contextual only [w_l_markIntA2S_1, hi, hg, hle, hle', setRange_midL1, List.set_set, at12, toNat1, w11, l12, hw2, decide_true, go_sem, entry, joinEsc, if_pos, reduceIte, Nat.reduceAdd, Nat.reduceLeDiff, Nat.reduceLT, Nat.reduceEqDiff]
  rw [s0, s1, run_loop]
  generalize run T pr (.loop w_l_markIntA2S_1) = R'
  simp +contextual only [w_l_markIntA2S_1, l22, decide_false, go_sem, entry, joinEsc, if_pos, reduceIte, Nat.reduceAdd, Nat.reduceLeDiff, Nat.reduceLT, Nat.reduceEqDiff]

theorem loop_l_markIntA2S {L : List Blk} {b n : Nat} {c : Option Nat} {r : AV} (hb : b < L.length) (hn : n ≤ 4194304) :
    ∀ (R P : List Ld) (k : Nat) (y4 y5 y6 : AV), P.length + R.length = n → k + R.length * 2 ≤ 16777216 → ∃ z4 z5 z6, run T pr (.loop w_l_markIntA2S_2) ⟨[slL b n c, .int .i64 k, r, .int .i64 P.length, y4, y5, y6], ⟨L.set b (.cells (encL (P ++ R)) true), e⟩⟩ =
      some (Ex.exit 0, ⟨[slL b n c, .int .i64 ((k + R.length * 2 : Nat) : Int), r, .int .i64 n, z4, z5, z6], ⟨L.set b (.cells (encL (P ++ markedL k R.length)) true), e⟩⟩)
  | [], P, k, y4, y5, y6, hP, hk => by
    refine ⟨y4, .bool false, y6, ?_⟩
    obtain rfl : n = P.length := by simp at hP; omega
    rw [run_loop]
    generalize run T pr (.loop w_l_markIntA2S_2) = R'
    simp +contextual only [w_l_markIntA2S_2, Nat.lt_irrefl, decide_false, markedL, Nat.zero_mul, go_sem, entry, joinEsc, if_pos, reduceIte, Nat.reduceAdd, Nat.reduceLeDiff, Nat.reduceLT, Nat.reduceEqDiff]
  | x :: R, P, k, y4, y5, y6, hP, hk => by
    simp only [List.length_cons] at hP hk
    have hi : P.length < n := by omega
    obtain ⟨z4, z5, z6, ih⟩ := loop_l_markIntA2S (c := c) (r := r) hb hn R (P ++ [((k : Int), ((k + 1 : Nat) : Int))]) (k + 2) (.int .i64 2) (.bool true) (.bool false) (by simp; omega) (by omega)
    refine ⟨z4, z5, z6, ?_⟩
    have hl := fun y6 => loop_l_markIntA2S_1 (pr := pr) (e := e) (c := c) (r := r) (y5 := .bool true) (y6 := y6) (P := P) (R := R) (x := x) hb hi (show k ≤ 16777216 by omega)
    rw [run_loop]
    generalize run T pr (.loop w_l_markIntA2S_2) = R' at ih ⊢
    rw [show k + 2 + R.length * 2 = k + (R.length + 1) * 2 by omega] at ih
    simp only [List.append_assoc, List.singleton_append, List.length_append, List.length_cons, List.length_nil, Nat.zero_add] at ih
    simp +contextual only [w_l_markIntA2S_2, hi, hl, markedL, wrap_succ (show P.length < 9223372036854775807 by omega), decide_true, go_sem, entry, joinEsc, if_pos, reduceIte, Nat.reduceAdd, Nat.reduceLeDiff, Nat.reduceLT, Nat.reduceEqDiff]
    exact ih

theorem e_l_markIntA2S {L : List Blk} {b : Nat} {c : Option Nat} {ls : List Ld} (h : L[b]? = some (.cells (encL ls) true)) (hn : ls.length ≤ 4194304) (k : Nat) (hk : k ≤ 4194304) : call T pr f_l_markIntA2S [slL b ls.length c, .int .i64 k] ⟨L, e⟩ =
    some (.int .i64 ((k + ls.length * 2 : Nat) : Int), ⟨L.set b (.cells (encL (markedL k ls.length)) true), e⟩) := by
  have hb := (List.getElem?_eq_some_iff.mp h).1
  obtain ⟨z4, z5, z6, hl⟩ := loop_l_markIntA2S (pr := pr) (e := none) (c := c) (r := .int .i64 0) hb hn ls [] k .undef .undef .undef (by simp) (by omega)
  have h0 : ((0 : Nat) : Int) = 0 := rfl
  rw [List.length_nil, h0, List.nil_append, List.nil_append, set_same h] at hl
  rw [call_eq t_l_markIntA2S]
  simp +contextual only [a_l_markIntA2S, c_l_markIntA2S, hl, finish_one_set, go_sem, entry, joinEsc, if_pos, reduceIte, Nat.reduceAdd, Nat.reduceLeDiff, Nat.reduceLT, Nat.reduceEqDiff]

theorem e_l_markIntA2S_none {p1 : Option (Nat × Nat)} {s1 : Nat} {c1 : Option Nat} (x : Int) : call T pr f_l_markIntA2S [.slice p1 s1 0 c1, .int .i64 x] ⟨H, e⟩ = some (.int .i64 x, ⟨H, e⟩) := by
  have h0 : ((0 : Nat) : Int) = 0 := rfl
  rw [call_eq t_l_markIntA2S]
  have hl : run T pr (.loop w_l_markIntA2S_2) ⟨[.slice p1 s1 0 c1, .int .i64 x, .int .i64 0, .int .i64 0, .undef, .undef, .undef], ⟨H, none⟩⟩ = some (.exit 0, ⟨[.slice p1 s1 0 c1, .int .i64 x, .int .i64 0, .int .i64 0, .undef, .bool false, .undef], ⟨H, none⟩⟩) := by
    rw [run_loop]
    generalize run T pr (.loop w_l_markIntA2S_2) = R
    simp +contextual only [w_l_markIntA2S_2, h0, Int.lt_irrefl, decide_false, go_sem, entry, joinEsc, if_pos, reduceIte, Nat.reduceAdd, Nat.reduceLeDiff, Nat.reduceLT, Nat.reduceEqDiff]
  simp +contextual only [a_l_markIntA2S, c_l_markIntA2S, hl, h0, decide_true, go_sem, entry, joinEsc, if_pos, reduceIte, Nat.reduceAdd, Nat.reduceLeDiff, Nat.reduceLT, Nat.reduceEqDiff]

theorem loop_l_heldIntA2S_1 {q n i K : Nat} {l : Ld} {ls : List Ld} {c : Option Nat} {r y5 y6 y7 : AV} (h : cellsAt H q = some (encL ls)) (hi : i < n) (hl : ls[i]? = some ((K : Int), ((K + 1 : Nat) : Int))) (hk : K ≤ 33554432) :
    ∃ z7, run T pr (.loop w_l_heldIntA2S_1) ⟨[slL q n c, .int .i64 K, r, .int .i64 i, .int .i64 0, y5, y6, y7], ⟨H, e⟩⟩ =
      some (Ex.exit 2, ⟨[slL q n c, .int .i64 (K + 2 : Nat), r, .int .i64 i, .int .i64 2, y5, .bool false, z7], ⟨H, e⟩⟩) := by
  have hw1 : IntKind.i64.wrap ((K : Int) + 1) = ((K + 1 : Nat) : Int) := wrap_succ (show K < 9223372036854775807 by omega)
  have hw2 : IntKind.i64.wrap (((K + 1 : Nat) : Int) + 1) = ((K + 2 : Nat) : Int) := wrap_succ (show K + 1 < 9223372036854775807 by omega)
  have s0 : run T pr (.loop w_l_heldIntA2S_1) ⟨[slL q n c, .int .i64 K, r, .int .i64 i, .int .i64 0, y5, y6, y7], ⟨H, e⟩⟩ =
      run T pr (.loop w_l_heldIntA2S_1) ⟨[slL q n c, .int .i64 (K + 1 : Nat), r, .int .i64 i, .int .i64 1, y5, .bool true, .bool false], ⟨H, e⟩⟩ := by
    rw [run_loop]
    generalize run T pr (.loop w_l_heldIntA2S_1) = R'
    simp +contextual only [w_l_heldIntA2S_1, hi, h, part_encL0 _ hl, at02, toNat0, w01, l02, hw1, not_true_eq_false, decide_false, decide_true, go_sem, entry, joinEsc, if_pos, reduceIte, Nat.reduceAdd, Nat.reduceLeDiff, Nat.reduceLT, Nat.reduceEqDiff]
  have s1 : run T pr (.loop w_l_heldIntA2S_1) ⟨[slL q n c, .int .i64 (K + 1 : Nat), r, .int .i64 i, .int .i64 1, y5, .bool true, .bool false], ⟨H, e⟩⟩ =
      run T pr (.loop w_l_heldIntA2S_1) ⟨[slL q n c, .int .i64 (K + 2 : Nat), r, .int .i64 i, .int .i64 2, y5, .bool true, .bool false], ⟨H, e⟩⟩ := by
    rw [run_loop]
    generalize run T pr (.loop w_l_heldIntA2S_1) = R'
    simp +contextual only [w_l_heldIntA2S_1, hi, h, part_encL1 _ hl, at12, toNat1, w11, l12, hw2, not_true_eq_false, decide_false, decide_true, go_sem, entry, joinEsc, if_pos, reduceIte, Nat.reduceAdd, Nat.reduceLeDiff, Nat.reduceLT, Nat.reduceEqDiff]
  refine ⟨.bool false, ?_⟩
  rw [s0, s1, run_loop]
  generalize run T pr (.loop w_l_heldIntA2S_1) = R'
  simp +contextual only [w_l_heldIntA2S_1, l22, decide_false, go_sem, entry, joinEsc, if_pos, reduceIte, Nat.reduceAdd, Nat.reduceLeDiff, Nat.reduceLT, Nat.reduceEqDiff]

theorem loop_l_heldIntA2S {q n k0 : Nat} {c : Option Nat} {r : AV} (h : cellsAt H q = some (encL (markedL k0 n))) (hn : n ≤ 4194304) (hk0 : k0 ≤ 16777216) :
    ∀ (k i : Nat) (y4 y5 y6 y7 : AV), k + i = n → ∃ z4 z5 z6 z7, run T pr (.loop w_l_heldIntA2S_2) ⟨[slL q n c, .int .i64 ((k0 + i * 2 : Nat) : Int), r, .int .i64 i, y4, y5, y6, y7], ⟨H, e⟩⟩ =
      some (Ex.exit 0, ⟨[slL q n c, .int .i64 ((k0 + n * 2 : Nat) : Int), r, .int .i64 n, z4, z5, z6, z7], ⟨H, e⟩⟩)
  | 0, i, y4, y5, y6, y7, hk => by
    have hi : i = n := by omega
    subst hi
    refine ⟨y4, .bool false, y6, y7, ?_⟩
    rw [run_loop]
    generalize run T pr (.loop w_l_heldIntA2S_2) = R
    simp +contextual only [w_l_heldIntA2S_2, Nat.lt_irrefl, decide_false, go_sem, entry, joinEsc, if_pos, reduceIte, Nat.reduceAdd, Nat.reduceLeDiff, Nat.reduceLT, Nat.reduceEqDiff]
  | k + 1, i, y4, y5, y6, y7, hk => by
    have hi : i < n := by omega
    have hl := markedL_get n k0 i hi
    obtain ⟨w7, hin⟩ := loop_l_heldIntA2S_1 (pr := pr) (e := e) (c := c) (r := r) (y5 := .bool true) (y6 := y6) (y7 := y7) (l := (0, 0)) h hi hl (by omega)
    obtain ⟨z4, z5, z6, z7, ih⟩ := loop_l_heldIntA2S (c := c) (r := r) h hn hk0 k (i + 1) (.int .i64 2) (.bool true) (.bool false) w7 (by omega)
    refine ⟨z4, z5, z6, z7, ?_⟩
    rw [run_loop]
    rw [show k0 + (i + 1) * 2 = k0 + i * 2 + 2 by omega] at ih
    generalize k0 + i * 2 = K at hin ih ⊢
    generalize run T pr (.loop w_l_heldIntA2S_2) = R at ih ⊢
    simp +contextual only [w_l_heldIntA2S_2, hi, hin, wrap_succ (show i < 9223372036854775807 by omega), decide_true, go_sem, entry, joinEsc, if_pos, reduceIte, Nat.reduceAdd, Nat.reduceLeDiff, Nat.reduceLT, Nat.reduceEqDiff]
    exact ih

theorem e_l_heldIntA2S {q n k : Nat} {c : Option Nat} (h : cellsAt H q = some (encL (markedL k n))) (hn : n ≤ 4194304) (hk : k ≤ 16777216) : call T pr f_l_heldIntA2S [slL q n c, .int .i64 k] ⟨H, e⟩ = some (.int .i64 ((k + n * 2 : Nat) : Int), ⟨H, e⟩) := by
  obtain ⟨z4, z5, z6, z7, hl⟩ := loop_l_heldIntA2S (pr := pr) (e := none) (c := c) (r := .int .i64 0) h hn hk n 0 .undef .undef .undef .undef rfl
  have h0 : ((0 : Nat) : Int) = 0 := rfl
  rw [h0, Nat.zero_mul, Nat.add_zero] at hl
  rw [call_eq t_l_heldIntA2S]
  simp +contextual only [a_l_heldIntA2S, c_l_heldIntA2S, hl, go_sem, entry, joinEsc, if_pos, reduceIte, Nat.reduceAdd, Nat.reduceLeDiff, Nat.reduceLT, Nat.reduceEqDiff]

theorem e_l_heldIntA2S_none {p1 : Option (Nat × Nat)} {s1 : Nat} {c1 : Option Nat} (x : Int) : call T pr f_l_heldIntA2S [.slice p1 s1 0 c1, .int .i64 x] ⟨H, e⟩ = some (.int .i64 x, ⟨H, e⟩) := by
  have h0 : ((0 : Nat) : Int) = 0 := rfl
  rw [call_eq t_l_heldIntA2S]
  have hl : run T pr (.loop w_l_heldIntA2S_2) ⟨[.slice p1 s1 0 c1, .int .i64 x, .int .i64 0, .int .i64 0, .undef, .undef, .undef, .undef], ⟨H, none⟩⟩ = some (.exit 0, ⟨[.slice p1 s1 0 c1, .int .i64 x, .int .i64 0, .int .i64 0, .undef, .bool false, .undef, .undef], ⟨H, none⟩⟩) := by
    rw [run_loop]
    generalize run T pr (.loop w_l_heldIntA2S_2) = R
    simp +contextual only [w_l_heldIntA2S_2, h0, Int.lt_irrefl, decide_false, go_sem, entry, joinEsc, if_pos, reduceIte, Nat.reduceAdd, Nat.reduceLeDiff, Nat.reduceLT, Nat.reduceEqDiff]
  simp +contextual only [a_l_heldIntA2S, c_l_heldIntA2S, hl, h0, decide_true, go_sem, entry, joinEsc, if_pos, reduceIte, Nat.reduceAdd, Nat.reduceLeDiff, Nat.reduceLT, Nat.reduceEqDiff]

end Go.Proofs.Ythkgpblohjpcdaa.Slim
