/- Copies of rows, searches in rows, and moments. -/
import Derived.Test.YtaikmfldjkbmmaaSlimE2
namespace Go.Proofs.Ytaikmfldjkbmmaa.Slim
open Go
set_option linter.unusedSimpArgs false
set_option linter.unusedVariables false

variable {pr : Prims} {H : List Blk} {e : Option Nat}

theorem setRange_encL {X : List Ld} {i : Nat} {a b : Int} (h : i < X.length) : setRange (encL X) (i * 2) [.int .i64 a, .int .i64 b] = encL (X.set i (a, b)) := by
  induction X generalizing i with
  | nil => simp at h
  | cons x X ih =>
    cases i with
    | zero => simp [encL, setRange]
    | succ i =>
      rw [show (i + 1) * 2 = i * 2 + 1 + 1 by omega, encL, setRange_k, setRange_k, ih (by simpa using h)]
      rfl

theorem under_encL (n : Nat) : ∀ ls : List Ld, ((encL ls).all fun c => c.under n) = true
  | [] => rfl
  | l :: ls => by simp [encL, AV.under, under_encL n ls]

theorem zeros_encL : ∀ n, zeros n [.int .i64 0, .int .i64 0] = encL (List.replicate n (0, 0))
  | 0 => rfl
  | n + 1 => by
    have := zeros_encL n
    unfold zeros at *
    simp only [List.replicate_succ, List.flatten_cons, encL, List.cons_append, List.nil_append, this]

theorem take_set_succ {X ls : List Ld} {i : Nat} (hi : i < ls.length) (hX : X.length = ls.length) (h : X.take i = ls.take i) : (X.set i ls[i]).take (i + 1) = ls.take (i + 1) := by
  rw [List.take_succ_eq_append_getElem (by rw [List.length_set]; omega), List.take_succ_eq_append_getElem hi]
  rw [List.take_set_of_le (Nat.le_refl _), h]
  simp

/-- a slice of loads, as a law is handed it: nil or not -/
def ArgL (H : List Blk) (av : AV) (ls : List Ld) : Prop :=
  ∃ p sz c, av = .slice p sz ls.length c ∧ ls.length ≤ maxLen ∧ (ls ≠ [] → sz = 2 ∧ ∃ b, p = some (b, 0) ∧ cellsAt H b = some (encL ls))

/-- the loop of toLoadS -/
theorem loop_l_toLoadS {p : Option (Nat × Nat)} {sz : Nat} {c : Option Nat} {ls : List Ld} {r : AV} (ha : ls ≠ [] → sz = 2 ∧ ∃ b, p = some (b, 0) ∧ cellsAt H b = some (encL ls)) (hn : ls.length ≤ 1048576) :
    ∀ (k i : Nat) (X : List Ld) (y4 : AV), k + i = ls.length → X.length = ls.length → X.take i = ls.take i → ∃ z4, run T pr (.loop w_l_toLoadS_1) ⟨[.slice p sz ls.length c, r, slL H.length ls.length (some ls.length), .int .i64 i, y4], ⟨H ++ [.cells (encL X) true], e⟩⟩ =
      some (Ex.exit 0, ⟨[.slice p sz ls.length c, r, slL H.length ls.length (some ls.length), .int .i64 ls.length, z4], ⟨H ++ [.cells (encL ls) true], e⟩⟩)
  | 0, i, X, y4, hk, hX, ht => by
    have hi : i = ls.length := by omega
    subst hi
    rw [List.take_of_length_le (by omega), List.take_of_length_le (by omega)] at ht
    subst ht
    refine ⟨.bool false, ?_⟩
    rw [run_loop]
    generalize run T pr (.loop w_l_toLoadS_1) = R
    simp +contextual only [w_l_toLoadS_1, Nat.lt_irrefl, decide_false, run_seq, run_cond, run_block, run_region, run_draw, run_skip, run_exit, run_ret, thenRun_normal, thenRun_ret, thenRun_exit, thenRun_none, thenRun_ite, inBlock_normal, inBlock_ret, inBlock_exit, inBlock_none, inBlock_ite, condOf_bool, pickRun_some, outRun_some, outRun_none, outRun_ite, endCall_normal, endCall_ret, endCall_exit, endCall_none, endCall_ite, aops_nil, aops_cons, aops_guard, opThen_some, opThen_none, opThen_ite, guardP_true, guardP_false, guardP_some, guardP_ite, guardThen_some, guardThen_ite, guardOf_true, guardOf_false, guardOf_tup, dops_nil, dops_cons, dops_again, dops_guard, dops_guard_again, toldAnew_nil, toldAnew_cons, toldAnew_guard, memop_load, get_t, get_l, get_c, valOf_some, valOf_none, valOf_ite, aop_mv, aop_bin, pickV_bool, aop_pick, aop_un, aop_makeFunc, convV_int, aop_conv, eqCellsV_agg, aop_eqCells, fieldAddrV_ptr, aop_fieldAddr, fieldV_agg, aop_field, indexAddrSV_slice, aop_indexAddrS, indexAddrAV_ptr, aop_indexAddrA, indexAV_agg, aop_indexA, indexSV_str, aop_indexS, extractV_tup, aop_extract, lenV_slice, aop_len, lenStrV_str, aop_lenStr, aop_lenA, max2V_int, aop_max2, min2V_int, aop_min2, aop_build, aop_load, aop_alloc, boxV_some, aop_box, buildSliceV_some, aop_buildSlice, aop_store, callV_fn, aop_call, makeSliceV_int, aop_makeSlice, aop_append, binop_add, binop_sub, binop_mul, binop_quo, binop_rem, binop_eql, binop_neq, binop_lss, binop_leq, binop_gtr, binop_geq, binop_shl, binop_shr, binop_band, binop_bor, binop_bxor, binop_bandnot, binop_beql, binop_bneq, binop_seql, binop_sneq, unop_neg, unop_not, setOuts_nil, setOuts_cons, cellsAt_new0, cellsAt_newk, cellsAt_cons0, cellsAt_consk, partOf_some, loadAt_ptr, part_f0, part_fk, part_t0, part_tk, blkAt_new0, blkAt_newk, set_new0, set_newk, storeV_ptr, storeAt_cells, setRange_0, setRange_k, setRange_nil, all_cons, all_nil, cellsOf_agg, cellsOf_int, cellsOf_bool, cellsOf_str, cellsOf_ptr, cellsOf_slice, cellsOf_fn, merge_normal, merge_cons, merge_bool, merge_int, resultList_nil, consV_some, resultList_tmp, resultList_cell, finRun_finV, finV_some, finish_zero, finish_one, finish_one', finish_two_slice, tupled_one, tupled_nil, tupled_two, under_int, under_bool, under_str, under_agg, under_tup, under_cons, under_nil, entry, List.map_cons, List.map_nil, List.getElem?_cons_zero, List.getElem?_cons_succ, List.getElem?_nil, Option.getD_some, Option.getD_none, List.nil_append, List.cons_append, List.append_nil, List.append_assoc, List.set_cons_zero, List.set_cons_succ, List.length_cons, List.length_nil, List.length_append, Nat.zero_add, Nat.add_zero, Nat.reduceAdd, Nat.reduceLeDiff, List.take_succ_cons, List.take_zero, List.drop_succ_cons, List.drop_zero, if_true, if_false, Bool.not_true, Bool.not_false, Bool.true_eq_false, Bool.false_and, Bool.and_false, Bool.or_true, Bool.or_false, Bool.true_or, Bool.false_or, Nat.lt_add_one, Nat.succ_pos, Nat.reduceLT, Nat.reduceEqDiff, Bool.if_false_right, Bool.if_true_left, Bool.if_true_right, Bool.if_false_left, Bool.decide_eq_true, Int.toNat_natCast, Int.natCast_nonneg, Int.ofNat_lt,  ite_self, reduceIte, Bool.true_and, Bool.and_true, Bool.false_eq_true, Bool.not_eq_true', decide_eq_true_eq, true_and, and_true, joinEsc, Option.map_some, Option.map_none]
  | k + 1, i, X, y4, hk, hX, ht => by
    have hi : i < ls.length := by omega
    have hl : ls[i]? = some ls[i] := List.getElem?_eq_getElem hi
    obtain ⟨rfl, b, rfl, hb⟩ := ha (by intro h; subst h; simp at hi)
    obtain ⟨z4, ih⟩ := loop_l_toLoadS (c := c) (r := r) ha hn k (i + 1) (X.set i ls[i]) (.bool true) (by omega) (by simpa using hX) (take_set_succ hi hX ht)
    refine ⟨z4, ?_⟩
    rw [run_loop]
    generalize run T pr (.loop w_l_toLoadS_1) = R at ih ⊢
    have hle : i * 2 + 2 ≤ (encL X).length := by rw [encL_length]; omega
    simp +contextual only [w_l_toLoadS_1, cells_mono hb, hi, hl, part_encL hl, e_l_toLoad, hle, setRange_encL (show i < X.length by omega), wrap_succ (show i < 9223372036854775807 by omega), decide_true, run_seq, run_cond, run_block, run_region, run_draw, run_skip, run_exit, run_ret, thenRun_normal, thenRun_ret, thenRun_exit, thenRun_none, thenRun_ite, inBlock_normal, inBlock_ret, inBlock_exit, inBlock_none, inBlock_ite, condOf_bool, pickRun_some, outRun_some, outRun_none, outRun_ite, endCall_normal, endCall_ret, endCall_exit, endCall_none, endCall_ite, aops_nil, aops_cons, aops_guard, opThen_some, opThen_none, opThen_ite, guardP_true, guardP_false, guardP_some, guardP_ite, guardThen_some, guardThen_ite, guardOf_true, guardOf_false, guardOf_tup, dops_nil, dops_cons, dops_again, dops_guard, dops_guard_again, toldAnew_nil, toldAnew_cons, toldAnew_guard, memop_load, get_t, get_l, get_c, valOf_some, valOf_none, valOf_ite, aop_mv, aop_bin, pickV_bool, aop_pick, aop_un, aop_makeFunc, convV_int, aop_conv, eqCellsV_agg, aop_eqCells, fieldAddrV_ptr, aop_fieldAddr, fieldV_agg, aop_field, indexAddrSV_slice, aop_indexAddrS, indexAddrAV_ptr, aop_indexAddrA, indexAV_agg, aop_indexA, indexSV_str, aop_indexS, extractV_tup, aop_extract, lenV_slice, aop_len, lenStrV_str, aop_lenStr, aop_lenA, max2V_int, aop_max2, min2V_int, aop_min2, aop_build, aop_load, aop_alloc, boxV_some, aop_box, buildSliceV_some, aop_buildSlice, aop_store, callV_fn, aop_call, makeSliceV_int, aop_makeSlice, aop_append, binop_add, binop_sub, binop_mul, binop_quo, binop_rem, binop_eql, binop_neq, binop_lss, binop_leq, binop_gtr, binop_geq, binop_shl, binop_shr, binop_band, binop_bor, binop_bxor, binop_bandnot, binop_beql, binop_bneq, binop_seql, binop_sneq, unop_neg, unop_not, setOuts_nil, setOuts_cons, cellsAt_new0, cellsAt_newk, cellsAt_cons0, cellsAt_consk, partOf_some, loadAt_ptr, part_f0, part_fk, part_t0, part_tk, blkAt_new0, blkAt_newk, set_new0, set_newk, storeV_ptr, storeAt_cells, setRange_0, setRange_k, setRange_nil, all_cons, all_nil, cellsOf_agg, cellsOf_int, cellsOf_bool, cellsOf_str, cellsOf_ptr, cellsOf_slice, cellsOf_fn, merge_normal, merge_cons, merge_bool, merge_int, resultList_nil, consV_some, resultList_tmp, resultList_cell, finRun_finV, finV_some, finish_zero, finish_one, finish_one', finish_two_slice, tupled_one, tupled_nil, tupled_two, under_int, under_bool, under_str, under_agg, under_tup, under_cons, under_nil, entry, List.map_cons, List.map_nil, List.getElem?_cons_zero, List.getElem?_cons_succ, List.getElem?_nil, Option.getD_some, Option.getD_none, List.nil_append, List.cons_append, List.append_nil, List.append_assoc, List.set_cons_zero, List.set_cons_succ, List.length_cons, List.length_nil, List.length_append, Nat.zero_add, Nat.add_zero, Nat.reduceAdd, Nat.reduceLeDiff, List.take_succ_cons, List.take_zero, List.drop_succ_cons, List.drop_zero, if_true, if_false, Bool.not_true, Bool.not_false, Bool.true_eq_false, Bool.false_and, Bool.and_false, Bool.or_true, Bool.or_false, Bool.true_or, Bool.false_or, Nat.lt_add_one, Nat.succ_pos, Nat.reduceLT, Nat.reduceEqDiff, Bool.if_false_right, Bool.if_true_left, Bool.if_true_right, Bool.if_false_left, Bool.decide_eq_true, Int.toNat_natCast, Int.natCast_nonneg, Int.ofNat_lt,  ite_self, reduceIte, Bool.true_and, Bool.and_true, Bool.false_eq_true, Bool.not_eq_true', decide_eq_true_eq, true_and, and_true, joinEsc, Option.map_some, Option.map_none]
    exact ih

theorem e_l_toLoadS {av : AV} {ls : List Ld} (ha : ArgL H av ls) (hn : ls.length ≤ 1048576) : call T pr f_l_toLoadS [av] ⟨H, e⟩ = some (slL H.length ls.length (some ls.length), ⟨H ++ [.cells (encL ls) true], e⟩) := by
  obtain ⟨p, sz, c, rfl, _, ha⟩ := ha
  obtain ⟨z4, hl⟩ := loop_l_toLoadS (pr := pr) (e := none) (c := c) (r := .slice none 0 0 none) ha hn ls.length 0 (List.replicate ls.length (0, 0)) .undef (by omega) (by simp) (by simp)
  rw [call_eq t_l_toLoadS]
  have h0 : ((0 : Nat) : Int) = 0 := rfl
  have hmb : (ls.length : Int) * ((16 : Nat) : Int) ≤ ((maxBytes : Nat) : Int) := by unfold maxBytes; omega
  rw [h0, ← zeros_encL] at hl
  simp +contextual only [a_l_toLoadS, c_l_toLoadS, hmb, hl, under_encL, run_seq, run_cond, run_block, run_region, run_draw, run_skip, run_exit, run_ret, thenRun_normal, thenRun_ret, thenRun_exit, thenRun_none, thenRun_ite, inBlock_normal, inBlock_ret, inBlock_exit, inBlock_none, inBlock_ite, condOf_bool, pickRun_some, outRun_some, outRun_none, outRun_ite, endCall_normal, endCall_ret, endCall_exit, endCall_none, endCall_ite, aops_nil, aops_cons, aops_guard, opThen_some, opThen_none, opThen_ite, guardP_true, guardP_false, guardP_some, guardP_ite, guardThen_some, guardThen_ite, guardOf_true, guardOf_false, guardOf_tup, dops_nil, dops_cons, dops_again, dops_guard, dops_guard_again, toldAnew_nil, toldAnew_cons, toldAnew_guard, memop_load, get_t, get_l, get_c, valOf_some, valOf_none, valOf_ite, aop_mv, aop_bin, pickV_bool, aop_pick, aop_un, aop_makeFunc, convV_int, aop_conv, eqCellsV_agg, aop_eqCells, fieldAddrV_ptr, aop_fieldAddr, fieldV_agg, aop_field, indexAddrSV_slice, aop_indexAddrS, indexAddrAV_ptr, aop_indexAddrA, indexAV_agg, aop_indexA, indexSV_str, aop_indexS, extractV_tup, aop_extract, lenV_slice, aop_len, lenStrV_str, aop_lenStr, aop_lenA, max2V_int, aop_max2, min2V_int, aop_min2, aop_build, aop_load, aop_alloc, boxV_some, aop_box, buildSliceV_some, aop_buildSlice, aop_store, callV_fn, aop_call, makeSliceV_int, aop_makeSlice, aop_append, binop_add, binop_sub, binop_mul, binop_quo, binop_rem, binop_eql, binop_neq, binop_lss, binop_leq, binop_gtr, binop_geq, binop_shl, binop_shr, binop_band, binop_bor, binop_bxor, binop_bandnot, binop_beql, binop_bneq, binop_seql, binop_sneq, unop_neg, unop_not, setOuts_nil, setOuts_cons, cellsAt_new0, cellsAt_newk, cellsAt_cons0, cellsAt_consk, partOf_some, loadAt_ptr, part_f0, part_fk, part_t0, part_tk, blkAt_new0, blkAt_newk, set_new0, set_newk, storeV_ptr, storeAt_cells, setRange_0, setRange_k, setRange_nil, all_cons, all_nil, cellsOf_agg, cellsOf_int, cellsOf_bool, cellsOf_str, cellsOf_ptr, cellsOf_slice, cellsOf_fn, merge_normal, merge_cons, merge_bool, merge_int, resultList_nil, consV_some, resultList_tmp, resultList_cell, finRun_finV, finV_some, finish_zero, finish_one, finish_one', finish_two_slice, tupled_one, tupled_nil, tupled_two, under_int, under_bool, under_str, under_agg, under_tup, under_cons, under_nil, entry, List.map_cons, List.map_nil, List.getElem?_cons_zero, List.getElem?_cons_succ, List.getElem?_nil, Option.getD_some, Option.getD_none, List.nil_append, List.cons_append, List.append_nil, List.append_assoc, List.set_cons_zero, List.set_cons_succ, List.length_cons, List.length_nil, List.length_append, Nat.zero_add, Nat.add_zero, Nat.reduceAdd, Nat.reduceLeDiff, List.take_succ_cons, List.take_zero, List.drop_succ_cons, List.drop_zero, if_true, if_false, Bool.not_true, Bool.not_false, Bool.true_eq_false, Bool.false_and, Bool.and_false, Bool.or_true, Bool.or_false, Bool.true_or, Bool.false_or, Nat.lt_add_one, Nat.succ_pos, Nat.reduceLT, Nat.reduceEqDiff, Bool.if_false_right, Bool.if_true_left, Bool.if_true_right, Bool.if_false_left, Bool.decide_eq_true, Int.toNat_natCast, Int.natCast_nonneg, Int.ofNat_lt,  ite_self, reduceIte, Bool.true_and, Bool.and_true, Bool.false_eq_true, Bool.not_eq_true', decide_eq_true_eq, true_and, and_true, joinEsc, Option.map_some, Option.map_none]

end Go.Proofs.Ytaikmfldjkbmmaa.Slim
