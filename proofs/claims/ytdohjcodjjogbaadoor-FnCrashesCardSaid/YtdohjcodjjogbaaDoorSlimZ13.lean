/- Logs: the drawn arguments. -/
import Derived.Test.YtdohjcodjjogbaaDoorSlimZ12
/- Logs: the drawn arguments. -/
namespace Go.Proofs.YtdohjcodjjogbaaDoor.Slim

open Go

set_option linter.unusedSimpArgs false

set_option linter.unusedVariables false

variable {pr : Prims} {H : List Blk} {e : Option Nat}

theorem wc_DrawIsValidRecord {av : AV} (hc : CodeAt H av) : Wc (call T pr f_s_DrawIsValidRecord [av] ⟨H, e⟩) (fun v m => ∃ a r : By, v = rcV (bs a) (bs r) ∧ a.length ≤ 8 ∧ r.length ≤ 8 ∧ m = ⟨H, e⟩) := by
  obtain ⟨p0, s0, n0, c0, rfl⟩ := hc.form
  rw [call_wc t_s_DrawIsValidRecord]
  simp +contextual only [a_s_DrawIsValidRecord, c_s_DrawIsValidRecord, fillParts, Nat.add_assoc, Wp_some, Wp_none, Wp_ite, Wc_some, Wc_none, Wc_ite, Wp_thenRun, seqQ_normal, seqQ_exit, seqQ_ret, Wp_inBlock, blkQ_normal, blkQ_ret, blkQ_same, blkQ_exit, Wp_opThen, opQ_at, Wp_guardP, retQ_normal, retQ_ret, loopQ_normal, loopQ_exit, loopQ_ret, go_sem, entry, joinEsc, if_pos, reduceIte, Nat.reduceAdd, Nat.reduceLeDiff, Nat.reduceLT, Nat.reduceEqDiff]
  refine (wc_logRecord (Cu.new (k := 1) (G := [.cells [.str ⟨#[]⟩, .str ⟨#[]⟩] true, curB _ 0 0]) rfl hc (by omega)) (by omega)).mono ?_
  rintro v m ⟨a, r, y, z, rfl, ha, hr, hy0, hy1, rfl⟩
  simp +contextual only [a_s_DrawIsValidRecord, Nat.add_assoc, Wp_some, Wp_none, Wp_ite, Wc_some, Wc_none, Wc_ite, Wp_thenRun, seqQ_normal, seqQ_exit, seqQ_ret, Wp_inBlock, blkQ_normal, blkQ_ret, blkQ_same, blkQ_exit, Wp_opThen, opQ_at, Wp_guardP, retQ_normal, retQ_ret, loopQ_normal, loopQ_exit, loopQ_ret, finish_one_eq, finish_one_eq0, finish_two_eq, finish_two_eq0, roots_slice_new, roots_slice_new0, roots_slice_none, roots_ptr_new, roots_ptr_new0, roots_int, roots_bool, roots_str, roots_agg, roots_tup, roots_cons, roots_nil, rename_slice, rename_slice_none, rename_ptr, rename_int, rename_bool, rename_str, rename_agg, rename_tup, rename_cons, rename_nil, keepBlks_nil, keepBlks_cons, flatAll_nil, flatAll_cons, flatBlk_cells, dedup_nil, dedup_one, dedup_two, renum_one, renum_one0, renum_two0, renum_two1, clean_none', clean_some, minEsc_none, minEsc_some, Nat.add_left_cancel_iff, Nat.le_add_right, Nat.le_refl, decide_true, go_sem, entry, joinEsc, if_pos, reduceIte, Nat.reduceAdd, Nat.reduceLeDiff, Nat.reduceLT, Nat.reduceEqDiff]
  exact ⟨a, r, rfl, ha, hr⟩

theorem wc_DrawEncodeRecord {av : AV} (hc : CodeAt H av) : Wc (call T pr f_s_DrawEncodeRecord [av] ⟨H, e⟩) (fun v m => ∃ (k : Int) (a r : By), v = .tup [.int .i64 k, rcV (bs a) (bs r)] ∧ a.length ≤ 8 ∧ r.length ≤ 8 ∧ m = ⟨H, e⟩) := by
  obtain ⟨p0, s0, n0, c0, rfl⟩ := hc.form
  rw [call_wc t_s_DrawEncodeRecord]
  simp +contextual only [a_s_DrawEncodeRecord, c_s_DrawEncodeRecord, fillParts, Nat.add_assoc, Wp_some, Wp_none, Wp_ite, Wc_some, Wc_none, Wc_ite, Wp_thenRun, seqQ_normal, seqQ_exit, seqQ_ret, Wp_inBlock, blkQ_normal, blkQ_ret, blkQ_same, blkQ_exit, Wp_opThen, opQ_at, Wp_guardP, retQ_normal, retQ_ret, loopQ_normal, loopQ_exit, loopQ_ret, go_sem, entry, joinEsc, if_pos, reduceIte, Nat.reduceAdd, Nat.reduceLeDiff, Nat.reduceLT, Nat.reduceEqDiff]
  have hcu := Cu.new (H := H) (k := 1) (G := [.cells [.str ⟨#[]⟩, .str ⟨#[]⟩] true, curB (.slice p0 s0 n0 c0) 0 0, .cells [.int .i64 0, .int .i64 1, .int .i64 12, .int .i64 59, .int .i64 60, .int .i64 (-1)] true]) (y := 0) (z := 0) rfl hc (by omega)
  refine (wc_among (zs := [0, 1, 12, 59, 60, -1]) (b := H.length + 2) (c := some 6) hcu (by omega) (by simp +contextual only [go_sem, entry, joinEsc, if_pos, reduceIte, Nat.reduceAdd, Nat.reduceLeDiff, Nat.reduceLT, Nat.reduceEqDiff]) (by omega) (by simp) (by simp)).mono ?_
  rintro v m ⟨x, y, z, rfl, hx, hy0, hy1, rfl⟩
  simp +contextual only [Nat.add_assoc, Wp_some, Wp_none, Wp_ite, Wc_some, Wc_none, Wc_ite, Wp_thenRun, seqQ_normal, seqQ_exit, seqQ_ret, Wp_inBlock, blkQ_normal, blkQ_ret, blkQ_same, blkQ_exit, Wp_opThen, opQ_at, Wp_guardP, retQ_normal, retQ_ret, loopQ_normal, loopQ_exit, loopQ_ret, go_sem, entry, joinEsc, if_pos, reduceIte, Nat.reduceAdd, Nat.reduceLeDiff, Nat.reduceLT, Nat.reduceEqDiff]
  refine (wc_logRecord (Cu.new (H := H) (k := 1) (y := y) (z := z) rfl hc hy0) (by omega)).mono ?_
  rintro v m ⟨a, r, y2, z2, rfl, ha, hr, hy20, hy21, rfl⟩
  simp +contextual only [a_s_DrawEncodeRecord, Nat.add_assoc, Wp_some, Wp_none, Wp_ite, Wc_some, Wc_none, Wc_ite, Wp_thenRun, seqQ_normal, seqQ_exit, seqQ_ret, Wp_inBlock, blkQ_normal, blkQ_ret, blkQ_same, blkQ_exit, Wp_opThen, opQ_at, Wp_guardP, retQ_normal, retQ_ret, loopQ_normal, loopQ_exit, loopQ_ret, finish_one_eq, finish_one_eq0, finish_two_eq, finish_two_eq0, roots_slice_new, roots_slice_new0, roots_slice_none, roots_ptr_new, roots_ptr_new0, roots_int, roots_bool, roots_str, roots_agg, roots_tup, roots_cons, roots_nil, rename_slice, rename_slice_none, rename_ptr, rename_int, rename_bool, rename_str, rename_agg, rename_tup, rename_cons, rename_nil, keepBlks_nil, keepBlks_cons, flatAll_nil, flatAll_cons, flatBlk_cells, dedup_nil, dedup_one, dedup_two, renum_one, renum_one0, renum_two0, renum_two1, clean_none', clean_some, minEsc_none, minEsc_some, Nat.add_left_cancel_iff, Nat.le_add_right, Nat.le_refl, decide_true, go_sem, entry, joinEsc, if_pos, reduceIte, Nat.reduceAdd, Nat.reduceLeDiff, Nat.reduceLT, Nat.reduceEqDiff]
  exact ⟨x, a, r, rfl, ha, hr⟩

theorem wc_DrawIsValidLog {av : AV} (hc : CodeAt H av) : Wc (call T pr f_s_DrawIsValidLog [av] ⟨H, e⟩) (fun v m => ∃ (d u : By) (c : Int), v = lgV d u c ∧ d.length + u.length ≤ 700 ∧ m = ⟨H, e⟩) := by
  obtain ⟨p0, s0, n0, c0, rfl⟩ := hc.form
  rw [call_wc t_s_DrawIsValidLog]
  simp +contextual only [a_s_DrawIsValidLog, c_s_DrawIsValidLog, fillParts, Nat.add_assoc, Wp_some, Wp_none, Wp_ite, Wc_some, Wc_none, Wc_ite, Wp_thenRun, seqQ_normal, seqQ_exit, seqQ_ret, Wp_inBlock, blkQ_normal, blkQ_ret, blkQ_same, blkQ_exit, Wp_opThen, opQ_at, Wp_guardP, retQ_normal, retQ_ret, loopQ_normal, loopQ_exit, loopQ_ret, go_sem, entry, joinEsc, if_pos, reduceIte, Nat.reduceAdd, Nat.reduceLeDiff, Nat.reduceLT, Nat.reduceEqDiff]
  refine (wc_anyLog (Cu.new (k := 1) (G := [.cells [.str ⟨#[]⟩, .str ⟨#[]⟩, .int .i64 0] true, curB _ 0 0]) rfl hc (by omega)) (by omega)).mono ?_
  rintro v m ⟨d, u, c, y, z, rfl, hl, hy0, hy1, rfl⟩
  simp +contextual only [a_s_DrawIsValidLog, Nat.add_assoc, Wp_some, Wp_none, Wp_ite, Wc_some, Wc_none, Wc_ite, Wp_thenRun, seqQ_normal, seqQ_exit, seqQ_ret, Wp_inBlock, blkQ_normal, blkQ_ret, blkQ_same, blkQ_exit, Wp_opThen, opQ_at, Wp_guardP, retQ_normal, retQ_ret, loopQ_normal, loopQ_exit, loopQ_ret, finish_one_eq, finish_one_eq0, finish_two_eq, finish_two_eq0, roots_slice_new, roots_slice_new0, roots_slice_none, roots_ptr_new, roots_ptr_new0, roots_int, roots_bool, roots_str, roots_agg, roots_tup, roots_cons, roots_nil, rename_slice, rename_slice_none, rename_ptr, rename_int, rename_bool, rename_str, rename_agg, rename_tup, rename_cons, rename_nil, keepBlks_nil, keepBlks_cons, flatAll_nil, flatAll_cons, flatBlk_cells, dedup_nil, dedup_one, dedup_two, renum_one, renum_one0, renum_two0, renum_two1, clean_none', clean_some, minEsc_none, minEsc_some, Nat.add_left_cancel_iff, Nat.le_add_right, Nat.le_refl, decide_true, go_sem, entry, joinEsc, if_pos, reduceIte, Nat.reduceAdd, Nat.reduceLeDiff, Nat.reduceLT, Nat.reduceEqDiff]
  exact ⟨d, u, c, rfl, hl⟩

theorem wc_DrawAppendRecord {av : AV} (hc : CodeAt H av) : Wc (call T pr f_s_DrawAppendRecord [av] ⟨H, e⟩) (fun v m => ∃ (d u : By) (c : Int) (a r : By), v = .tup [lgV d u c, rcV (bs a) (bs r)] ∧ d.length + u.length ≤ 3000 ∧ a.length ≤ 8 ∧ r.length ≤ 8 ∧ m = ⟨H, e⟩) := by
  obtain ⟨p0, s0, n0, c0, rfl⟩ := hc.form
  rw [call_wc t_s_DrawAppendRecord]
  simp +contextual only [a_s_DrawAppendRecord, c_s_DrawAppendRecord, fillParts, Nat.add_assoc, Wp_some, Wp_none, Wp_ite, Wc_some, Wc_none, Wc_ite, Wp_thenRun, seqQ_normal, seqQ_exit, seqQ_ret, Wp_inBlock, blkQ_normal, blkQ_ret, blkQ_same, blkQ_exit, Wp_opThen, opQ_at, Wp_guardP, retQ_normal, retQ_ret, loopQ_normal, loopQ_exit, loopQ_ret, go_sem, entry, joinEsc, if_pos, reduceIte, Nat.reduceAdd, Nat.reduceLeDiff, Nat.reduceLT, Nat.reduceEqDiff]
  refine (wc_anyLog (Cu.new (k := 2) (G := [.cells [.str ⟨#[]⟩, .str ⟨#[]⟩, .int .i64 0] true, .cells [.str ⟨#[]⟩, .str ⟨#[]⟩] true, curB _ 0 0]) rfl hc (by omega)) (by omega)).mono ?_
  rintro v m ⟨d, u, c, y, z, rfl, hl, hy0, hy1, rfl⟩
  simp +contextual only [Nat.add_assoc, Wp_some, Wp_none, Wp_ite, Wc_some, Wc_none, Wc_ite, Wp_thenRun, seqQ_normal, seqQ_exit, seqQ_ret, Wp_inBlock, blkQ_normal, blkQ_ret, blkQ_same, blkQ_exit, Wp_opThen, opQ_at, Wp_guardP, retQ_normal, retQ_ret, loopQ_normal, loopQ_exit, loopQ_ret, go_sem, entry, joinEsc, if_pos, reduceIte, Nat.reduceAdd, Nat.reduceLeDiff, Nat.reduceLT, Nat.reduceEqDiff]
  refine (wc_one 40 (Cu.new (H := H) (k := 2) (y := y) (z := z) rfl hc hy0) (by omega) (by omega)).mono ?_
  rintro v m ⟨x2, y2, z2, rfl, hy20, hy21, rfl⟩
  cases x2 with
  | false =>
    simp +contextual only [Nat.add_assoc, Wp_some, Wp_none, Wp_ite, Wc_some, Wc_none, Wc_ite, Wp_thenRun, seqQ_normal, seqQ_exit, seqQ_ret, Wp_inBlock, blkQ_normal, blkQ_ret, blkQ_same, blkQ_exit, Wp_opThen, opQ_at, Wp_guardP, retQ_normal, retQ_ret, loopQ_normal, loopQ_exit, loopQ_ret, go_sem, entry, joinEsc, if_pos, reduceIte, Nat.reduceAdd, Nat.reduceLeDiff, Nat.reduceLT, Nat.reduceEqDiff]
    refine (wc_logRecord (Cu.new (H := H) (k := 2) (y := y2) (z := z2) rfl hc hy20) (by omega)).mono ?_
    rintro v m ⟨a, r, y3, z3, rfl, ha, hr, hy30, hy31, rfl⟩
    simp +contextual only [a_s_DrawAppendRecord, Nat.add_assoc, Wp_some, Wp_none, Wp_ite, Wc_some, Wc_none, Wc_ite, Wp_thenRun, seqQ_normal, seqQ_exit, seqQ_ret, Wp_inBlock, blkQ_normal, blkQ_ret, blkQ_same, blkQ_exit, Wp_opThen, opQ_at, Wp_guardP, retQ_normal, retQ_ret, loopQ_normal, loopQ_exit, loopQ_ret, finish_one_eq, finish_one_eq0, finish_two_eq, finish_two_eq0, roots_slice_new, roots_slice_new0, roots_slice_none, roots_ptr_new, roots_ptr_new0, roots_int, roots_bool, roots_str, roots_agg, roots_tup, roots_cons, roots_nil, rename_slice, rename_slice_none, rename_ptr, rename_int, rename_bool, rename_str, rename_agg, rename_tup, rename_cons, rename_nil, keepBlks_nil, keepBlks_cons, flatAll_nil, flatAll_cons, flatBlk_cells, dedup_nil, dedup_one, dedup_two, renum_one, renum_one0, renum_two0, renum_two1, clean_none', clean_some, minEsc_none, minEsc_some, Nat.add_left_cancel_iff, Nat.le_add_right, Nat.le_refl, decide_true, go_sem, entry, joinEsc, if_pos, reduceIte, Nat.reduceAdd, Nat.reduceLeDiff, Nat.reduceLT, Nat.reduceEqDiff]
    exact ⟨d, u, c, a, r, rfl, by omega, ha, hr⟩
  | true =>
    simp +contextual only [fillParts, Nat.add_assoc, Wp_some, Wp_none, Wp_ite, Wc_some, Wc_none, Wc_ite, Wp_thenRun, seqQ_normal, seqQ_exit, seqQ_ret, Wp_inBlock, blkQ_normal, blkQ_ret, blkQ_same, blkQ_exit, Wp_opThen, opQ_at, Wp_guardP, retQ_normal, retQ_ret, loopQ_normal, loopQ_exit, loopQ_ret, go_sem, entry, joinEsc, if_pos, reduceIte, Nat.reduceAdd, Nat.reduceLeDiff, Nat.reduceLT, Nat.reduceEqDiff]
    refine (wc_pick 2 (Cu.new (H := H) (k := 2) (y := y2) (z := z2) rfl hc hy20) (by omega) (by omega)).mono ?_
    rintro v m ⟨x3, y3, z3, rfl, hx30, hx31, hy30, hy31, rfl⟩
    obtain ⟨n, hn⟩ : ∃ n : Nat, 59 + x3 = (n : Int) := ⟨(59 + x3).toNat, by omega⟩
    have hw : IntKind.i64.wrap (59 + x3) = (n : Int) := by rw [hn]; exact wrap64 (by omega) (by omega)
    simp +contextual only [hw, Nat.add_assoc, Wp_some, Wp_none, Wp_ite, Wc_some, Wc_none, Wc_ite, Wp_thenRun, seqQ_normal, seqQ_exit, seqQ_ret, Wp_inBlock, blkQ_normal, blkQ_ret, blkQ_same, blkQ_exit, Wp_opThen, opQ_at, Wp_guardP, retQ_normal, retQ_ret, loopQ_normal, loopQ_exit, loopQ_ret, go_sem, entry, joinEsc, if_pos, reduceIte, Nat.reduceAdd, Nat.reduceLeDiff, Nat.reduceLT, Nat.reduceEqDiff]
    refine Wp_loop (fun k st => ∃ (d u : By) (c : Int) (w7 : AV), k ≤ 100 ∧ d.length + u.length + k * 13 ≤ 1300 ∧ st = ⟨[.slice p0 s0 n0 c0, .ptr (some (H.length, 0)), .ptr (some (H.length + 1, 0)), .ptr (some (H.length + 2, 0)), .ptr (some (H.length + 3, 0)), .int .i64 k, .bool true, w7], ⟨H ++ [.cells [.str ⟨#[]⟩, .str ⟨#[]⟩, .int .i64 0] true, .cells [.str ⟨#[]⟩, .str ⟨#[]⟩] true, curB (.slice p0 s0 n0 c0) y3 z3, .cells [sV d, sV u, .int .i64 c] true], none⟩⟩) ?_ n _ ⟨[], [], 0, _, by omega, by simp; omega, rfl⟩
    rintro k _ ⟨d, u, c, w7, hk, hlen, rfl⟩
    by_cases hk0 : k = 0
    · subst hk0
      have hd : decide ((0 : Int) < ((0 : Nat) : Int)) = false := by decide
      have hd' : ¬ ((0 : Int) < ((0 : Nat) : Int)) := by omega
      simp +contextual only [w_s_DrawAppendRecord_1, gt_iff_lt, hd, hd', decide_false, Nat.add_assoc, Wp_some, Wp_none, Wp_ite, Wc_some, Wc_none, Wc_ite, Wp_thenRun, seqQ_normal, seqQ_exit, seqQ_ret, Wp_inBlock, blkQ_normal, blkQ_ret, blkQ_same, blkQ_exit, Wp_opThen, opQ_at, Wp_guardP, retQ_normal, retQ_ret, loopQ_normal, loopQ_exit, loopQ_ret, go_sem, entry, joinEsc, if_pos, reduceIte, Nat.reduceAdd, Nat.reduceLeDiff, Nat.reduceLT, Nat.reduceEqDiff]
      refine (wc_logRecord (Cu.new (H := H) (k := 2) (y := y3) (z := z3) rfl hc hy30) (by omega)).mono ?_
      rintro v m ⟨a, r, y4, z4, rfl, ha, hr, hy40, hy41, rfl⟩
      simp +contextual only [a_s_DrawAppendRecord, Nat.add_assoc, Wp_some, Wp_none, Wp_ite, Wc_some, Wc_none, Wc_ite, Wp_thenRun, seqQ_normal, seqQ_exit, seqQ_ret, Wp_inBlock, blkQ_normal, blkQ_ret, blkQ_same, blkQ_exit, Wp_opThen, opQ_at, Wp_guardP, retQ_normal, retQ_ret, loopQ_normal, loopQ_exit, loopQ_ret, finish_one_eq, finish_one_eq0, finish_two_eq, finish_two_eq0, roots_slice_new, roots_slice_new0, roots_slice_none, roots_ptr_new, roots_ptr_new0, roots_int, roots_bool, roots_str, roots_agg, roots_tup, roots_cons, roots_nil, rename_slice, rename_slice_none, rename_ptr, rename_int, rename_bool, rename_str, rename_agg, rename_tup, rename_cons, rename_nil, keepBlks_nil, keepBlks_cons, flatAll_nil, flatAll_cons, flatBlk_cells, dedup_nil, dedup_one, dedup_two, renum_one, renum_one0, renum_two0, renum_two1, clean_none', clean_some, minEsc_none, minEsc_some, Nat.add_left_cancel_iff, Nat.le_add_right, Nat.le_refl, decide_true, go_sem, entry, joinEsc, if_pos, reduceIte, Nat.reduceAdd, Nat.reduceLeDiff, Nat.reduceLT, Nat.reduceEqDiff]
      exact ⟨d, u, c, a, r, rfl, by omega, ha, hr⟩
    · have hd : decide ((0 : Int) < (k : Int)) = true := decide_eq_true (by omega)
      obtain ⟨d', u', c', k', happ, hd', hu'⟩ := appF_form d u c [120] [] (by simp) (by simp)
      have hap := fun L => e_s_AppendRecord (pr := pr) (H := L) (e := none) d u c [120] [] (by omega) (by omega) (by simp) (by simp)
      rw [happ] at hap
      have hwk : IntKind.i64.wrap ((k : Int) - 1) = ((k - 1 : Nat) : Int) := by
        rw [show ((k : Int) - 1) = ((k - 1 : Nat) : Int) by omega]; exact wrap64 (by omega) (by omega)
      simp +contextual only [w_s_DrawAppendRecord_1, fillParts, gt_iff_lt, hd, hwk, hap, Nat.add_assoc, Wp_some, Wp_none, Wp_ite, Wc_some, Wc_none, Wc_ite, Wp_thenRun, seqQ_normal, seqQ_exit, seqQ_ret, Wp_inBlock, blkQ_normal, blkQ_ret, blkQ_same, blkQ_exit, Wp_opThen, opQ_at, Wp_guardP, retQ_normal, retQ_ret, loopQ_normal, loopQ_exit, loopQ_ret, go_sem, entry, joinEsc, if_pos, reduceIte, Nat.reduceAdd, Nat.reduceLeDiff, Nat.reduceLT, Nat.reduceEqDiff]
      exact ⟨k - 1, by omega, d', u', c', _, by omega, by rw [hd']; simp at hu'; omega, rfl⟩

theorem wc_DrawCrashLog {av : AV} (hc : CodeAt H av) : Wc (call T pr f_s_DrawCrashLog [av] ⟨H, e⟩) (fun v m => ∃ (d u : By) (c n : Int) (b : Bool), v = .tup [lgV d u c, .int .i64 n, .bool b] ∧ d.length + u.length ≤ 700 ∧ m = ⟨H, e⟩) := by
  obtain ⟨p0, s0, n0, c0, rfl⟩ := hc.form
  rw [call_wc t_s_DrawCrashLog]
  simp +contextual only [a_s_DrawCrashLog, c_s_DrawCrashLog, fillParts, Nat.add_assoc, Wp_some, Wp_none, Wp_ite, Wc_some, Wc_none, Wc_ite, Wp_thenRun, seqQ_normal, seqQ_exit, seqQ_ret, Wp_inBlock, blkQ_normal, blkQ_ret, blkQ_same, blkQ_exit, Wp_opThen, opQ_at, Wp_guardP, retQ_normal, retQ_ret, loopQ_normal, loopQ_exit, loopQ_ret, go_sem, entry, joinEsc, if_pos, reduceIte, Nat.reduceAdd, Nat.reduceLeDiff, Nat.reduceLT, Nat.reduceEqDiff]
  refine (wc_anyLog (Cu.new (k := 1) (G := [.cells [.str ⟨#[]⟩, .str ⟨#[]⟩, .int .i64 0] true, curB _ 0 0]) rfl hc (by omega)) (by omega)).mono ?_
  rintro v m ⟨d, u, c, y, z, rfl, hl, hy0, hy1, rfl⟩
  have hw : IntKind.i64.wrap ((u.length : Int) + 3) = ((u.length + 3 : Nat) : Int) := by
    rw [show ((u.length : Int) + 3) = ((u.length + 3 : Nat) : Int) by omega]; exact wrap64 (by omega) (by omega)
  simp +contextual only [hw, bs_size, List.size_toArray, Nat.add_assoc, Wp_some, Wp_none, Wp_ite, Wc_some, Wc_none, Wc_ite, Wp_thenRun, seqQ_normal, seqQ_exit, seqQ_ret, Wp_inBlock, blkQ_normal, blkQ_ret, blkQ_same, blkQ_exit, Wp_opThen, opQ_at, Wp_guardP, retQ_normal, retQ_ret, loopQ_normal, loopQ_exit, loopQ_ret, go_sem, entry, joinEsc, if_pos, reduceIte, Nat.reduceAdd, Nat.reduceLeDiff, Nat.reduceLT, Nat.reduceEqDiff]
  refine (wc_pick ((u.length + 3 : Nat) : Int) (Cu.new (H := H) (k := 1) (y := y) (z := z) rfl hc hy0) (by omega) (by omega)).mono ?_
  rintro v m ⟨x3, y3, z3, rfl, hx30, hx31, hy30, hy31, rfl⟩
  simp +contextual only [Nat.add_assoc, Wp_some, Wp_none, Wp_ite, Wc_some, Wc_none, Wc_ite, Wp_thenRun, seqQ_normal, seqQ_exit, seqQ_ret, Wp_inBlock, blkQ_normal, blkQ_ret, blkQ_same, blkQ_exit, Wp_opThen, opQ_at, Wp_guardP, retQ_normal, retQ_ret, loopQ_normal, loopQ_exit, loopQ_ret, go_sem, entry, joinEsc, if_pos, reduceIte, Nat.reduceAdd, Nat.reduceLeDiff, Nat.reduceLT, Nat.reduceEqDiff]
  refine (wc_one 2 (Cu.new (H := H) (k := 1) (y := y3) (z := z3) rfl hc hy30) (by omega) (by omega)).mono ?_
  rintro v m ⟨x4, y4, z4, rfl, hy40, hy41, rfl⟩
  simp +contextual only [a_s_DrawCrashLog, Nat.add_assoc, Wp_some, Wp_none, Wp_ite, Wc_some, Wc_none, Wc_ite, Wp_thenRun, seqQ_normal, seqQ_exit, seqQ_ret, Wp_inBlock, blkQ_normal, blkQ_ret, blkQ_same, blkQ_exit, Wp_opThen, opQ_at, Wp_guardP, retQ_normal, retQ_ret, loopQ_normal, loopQ_exit, loopQ_ret, finish_one_eq, finish_one_eq0, finish_two_eq, finish_two_eq0, roots_slice_new, roots_slice_new0, roots_slice_none, roots_ptr_new, roots_ptr_new0, roots_int, roots_bool, roots_str, roots_agg, roots_tup, roots_cons, roots_nil, rename_slice, rename_slice_none, rename_ptr, rename_int, rename_bool, rename_str, rename_agg, rename_tup, rename_cons, rename_nil, keepBlks_nil, keepBlks_cons, flatAll_nil, flatAll_cons, flatBlk_cells, dedup_nil, dedup_one, dedup_two, renum_one, renum_one0, renum_two0, renum_two1, clean_none', clean_some, minEsc_none, minEsc_some, Nat.add_left_cancel_iff, Nat.le_add_right, Nat.le_refl, decide_true, go_sem, entry, joinEsc, if_pos, reduceIte, Nat.reduceAdd, Nat.reduceLeDiff, Nat.reduceLT, Nat.reduceEqDiff]
  exact ⟨d, u, c, _, x4, rfl, hl⟩

theorem zeros_by (n : Nat) : zeros n [AV.int .u8 0] = (List.replicate n (0 : UInt8)).map byC := by
  unfold zeros
  induction n with
  | zero => rfl
  | succ n ih => rw [List.replicate_succ, List.flatten_cons, ih, List.replicate_succ, List.map_cons]; rfl

theorem wc_DrawRecoverLog {av : AV} (hc : CodeAt H av) : Wc (call T pr f_s_DrawRecoverLog [av] ⟨H, e⟩) (fun v m => ∃ l : By, v = sV l ∧ l.length ≤ 100000 ∧ m = ⟨H, e⟩) := by
  obtain ⟨p0, s0, n0, c0, rfl⟩ := hc.form
  rw [call_wc t_s_DrawRecoverLog]
  simp +contextual only [a_s_DrawRecoverLog, c_s_DrawRecoverLog, fillParts, Nat.add_assoc, Wp_some, Wp_none, Wp_ite, Wc_some, Wc_none, Wc_ite, Wp_thenRun, seqQ_normal, seqQ_exit, seqQ_ret, Wp_inBlock, blkQ_normal, blkQ_ret, blkQ_same, blkQ_exit, Wp_opThen, opQ_at, Wp_guardP, retQ_normal, retQ_ret, loopQ_normal, loopQ_exit, loopQ_ret, go_sem, entry, joinEsc, if_pos, reduceIte, Nat.reduceAdd, Nat.reduceLeDiff, Nat.reduceLT, Nat.reduceEqDiff]
  refine (wc_log12 (Cu.new (k := 0) (G := [curB _ 0 0]) rfl hc (by omega)) (by omega)).mono ?_
  rintro v m ⟨d, u, c, y, z, rfl, hl, hy0, hy1, rfl⟩
  have hadd : d.length + u.length ≤ 140737488355328 := by omega
  simp +contextual only [binop_sadd, hadd, Nat.add_zero, Nat.add_assoc, Wp_some, Wp_none, Wp_ite, Wc_some, Wc_none, Wc_ite, Wp_thenRun, seqQ_normal, seqQ_exit, seqQ_ret, Wp_inBlock, blkQ_normal, blkQ_ret, blkQ_same, blkQ_exit, Wp_opThen, opQ_at, Wp_guardP, retQ_normal, retQ_ret, loopQ_normal, loopQ_exit, loopQ_ret, go_sem, entry, joinEsc, if_pos, reduceIte, Nat.reduceAdd, Nat.reduceLeDiff, Nat.reduceLT, Nat.reduceEqDiff]
  refine (wc_pick 4 (Cu.new (H := H) (k := 0) (y := y) (z := z) rfl hc hy0) (by omega) (by omega)).mono ?_
  rintro v m ⟨x3, y3, z3, rfl, hx30, hx31, hy30, hy31, rfl⟩
  rw [opQ_at]
  by_cases c0 : x3 = 0
  · subst c0
    simp +contextual only [decide_true, Nat.add_zero, Nat.add_assoc, Wp_some, Wp_none, Wp_ite, Wc_some, Wc_none, Wc_ite, Wp_thenRun, seqQ_normal, seqQ_exit, seqQ_ret, Wp_inBlock, blkQ_normal, blkQ_ret, blkQ_same, blkQ_exit, Wp_opThen, opQ_at, Wp_guardP, retQ_normal, retQ_ret, loopQ_normal, loopQ_exit, loopQ_ret, go_sem, entry, joinEsc, if_pos, reduceIte, Nat.reduceAdd, Nat.reduceLeDiff, Nat.reduceLT, Nat.reduceEqDiff]
    refine (wc_spoilt (d ++ u) [35, 64, 10, 48, 49] (Cu.new (H := H) (k := 0) (y := y3) (z := z3) rfl hc hy30) (by omega) (by rw [List.length_append]; omega) (by simp) (by simp)).mono ?_
    rintro v m ⟨l4, y4, z4, rfl, hl4, hy40, hy41, rfl⟩
    rw [List.length_append] at hl4
    simp +contextual only [Nat.add_zero, Nat.add_assoc, Wp_some, Wp_none, Wp_ite, Wc_some, Wc_none, Wc_ite, Wp_thenRun, seqQ_normal, seqQ_exit, seqQ_ret, Wp_inBlock, blkQ_normal, blkQ_ret, blkQ_same, blkQ_exit, Wp_opThen, opQ_at, Wp_guardP, retQ_normal, retQ_ret, loopQ_normal, loopQ_exit, loopQ_ret, go_sem, entry, joinEsc, if_pos, reduceIte, Nat.reduceAdd, Nat.reduceLeDiff, Nat.reduceLT, Nat.reduceEqDiff]
    refine (wc_one 40 (Cu.new (H := H) (k := 0) (y := y4) (z := z4) rfl hc hy40) (by omega) (by omega)).mono ?_
    rintro v m ⟨x8, y8, z8, rfl, hy80, hy81, rfl⟩
    cases x8 with
    | false =>
      simp +contextual only [a_s_DrawRecoverLog, Nat.add_zero, Nat.add_assoc, Wp_some, Wp_none, Wp_ite, Wc_some, Wc_none, Wc_ite, Wp_thenRun, seqQ_normal, seqQ_exit, seqQ_ret, Wp_inBlock, blkQ_normal, blkQ_ret, blkQ_same, blkQ_exit, Wp_opThen, opQ_at, Wp_guardP, retQ_normal, retQ_ret, loopQ_normal, loopQ_exit, loopQ_ret, finish_one_eq, finish_one_eq0, finish_two_eq, finish_two_eq0, roots_slice_new, roots_slice_new0, roots_slice_none, roots_ptr_new, roots_ptr_new0, roots_int, roots_bool, roots_str, roots_agg, roots_tup, roots_cons, roots_nil, rename_slice, rename_slice_none, rename_ptr, rename_int, rename_bool, rename_str, rename_agg, rename_tup, rename_cons, rename_nil, keepBlks_nil, keepBlks_cons, flatAll_nil, flatAll_cons, flatBlk_cells, dedup_nil, dedup_one, dedup_two, renum_one, renum_one0, renum_two0, renum_two1, clean_none', clean_some, minEsc_none, minEsc_some, Nat.add_left_cancel_iff, Nat.le_add_right, Nat.le_refl, decide_true, go_sem, entry, joinEsc, if_pos, reduceIte, Nat.reduceAdd, Nat.reduceLeDiff, Nat.reduceLT, Nat.reduceEqDiff]
      exact ⟨l4, rfl, by omega⟩
    | true =>
      simp +contextual only [Nat.add_zero, Nat.add_assoc, Wp_some, Wp_none, Wp_ite, Wc_some, Wc_none, Wc_ite, Wp_thenRun, seqQ_normal, seqQ_exit, seqQ_ret, Wp_inBlock, blkQ_normal, blkQ_ret, blkQ_same, blkQ_exit, Wp_opThen, opQ_at, Wp_guardP, retQ_normal, retQ_ret, loopQ_normal, loopQ_exit, loopQ_ret, go_sem, entry, joinEsc, if_pos, reduceIte, Nat.reduceAdd, Nat.reduceLeDiff, Nat.reduceLT, Nat.reduceEqDiff]
      refine (wc_pick 2 (Cu.new (H := H) (k := 0) (y := y8) (z := z8) rfl hc hy80) (by omega) (by omega)).mono ?_
      rintro v m ⟨x9, y9, z9, rfl, hx90, hx91, hy90, hy91, rfl⟩
      obtain ⟨n, hn⟩ : ∃ n : Nat, 30000 + x9 = (n : Int) := ⟨(30000 + x9).toNat, by omega⟩
      have hw9 : IntKind.i64.wrap (30000 + x9) = (n : Int) := by rw [hn]; exact wrap64 (by omega) (by omega)
      have hmk : (n : Int) * ((1 : Nat) : Int) ≤ ((maxBytes : Nat) : Int) := by unfold maxBytes; omega
      have hzz : zeros n [AV.int .u8 0] = (List.replicate n (0 : UInt8)).map byC := zeros_by n
      have hof := fun L q c (h : cellsAt L q = some ((List.replicate n (0 : UInt8)).map byC)) => ofBytesV_by (H := L) (q := q) (n := n) (c := c) (l := List.replicate n 0) h (by simp)
      simp +contextual only [a_s_DrawRecoverLog, hw9, hmk, hzz, aop_ofBytes, hof, Int.natCast_nonneg, Int.toNat_natCast, Nat.add_zero, Nat.add_assoc, decide_true, Wp_some, Wp_none, Wp_ite, Wc_some, Wc_none, Wc_ite, Wp_thenRun, seqQ_normal, seqQ_exit, seqQ_ret, Wp_inBlock, blkQ_normal, blkQ_ret, blkQ_same, blkQ_exit, Wp_opThen, opQ_at, Wp_guardP, retQ_normal, retQ_ret, loopQ_normal, loopQ_exit, loopQ_ret, finish_one_eq, finish_one_eq0, finish_two_eq, finish_two_eq0, roots_slice_new, roots_slice_new0, roots_slice_none, roots_ptr_new, roots_ptr_new0, roots_int, roots_bool, roots_str, roots_agg, roots_tup, roots_cons, roots_nil, rename_slice, rename_slice_none, rename_ptr, rename_int, rename_bool, rename_str, rename_agg, rename_tup, rename_cons, rename_nil, keepBlks_nil, keepBlks_cons, flatAll_nil, flatAll_cons, flatBlk_cells, dedup_nil, dedup_one, dedup_two, renum_one, renum_one0, renum_two0, renum_two1, clean_none', clean_some, minEsc_none, minEsc_some, Nat.add_left_cancel_iff, Nat.le_add_right, Nat.le_refl, decide_true, go_sem, entry, joinEsc, if_pos, reduceIte, Nat.reduceAdd, Nat.reduceLeDiff, Nat.reduceLT, Nat.reduceEqDiff]
      exact ⟨List.replicate n 0, rfl, by rw [List.length_replicate]; omega⟩
  · have c0' : decide (x3 = 0) = false := decide_eq_false c0
    by_cases c1 : x3 = 1
    · subst c1
      have hw : IntKind.i64.wrap (((d ++ u).length : Int) + 1) = (((d ++ u).length + 1 : Nat) : Int) := wrap_succ (by rw [List.length_append]; omega)
      rw [List.length_append] at hw
      simp +contextual only [c0', hw, bs_size, List.size_toArray, List.length_append, decide_true, Nat.add_zero, Nat.add_assoc, Wp_some, Wp_none, Wp_ite, Wc_some, Wc_none, Wc_ite, Wp_thenRun, seqQ_normal, seqQ_exit, seqQ_ret, Wp_inBlock, blkQ_normal, blkQ_ret, blkQ_same, blkQ_exit, Wp_opThen, opQ_at, Wp_guardP, retQ_normal, retQ_ret, loopQ_normal, loopQ_exit, loopQ_ret, go_sem, entry, joinEsc, if_pos, reduceIte, Nat.reduceAdd, Nat.reduceLeDiff, Nat.reduceLT, Nat.reduceEqDiff]
      refine (wc_pick _ (Cu.new (H := H) (k := 0) (y := y3) (z := z3) rfl hc hy30) (by omega) (by omega)).mono ?_
      rintro v m ⟨x4, y4, z4, rfl, hx40, hx41, hy40, hy41, rfl⟩
      obtain ⟨j, rfl⟩ : ∃ j : Nat, x4 = (j : Int) := ⟨x4.toNat, by omega⟩
      have hj : j ≤ (d ++ u).length := by rw [List.length_append]; omega
      rw [List.length_append] at hj
      simp +contextual only [aop_subH, subV_H, hj, List.length_append, Nat.add_zero, Nat.add_assoc, Wp_some, Wp_none, Wp_ite, Wc_some, Wc_none, Wc_ite, Wp_thenRun, seqQ_normal, seqQ_exit, seqQ_ret, Wp_inBlock, blkQ_normal, blkQ_ret, blkQ_same, blkQ_exit, Wp_opThen, opQ_at, Wp_guardP, retQ_normal, retQ_ret, loopQ_normal, loopQ_exit, loopQ_ret, go_sem, entry, joinEsc, if_pos, reduceIte, Nat.reduceAdd, Nat.reduceLeDiff, Nat.reduceLT, Nat.reduceEqDiff]
      refine (wc_one 40 (Cu.new (H := H) (k := 0) (y := y4) (z := z4) rfl hc hy40) (by omega) (by omega)).mono ?_
      rintro v m ⟨x8, y8, z8, rfl, hy80, hy81, rfl⟩
      cases x8 with
      | false =>
        simp +contextual only [a_s_DrawRecoverLog, Nat.add_zero, Nat.add_assoc, Wp_some, Wp_none, Wp_ite, Wc_some, Wc_none, Wc_ite, Wp_thenRun, seqQ_normal, seqQ_exit, seqQ_ret, Wp_inBlock, blkQ_normal, blkQ_ret, blkQ_same, blkQ_exit, Wp_opThen, opQ_at, Wp_guardP, retQ_normal, retQ_ret, loopQ_normal, loopQ_exit, loopQ_ret, finish_one_eq, finish_one_eq0, finish_two_eq, finish_two_eq0, roots_slice_new, roots_slice_new0, roots_slice_none, roots_ptr_new, roots_ptr_new0, roots_int, roots_bool, roots_str, roots_agg, roots_tup, roots_cons, roots_nil, rename_slice, rename_slice_none, rename_ptr, rename_int, rename_bool, rename_str, rename_agg, rename_tup, rename_cons, rename_nil, keepBlks_nil, keepBlks_cons, flatAll_nil, flatAll_cons, flatBlk_cells, dedup_nil, dedup_one, dedup_two, renum_one, renum_one0, renum_two0, renum_two1, clean_none', clean_some, minEsc_none, minEsc_some, Nat.add_left_cancel_iff, Nat.le_add_right, Nat.le_refl, decide_true, go_sem, entry, joinEsc, if_pos, reduceIte, Nat.reduceAdd, Nat.reduceLeDiff, Nat.reduceLT, Nat.reduceEqDiff]
        exact ⟨(d ++ u).take j, rfl, by rw [List.length_take, List.length_append]; omega⟩
      | true =>
        simp +contextual only [Nat.add_zero, Nat.add_assoc, Wp_some, Wp_none, Wp_ite, Wc_some, Wc_none, Wc_ite, Wp_thenRun, seqQ_normal, seqQ_exit, seqQ_ret, Wp_inBlock, blkQ_normal, blkQ_ret, blkQ_same, blkQ_exit, Wp_opThen, opQ_at, Wp_guardP, retQ_normal, retQ_ret, loopQ_normal, loopQ_exit, loopQ_ret, go_sem, entry, joinEsc, if_pos, reduceIte, Nat.reduceAdd, Nat.reduceLeDiff, Nat.reduceLT, Nat.reduceEqDiff]
        refine (wc_pick 2 (Cu.new (H := H) (k := 0) (y := y8) (z := z8) rfl hc hy80) (by omega) (by omega)).mono ?_
        rintro v m ⟨x9, y9, z9, rfl, hx90, hx91, hy90, hy91, rfl⟩
        obtain ⟨n, hn⟩ : ∃ n : Nat, 30000 + x9 = (n : Int) := ⟨(30000 + x9).toNat, by omega⟩
        have hw9 : IntKind.i64.wrap (30000 + x9) = (n : Int) := by rw [hn]; exact wrap64 (by omega) (by omega)
        have hmk : (n : Int) * ((1 : Nat) : Int) ≤ ((maxBytes : Nat) : Int) := by unfold maxBytes; omega
        have hzz : zeros n [AV.int .u8 0] = (List.replicate n (0 : UInt8)).map byC := zeros_by n
        have hof := fun L q c (h : cellsAt L q = some ((List.replicate n (0 : UInt8)).map byC)) => ofBytesV_by (H := L) (q := q) (n := n) (c := c) (l := List.replicate n 0) h (by simp)
        simp +contextual only [a_s_DrawRecoverLog, hw9, hmk, hzz, aop_ofBytes, hof, Int.natCast_nonneg, Int.toNat_natCast, Nat.add_zero, Nat.add_assoc, decide_true, Wp_some, Wp_none, Wp_ite, Wc_some, Wc_none, Wc_ite, Wp_thenRun, seqQ_normal, seqQ_exit, seqQ_ret, Wp_inBlock, blkQ_normal, blkQ_ret, blkQ_same, blkQ_exit, Wp_opThen, opQ_at, Wp_guardP, retQ_normal, retQ_ret, loopQ_normal, loopQ_exit, loopQ_ret, finish_one_eq, finish_one_eq0, finish_two_eq, finish_two_eq0, roots_slice_new, roots_slice_new0, roots_slice_none, roots_ptr_new, roots_ptr_new0, roots_int, roots_bool, roots_str, roots_agg, roots_tup, roots_cons, roots_nil, rename_slice, rename_slice_none, rename_ptr, rename_int, rename_bool, rename_str, rename_agg, rename_tup, rename_cons, rename_nil, keepBlks_nil, keepBlks_cons, flatAll_nil, flatAll_cons, flatBlk_cells, dedup_nil, dedup_one, dedup_two, renum_one, renum_one0, renum_two0, renum_two1, clean_none', clean_some, minEsc_none, minEsc_some, Nat.add_left_cancel_iff, Nat.le_add_right, Nat.le_refl, decide_true, go_sem, entry, joinEsc, if_pos, reduceIte, Nat.reduceAdd, Nat.reduceLeDiff, Nat.reduceLT, Nat.reduceEqDiff]
        exact ⟨List.replicate n 0, rfl, by rw [List.length_replicate]; omega⟩
    · have c1' : decide (x3 = 1) = false := decide_eq_false c1
      by_cases c2 : x3 = 2
      · subst c2
        simp +contextual only [c0', c1', decide_true, Nat.add_zero, Nat.add_assoc, Wp_some, Wp_none, Wp_ite, Wc_some, Wc_none, Wc_ite, Wp_thenRun, seqQ_normal, seqQ_exit, seqQ_ret, Wp_inBlock, blkQ_normal, blkQ_ret, blkQ_same, blkQ_exit, Wp_opThen, opQ_at, Wp_guardP, retQ_normal, retQ_ret, loopQ_normal, loopQ_exit, loopQ_ret, go_sem, entry, joinEsc, if_pos, reduceIte, Nat.reduceAdd, Nat.reduceLeDiff, Nat.reduceLT, Nat.reduceEqDiff]
        refine (wc_pick 4 (Cu.new (H := H) (k := 0) (y := y3) (z := z3) rfl hc hy30) (by omega) (by omega)).mono ?_
        rintro v m ⟨x4, y4, z4, rfl, hx40, hx41, hy40, hy41, rfl⟩
        simp +contextual only [Nat.add_zero, Nat.add_assoc, Wp_some, Wp_none, Wp_ite, Wc_some, Wc_none, Wc_ite, Wp_thenRun, seqQ_normal, seqQ_exit, seqQ_ret, Wp_inBlock, blkQ_normal, blkQ_ret, blkQ_same, blkQ_exit, Wp_opThen, opQ_at, Wp_guardP, retQ_normal, retQ_ret, loopQ_normal, loopQ_exit, loopQ_ret, go_sem, entry, joinEsc, if_pos, reduceIte, Nat.reduceAdd, Nat.reduceLeDiff, Nat.reduceLT, Nat.reduceEqDiff]
        refine (wc_logRecord (Cu.new (H := H) (k := 0) (y := y4) (z := z4) rfl hc hy40) (by omega)).mono ?_
        rintro v m ⟨a, r, y5, z5, rfl, ha, hr, hy50, hy51, rfl⟩
        have hln := fun L e' => e_s_l12Line (pr := pr) (H := L) (e := e') (k := x4) (c := a) (r := r) (by omega) (by omega) (by omega) (by omega)
        have hbl := body_len (k := x4) (c := a) (r := r) (by omega) (by omega)
        have hsl := sealL_len (bodyL x4 a r)
        have hll : (lineL x4 a r).length ≤ a.length + r.length + 12 := by unfold lineL; rw [List.length_append, List.length_singleton]; omega
        have hadd2 : (d ++ u).length + (lineL x4 a r).length ≤ 140737488355328 := by rw [List.length_append]; omega
        rw [List.length_append, Nat.add_assoc] at hadd2
        simp +contextual only [hln, binop_sadd, hadd2, List.length_append, Nat.add_zero, Nat.add_assoc, Wp_some, Wp_none, Wp_ite, Wc_some, Wc_none, Wc_ite, Wp_thenRun, seqQ_normal, seqQ_exit, seqQ_ret, Wp_inBlock, blkQ_normal, blkQ_ret, blkQ_same, blkQ_exit, Wp_opThen, opQ_at, Wp_guardP, retQ_normal, retQ_ret, loopQ_normal, loopQ_exit, loopQ_ret, go_sem, entry, joinEsc, if_pos, reduceIte, Nat.reduceAdd, Nat.reduceLeDiff, Nat.reduceLT, Nat.reduceEqDiff]
        refine (wc_one 40 (Cu.new (H := H) (k := 0) (y := y5) (z := z5) rfl hc hy50) (by omega) (by omega)).mono ?_
        rintro v m ⟨x8, y8, z8, rfl, hy80, hy81, rfl⟩
        cases x8 with
        | false =>
          simp +contextual only [a_s_DrawRecoverLog, Nat.add_zero, Nat.add_assoc, Wp_some, Wp_none, Wp_ite, Wc_some, Wc_none, Wc_ite, Wp_thenRun, seqQ_normal, seqQ_exit, seqQ_ret, Wp_inBlock, blkQ_normal, blkQ_ret, blkQ_same, blkQ_exit, Wp_opThen, opQ_at, Wp_guardP, retQ_normal, retQ_ret, loopQ_normal, loopQ_exit, loopQ_ret, finish_one_eq, finish_one_eq0, finish_two_eq, finish_two_eq0, roots_slice_new, roots_slice_new0, roots_slice_none, roots_ptr_new, roots_ptr_new0, roots_int, roots_bool, roots_str, roots_agg, roots_tup, roots_cons, roots_nil, rename_slice, rename_slice_none, rename_ptr, rename_int, rename_bool, rename_str, rename_agg, rename_tup, rename_cons, rename_nil, keepBlks_nil, keepBlks_cons, flatAll_nil, flatAll_cons, flatBlk_cells, dedup_nil, dedup_one, dedup_two, renum_one, renum_one0, renum_two0, renum_two1, clean_none', clean_some, minEsc_none, minEsc_some, Nat.add_left_cancel_iff, Nat.le_add_right, Nat.le_refl, decide_true, go_sem, entry, joinEsc, if_pos, reduceIte, Nat.reduceAdd, Nat.reduceLeDiff, Nat.reduceLT, Nat.reduceEqDiff]
          exact ⟨d ++ (u ++ lineL x4 a r), rfl, by rw [List.length_append, List.length_append]; omega⟩
        | true =>
          simp +contextual only [Nat.add_zero, Nat.add_assoc, Wp_some, Wp_none, Wp_ite, Wc_some, Wc_none, Wc_ite, Wp_thenRun, seqQ_normal, seqQ_exit, seqQ_ret, Wp_inBlock, blkQ_normal, blkQ_ret, blkQ_same, blkQ_exit, Wp_opThen, opQ_at, Wp_guardP, retQ_normal, retQ_ret, loopQ_normal, loopQ_exit, loopQ_ret, go_sem, entry, joinEsc, if_pos, reduceIte, Nat.reduceAdd, Nat.reduceLeDiff, Nat.reduceLT, Nat.reduceEqDiff]
          refine (wc_pick 2 (Cu.new (H := H) (k := 0) (y := y8) (z := z8) rfl hc hy80) (by omega) (by omega)).mono ?_
          rintro v m ⟨x9, y9, z9, rfl, hx90, hx91, hy90, hy91, rfl⟩
          obtain ⟨n, hn⟩ : ∃ n : Nat, 30000 + x9 = (n : Int) := ⟨(30000 + x9).toNat, by omega⟩
          have hw9 : IntKind.i64.wrap (30000 + x9) = (n : Int) := by rw [hn]; exact wrap64 (by omega) (by omega)
          have hmk : (n : Int) * ((1 : Nat) : Int) ≤ ((maxBytes : Nat) : Int) := by unfold maxBytes; omega
          have hzz : zeros n [AV.int .u8 0] = (List.replicate n (0 : UInt8)).map byC := zeros_by n
          have hof := fun L q c (h : cellsAt L q = some ((List.replicate n (0 : UInt8)).map byC)) => ofBytesV_by (H := L) (q := q) (n := n) (c := c) (l := List.replicate n 0) h (by simp)
          simp +contextual only [a_s_DrawRecoverLog, hw9, hmk, hzz, aop_ofBytes, hof, Int.natCast_nonneg, Int.toNat_natCast, Nat.add_zero, Nat.add_assoc, decide_true, Wp_some, Wp_none, Wp_ite, Wc_some, Wc_none, Wc_ite, Wp_thenRun, seqQ_normal, seqQ_exit, seqQ_ret, Wp_inBlock, blkQ_normal, blkQ_ret, blkQ_same, blkQ_exit, Wp_opThen, opQ_at, Wp_guardP, retQ_normal, retQ_ret, loopQ_normal, loopQ_exit, loopQ_ret, finish_one_eq, finish_one_eq0, finish_two_eq, finish_two_eq0, roots_slice_new, roots_slice_new0, roots_slice_none, roots_ptr_new, roots_ptr_new0, roots_int, roots_bool, roots_str, roots_agg, roots_tup, roots_cons, roots_nil, rename_slice, rename_slice_none, rename_ptr, rename_int, rename_bool, rename_str, rename_agg, rename_tup, rename_cons, rename_nil, keepBlks_nil, keepBlks_cons, flatAll_nil, flatAll_cons, flatBlk_cells, dedup_nil, dedup_one, dedup_two, renum_one, renum_one0, renum_two0, renum_two1, clean_none', clean_some, minEsc_none, minEsc_some, Nat.add_left_cancel_iff, Nat.le_add_right, Nat.le_refl, decide_true, go_sem, entry, joinEsc, if_pos, reduceIte, Nat.reduceAdd, Nat.reduceLeDiff, Nat.reduceLT, Nat.reduceEqDiff]
          exact ⟨List.replicate n 0, rfl, by rw [List.length_replicate]; omega⟩
      · have c2' : decide (x3 = 2) = false := decide_eq_false c2
        simp +contextual only [c0', c1', c2', Nat.add_zero, Nat.add_assoc, Wp_some, Wp_none, Wp_ite, Wc_some, Wc_none, Wc_ite, Wp_thenRun, seqQ_normal, seqQ_exit, seqQ_ret, Wp_inBlock, blkQ_normal, blkQ_ret, blkQ_same, blkQ_exit, Wp_opThen, opQ_at, Wp_guardP, retQ_normal, retQ_ret, loopQ_normal, loopQ_exit, loopQ_ret, go_sem, entry, joinEsc, if_pos, reduceIte, Nat.reduceAdd, Nat.reduceLeDiff, Nat.reduceLT, Nat.reduceEqDiff]
        refine (wc_one 40 (Cu.new (H := H) (k := 0) (y := y3) (z := z3) rfl hc hy30) (by omega) (by omega)).mono ?_
        rintro v m ⟨x8, y8, z8, rfl, hy80, hy81, rfl⟩
        cases x8 with
        | false =>
          simp +contextual only [a_s_DrawRecoverLog, Nat.add_zero, Nat.add_assoc, Wp_some, Wp_none, Wp_ite, Wc_some, Wc_none, Wc_ite, Wp_thenRun, seqQ_normal, seqQ_exit, seqQ_ret, Wp_inBlock, blkQ_normal, blkQ_ret, blkQ_same, blkQ_exit, Wp_opThen, opQ_at, Wp_guardP, retQ_normal, retQ_ret, loopQ_normal, loopQ_exit, loopQ_ret, finish_one_eq, finish_one_eq0, finish_two_eq, finish_two_eq0, roots_slice_new, roots_slice_new0, roots_slice_none, roots_ptr_new, roots_ptr_new0, roots_int, roots_bool, roots_str, roots_agg, roots_tup, roots_cons, roots_nil, rename_slice, rename_slice_none, rename_ptr, rename_int, rename_bool, rename_str, rename_agg, rename_tup, rename_cons, rename_nil, keepBlks_nil, keepBlks_cons, flatAll_nil, flatAll_cons, flatBlk_cells, dedup_nil, dedup_one, dedup_two, renum_one, renum_one0, renum_two0, renum_two1, clean_none', clean_some, minEsc_none, minEsc_some, Nat.add_left_cancel_iff, Nat.le_add_right, Nat.le_refl, decide_true, go_sem, entry, joinEsc, if_pos, reduceIte, Nat.reduceAdd, Nat.reduceLeDiff, Nat.reduceLT, Nat.reduceEqDiff]
          exact ⟨d ++ u, rfl, by rw [List.length_append]; omega⟩
        | true =>
          simp +contextual only [Nat.add_zero, Nat.add_assoc, Wp_some, Wp_none, Wp_ite, Wc_some, Wc_none, Wc_ite, Wp_thenRun, seqQ_normal, seqQ_exit, seqQ_ret, Wp_inBlock, blkQ_normal, blkQ_ret, blkQ_same, blkQ_exit, Wp_opThen, opQ_at, Wp_guardP, retQ_normal, retQ_ret, loopQ_normal, loopQ_exit, loopQ_ret, go_sem, entry, joinEsc, if_pos, reduceIte, Nat.reduceAdd, Nat.reduceLeDiff, Nat.reduceLT, Nat.reduceEqDiff]
          refine (wc_pick 2 (Cu.new (H := H) (k := 0) (y := y8) (z := z8) rfl hc hy80) (by omega) (by omega)).mono ?_
          rintro v m ⟨x9, y9, z9, rfl, hx90, hx91, hy90, hy91, rfl⟩
          obtain ⟨n, hn⟩ : ∃ n : Nat, 30000 + x9 = (n : Int) := ⟨(30000 + x9).toNat, by omega⟩
          have hw9 : IntKind.i64.wrap (30000 + x9) = (n : Int) := by rw [hn]; exact wrap64 (by omega) (by omega)
          have hmk : (n : Int) * ((1 : Nat) : Int) ≤ ((maxBytes : Nat) : Int) := by unfold maxBytes; omega
          have hzz : zeros n [AV.int .u8 0] = (List.replicate n (0 : UInt8)).map byC := zeros_by n
          have hof := fun L q c (h : cellsAt L q = some ((List.replicate n (0 : UInt8)).map byC)) => ofBytesV_by (H := L) (q := q) (n := n) (c := c) (l := List.replicate n 0) h (by simp)
          simp +contextual only [a_s_DrawRecoverLog, hw9, hmk, hzz, aop_ofBytes, hof, Int.natCast_nonneg, Int.toNat_natCast, Nat.add_zero, Nat.add_assoc, decide_true, Wp_some, Wp_none, Wp_ite, Wc_some, Wc_none, Wc_ite, Wp_thenRun, seqQ_normal, seqQ_exit, seqQ_ret, Wp_inBlock, blkQ_normal, blkQ_ret, blkQ_same, blkQ_exit, Wp_opThen, opQ_at, Wp_guardP, retQ_normal, retQ_ret, loopQ_normal, loopQ_exit, loopQ_ret, finish_one_eq, finish_one_eq0, finish_two_eq, finish_two_eq0, roots_slice_new, roots_slice_new0, roots_slice_none, roots_ptr_new, roots_ptr_new0, roots_int, roots_bool, roots_str, roots_agg, roots_tup, roots_cons, roots_nil, rename_slice, rename_slice_none, rename_ptr, rename_int, rename_bool, rename_str, rename_agg, rename_tup, rename_cons, rename_nil, keepBlks_nil, keepBlks_cons, flatAll_nil, flatAll_cons, flatBlk_cells, dedup_nil, dedup_one, dedup_two, renum_one, renum_one0, renum_two0, renum_two1, clean_none', clean_some, minEsc_none, minEsc_some, Nat.add_left_cancel_iff, Nat.le_add_right, Nat.le_refl, decide_true, go_sem, entry, joinEsc, if_pos, reduceIte, Nat.reduceAdd, Nat.reduceLeDiff, Nat.reduceLT, Nat.reduceEqDiff]
          exact ⟨List.replicate n 0, rfl, by rw [List.length_replicate]; omega⟩

end Go.Proofs.YtdohjcodjjogbaaDoor.Slim

/- Logs: what is kept when a record is put on, and when the end is lost. -/
namespace Go.Proofs.YtdohjcodjjogbaaDoor.Slim

open Go

set_option linter.unusedSimpArgs false

set_option linter.unusedVariables false

variable {pr : Prims} {H : List Blk} {e : Option Nat}

theorem text_byte {l : By} (h : textOk (bs l) = true) {b : UInt8} (hb : b ∈ l) : 32 ≤ b.toNat ∧ b.toNat ≤ 126 := by
  have := List.all_eq_true.mp h b hb
  unfold okB at this
  simp at this
  omega

theorem line_byte {k : Int} {c r : By} (h0 : 0 ≤ k) (h : rcOk c r = true) {b : UInt8} (hb : b ∈ sealL (bodyL k c r)) : 32 ≤ b.toNat ∧ b.toNat ≤ 126 := by
  obtain ⟨_, _, _, h4, h5, _⟩ := rc_facts h
  unfold sealL bodyL at hb
  simp only [List.mem_append, List.mem_singleton] at hb
  rcases hb with ((((((hb | rfl) | hb) | rfl) | hb) | rfl) | hb)
  · have := itoa_digit h0 hb; omega
  · decide
  · exact text_byte h4 hb
  · decide
  · exact text_byte h5 hb
  · decide
  · have := itoa_digit (Int.natCast_nonneg _) hb; omega

theorem head_line {k : Nat} {c r : By} (hk : k ≤ 59) (h : rcOk c r = true) : headF k (lineL k c r) = some ((c, r), (lineL k c r).length) := by
  have hno : (sealL (bodyL k c r)).contains 10 = false := not_contains fun b hb he => by
    have := (line_byte (Int.natCast_nonneg k) h hb).1
    subst he
    simp at this
  have hcut : cutA (lineL k c r) 10 = sealL (bodyL k c r) := (cut_at (q := []) hno).1
  have hdec : decF k (sealL (bodyL k c r)) = some (c, r) := (decF_iff (by omega) (by omega)).mpr ⟨h, rfl⟩
  have hc : (lineL k c r).contains 10 = true := by unfold lineL; simp
  unfold headF
  rw [if_pos hc, hcut, hdec]
  simp [lineL]

theorem line_len {k : Int} {c r : By} (h0 : 0 ≤ k) (h1 : k ≤ 59) (h : rcOk c r = true) : (lineL k c r).length ≤ 422 := by
  obtain ⟨_, h2, h3, _⟩ := rc_facts h
  have hbl := body_len (k := k) (c := c) (r := r) h0 h1
  have hsl := sealL_len (bodyL k c r)
  unfold lineL
  rw [List.length_append, List.length_singleton]
  omega

theorem head_facts {k : Nat} {l : By} {p : Rc} {n : Nat} (hk : k ≤ 59) (h : headF k l = some (p, n)) : n ≤ 422 ∧ ∀ b ∈ l.take n, b.toNat ≤ 126 := by
  obtain ⟨h1, h2, h3, h4⟩ := headF_le h
  obtain ⟨c, r⟩ := p
  obtain ⟨hr, hl⟩ := (decF_iff (by omega) (by omega)).mp h3
  have hll := line_len (k := (k : Int)) (c := c) (r := r) (by omega) (by omega) hr
  have htk : l.take n = cutA l 10 ++ [10] := by
    have hw := cut_whole 10 l h2
    conv => lhs; rw [hw]
    rw [h4]
    rw [List.take_append, List.take_of_length_le (by omega)]
    simp
  constructor
  · rw [hl, List.length_append, List.length_singleton] at hll
    omega
  · intro b hb
    rw [htk, ← hl] at hb
    unfold lineL at hb
    rcases List.mem_append.mp hb with hb | hb
    · exact (line_byte (by omega) hr hb).2
    · rw [List.mem_singleton.mp hb]; decide

theorem cons_facts : ∀ (f k : Nat) (l : By), k + f ≤ 60 → consF f k l ≤ 422 * (openF f k l).length ∧ ∀ b ∈ l.take (consF f k l), b.toNat ≤ 126
  | 0, k, l, _ => by simp [consF, openF]
  | f + 1, k, l, hk => by
    rw [consF, openF]
    cases hh : headF k l with
    | none => simp
    | some q =>
      obtain ⟨p, n⟩ := q
      obtain ⟨h1, h2⟩ := head_facts (by omega) hh
      obtain ⟨h3, h4⟩ := cons_facts f (k + 1) (l.drop n) (by omega)
      refine ⟨by simp only [List.length_cons]; omega, fun b hb => ?_⟩
      simp only at hb
      rw [List.take_add] at hb
      rcases List.mem_append.mp hb with hb | hb
      · exact h2 b hb
      · exact h4 b hb

theorem open_snoc : ∀ (f k : Nat) (l t : By), consF f k l = l.length → (openF f k l).length < f → openF f k (l ++ t) = openF f k l ++ openF (f - (openF f k l).length) (k + (openF f k l).length) t ∧ consF f k (l ++ t) = l.length + consF (f - (openF f k l).length) (k + (openF f k l).length) t
  | 0, k, l, t, h1, h2 => by simp at h2
  | f + 1, k, l, t, h1, h2 => by
    cases hh : headF k l with
    | none =>
      have hl : l = [] := by
        rw [consF, hh] at h1
        exact List.eq_nil_of_length_eq_zero h1.symm
      subst hl
      have ho : openF (f + 1) k [] = [] := by rw [openF, hh]
      rw [ho]
      simp
    | some q =>
      obtain ⟨p, n⟩ := q
      have hn := (headF_le hh).1
      have ho : openF (f + 1) k l = p :: openF f (k + 1) (l.drop n) := by rw [openF, hh]
      have hc : consF (f + 1) k l = n + consF f (k + 1) (l.drop n) := by rw [consF, hh]
      have hd : (l ++ t).drop n = l.drop n ++ t := by rw [List.drop_append, show n - l.length = 0 by omega, List.drop_zero]
      rw [ho, List.length_cons] at h2
      have hdl : (l.drop n).length = l.length - n := List.length_drop
      obtain ⟨i1, i2⟩ := open_snoc f (k + 1) (l.drop n) t (by omega) (by omega)
      rw [ho, List.length_cons, show f + 1 - ((openF f (k + 1) (l.drop n)).length + 1) = f - (openF f (k + 1) (l.drop n)).length by omega, show k + ((openF f (k + 1) (l.drop n)).length + 1) = k + 1 + (openF f (k + 1) (l.drop n)).length by omega]
      constructor
      · rw [openF, headF_app t hh]
        simp only
        rw [hd, i1, List.cons_append]
      · rw [consF, headF_app t hh]
        simp only
        rw [hd, i2]
        omega

theorem open_nil (f k : Nat) : openF f k [] = [] ∧ consF f k [] = 0 := by
  cases f with
  | zero => simp [openF, consF]
  | succ f => rw [openF, consF, headF_nil]; simp

theorem log_app {d p a r : By} {c : Int} (h : logOk d p c = true) (hr : rcOk a r = true) (hc : c ≠ 60) :
    logOk d (p ++ lineL c a r) (c + 1) = true ∧ openF 60 0 (d ++ (p ++ lineL c a r)) = openF 60 0 (d ++ p) ++ [(a, r)] := by
  obtain ⟨g1, g2, g3, g4, g5⟩ := logOk_le h
  obtain ⟨n, rfl⟩ : ∃ n : Nat, c = (n : Int) := ⟨_, g4⟩
  have hn : n = (openF 60 0 (d ++ p)).length := by omega
  have hn59 : n ≤ 59 := by omega
  have hll : (d ++ p).length = d.length + p.length := List.length_append
  obtain ⟨i1, i2⟩ := open_snoc 60 0 (d ++ p) (lineL n a r) (by omega) (by omega)
  have hh := head_line (k := n) (c := a) (r := r) hn59 hr
  obtain ⟨f, hf⟩ : ∃ f, 60 - n = f + 1 := ⟨59 - n, by omega⟩
  rw [← hn, hf, Nat.zero_add] at i1 i2
  have ho1 : openF (f + 1) n (lineL n a r) = [(a, r)] := by
    rw [openF, hh]
    simp only [List.drop_length]
    rw [(open_nil f (n + 1)).1]
  have hc1 : consF (f + 1) n (lineL n a r) = (lineL n a r).length := by
    rw [consF, hh]
    simp only [List.drop_length]
    rw [(open_nil f (n + 1)).2, Nat.add_zero]
  rw [ho1] at i1
  rw [hc1] at i2
  have hb := (cons_facts 60 0 (d ++ p) (by omega)).1
  have hl := line_len (k := (n : Int)) (c := a) (r := r) (by omega) (by omega) hr
  rw [List.append_assoc] at i1 i2
  refine ⟨?_, i1⟩
  have hol : (openF 60 0 (d ++ p) ++ [(a, r)]).length = n + 1 := by rw [List.length_append, List.length_singleton, hn]
  unfold logOk
  rw [i1, i2, List.length_append, List.length_append, hol, g3]
  simp only [Bool.and_eq_true, decide_eq_true_eq]
  refine ⟨by omega, by omega, trivial, by omega⟩

theorem log_sync {d p : By} {c : Int} (h : logOk d p c = true) : logOk (d ++ p) [] c = true := by
  obtain ⟨g1, g2, g3, g4, g5⟩ := logOk_le h
  have hll : (d ++ p).length = d.length + p.length := List.length_append
  unfold logOk
  rw [List.append_nil, g2, hll, List.length_nil]
  simp only [Bool.and_eq_true, decide_eq_true_eq]
  exact ⟨by omega, by omega, trivial, g4⟩

/-- the records of a part of a text are the first ones of the text's -/
theorem open_pre : ∀ (f k : Nat) (l t : By), ∃ j, openF f k l = (openF f k (l ++ t)).take j ∧ j ≤ (openF f k (l ++ t)).length ∧ consF f k l ≤ consF f k (l ++ t)
  | 0, k, l, t => ⟨0, by simp [openF], by simp, by simp [consF]⟩
  | f + 1, k, l, t => by
    cases hh : headF k l with
    | none => exact ⟨0, by rw [openF, hh]; simp, by simp, by rw [consF, hh]; exact Nat.zero_le _⟩
    | some q =>
      obtain ⟨p, n⟩ := q
      have hn := (headF_le hh).1
      have hd : (l ++ t).drop n = l.drop n ++ t := by rw [List.drop_append, show n - l.length = 0 by omega, List.drop_zero]
      obtain ⟨j, j1, j2, j3⟩ := open_pre f (k + 1) (l.drop n) t
      refine ⟨j + 1, ?_, ?_, ?_⟩
      · rw [openF, hh, openF, headF_app t hh]
        simp only
        rw [hd, List.take_succ_cons, j1]
      · rw [openF, headF_app t hh]
        simp only
        rw [hd, List.length_cons]
        omega
      · rw [consF, hh, consF, headF_app t hh]
        simp only
        rw [hd]
        omega

theorem head_end {k : Nat} {w : By} {y : UInt8} (hy : y ≠ 10) : headF k (w ++ [y]) = headF k w := by
  unfold headF
  by_cases h : w.contains 10 = true
  · have h2 : (w ++ [y]).contains 10 = true := by
      simp at h ⊢
      exact .inl h
    have hw := cut_whole 10 w h
    have hno : (cutA w 10).contains 10 = false := not_contains (cutA_no 10 w)
    have hA : cutA (w ++ [y]) 10 = cutA w 10 := by
      conv => lhs; rw [hw, List.append_assoc, List.cons_append]
      exact (cut_at hno).1
    rw [if_pos h, if_pos h2, hA]
  · have h2 : ¬ (w ++ [y]).contains 10 = true := by
      simp at h ⊢
      exact ⟨h, fun e => hy e.symm⟩
    rw [if_neg h, if_neg h2]

theorem open_end {y : UInt8} (hy : y ≠ 10) : ∀ (f k : Nat) (w : By), openF f k (w ++ [y]) = openF f k w ∧ consF f k (w ++ [y]) = consF f k w
  | 0, k, w => by simp [openF, consF]
  | f + 1, k, w => by
    rw [openF, openF, consF, consF, head_end hy]
    cases hh : headF k w with
    | none => simp
    | some q =>
      obtain ⟨p, n⟩ := q
      have hn := (headF_le hh).1
      have hd : (w ++ [y]).drop n = w.drop n ++ [y] := by rw [List.drop_append, show n - w.length = 0 by omega, List.drop_zero]
      obtain ⟨i1, i2⟩ := open_end hy f (k + 1) (w.drop n)
      simp only
      rw [hd, i1, i2]
      exact ⟨rfl, rfl⟩

/-- what is taken of a text holds the same records -/
theorem open_take : ∀ (f k : Nat) (l : By), openF f k (l.take (consF f k l)) = openF f k l ∧ consF f k (l.take (consF f k l)) = consF f k l
  | 0, k, l => by simp [openF, consF]
  | f + 1, k, l => by
    cases hh : headF k l with
    | none =>
      have hc : consF (f + 1) k l = 0 := by rw [consF, hh]
      have ho : openF (f + 1) k l = [] := by rw [openF, hh]
      rw [hc, ho, List.take_zero]
      exact open_nil _ _
    | some q =>
      obtain ⟨p, n⟩ := q
      have hn := (headF_le hh).1
      have hc : consF (f + 1) k l = n + consF f (k + 1) (l.drop n) := by rw [consF, hh]
      have ho : openF (f + 1) k l = p :: openF f (k + 1) (l.drop n) := by rw [openF, hh]
      have hle := consF_le f (k + 1) (l.drop n)
      rw [List.length_drop] at hle
      have hh' : headF k (l.take (n + consF f (k + 1) (l.drop n))) = some (p, n) := by
        refine headF_sub (p := l.drop (n + consF f (k + 1) (l.drop n))) ?_ ?_
        · rw [List.take_append_drop]; exact hh
        · rw [List.length_take]; omega
      have hd : (l.take (n + consF f (k + 1) (l.drop n))).drop n = (l.drop n).take (consF f (k + 1) (l.drop n)) := by
        rw [List.drop_take, Nat.add_sub_cancel_left]
      obtain ⟨i1, i2⟩ := open_take f (k + 1) (l.drop n)
      rw [hc, ho]
      constructor
      · rw [openF, hh']
        simp only
        rw [hd, i1]
      · rw [consF, hh']
        simp only
        rw [hd, i2]

end Go.Proofs.YtdohjcodjjogbaaDoor.Slim

/- Logs: what the laws on drawn logs compare. -/
namespace Go.Proofs.YtdohjcodjjogbaaDoor.Slim

open Go

set_option linter.unusedSimpArgs false

set_option linter.unusedVariables false

variable {pr : Prims} {H : List Blk} {e : Option Nat}

theorem wcCut {av : AV} (k : Nat) (hk : k ≤ 255) (h : CodeAt H av) (hn : codeLen av ≤ 65536) : Wc (call T pr f_l_vCut [av, .int .i64 k] ⟨H, e⟩) (fun v m => ∃ zs : List Int, v = .slice (some (H.length, 0)) 1 zs.length none ∧ m = ⟨H ++ [.cells (zs.map (AV.int .u8)) true], e⟩ ∧ zs.length ≤ 70000 ∧ ∀ z ∈ zs, 0 ≤ z ∧ z ≤ 255) := by
  obtain ⟨zs, h1, h2, h3⟩ := wc_vCut (pr := pr) (e := e) k hk h hn
  exact ⟨_, _, h1, zs, rfl, rfl, h2, h3⟩

theorem CodeAt.new {G : List Blk} {k : Nat} {zs : List Int} {c : Option Nat} (hG : G[k]? = some (.cells (zs.map (AV.int .u8)) true)) (h1 : zs.length ≤ 70000) (h2 : ∀ z ∈ zs, 0 ≤ z ∧ z ≤ 255) : CodeAt (H ++ G) (.slice (some (H.length + k, 0)) 1 zs.length c) := by
  refine ⟨zs, h1, h2, .inr ⟨_, _, rfl, ?_⟩⟩
  rw [cellsAt_newk]
  unfold cellsAt
  rw [hG]

def slHiV (sz : Nat) (v h : AV) : Option AV := match v with
  | .slice p sz' n cap => (match natOf h with
    | some h => sliceVal sz p sz' n cap 0 h none
    | none => none)
  | _ => none

section

variable {C : FuncId → List AV → Mem → Option (AV × Mem)} {g : X → AV} {m : Mem}

theorem aop_slHi (sz : Nat) (x h : X) : aop C g m (.sliceSl sz x none (some h) none) = valOf m (slHiV sz (g x) (g h)) := by
  rw [aop_of_light rfl]
  simp only [light, slHiV, bound, optNat]
  generalize g x = v
  generalize natOf (g h) = o
  cases v <;> cases o <;> simp

end

theorem slHiV_c (sz b n l : Nat) (cap : Option Nat) (hl : l ≤ n) : slHiV sz (.slice (some (b, 0)) sz n cap) (.int .i64 l) = some (.slice (some (b, 0)) sz l cap) := by
  unfold slHiV natOf sliceVal
  simp [hl]

theorem eqc_log (d p : By) (c : Int) : eqList [2, 2, 0] [sV d, sV p, .int .i64 c] [sV d, sV p, .int .i64 c] = some true := by
  simp [eqList, eqCell]

theorem eqc_rec (a r : By) : eqList [2, 2] [sV a, sV r] [sV a, sV r] = some true := by
  simp [eqList, eqCell]

theorem e_l_vRecords {b1 b2 : Nat} {c1 c2 : Option Nat} {ts us vs : List Rc} (h1 : cellsAt H b1 = some (recC (ts ++ us))) (h2 : cellsAt H b2 = some (recC (ts ++ vs))) (hn : ts.length ≤ 1048576) :
    call T pr f_l_vRecords [slR b1 ts.length c1, slR b2 ts.length c2] ⟨H, e⟩ = some (.bool true, ⟨H, e⟩) := by
  apply Wc.eq
  rw [call_wc t_l_vRecords]
  simp +contextual only [a_l_vRecords, c_l_vRecords, decide_true, Wp_some, Wp_none, Wp_ite, Wc_some, Wc_none, Wc_ite, Wp_thenRun, seqQ_normal, seqQ_exit, seqQ_ret, Wp_inBlock, blkQ_normal, blkQ_ret, blkQ_same, blkQ_exit, Wp_opThen, opQ_at, Wp_guardP, retQ_normal, retQ_ret, loopQ_normal, loopQ_exit, loopQ_ret, go_sem, entry, joinEsc, if_pos, reduceIte, Nat.reduceAdd, Nat.reduceLeDiff, Nat.reduceLT, Nat.reduceEqDiff]
  refine Wp_loop (fun k st => ∃ (i : Nat) (y z w : AV), k + i = ts.length ∧ st = ⟨[slR b1 ts.length c1, slR b2 ts.length c2, .bool false, .int .i64 i, y, z, w], ⟨H, none⟩⟩) ?_ ts.length _ ⟨0, _, _, _, rfl, rfl⟩
  rintro k _ ⟨i, y, z, w, hk, rfl⟩
  by_cases hi : i < ts.length
  · have hl1 : (ts ++ us)[i]? = some ts[i] := by rw [List.getElem?_append_left hi, List.getElem?_eq_getElem hi]
    have hl2 : (ts ++ vs)[i]? = some ts[i] := by rw [List.getElem?_append_left hi, List.getElem?_eq_getElem hi]
    have p1 : part true (recC (ts ++ us)) (i * 2) 2 = some (rcV (bs ts[i].1) (bs ts[i].2)) := part_encE rcC_length hl1
    have p2 : part true (recC (ts ++ vs)) (i * 2) 2 = some (rcV (bs ts[i].1) (bs ts[i].2)) := part_encE rcC_length hl2
    simp +contextual only [w_l_vRecords_1, h1, h2, hi, p1, p2, eqc_rec, wrap_succ (show i < 9223372036854775807 by omega), decide_true, Wp_some, Wp_none, Wp_ite, Wc_some, Wc_none, Wc_ite, Wp_thenRun, seqQ_normal, seqQ_exit, seqQ_ret, Wp_inBlock, blkQ_normal, blkQ_ret, blkQ_same, blkQ_exit, Wp_opThen, opQ_at, Wp_guardP, retQ_normal, retQ_ret, loopQ_normal, loopQ_exit, loopQ_ret, go_sem, entry, joinEsc, if_pos, reduceIte, Nat.reduceAdd, Nat.reduceLeDiff, Nat.reduceLT, Nat.reduceEqDiff]
    exact ⟨k - 1, by omega, i + 1, _, _, _, by omega, rfl⟩
  · obtain rfl : i = ts.length := by omega
    simp +contextual only [w_l_vRecords_1, hi, decide_false, Wp_some, Wp_none, Wp_ite, Wc_some, Wc_none, Wc_ite, Wp_thenRun, seqQ_normal, seqQ_exit, seqQ_ret, Wp_inBlock, blkQ_normal, blkQ_ret, blkQ_same, blkQ_exit, Wp_opThen, opQ_at, Wp_guardP, retQ_normal, retQ_ret, loopQ_normal, loopQ_exit, loopQ_ret, finish_one_eq, finish_one_eq0, finish_two_eq, finish_two_eq0, roots_slice_new, roots_slice_new0, roots_slice_none, roots_ptr_new, roots_ptr_new0, roots_int, roots_bool, roots_str, roots_agg, roots_tup, roots_cons, roots_nil, rename_slice, rename_slice_none, rename_ptr, rename_int, rename_bool, rename_str, rename_agg, rename_tup, rename_cons, rename_nil, keepBlks_nil, keepBlks_cons, flatAll_nil, flatAll_cons, flatBlk_cells, dedup_nil, dedup_one, dedup_two, renum_one, renum_one0, renum_two0, renum_two1, clean_none', clean_some, minEsc_none, minEsc_some, Nat.add_left_cancel_iff, Nat.le_add_right, Nat.le_refl, decide_true, go_sem, entry, joinEsc, if_pos, reduceIte, Nat.reduceAdd, Nat.reduceLeDiff, Nat.reduceLT, Nat.reduceEqDiff]

theorem e_l_vRecords_none {p1 p2 : Option (Nat × Nat)} {s1 s2 : Nat} {c1 c2 : Option Nat} : call T pr f_l_vRecords [.slice p1 s1 0 c1, .slice p2 s2 0 c2] ⟨H, e⟩ = some (.bool true, ⟨H, e⟩) := by
  apply Wc.eq
  rw [call_wc t_l_vRecords]
  simp +contextual only [a_l_vRecords, c_l_vRecords, decide_true, Wp_some, Wp_none, Wp_ite, Wc_some, Wc_none, Wc_ite, Wp_thenRun, seqQ_normal, seqQ_exit, seqQ_ret, Wp_inBlock, blkQ_normal, blkQ_ret, blkQ_same, blkQ_exit, Wp_opThen, opQ_at, Wp_guardP, retQ_normal, retQ_ret, loopQ_normal, loopQ_exit, loopQ_ret, go_sem, entry, joinEsc, if_pos, reduceIte, Nat.reduceAdd, Nat.reduceLeDiff, Nat.reduceLT, Nat.reduceEqDiff]
  refine Wp_loop (fun k st => st = ⟨[.slice p1 s1 0 c1, .slice p2 s2 0 c2, .bool false, .int .i64 0, .bool false, .undef, .undef], ⟨H, none⟩⟩) ?_ 0 _ rfl
  rintro k _ rfl
  simp +contextual only [w_l_vRecords_1, show ¬ ((0 : Int) < ((0 : Nat) : Int)) by omega, decide_false, Wp_some, Wp_none, Wp_ite, Wc_some, Wc_none, Wc_ite, Wp_thenRun, seqQ_normal, seqQ_exit, seqQ_ret, Wp_inBlock, blkQ_normal, blkQ_ret, blkQ_same, blkQ_exit, Wp_opThen, opQ_at, Wp_guardP, retQ_normal, retQ_ret, loopQ_normal, loopQ_exit, loopQ_ret, finish_one_eq, finish_one_eq0, finish_two_eq, finish_two_eq0, roots_slice_new, roots_slice_new0, roots_slice_none, roots_ptr_new, roots_ptr_new0, roots_int, roots_bool, roots_str, roots_agg, roots_tup, roots_cons, roots_nil, rename_slice, rename_slice_none, rename_ptr, rename_int, rename_bool, rename_str, rename_agg, rename_tup, rename_cons, rename_nil, keepBlks_nil, keepBlks_cons, flatAll_nil, flatAll_cons, flatBlk_cells, dedup_nil, dedup_one, dedup_two, renum_one, renum_one0, renum_two0, renum_two1, clean_none', clean_some, minEsc_none, minEsc_some, Nat.add_left_cancel_iff, Nat.le_add_right, Nat.le_refl, decide_true, go_sem, entry, joinEsc, if_pos, reduceIte, Nat.reduceAdd, Nat.reduceLeDiff, Nat.reduceLT, Nat.reduceEqDiff]

end Go.Proofs.YtdohjcodjjogbaaDoor.Slim

/- Logs: the law on logs whose end is lost. -/
namespace Go.Proofs.YtdohjcodjjogbaaDoor.Slim

open Go

set_option linter.unusedSimpArgs false

set_option linter.unusedVariables false

variable {pr : Prims} {H : List Blk} {e : Option Nat}

theorem cons_app (f k : Nat) (l t : By) : consF f k l ≤ consF f k (l ++ t) := (open_pre f k l t).choose_spec.2.2

theorem u8_not10 {x : UInt8} (h : x.toNat ≤ 126) : (255 - x : UInt8) ≠ 10 := by
  intro he
  have h2 := congrArg UInt8.toNat he
  have h3 : (255 : UInt8).toNat = 255 := rfl
  have h4 : (10 : UInt8).toNat = 10 := rfl
  rw [UInt8.toNat_sub_of_le _ _ (by rw [UInt8.le_iff_toNat_le]; omega)] at h2
  omega

/-- what is recovered of a log whose end is lost -/
theorem crash_law {d p : By} {c : Int} (h : logOk d p c = true) (n : Nat) (hn : n ≤ p.length) (b : Bool) : ∃ xs ys,
    openF 60 0 (d ++ p) = xs ++ ys ∧ openF 60 0 (d ++ dmgF (p.take n) b) = xs ∧ d.length ≤ consF 60 0 (d ++ dmgF (p.take n) b) ∧ (b = true ∨ n < p.length ∨ ys = []) := by
  obtain ⟨g1, g2, g3, g4, g5⟩ := logOk_le h
  have hpre : ∀ m, ∃ j, openF 60 0 (d ++ p.take m) = (openF 60 0 (d ++ p)).take j := fun m => by
    obtain ⟨j, hj, _⟩ := open_pre 60 0 (d ++ p.take m) (p.drop m)
    rw [List.append_assoc, List.take_append_drop] at hj
    exact ⟨j, hj⟩
  have hcd : ∀ t, d.length ≤ consF 60 0 (d ++ t) := fun t => by
    have := cons_app 60 0 d t
    omega
  by_cases hb : b = true ∧ 0 < n
  · obtain ⟨rfl, h0⟩ := hb
    have htl : (p.take n).length = n := by rw [List.length_take]; omega
    have hne : p.take n ≠ [] := by intro h; rw [h] at htl; simp at htl; omega
    have hlast := last_at hne
    rw [htl] at hlast
    have hin : (p.take n).getLastD 0 ∈ d ++ p := by
      have := List.mem_of_getElem? hlast
      exact List.mem_append.mpr (.inr (List.mem_of_mem_take this))
    have hbyte : ((p.take n).getLastD 0).toNat ≤ 126 := by
      refine (cons_facts 60 0 (d ++ p) (by omega)).2 _ ?_
      rw [g2, ← List.length_append, List.take_length]
      exact hin
    have hy : (255 - (p.take n).getLastD 0 : UInt8) ≠ 10 := u8_not10 hbyte
    have hdm : dmgF (p.take n) true = p.take (n - 1) ++ [255 - (p.take n).getLastD 0] := by
      unfold dmgF
      rw [if_pos rfl, htl, List.set_eq_take_append_cons_drop, if_pos (by omega), List.take_take, Nat.min_eq_left (by omega), show n - 1 + 1 = n by omega]
      simp
    obtain ⟨j, hj⟩ := hpre (n - 1)
    have := open_end hy 60 0 (d ++ p.take (n - 1))
    rw [List.append_assoc] at this
    refine ⟨(openF 60 0 (d ++ p)).take j, (openF 60 0 (d ++ p)).drop j, (List.take_append_drop _ _).symm, ?_, hcd _, .inl rfl⟩
    rw [hdm, this.1, hj]
  · have hdm : dmgF (p.take n) b = p.take n := by
      unfold dmgF
      split
      · rename_i h
        have h0 : n = 0 := by
          have : ¬ 0 < n := fun h0 => hb ⟨h, h0⟩
          omega
        subst h0
        simp
      · rfl
    rw [hdm]
    by_cases hnl : n < p.length
    · obtain ⟨j, hj⟩ := hpre n
      exact ⟨(openF 60 0 (d ++ p)).take j, (openF 60 0 (d ++ p)).drop j, (List.take_append_drop _ _).symm, hj, hcd _, .inr (.inl hnl)⟩
    · rw [List.take_of_length_le (by omega)]
      exact ⟨openF 60 0 (d ++ p), [], by simp, rfl, hcd _, .inr (.inr rfl)⟩

theorem wc_FnCrashes (hi : HasItoa pr) (hcn : HasContains pr) (hx : HasIndex pr) {p0 : Option (Nat × Nat)} {s0 n0 : Nat} {c0 : Option Nat} (hc0 : n0 ≤ 65536 → CodeAt H (.slice p0 s0 n0 c0)) : Wc (call T pr f_l_FnCrashes [.slice p0 s0 n0 c0] ⟨H, none⟩) (fun v m => v = .bool true) := by
  rw [call_wc t_l_FnCrashes]
  by_cases hb : 65536 < n0
  · have hb' : decide ((65536 : Int) < ((n0 : Nat) : Int)) = true := decide_eq_true (by omega)
    simp +contextual only [a_l_FnCrashes, c_l_FnCrashes, e_l_vBig, hb', Wp_some, Wp_none, Wp_ite, Wc_some, Wc_none, Wc_ite, Wp_thenRun, seqQ_normal, seqQ_exit, seqQ_ret, Wp_inBlock, blkQ_normal, blkQ_ret, blkQ_same, blkQ_exit, Wp_opThen, opQ_at, Wp_guardP, retQ_normal, retQ_ret, loopQ_normal, loopQ_exit, loopQ_ret, finish_one_eq, finish_one_eq0, finish_two_eq, finish_two_eq0, roots_slice_new, roots_slice_new0, roots_slice_none, roots_ptr_new, roots_ptr_new0, roots_int, roots_bool, roots_str, roots_agg, roots_tup, roots_cons, roots_nil, rename_slice, rename_slice_none, rename_ptr, rename_int, rename_bool, rename_str, rename_agg, rename_tup, rename_cons, rename_nil, keepBlks_nil, keepBlks_cons, flatAll_nil, flatAll_cons, flatBlk_cells, dedup_nil, dedup_one, dedup_two, renum_one, renum_one0, renum_two0, renum_two1, clean_none', clean_some, minEsc_none, minEsc_some, Nat.add_left_cancel_iff, Nat.le_add_right, Nat.le_refl, decide_true, go_sem, entry, joinEsc, if_pos, reduceIte, Nat.reduceAdd, Nat.reduceLeDiff, Nat.reduceLT, Nat.reduceEqDiff]
  · have hb' : decide ((65536 : Int) < ((n0 : Nat) : Int)) = false := decide_eq_false (by omega)
    have hc := hc0 (by omega)
    have hn : codeLen (.slice p0 s0 n0 c0) ≤ 65536 := by simp only [codeLen]; omega
    simp +contextual only [a_l_FnCrashes, c_l_FnCrashes, e_l_vBig, hb', Wp_some, Wp_none, Wp_ite, Wc_some, Wc_none, Wc_ite, Wp_thenRun, seqQ_normal, seqQ_exit, seqQ_ret, Wp_inBlock, blkQ_normal, blkQ_ret, blkQ_same, blkQ_exit, Wp_opThen, opQ_at, Wp_guardP, retQ_normal, retQ_ret, loopQ_normal, loopQ_exit, loopQ_ret, go_sem, entry, joinEsc, if_pos, reduceIte, Nat.reduceAdd, Nat.reduceLeDiff, Nat.reduceLT, Nat.reduceEqDiff]
    refine (wc_DrawCrashLog hc).mono ?_
    rintro v m ⟨d, p, c, n, b, rfl, hl, rfl⟩
    have hci := fun L => e_i_CrashLog (pr := pr) (H := L) (e := none) hi hcn hx d p c n b (by omega) (by omega)
    have hcs := fun L => e_s_CrashLog (pr := pr) (H := L) (e := none) d p c n b (by omega) (by omega)
    have bxx : ∀ x : Bool, (!decide (x = x)) = false := fun x => by simp
    cases hcond : (logOk d p c && (decide (0 ≤ n) && decide (n ≤ (p.length : Int)))) with
    | false =>
      unfold crF at hci hcs
      simp only [hcond, Bool.false_eq_true, if_false] at hci hcs
      simp +contextual only [hci, hcs, Nat.add_assoc, Wp_some, Wp_none, Wp_ite, Wc_some, Wc_none, Wc_ite, Wp_thenRun, seqQ_normal, seqQ_exit, seqQ_ret, Wp_inBlock, blkQ_normal, blkQ_ret, blkQ_same, blkQ_exit, Wp_opThen, opQ_at, Wp_guardP, retQ_normal, retQ_ret, loopQ_normal, loopQ_exit, loopQ_ret, go_sem, entry, joinEsc, if_pos, reduceIte, Nat.reduceAdd, Nat.reduceLeDiff, Nat.reduceLT, Nat.reduceEqDiff]
      refine (wcCut 1 (by omega) (hc.more _) hn).mono ?_
      rintro v m ⟨zs1, rfl, rfl, hz1, hz1'⟩
      simp +contextual only [Nat.add_assoc, Wp_some, Wp_none, Wp_ite, Wc_some, Wc_none, Wc_ite, Wp_thenRun, seqQ_normal, seqQ_exit, seqQ_ret, Wp_inBlock, blkQ_normal, blkQ_ret, blkQ_same, blkQ_exit, Wp_opThen, opQ_at, Wp_guardP, retQ_normal, retQ_ret, loopQ_normal, loopQ_exit, loopQ_ret, go_sem, entry, joinEsc, if_pos, reduceIte, Nat.reduceAdd, Nat.reduceLeDiff, Nat.reduceLT, Nat.reduceEqDiff]
      refine (wc_DrawRecoverLog (CodeAt.new (k := 1) (zs := zs1) rfl hz1 hz1')).mono ?_
      rintro v m ⟨l, rfl, hll, rfl⟩
      have hri := fun L => e_i_RecoverLog (pr := pr) (H := L) (e := none) hi hcn hx l (by omega)
      have hrs := fun L => e_s_RecoverLog (pr := pr) (H := L) (e := none) l (by omega)
      obtain ⟨d1, c1, k1, b1, hr1⟩ : ∃ d c k b, recF l = .tup [lgV d [] c, .int .i64 k, .bool b] := by
        unfold recF
        split
        · exact ⟨_, _, _, _, rfl⟩
        · exact ⟨_, _, _, _, rfl⟩
      rw [hr1] at hri hrs
      simp (maxSteps := 2000000) +contextual only [a_l_FnCrashes, hri, hrs, eqc_log, bxx, ne_eq, not_true_eq_false, decide_true, decide_false, Nat.add_assoc, Wp_some, Wp_none, Wp_ite, Wc_some, Wc_none, Wc_ite, Wp_thenRun, seqQ_normal, seqQ_exit, seqQ_ret, Wp_inBlock, blkQ_normal, blkQ_ret, blkQ_same, blkQ_exit, Wp_opThen, opQ_at, Wp_guardP, retQ_normal, retQ_ret, loopQ_normal, loopQ_exit, loopQ_ret, finish_one_eq, finish_one_eq0, finish_two_eq, finish_two_eq0, roots_slice_new, roots_slice_new0, roots_slice_none, roots_ptr_new, roots_ptr_new0, roots_int, roots_bool, roots_str, roots_agg, roots_tup, roots_cons, roots_nil, rename_slice, rename_slice_none, rename_ptr, rename_int, rename_bool, rename_str, rename_agg, rename_tup, rename_cons, rename_nil, keepBlks_nil, keepBlks_cons, flatAll_nil, flatAll_cons, flatBlk_cells, dedup_nil, dedup_one, dedup_two, renum_one, renum_one0, renum_two0, renum_two1, clean_none', clean_some, minEsc_none, minEsc_some, Nat.add_left_cancel_iff, Nat.le_add_right, Nat.le_refl, decide_true, go_sem, entry, joinEsc, if_pos, reduceIte, Nat.reduceAdd, Nat.reduceLeDiff, Nat.reduceLT, Nat.reduceEqDiff]
      simp
    | true =>
      simp only [Bool.and_eq_true, decide_eq_true_eq] at hcond
      obtain ⟨ho, hn0, hn1⟩ := hcond
      obtain ⟨m, rfl⟩ : ∃ m : Nat, n = (m : Int) := ⟨n.toNat, by omega⟩
      have hcond : (logOk d p c && (decide (0 ≤ (m : Int)) && decide ((m : Int) ≤ (p.length : Int)))) = true := by simp [ho]; omega
      unfold crF at hci hcs
      simp only [hcond, if_true, Int.toNat_natCast] at hci hcs
      simp +contextual only [hci, hcs, Nat.add_assoc, Wp_some, Wp_none, Wp_ite, Wc_some, Wc_none, Wc_ite, Wp_thenRun, seqQ_normal, seqQ_exit, seqQ_ret, Wp_inBlock, blkQ_normal, blkQ_ret, blkQ_same, blkQ_exit, Wp_opThen, opQ_at, Wp_guardP, retQ_normal, retQ_ret, loopQ_normal, loopQ_exit, loopQ_ret, go_sem, entry, joinEsc, if_pos, reduceIte, Nat.reduceAdd, Nat.reduceLeDiff, Nat.reduceLT, Nat.reduceEqDiff]
      refine (wcCut 1 (by omega) (hc.more _) hn).mono ?_
      rintro v m' ⟨zs1, rfl, rfl, hz1, hz1'⟩
      simp +contextual only [Nat.add_assoc, Wp_some, Wp_none, Wp_ite, Wc_some, Wc_none, Wc_ite, Wp_thenRun, seqQ_normal, seqQ_exit, seqQ_ret, Wp_inBlock, blkQ_normal, blkQ_ret, blkQ_same, blkQ_exit, Wp_opThen, opQ_at, Wp_guardP, retQ_normal, retQ_ret, loopQ_normal, loopQ_exit, loopQ_ret, go_sem, entry, joinEsc, if_pos, reduceIte, Nat.reduceAdd, Nat.reduceLeDiff, Nat.reduceLT, Nat.reduceEqDiff]
      refine (wc_DrawRecoverLog (CodeAt.new (k := 1) (zs := zs1) rfl hz1 hz1')).mono ?_
      rintro v m' ⟨l, rfl, hll, rfl⟩
      have hri := fun L => e_i_RecoverLog (pr := pr) (H := L) (e := none) hi hcn hx l (by omega)
      have hrs := fun L => e_s_RecoverLog (pr := pr) (H := L) (e := none) l (by omega)
      obtain ⟨d1, c1, k1, b1, hr1⟩ : ∃ d c k b, recF l = .tup [lgV d [] c, .int .i64 k, .bool b] := by
        unfold recF
        split
        · exact ⟨_, _, _, _, rfl⟩
        · exact ⟨_, _, _, _, rfl⟩
      rw [hr1] at hri hrs
      obtain ⟨g1, g2, g3, g4, g5⟩ := logOk_le ho
      have hml : m ≤ p.length := by omega
      have hdl : (dmgF (p.take m) b).length = m := by rw [dmgF_length, List.length_take]; omega
      obtain ⟨xs, ys, hx1, hx2, hx3, hx4⟩ := crash_law ho m hml b
      obtain ⟨W, hW⟩ : ∃ W, W = d ++ dmgF (p.take m) b := ⟨_, rfl⟩
      have hWl : W.length = d.length + m := by rw [hW, List.length_append, hdl]
      rw [← hW] at hx2 hx3
      have hri2 := fun L => e_i_RecoverLog (pr := pr) (H := L) (e := none) hi hcn hx W (by omega)
      unfold recF at hri2
      have hcl := consF_le 60 0 W
      have hot := open_take 60 0 W
      have hol := (openF_len 60 0 0 W).2
      rw [hx2] at hri2 hot hol
      simp only [if_pos (show W.length ≤ 30000 by omega)] at hri2
      have hTl : (W.take (consF 60 0 W)).length = consF 60 0 W := by rw [List.length_take]; omega
      have hv2 := fun L => e_i_IsValidLog (pr := pr) (H := L) (e := none) hi hcn hx (W.take (consF 60 0 W)) [] (xs.length : Int) (by omega) (by simp)
      have hl2 := fun L => e_i_LogRecords (pr := pr) (H := L) (e := none) hi hcn hx (W.take (consF 60 0 W)) [] (xs.length : Int) (by omega) (by simp)
      have hov : logOk (W.take (consF 60 0 W)) [] (xs.length : Int) = true := by
        unfold logOk
        rw [List.append_nil, hot.1, hot.2, hTl, List.length_nil]
        simp only [Bool.and_eq_true, decide_eq_true_eq]
        exact ⟨by omega, by omega, trivial, trivial⟩
      have hl1 := fun L => e_i_LogRecords (pr := pr) (H := L) (e := none) hi hcn hx d p c (by omega) (by omega)
      simp only [hov, if_true, List.append_nil, hot.1] at hv2 hl2
      simp only [ho, if_true, hx1] at hl1
      generalize W.take (consF 60 0 W) = V at *
      generalize consF 60 0 W = S at *
      have hvr := fun L b1 b2 c1 c2 (h1 : cellsAt L b1 = some (recC xs)) (h2 : cellsAt L b2 = some (recC (xs ++ ys))) => e_l_vRecords (pr := pr) (H := L) (e := none) (b1 := b1) (b2 := b2) (c1 := c1) (c2 := c2) (ts := xs) (us := []) (vs := ys) (by rw [List.append_nil]; exact h1) h2 (by omega)
      have hlt : decide ((S : Int) < (d.length : Int)) = false := decide_eq_false (by omega)
      have hlt' : ¬ (S < d.length) := by omega
      have hlt'' : decide (S < d.length) = false := decide_eq_false hlt'
      have hle : decide (xs.length ≤ xs.length + ys.length) = true := decide_eq_true (by omega)
      have hleP : (xs.length : Int) ≤ ((xs.length + ys.length : Nat) : Int) := by omega
      have hleD : decide ((xs.length : Int) ≤ ((xs.length + ys.length : Nat) : Int)) = true := decide_eq_true hleP
      have hfin : (b = true ∧ True) ∨ (b = false ∧ (m < p.length ∨ (¬ m < p.length ∧ ys = []))) := by
        cases b
        · rcases hx4 with h | h | h
          · cases h
          · exact .inr ⟨rfl, .inl h⟩
          · by_cases hm : m < p.length
            · exact .inr ⟨rfl, .inl hm⟩
            · exact .inr ⟨rfl, .inr ⟨hm, h⟩⟩
        · exact .inl ⟨rfl, trivial⟩
      have hVl : V.length = S := hTl
      have hsv : decide ((V.length : Int) = (S : Int)) = true := decide_eq_true (by omega)
      rw [hW] at hri2
      clear hx4
      rcases hfin with ⟨rfl, _⟩ | ⟨rfl, hm | ⟨hm, rfl⟩⟩
      · simp (maxSteps := 2000000) +contextual only [a_l_FnCrashes, hri, hrs, hri2, hv2, hl1, hl2, hvr, aop_slHi, slHiV_c, Nat.le_add_right, hlt, hlt', hlt'', hle, hleP, hleD, Int.le_refl, beq_self_eq_true, hVl, hsv, eqc_log, bxx, bs_size, List.size_toArray, List.length_append, ne_eq, not_true_eq_false, decide_true, decide_false, Nat.add_assoc, Wp_some, Wp_none, Wp_ite, Wc_some, Wc_none, Wc_ite, Wp_thenRun, seqQ_normal, seqQ_exit, seqQ_ret, Wp_inBlock, blkQ_normal, blkQ_ret, blkQ_same, blkQ_exit, Wp_opThen, opQ_at, Wp_guardP, retQ_normal, retQ_ret, loopQ_normal, loopQ_exit, loopQ_ret, finish_one_eq, finish_one_eq0, finish_two_eq, finish_two_eq0, roots_slice_new, roots_slice_new0, roots_slice_none, roots_ptr_new, roots_ptr_new0, roots_int, roots_bool, roots_str, roots_agg, roots_tup, roots_cons, roots_nil, rename_slice, rename_slice_none, rename_ptr, rename_int, rename_bool, rename_str, rename_agg, rename_tup, rename_cons, rename_nil, keepBlks_nil, keepBlks_cons, flatAll_nil, flatAll_cons, flatBlk_cells, dedup_nil, dedup_one, dedup_two, renum_one, renum_one0, renum_two0, renum_two1, clean_none', clean_some, minEsc_none, minEsc_some, Nat.add_left_cancel_iff, Nat.le_add_right, Nat.le_refl, decide_true, go_sem, entry, joinEsc, if_pos, reduceIte, Nat.reduceAdd, Nat.reduceLeDiff, Nat.reduceLT, Nat.reduceEqDiff]
      · have hm' : decide (m < p.length) = true := decide_eq_true hm
        simp (maxSteps := 2000000) +contextual only [a_l_FnCrashes, hri, hrs, hri2, hv2, hl1, hl2, hvr, aop_slHi, slHiV_c, Nat.le_add_right, hlt, hlt', hlt'', hle, hleP, hleD, Int.le_refl, beq_self_eq_true, hVl, hsv, hm, hm', eqc_log, bxx, bs_size, List.size_toArray, List.length_append, ne_eq, not_true_eq_false, decide_true, decide_false, Nat.add_assoc, Wp_some, Wp_none, Wp_ite, Wc_some, Wc_none, Wc_ite, Wp_thenRun, seqQ_normal, seqQ_exit, seqQ_ret, Wp_inBlock, blkQ_normal, blkQ_ret, blkQ_same, blkQ_exit, Wp_opThen, opQ_at, Wp_guardP, retQ_normal, retQ_ret, loopQ_normal, loopQ_exit, loopQ_ret, finish_one_eq, finish_one_eq0, finish_two_eq, finish_two_eq0, roots_slice_new, roots_slice_new0, roots_slice_none, roots_ptr_new, roots_ptr_new0, roots_int, roots_bool, roots_str, roots_agg, roots_tup, roots_cons, roots_nil, rename_slice, rename_slice_none, rename_ptr, rename_int, rename_bool, rename_str, rename_agg, rename_tup, rename_cons, rename_nil, keepBlks_nil, keepBlks_cons, flatAll_nil, flatAll_cons, flatBlk_cells, dedup_nil, dedup_one, dedup_two, renum_one, renum_one0, renum_two0, renum_two1, clean_none', clean_some, minEsc_none, minEsc_some, Nat.add_left_cancel_iff, Nat.le_add_right, Nat.le_refl, decide_true, go_sem, entry, joinEsc, if_pos, reduceIte, Nat.reduceAdd, Nat.reduceLeDiff, Nat.reduceLT, Nat.reduceEqDiff]
      · have hm' : decide (m < p.length) = false := decide_eq_false hm
        simp (maxSteps := 2000000) +contextual only [a_l_FnCrashes, hri, hrs, hri2, hv2, hl1, hl2, hvr, aop_slHi, slHiV_c, Nat.le_add_right, hlt, hlt', hlt'', hle, hleP, hleD, Int.le_refl, beq_self_eq_true, hVl, hsv, hm, hm', eqc_log, bxx, bs_size, List.size_toArray, List.length_append, List.append_nil, ne_eq, not_true_eq_false, decide_true, decide_false, Nat.add_assoc, Wp_some, Wp_none, Wp_ite, Wc_some, Wc_none, Wc_ite, Wp_thenRun, seqQ_normal, seqQ_exit, seqQ_ret, Wp_inBlock, blkQ_normal, blkQ_ret, blkQ_same, blkQ_exit, Wp_opThen, opQ_at, Wp_guardP, retQ_normal, retQ_ret, loopQ_normal, loopQ_exit, loopQ_ret, finish_one_eq, finish_one_eq0, finish_two_eq, finish_two_eq0, roots_slice_new, roots_slice_new0, roots_slice_none, roots_ptr_new, roots_ptr_new0, roots_int, roots_bool, roots_str, roots_agg, roots_tup, roots_cons, roots_nil, rename_slice, rename_slice_none, rename_ptr, rename_int, rename_bool, rename_str, rename_agg, rename_tup, rename_cons, rename_nil, keepBlks_nil, keepBlks_cons, flatAll_nil, flatAll_cons, flatBlk_cells, dedup_nil, dedup_one, dedup_two, renum_one, renum_one0, renum_two0, renum_two1, clean_none', clean_some, minEsc_none, minEsc_some, Nat.add_left_cancel_iff, Nat.le_add_right, Nat.le_refl, decide_true, go_sem, entry, joinEsc, if_pos, reduceIte, Nat.reduceAdd, Nat.reduceLeDiff, Nat.reduceLT, Nat.reduceEqDiff]

theorem law_Crashes (hi : HasItoa pr) (hcn : HasContains pr) (hx : HasIndex pr) {av : AV} {zs : List Int} (h : ArgB H av zs) : ∃ m', call T pr f_l_FnCrashes [av] ⟨H, none⟩ = some (.bool true, m') := by
  obtain ⟨p, sz, n, c, rfl, hc⟩ := h.form
  obtain ⟨v, m, h1, rfl⟩ := wc_FnCrashes (pr := pr) hi hcn hx hc
  exact ⟨m, h1⟩

end Go.Proofs.YtdohjcodjjogbaaDoor.Slim
