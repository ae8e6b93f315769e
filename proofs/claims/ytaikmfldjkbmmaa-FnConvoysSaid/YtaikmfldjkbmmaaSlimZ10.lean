/- Beams: the loops of the law on convoys. -/
import Derived.Test.YtaikmfldjkbmmaaSlimZ9
/- Beams: the loops of the law on convoys. -/
namespace Go.Proofs.Ytaikmfldjkbmmaa.Slim

open Go

set_option linter.unusedSimpArgs false

set_option linter.unusedVariables false

variable {pr : Prims} {H : List Blk} {e : Option Nat}

theorem grown_old {L : List Blk} {q : Nat} {cs : List AV} (hg : Grown H L) (hq : cellsAt H q = some cs) : cellsAt L q = some cs := by
  obtain ⟨G, rfl⟩ := hg
  exact cells_mono hq G

/-- (see t_l_FnConvoys) -/
theorem e_s_IsConvoy {q : Nat} {c : Option Nat} {ls : List Ld} (h : cellsAt H q = some (encL ls)) (hn : ls.length ≤ 1000) : call T pr f_s_IsConvoy [slL q ls.length c] ⟨H, e⟩ = some (.bool (convOk ls), ⟨H, e⟩) := by
  have h1 := fun G => e_s_l6Convoy (pr := pr) (e := none) (c := c) (cells_mono h G) (by omega)
  have h2 := e_s_l6Convoy (pr := pr) (e := none) (c := c) h (by omega)
  rw [call_eq t_s_IsConvoy]
  simp +contextual only [a_s_IsConvoy, c_s_IsConvoy, h1, h2, go_sem, entry, joinEsc, if_pos, reduceIte, Nat.reduceAdd, Nat.reduceLeDiff, Nat.reduceLT, Nat.reduceEqDiff]

theorem cv_eq2 (x y : Int) : eqList [0, 0] [.int .i64 x, .int .i64 y] [.int .i64 x, .int .i64 y] = some true := by
  simp [eqList, eqCell]

theorem e_l_rRow {b1 b2 : Nat} {c1 c2 : Option Nat} {ls : List Ld} (h1 : cellsAt H b1 = some (encL ls)) (h2 : cellsAt H b2 = some (encL ls)) (hn : ls.length ≤ 1048576) : call T pr f_l_rRow [slL b1 ls.length c1, slL b2 ls.length c2] ⟨H, e⟩ = some (.bool true, ⟨H, e⟩) := by
  apply Wc.eq
  rw [call_wc t_l_rRow]
  have hdd : ∀ x : Int, decide (x = x) = true := fun x => decide_eq_true rfl
  simp +contextual only [a_l_rRow, c_l_rRow, decide_true, Wp_some, Wp_none, Wp_ite, Wc_some, Wc_none, Wc_ite, Wp_thenRun, seqQ_normal, seqQ_exit, seqQ_ret, Wp_inBlock, blkQ_normal, blkQ_ret, blkQ_same, blkQ_exit, Wp_opThen, opQ_at, Wp_guardP, retQ_normal, retQ_ret, loopQ_normal, loopQ_exit, loopQ_ret, go_sem, entry, joinEsc, if_pos, reduceIte, Nat.reduceAdd, Nat.reduceLeDiff, Nat.reduceLT, Nat.reduceEqDiff]
  refine Wp_loop (fun k st => ∃ (i : Nat) (w5 w6 : AV), k + i = ls.length ∧ st = ⟨[slL b1 ls.length c1, slL b2 ls.length c2, .bool false, .int .i64 i, .bool false, w5, w6], ⟨H, none⟩⟩) ?_ ls.length _ ⟨0, _, _, rfl, rfl⟩
  rintro k _ ⟨i, w5, w6, hk, rfl⟩
  by_cases h0 : k = 0
  · have hd : ¬ i < ls.length := by omega
    simp +contextual only [w_l_rRow_1, hd, decide_false, Wp_some, Wp_none, Wp_ite, Wc_some, Wc_none, Wc_ite, Wp_thenRun, seqQ_normal, seqQ_exit, seqQ_ret, Wp_inBlock, blkQ_normal, blkQ_ret, blkQ_same, blkQ_exit, Wp_opThen, opQ_at, Wp_guardP, retQ_normal, retQ_ret, loopQ_normal, loopQ_exit, loopQ_ret, finish_one_eq, finish_one_eq0, finish_two_eq, finish_two_eq0, roots_slice_new, roots_slice_new0, roots_slice_none, roots_ptr_new, roots_ptr_new0, roots_int, roots_bool, roots_str, roots_agg, roots_tup, roots_cons, roots_nil, rename_slice, rename_slice_none, rename_ptr, rename_int, rename_bool, rename_str, rename_agg, rename_tup, rename_cons, rename_nil, keepBlks_nil, keepBlks_cons, flatAll_nil, flatAll_cons, flatBlk_cells, dedup_nil, dedup_one, dedup_two, renum_one, renum_one0, renum_two0, renum_two1, clean_none', clean_some, minEsc_none, minEsc_some, Nat.add_left_cancel_iff, Nat.le_add_right, Nat.le_refl, decide_true, go_sem, entry, joinEsc, if_pos, reduceIte, Nat.reduceAdd, Nat.reduceLeDiff, Nat.reduceLT, Nat.reduceEqDiff]
  · have hd : i < ls.length := by omega
    have hl : ls[i]? = some ls[i] := List.getElem?_eq_getElem hd
    have hw := wrap_succ (show i < 9223372036854775807 by omega)
    simp +contextual only [w_l_rRow_1, h1, h2, hd, hdd, hw, part_encL hl, cv_eq2, Option.map_some, decide_true, Wp_some, Wp_none, Wp_ite, Wc_some, Wc_none, Wc_ite, Wp_thenRun, seqQ_normal, seqQ_exit, seqQ_ret, Wp_inBlock, blkQ_normal, blkQ_ret, blkQ_same, blkQ_exit, Wp_opThen, opQ_at, Wp_guardP, retQ_normal, retQ_ret, loopQ_normal, loopQ_exit, loopQ_ret, go_sem, entry, joinEsc, if_pos, reduceIte, Nat.reduceAdd, Nat.reduceLeDiff, Nat.reduceLT, Nat.reduceEqDiff]
    exact ⟨k - 1, by omega, i + 1, _, _, by omega, rfl⟩

theorem e_l_rRow_none {p1 p2 : Option (Nat × Nat)} {s1 s2 : Nat} {c1 c2 : Option Nat} : call T pr f_l_rRow [.slice p1 s1 0 c1, .slice p2 s2 0 c2] ⟨H, e⟩ = some (.bool true, ⟨H, e⟩) := by
  apply Wc.eq
  rw [call_wc t_l_rRow]
  have h00 : ¬ ((0 : Nat) : Int) < ((0 : Nat) : Int) := by omega
  simp +contextual only [a_l_rRow, c_l_rRow, decide_true, Wp_some, Wp_none, Wp_ite, Wc_some, Wc_none, Wc_ite, Wp_thenRun, seqQ_normal, seqQ_exit, seqQ_ret, Wp_inBlock, blkQ_normal, blkQ_ret, blkQ_same, blkQ_exit, Wp_opThen, opQ_at, Wp_guardP, retQ_normal, retQ_ret, loopQ_normal, loopQ_exit, loopQ_ret, go_sem, entry, joinEsc, if_pos, reduceIte, Nat.reduceAdd, Nat.reduceLeDiff, Nat.reduceLT, Nat.reduceEqDiff]
  refine Wp_loop (fun k st => st = ⟨[.slice p1 s1 0 c1, .slice p2 s2 0 c2, .bool false, .int .i64 0, .bool false, .undef, .undef], ⟨H, none⟩⟩) ?_ 0 _ rfl
  rintro k _ rfl
  simp +contextual only [w_l_rRow_1, h00, show ¬ (0 : Int) < ((0 : Nat) : Int) by omega, decide_false, Wp_some, Wp_none, Wp_ite, Wc_some, Wc_none, Wc_ite, Wp_thenRun, seqQ_normal, seqQ_exit, seqQ_ret, Wp_inBlock, blkQ_normal, blkQ_ret, blkQ_same, blkQ_exit, Wp_opThen, opQ_at, Wp_guardP, retQ_normal, retQ_ret, loopQ_normal, loopQ_exit, loopQ_ret, finish_one_eq, finish_one_eq0, finish_two_eq, finish_two_eq0, roots_slice_new, roots_slice_new0, roots_slice_none, roots_ptr_new, roots_ptr_new0, roots_int, roots_bool, roots_str, roots_agg, roots_tup, roots_cons, roots_nil, rename_slice, rename_slice_none, rename_ptr, rename_int, rename_bool, rename_str, rename_agg, rename_tup, rename_cons, rename_nil, keepBlks_nil, keepBlks_cons, flatAll_nil, flatAll_cons, flatBlk_cells, dedup_nil, dedup_one, dedup_two, renum_one, renum_one0, renum_two0, renum_two1, clean_none', clean_some, minEsc_none, minEsc_some, Nat.add_left_cancel_iff, Nat.le_add_right, Nat.le_refl, decide_true, go_sem, entry, joinEsc, if_pos, reduceIte, Nat.reduceAdd, Nat.reduceLeDiff, Nat.reduceLT, Nat.reduceEqDiff]

section
variable {x a b : Int} {ls : List Ld}

theorem e_i_ConvoyRow {q : Nat} {c : Option Nat} (hq : cellsAt H q = some (encL ls)) (hbm : beamOk x a b = true) (hcv : convOk ls = true) {y : Int} (hy0 : 0 ≤ y) (hy : y ≤ x) : ∃ cap, call T pr f_i_ConvoyRow [bmV x a b, slL q ls.length c, .int .i64 y] ⟨H, e⟩ = some (.tup [slL H.length (rowAt y ls).length cap, .bool true], ⟨H ++ [.cells (encL (rowAt y ls)) true], e⟩) := by
  have hlen := (conv_facts hcv).1
  have hic := fun G => e_i_IsConvoy (pr := pr) (e := none) (c := c) (cells_mono hq G) (by omega)
  obtain ⟨cap, hrow⟩ := e_i_convoyRow (pr := pr) (H := H ++ [.cells [.int .i64 x, .int .i64 a, .int .i64 b] true]) (e := none) (c := c) (cells_mono hq _) (by omega) y
  rw [List.length_append, List.length_singleton, List.append_assoc, List.singleton_append] at hrow
  have hf := finish_slb (H := H) (s1 := 2) (n1 := (rowAt y ls).length) (c1 := cap) (.bool true) rfl (fun _ => rfl) (L := H ++ [.cells [.int .i64 x, .int .i64 a, .int .i64 b] true, .cells (encL (rowAt y ls)) true]) ⟨_, rfl⟩ e none rfl (b1 := H.length + 1) (by omega) (by rw [blkAt_newk]; rfl) (under_encL _ _)
  refine ⟨cap, ?_⟩
  rw [call_eq t_i_ConvoyRow]
  simp +contextual only [a_i_ConvoyRow, c_i_ConvoyRow, fillParts, e_i_isOnBeam, hic, hbm, hcv, hy0, hy, hrow, hf, decide_true, Bool.and_self, Bool.not_true, go_sem, entry, joinEsc, if_pos, reduceIte, Nat.reduceAdd, Nat.reduceLeDiff, Nat.reduceLT, Nat.reduceEqDiff]

theorem e_s_ConvoyRow {q : Nat} {c : Option Nat} (hq : cellsAt H q = some (encL ls)) (hbm : beamOk x a b = true) (hcv : convOk ls = true) {y : Int} (hy0 : 0 ≤ y) (hy : y ≤ x) : ∃ cap, call T pr f_s_ConvoyRow [bmV x a b, slL q ls.length c, .int .i64 y] ⟨H, e⟩ = some (.tup [slL H.length (rowAt y ls).length cap, .bool true], ⟨H ++ [.cells (encL (rowAt y ls)) true], e⟩) := by
  have hlen := (conv_facts hcv).1
  have hic := fun G => e_s_l6Convoy (pr := pr) (e := none) (c := c) (cells_mono hq G) (by omega)
  obtain ⟨cap, hrow⟩ := e_s_l6At (pr := pr) (H := H ++ [.cells [.int .i64 x, .int .i64 a, .int .i64 b] true]) (e := none) (c := c) (cells_mono hq _) (by omega) y
  rw [List.length_append, List.length_singleton, List.append_assoc, List.singleton_append] at hrow
  have hf := finish_slb (H := H) (s1 := 2) (n1 := (rowAt y ls).length) (c1 := cap) (.bool true) rfl (fun _ => rfl) (L := H ++ [.cells [.int .i64 x, .int .i64 a, .int .i64 b] true, .cells (encL (rowAt y ls)) true]) ⟨_, rfl⟩ e none rfl (b1 := H.length + 1) (by omega) (by rw [blkAt_newk]; rfl) (under_encL _ _)
  refine ⟨cap, ?_⟩
  rw [call_eq t_s_ConvoyRow]
  simp +contextual only [a_s_ConvoyRow, c_s_ConvoyRow, fillParts, e_s_l6Beam, e_s_l1In, hic, hbm, hcv, hy0, hy, hrow, hf, decide_true, Bool.and_self, Bool.not_true, go_sem, entry, joinEsc, if_pos, reduceIte, Nat.reduceAdd, Nat.reduceLeDiff, Nat.reduceLT, Nat.reduceEqDiff]

theorem cv_no {y : Int} (h : ¬ (beamOk x a b = true ∧ convOk ls = true ∧ 0 ≤ y ∧ y ≤ x)) : beamOk x a b = false ∨ (beamOk x a b = true ∧ convOk ls = false) ∨ (beamOk x a b = true ∧ convOk ls = true ∧ (decide (0 ≤ y) && decide (y ≤ x)) = false) := by
  cases hbm : beamOk x a b with
  | false => exact Or.inl rfl
  | true =>
    cases hcv : convOk ls with
    | false => exact Or.inr (Or.inl ⟨rfl, rfl⟩)
    | true =>
      refine Or.inr (Or.inr ⟨rfl, rfl, ?_⟩)
      rw [Bool.and_eq_false_iff, decide_eq_false_iff_not, decide_eq_false_iff_not]
      by_cases h1 : 0 ≤ y
      · exact Or.inr fun h2 => h ⟨hbm, hcv, h1, h2⟩
      · exact Or.inl h1

theorem e_i_ConvoyRow_bad {y : Int} {q : Nat} {c : Option Nat} (hq : cellsAt H q = some (encL ls)) (hn : ls.length ≤ 100) (h : ¬ (beamOk x a b = true ∧ convOk ls = true ∧ 0 ≤ y ∧ y ≤ x)) : call T pr f_i_ConvoyRow [bmV x a b, slL q ls.length c, .int .i64 y] ⟨H, e⟩ = some (.tup [.slice none 0 0 none, .bool false], ⟨H, e⟩) := by
  have hic := fun G => e_i_IsConvoy (pr := pr) (e := none) (c := c) (cells_mono hq G) (by omega)
  have hf := fun G => finish_noneb (H := H) (bo := false) (s := 0) (n := 0) (c := none) (L := H ++ G) ⟨_, rfl⟩ e
  rw [call_eq t_i_ConvoyRow]
  rcases cv_no h with h1 | ⟨h1, h2⟩ | ⟨h1, h2, h3⟩
  · simp +contextual only [a_i_ConvoyRow, c_i_ConvoyRow, fillParts, e_i_isOnBeam, hic, h1, hf, Bool.false_and, Bool.not_true, Bool.not_false, go_sem, entry, joinEsc, if_pos, reduceIte, Nat.reduceAdd, Nat.reduceLeDiff, Nat.reduceLT, Nat.reduceEqDiff]
  · cases h3 : (decide (0 ≤ y) && decide (y ≤ x)) <;> simp +contextual only [a_i_ConvoyRow, c_i_ConvoyRow, fillParts, e_i_isOnBeam, hic, h1, h2, h3, hf, Bool.true_and, Bool.not_true, Bool.not_false, go_sem, entry, joinEsc, if_pos, reduceIte, Nat.reduceAdd, Nat.reduceLeDiff, Nat.reduceLT, Nat.reduceEqDiff]
  · simp +contextual only [a_i_ConvoyRow, c_i_ConvoyRow, fillParts, e_i_isOnBeam, hic, h1, h2, h3, hf, Bool.true_and, Bool.not_true, Bool.not_false, go_sem, entry, joinEsc, if_pos, reduceIte, Nat.reduceAdd, Nat.reduceLeDiff, Nat.reduceLT, Nat.reduceEqDiff]

theorem e_s_ConvoyRow_bad {y : Int} {q : Nat} {c : Option Nat} (hq : cellsAt H q = some (encL ls)) (hn : ls.length ≤ 100) (h : ¬ (beamOk x a b = true ∧ convOk ls = true ∧ 0 ≤ y ∧ y ≤ x)) : call T pr f_s_ConvoyRow [bmV x a b, slL q ls.length c, .int .i64 y] ⟨H, e⟩ = some (.tup [slL H.length 0 (some 0), .bool false], ⟨H ++ [.cells [] true], e⟩) := by
  have hic := fun G => e_s_l6Convoy (pr := pr) (e := none) (c := c) (cells_mono hq G) (by omega)
  have hf := fun B0 => finish_slb (H := H) (s1 := 2) (n1 := 0) (c1 := some 0) (.bool false) rfl (fun _ => rfl) (L := H ++ [B0, .cells [] true]) ⟨_, rfl⟩ e none rfl (b1 := H.length + 1) (by omega) (by rw [blkAt_newk]; rfl) rfl
  rw [call_eq t_s_ConvoyRow]
  rcases cv_no h with h1 | ⟨h1, h2⟩ | ⟨h1, h2, h3⟩
  · simp +contextual only [a_s_ConvoyRow, c_s_ConvoyRow, fillParts, e_s_l6Beam, e_s_l1In, hic, h1, hf, Bool.not_true, Bool.not_false, go_sem, entry, joinEsc, if_pos, reduceIte, Nat.reduceAdd, Nat.reduceLeDiff, Nat.reduceLT, Nat.reduceEqDiff]
  · simp +contextual only [a_s_ConvoyRow, c_s_ConvoyRow, fillParts, e_s_l6Beam, e_s_l1In, hic, h1, h2, hf, Bool.not_true, Bool.not_false, go_sem, entry, joinEsc, if_pos, reduceIte, Nat.reduceAdd, Nat.reduceLeDiff, Nat.reduceLT, Nat.reduceEqDiff]
  · simp +contextual only [a_s_ConvoyRow, c_s_ConvoyRow, fillParts, e_s_l6Beam, e_s_l1In, hic, h1, h2, h3, hf, Bool.not_true, Bool.not_false, go_sem, entry, joinEsc, if_pos, reduceIte, Nat.reduceAdd, Nat.reduceLeDiff, Nat.reduceLT, Nat.reduceEqDiff]

/-- does the convoy rest in the first n positions? -/
def allT (ls : List Ld) (a b : Int) : Nat → Bool
  | 0 => true
  | i + 1 => allT ls a b i && decide (sideW (rowAt (i : Int) ls) a b = 0)

theorem cross_snoc (ls : List Ld) (a b : Int) : ∀ k x : Nat, crossFrom ls a b (k + 1) x = (crossFrom ls a b k x && decide (sideW (rowAt ((x + k : Nat) : Int) ls) a b = 0))
  | 0, x => by simp [crossFrom]
  | k + 1, x => by
    rw [crossFrom, cross_snoc ls a b k (x + 1), crossFrom, show x + 1 + k = x + (k + 1) by omega, Bool.and_assoc]

theorem cross_all (ls : List Ld) (a b : Int) : ∀ n : Nat, crossFrom ls a b n 0 = allT ls a b n
  | 0 => rfl
  | n + 1 => by rw [cross_snoc, cross_all ls a b n, allT, Nat.zero_add]

end

set_option maxHeartbeats 4000000 in
theorem cv_loop1 {w0 w2 w3 w4 w5 w6 w7 w8 w9 w10 w13 w14 w15 w16 w17 w18 w19 w20 w21 w22 w23 w24 w25 w26 w27 w28 w29 w30 w31 w32 w33 w36 w37 w38 w39 w40 w41 w42 w43 w44 w45 w46 w47 w48 w49 w50 w51 w52 w53 w54 w55 w56 w57 w58 w59 w60 w61 w62 w63 : AV} {u q X : Nat} {c : Option Nat} {a b : Int} {ls : List Ld} {L0 : List Blk} (hu : cellsAt L0 u = some [.int .i64 X, .int .i64 a, .int .i64 b]) (hq : cellsAt L0 q = some (encL ls)) (hbm : beamOk X a b = true) (hcv : convOk ls = true) :
    Wp (run T pr (.loop w_l_FnConvoys_1) ⟨(w0 :: (.bool false) :: w2 :: w3 :: w4 :: w5 :: w6 :: w7 :: w8 :: w9 :: w10 :: (.ptr (some (u, 0))) :: (slL q ls.length c) :: w13 :: w14 :: w15 :: w16 :: w17 :: w18 :: w19 :: w20 :: w21 :: w22 :: w23 :: w24 :: w25 :: w26 :: w27 :: w28 :: w29 :: w30 :: w31 :: w32 :: w33 :: (.bool true) :: (.int .i64 0) :: w36 :: w37 :: w38 :: w39 :: w40 :: w41 :: w42 :: w43 :: w44 :: w45 :: w46 :: w47 :: w48 :: w49 :: w50 :: w51 :: w52 :: w53 :: w54 :: w55 :: w56 :: w57 :: w58 :: w59 :: w60 :: w61 :: w62 :: w63 :: []), ⟨L0, none⟩⟩) (fun ex st => ex = .exit 0 ∧ ∃ (G : List Blk) (v35 v36 v37 v38 v39 v55 v56 : AV), st = ⟨(w0 :: (.bool false) :: w2 :: w3 :: w4 :: w5 :: w6 :: w7 :: w8 :: w9 :: w10 :: (.ptr (some (u, 0))) :: (slL q ls.length c) :: w13 :: w14 :: w15 :: w16 :: w17 :: w18 :: w19 :: w20 :: w21 :: w22 :: w23 :: w24 :: w25 :: w26 :: w27 :: w28 :: w29 :: w30 :: w31 :: w32 :: w33 :: (.bool (allT ls a b (X + 1))) :: (v35) :: (v36) :: (v37) :: (v38) :: (v39) :: w40 :: w41 :: w42 :: w43 :: w44 :: w45 :: w46 :: w47 :: w48 :: w49 :: w50 :: w51 :: w52 :: w53 :: w54 :: (v55) :: (v56) :: w57 :: w58 :: w59 :: w60 :: w61 :: w62 :: w63 :: []), ⟨L0 ++ G, none⟩⟩) := by
  have hb := hbm
  unfold beamOk at hb
  simp only [decide_eq_true_eq] at hb
  refine Wp_loop (fun k st => ∃ (i : Nat) (L : List Blk) (v36 v37 v38 v39 v55 v56 : AV), i + k = X + 1 ∧ Grown L0 L ∧ st = ⟨(w0 :: (.bool false) :: w2 :: w3 :: w4 :: w5 :: w6 :: w7 :: w8 :: w9 :: w10 :: (.ptr (some (u, 0))) :: (slL q ls.length c) :: w13 :: w14 :: w15 :: w16 :: w17 :: w18 :: w19 :: w20 :: w21 :: w22 :: w23 :: w24 :: w25 :: w26 :: w27 :: w28 :: w29 :: w30 :: w31 :: w32 :: w33 :: (.bool (allT ls a b i)) :: (.int .i64 i) :: (v36) :: (v37) :: (v38) :: (v39) :: w40 :: w41 :: w42 :: w43 :: w44 :: w45 :: w46 :: w47 :: w48 :: w49 :: w50 :: w51 :: w52 :: w53 :: w54 :: (v55) :: (v56) :: w57 :: w58 :: w59 :: w60 :: w61 :: w62 :: w63 :: []), ⟨L, none⟩⟩) ?_ (X + 1) _ ⟨0, _, _, _, _, _, _, _, by omega, Grown.refl _, rfl⟩
  rintro k _ ⟨i, L, v36, v37, v38, v39, v55, v56, hi, hg, rfl⟩
  have huL := grown_old hg hu
  have hqL := grown_old hg hq
  by_cases hk : k = 0
  · have he : i = X + 1 := by omega
    subst he
    have hd : ¬ ((X + 1 : Nat) : Int) ≤ (X : Int) := by omega
    have hd' : ¬ X + 1 ≤ X := by omega
    simp (maxSteps := 2000000) +contextual only [w_l_FnConvoys_1, huL, hd, hd', decide_false, Wp_some, Wp_none, Wp_ite, Wc_some, Wc_none, Wc_ite, Wp_thenRun, seqQ_normal, seqQ_exit, seqQ_ret, Wp_inBlock, blkQ_normal, blkQ_ret, blkQ_same, blkQ_exit, Wp_opThen, opQ_at, Wp_guardP, retQ_normal, retQ_ret, loopQ_normal, loopQ_exit, loopQ_ret, go_sem, entry, joinEsc, if_pos, reduceIte, Nat.reduceAdd, Nat.reduceLeDiff, Nat.reduceLT, Nat.reduceEqDiff]
    obtain ⟨G, rfl⟩ := hg
    exact ⟨G, _, _, _, _, _, _, _, rfl⟩
  · have hd : (i : Int) ≤ (X : Int) := by omega
    have hd' : i ≤ X := by omega
    have hw := wrap_succ (show i < 9223372036854775807 by omega)
    have huL2 := fun G => cells_mono huL G
    obtain ⟨cap, hrow⟩ := e_i_ConvoyRow (pr := pr) (H := L) (e := none) (c := c) hqL hbm hcv (y := (i : Int)) (by omega) (by omega)
    have hon := row_on hbm hcv (y := (i : Int)) (by omega) (by omega)
    have hre := e_i_RestsOn (pr := pr) (H := L ++ [.cells (encL (rowAt (i : Int) ls)) true]) (e := none) (q := L.length) (c := cap) (ls := rowAt (i : Int) ls) (by simp [cellsAt]) (by have := (on_facts hon).len; omega) X a b
    rw [hon, Bool.true_and] at hre
    have hst : allT ls a b (i + 1) = (allT ls a b i && decide (sideW (rowAt (i : Int) ls) a b = 0)) := rfl
    cases hA : allT ls a b i <;> cases hB : decide (sideW (rowAt (i : Int) ls) a b = 0) <;>
    · rw [hB] at hre
      rw [hA, hB] at hst
      simp (maxSteps := 2000000) +contextual only [w_l_FnConvoys_1, huL, huL2, hd, hd', hw, hrow, hre, decide_true, Wp_some, Wp_none, Wp_ite, Wc_some, Wc_none, Wc_ite, Wp_thenRun, seqQ_normal, seqQ_exit, seqQ_ret, Wp_inBlock, blkQ_normal, blkQ_ret, blkQ_same, blkQ_exit, Wp_opThen, opQ_at, Wp_guardP, retQ_normal, retQ_ret, loopQ_normal, loopQ_exit, loopQ_ret, go_sem, entry, joinEsc, if_pos, reduceIte, Nat.reduceAdd, Nat.reduceLeDiff, Nat.reduceLT, Nat.reduceEqDiff]
      exact ⟨k - 1, by omega, i + 1, _, _, _, _, _, _, _, by omega, hg.more _, by rw [hst]; rfl⟩

set_option maxHeartbeats 4000000 in
theorem cv_loop2 {w0 w2 w3 w4 w5 w6 w7 w8 w9 w10 w11 w12 w13 w14 w15 w16 w22 w23 w24 w25 w26 w27 w28 w29 w30 w31 w32 w33 w34 w35 w36 w37 w38 w39 w41 w42 w43 w44 w45 w46 w47 w48 w49 w50 w51 w52 w53 w54 w55 w56 w57 w58 w59 w60 w61 w62 w63 : AV} {u q X : Nat} {c : Option Nat} {a b wt lo hi : Int} {ls : List Ld} {L0 : List Blk} (hu : cellsAt L0 u = some [.int .i64 X, .int .i64 a, .int .i64 b]) (hq : cellsAt L0 q = some (encL ls)) (hX : X ≤ 60) (hl : ls.length ≤ 12) (hons : ∀ y : Nat, y ≤ X → onOk X a b (ls ++ [((y : Int), wt)]) = true) (hwg : ∀ y : Nat, y ≤ X → withG a b wt ls y = (decide (lo ≤ (y : Int)) && decide ((y : Int) ≤ hi))) :
    Wp (run T pr (.loop w_l_FnConvoys_2) ⟨(w0 :: (.bool false) :: w2 :: w3 :: w4 :: w5 :: w6 :: w7 :: w8 :: w9 :: w10 :: w11 :: w12 :: w13 :: w14 :: w15 :: w16 :: (.ptr (some (u, 0))) :: (slL q ls.length c) :: (.int .i64 wt) :: (.int .i64 lo) :: (.int .i64 hi) :: w22 :: w23 :: w24 :: w25 :: w26 :: w27 :: w28 :: w29 :: w30 :: w31 :: w32 :: w33 :: w34 :: w35 :: w36 :: w37 :: w38 :: w39 :: (.int .i64 0) :: w41 :: w42 :: w43 :: w44 :: w45 :: w46 :: w47 :: w48 :: w49 :: w50 :: w51 :: w52 :: w53 :: w54 :: w55 :: w56 :: w57 :: w58 :: w59 :: w60 :: w61 :: w62 :: w63 :: []), ⟨L0, none⟩⟩) (fun ex st => ex = .exit 2 ∧ ∃ (G : List Blk) (v40 v41 v42 v59 v60 : AV), st = ⟨(w0 :: (.bool false) :: w2 :: w3 :: w4 :: w5 :: w6 :: w7 :: w8 :: w9 :: w10 :: w11 :: w12 :: w13 :: w14 :: w15 :: w16 :: (.ptr (some (u, 0))) :: (slL q ls.length c) :: (.int .i64 wt) :: (.int .i64 lo) :: (.int .i64 hi) :: w22 :: w23 :: w24 :: w25 :: w26 :: w27 :: w28 :: w29 :: w30 :: w31 :: w32 :: w33 :: w34 :: w35 :: w36 :: w37 :: w38 :: w39 :: (v40) :: (v41) :: (v42) :: w43 :: w44 :: w45 :: w46 :: w47 :: w48 :: w49 :: w50 :: w51 :: w52 :: w53 :: w54 :: w55 :: w56 :: w57 :: w58 :: (v59) :: (v60) :: w61 :: w62 :: w63 :: []), ⟨L0 ++ G, none⟩⟩) := by
  refine Wp_loop (fun k st => ∃ (i : Nat) (L : List Blk) (v41 v42 v59 v60 : AV), i + k = X + 1 ∧ Grown L0 L ∧ st = ⟨(w0 :: (.bool false) :: w2 :: w3 :: w4 :: w5 :: w6 :: w7 :: w8 :: w9 :: w10 :: w11 :: w12 :: w13 :: w14 :: w15 :: w16 :: (.ptr (some (u, 0))) :: (slL q ls.length c) :: (.int .i64 wt) :: (.int .i64 lo) :: (.int .i64 hi) :: w22 :: w23 :: w24 :: w25 :: w26 :: w27 :: w28 :: w29 :: w30 :: w31 :: w32 :: w33 :: w34 :: w35 :: w36 :: w37 :: w38 :: w39 :: (.int .i64 i) :: (v41) :: (v42) :: w43 :: w44 :: w45 :: w46 :: w47 :: w48 :: w49 :: w50 :: w51 :: w52 :: w53 :: w54 :: w55 :: w56 :: w57 :: w58 :: (v59) :: (v60) :: w61 :: w62 :: w63 :: []), ⟨L, none⟩⟩) ?_ (X + 1) _ ⟨0, _, _, _, _, _, by omega, Grown.refl _, rfl⟩
  rintro k _ ⟨i, L, v41, v42, v59, v60, hi', hg, rfl⟩
  have huL := grown_old hg hu
  have hqL := grown_old hg hq
  by_cases hk : k = 0
  · have he : i = X + 1 := by omega
    subst he
    have hd : ¬ ((X + 1 : Nat) : Int) ≤ (X : Int) := by omega
    have hd' : ¬ X + 1 ≤ X := by omega
    simp (maxSteps := 2000000) +contextual only [w_l_FnConvoys_2, huL, hd, hd', decide_false, Wp_some, Wp_none, Wp_ite, Wc_some, Wc_none, Wc_ite, Wp_thenRun, seqQ_normal, seqQ_exit, seqQ_ret, Wp_inBlock, blkQ_normal, blkQ_ret, blkQ_same, blkQ_exit, Wp_opThen, opQ_at, Wp_guardP, retQ_normal, retQ_ret, loopQ_normal, loopQ_exit, loopQ_ret, go_sem, entry, joinEsc, if_pos, reduceIte, Nat.reduceAdd, Nat.reduceLeDiff, Nat.reduceLT, Nat.reduceEqDiff]
    obtain ⟨G, rfl⟩ := hg
    exact ⟨G, _, _, _, _, _, rfl⟩
  · have hd : (i : Int) ≤ (X : Int) := by omega
    have hd' : i ≤ X := by omega
    have hw := wrap_succ (show i < 9223372036854775807 by omega)
    have huL2 := fun G => cells_mono huL G
    have hon := hons i hd'
    have hwi := hwg i hd'
    simp (maxSteps := 2000000) +contextual only [w_l_FnConvoys_2, fillParts, huL, huL2, hd, hd', decide_true, Wp_some, Wp_none, Wp_ite, Wc_some, Wc_none, Wc_ite, Wp_thenRun, seqQ_normal, seqQ_exit, seqQ_ret, Wp_inBlock, blkQ_normal, blkQ_ret, blkQ_same, blkQ_exit, Wp_opThen, opQ_at, Wp_guardP, retQ_normal, retQ_ret, loopQ_normal, loopQ_exit, loopQ_ret, go_sem, entry, joinEsc, if_pos, reduceIte, Nat.reduceAdd, Nat.reduceLeDiff, Nat.reduceLT, Nat.reduceEqDiff]
    refine wc_ap (k := ls.length) (cs := []) (n := 0) (new := encL ls) (by simp +contextual only [go_sem, entry, joinEsc, if_pos, reduceIte, Nat.reduceAdd, Nat.reduceLeDiff, Nat.reduceLT, Nat.reduceEqDiff]) (src_new _ ls.length 2 _ _ q (cells_mono hqL _) (encL_length ls)) rfl (encL_length ls) (by unfold maxBytes; omega) (fun _ => rfl) ?_
    intro L2 e1 e2 e3 e4
    rw [List.length_append, List.length_singleton] at e3 e1
    have g4 := e4 L ⟨_, rfl⟩ (by omega)
    have huM := grown_old g4 huL
    have huM2 := fun G => cells_mono huM G
    rw [Nat.zero_add]
    simp (maxSteps := 2000000) +contextual only [fillParts, List.length_append, huM, huM2, Wp_some, Wp_none, Wp_ite, Wc_some, Wc_none, Wc_ite, Wp_thenRun, seqQ_normal, seqQ_exit, seqQ_ret, Wp_inBlock, blkQ_normal, blkQ_ret, blkQ_same, blkQ_exit, Wp_opThen, opQ_at, Wp_guardP, retQ_normal, retQ_ret, loopQ_normal, loopQ_exit, loopQ_ret, go_sem, entry, joinEsc, if_pos, reduceIte, Nat.reduceAdd, Nat.reduceLeDiff, Nat.reduceLT, Nat.reduceEqDiff]
    refine wc_ap (k := 1) (cs := encL ls) (new := [.int .i64 i, .int .i64 wt]) (get_more e3 _) (src_new _ 1 2 _ _ L2.length (by simp +contextual only [go_sem, entry, joinEsc, if_pos, reduceIte, Nat.reduceAdd, Nat.reduceLeDiff, Nat.reduceLT, Nat.reduceEqDiff]) rfl) (encL_length ls) rfl (by unfold maxBytes; omega) (fun hh => by simp at hh) ?_
    intro L3 f1 f2 f3 f4
    rw [encL_snoc, List.length_append, List.length_singleton] at f3
    have g5 := f4 L (g4.more _) (by omega)
    have huN := grown_old g5 huL
    have hre := e_i_RestsOn (pr := pr) (H := L3) (e := none) (q := L2.length + 1) (c := none) (cellsAt_of f3) (by rw [List.length_append, List.length_singleton]; omega) X a b
    rw [hon, Bool.true_and, List.length_append, List.length_singleton] at hre
    have hgd : decide (sideW (ls ++ [((i : Int), wt)]) a b = 0) = withG a b wt ls i := rfl
    rw [hgd, hwi] at hre
    have g6 : Grown L0 L3 := by
      obtain ⟨G5, rfl⟩ := g5
      exact hg.more G5
    cases hA : decide (lo ≤ (i : Int)) <;> cases hB : decide ((i : Int) ≤ hi) <;>
    · rw [hA, hB] at hre
      simp (maxSteps := 2000000) +contextual only [List.length_append, hre, huN, hw, hA, hB, ge_iff_le, Bool.and_self, Bool.true_and, Bool.and_true, Bool.and_false, Bool.false_and, beq_self_eq_true, Bool.not_true, decide_true, Wp_some, Wp_none, Wp_ite, Wc_some, Wc_none, Wc_ite, Wp_thenRun, seqQ_normal, seqQ_exit, seqQ_ret, Wp_inBlock, blkQ_normal, blkQ_ret, blkQ_same, blkQ_exit, Wp_opThen, opQ_at, Wp_guardP, retQ_normal, retQ_ret, loopQ_normal, loopQ_exit, loopQ_ret, go_sem, entry, joinEsc, if_pos, reduceIte, Nat.reduceAdd, Nat.reduceLeDiff, Nat.reduceLT, Nat.reduceEqDiff]
      exact ⟨k - 1, by omega, i + 1, _, _, _, _, _, by omega, g6, rfl⟩

set_option maxHeartbeats 4000000 in
theorem cv_loop3 {w0 w7 w8 w9 w10 w11 w12 w13 w14 w15 w16 w17 w18 w19 w20 w21 w22 w23 w24 w25 w26 w27 w28 w29 w30 w31 w32 w33 w34 w35 w36 w37 w38 w39 w40 w41 w42 w44 w45 w46 w47 w48 w49 w50 w51 w52 w53 w54 w55 w56 w57 w58 w59 w60 w61 w62 w63 : AV} {u q X P J : Nat} {c : Option Nat} {a b M : Int} {ls : List Ld} {L0 : List Blk} (hu : cellsAt L0 u = some [.int .i64 X, .int .i64 a, .int .i64 b]) (hq : cellsAt L0 q = some (encL ls)) (hbm : beamOk X a b = true) (hcv : convOk ls = true) (hP : P ≤ X) (hm : ∀ y : Nat, y ≤ X → bendZ a b (rowAt y ls) P ≤ M) (hJ : ∀ y : Nat, y < J → bendZ a b (rowAt y ls) P < M) (hJ1 : bendZ a b (rowAt (J : Int) ls) P = M) :
    Wp (run T pr (.loop w_l_FnConvoys_3) ⟨(w0 :: (.bool false) :: (.ptr (some (u, 0))) :: (slL q ls.length c) :: (.int .i64 P) :: (.int .i64 M) :: (.int .i64 J) :: w7 :: w8 :: w9 :: w10 :: w11 :: w12 :: w13 :: w14 :: w15 :: w16 :: w17 :: w18 :: w19 :: w20 :: w21 :: w22 :: w23 :: w24 :: w25 :: w26 :: w27 :: w28 :: w29 :: w30 :: w31 :: w32 :: w33 :: w34 :: w35 :: w36 :: w37 :: w38 :: w39 :: w40 :: w41 :: w42 :: (.int .i64 0) :: w44 :: w45 :: w46 :: w47 :: w48 :: w49 :: w50 :: w51 :: w52 :: w53 :: w54 :: w55 :: w56 :: w57 :: w58 :: w59 :: w60 :: w61 :: w62 :: w63 :: []), ⟨L0, none⟩⟩) (fun ex st => ex = .exit 4 ∧ ∃ (L : List Blk) (v43 v44 v45 v46 v47 v62 v63 : AV), st = ⟨(w0 :: (.bool false) :: (.ptr (some (u, 0))) :: (slL q ls.length c) :: (.int .i64 P) :: (.int .i64 M) :: (.int .i64 J) :: w7 :: w8 :: w9 :: w10 :: w11 :: w12 :: w13 :: w14 :: w15 :: w16 :: w17 :: w18 :: w19 :: w20 :: w21 :: w22 :: w23 :: w24 :: w25 :: w26 :: w27 :: w28 :: w29 :: w30 :: w31 :: w32 :: w33 :: w34 :: w35 :: w36 :: w37 :: w38 :: w39 :: w40 :: w41 :: w42 :: (v43) :: (v44) :: (v45) :: (v46) :: (v47) :: w48 :: w49 :: w50 :: w51 :: w52 :: w53 :: w54 :: w55 :: w56 :: w57 :: w58 :: w59 :: w60 :: w61 :: (v62) :: (v63) :: []), ⟨L, none⟩⟩) := by
  have hb := hbm
  unfold beamOk at hb
  simp only [decide_eq_true_eq] at hb
  refine Wp_loop (fun k st => ∃ (i : Nat) (L : List Blk) (v44 v45 v46 v47 v62 v63 : AV), i + k = X + 1 ∧ Grown L0 L ∧ st = ⟨(w0 :: (.bool false) :: (.ptr (some (u, 0))) :: (slL q ls.length c) :: (.int .i64 P) :: (.int .i64 M) :: (.int .i64 J) :: w7 :: w8 :: w9 :: w10 :: w11 :: w12 :: w13 :: w14 :: w15 :: w16 :: w17 :: w18 :: w19 :: w20 :: w21 :: w22 :: w23 :: w24 :: w25 :: w26 :: w27 :: w28 :: w29 :: w30 :: w31 :: w32 :: w33 :: w34 :: w35 :: w36 :: w37 :: w38 :: w39 :: w40 :: w41 :: w42 :: (.int .i64 i) :: (v44) :: (v45) :: (v46) :: (v47) :: w48 :: w49 :: w50 :: w51 :: w52 :: w53 :: w54 :: w55 :: w56 :: w57 :: w58 :: w59 :: w60 :: w61 :: (v62) :: (v63) :: []), ⟨L, none⟩⟩) ?_ (X + 1) _ ⟨0, _, _, _, _, _, _, _, by omega, Grown.refl _, rfl⟩
  rintro k _ ⟨i, L, v44, v45, v46, v47, v62, v63, hi, hg, rfl⟩
  have huL := grown_old hg hu
  have hqL := grown_old hg hq
  by_cases hk : k = 0
  · have he : i = X + 1 := by omega
    subst he
    have hd : ¬ ((X + 1 : Nat) : Int) ≤ (X : Int) := by omega
    have hd' : ¬ X + 1 ≤ X := by omega
    simp (maxSteps := 2000000) +contextual only [w_l_FnConvoys_3, huL, hd, hd', decide_false, Wp_some, Wp_none, Wp_ite, Wc_some, Wc_none, Wc_ite, Wp_thenRun, seqQ_normal, seqQ_exit, seqQ_ret, Wp_inBlock, blkQ_normal, blkQ_ret, blkQ_same, blkQ_exit, Wp_opThen, opQ_at, Wp_guardP, retQ_normal, retQ_ret, loopQ_normal, loopQ_exit, loopQ_ret, go_sem, entry, joinEsc, if_pos, reduceIte, Nat.reduceAdd, Nat.reduceLeDiff, Nat.reduceLT, Nat.reduceEqDiff]
    exact ⟨L, _, _, _, _, _, _, _, rfl⟩
  · have hd : (i : Int) ≤ (X : Int) := by omega
    have hd' : i ≤ X := by omega
    have hw := wrap_succ (show i < 9223372036854775807 by omega)
    have huL2 := fun G => cells_mono huL G
    obtain ⟨cap, hrow⟩ := e_i_ConvoyRow (pr := pr) (H := L) (e := none) (c := c) hqL hbm hcv (y := (i : Int)) (by omega) (by omega)
    have hon := row_on hbm hcv (y := (i : Int)) (by omega) (by omega)
    have hbb := e_i_BendBy (pr := pr) (H := L ++ [.cells (encL (rowAt (i : Int) ls)) true]) (e := none) (q := L.length) (c := cap) (ls := rowAt (i : Int) ls) (by simp [cellsAt]) hon (p := (P : Int)) (by omega) (by omega)
    have hm1 := hm i hd'
    have hm2 : ¬ bendZ a b (rowAt (i : Int) ls) P > M := by omega
    have hm3 : ¬ M < bendZ a b (rowAt (i : Int) ls) P := by omega
    have hf : (decide ((i : Int) < (J : Int)) = true ∧ decide (bendZ a b (rowAt (i : Int) ls) P = M) = false ∧ decide ((i : Int) = (J : Int)) = false) ∨ (decide ((i : Int) < (J : Int)) = false ∧ decide (bendZ a b (rowAt (i : Int) ls) P = M) = true ∧ decide ((i : Int) = (J : Int)) = true) ∨ (decide ((i : Int) < (J : Int)) = false ∧ decide ((i : Int) = (J : Int)) = false) := by
      by_cases h1 : i < J
      · have := hJ i h1
        exact Or.inl ⟨decide_eq_true (by omega), decide_eq_false (by omega), decide_eq_false (by omega)⟩
      · by_cases h2 : i = J
        · subst h2
          exact Or.inr (Or.inl ⟨decide_eq_false (by omega), decide_eq_true hJ1, decide_eq_true rfl⟩)
        · exact Or.inr (Or.inr ⟨decide_eq_false (by omega), decide_eq_false (by omega)⟩)
    obtain ⟨B, hB⟩ : ∃ B, B = bendZ a b (rowAt (i : Int) ls) P := ⟨_, rfl⟩
    rw [← hB] at hbb hm2 hm3 hf
    rcases hf with ⟨f1, f2, f3⟩ | ⟨f1, f2, f3⟩ | ⟨f1, f3⟩
    · have f1' : i < J := by have := of_decide_eq_true f1; omega
      simp (maxSteps := 2000000) +contextual only [w_l_FnConvoys_3, huL, huL2, hd, hd', hw, hrow, hbb, hm2, hm3, f1, f1', f2, f3, decide_true, decide_false, Wp_some, Wp_none, Wp_ite, Wc_some, Wc_none, Wc_ite, Wp_thenRun, seqQ_normal, seqQ_exit, seqQ_ret, Wp_inBlock, blkQ_normal, blkQ_ret, blkQ_same, blkQ_exit, Wp_opThen, opQ_at, Wp_guardP, retQ_normal, retQ_ret, loopQ_normal, loopQ_exit, loopQ_ret, go_sem, entry, joinEsc, if_pos, reduceIte, Nat.reduceAdd, Nat.reduceLeDiff, Nat.reduceLT, Nat.reduceEqDiff]
      exact ⟨k - 1, by omega, i + 1, _, _, _, _, _, _, _, by omega, hg.more _, rfl⟩
    · have f1' : ¬ i < J := by have := of_decide_eq_false f1; omega
      simp (maxSteps := 2000000) +contextual only [w_l_FnConvoys_3, huL, huL2, hd, hd', hw, hrow, hbb, hm2, hm3, f1, f1', f2, f3, decide_true, decide_false, Wp_some, Wp_none, Wp_ite, Wc_some, Wc_none, Wc_ite, Wp_thenRun, seqQ_normal, seqQ_exit, seqQ_ret, Wp_inBlock, blkQ_normal, blkQ_ret, blkQ_same, blkQ_exit, Wp_opThen, opQ_at, Wp_guardP, retQ_normal, retQ_ret, loopQ_normal, loopQ_exit, loopQ_ret, go_sem, entry, joinEsc, if_pos, reduceIte, Nat.reduceAdd, Nat.reduceLeDiff, Nat.reduceLT, Nat.reduceEqDiff]
      exact ⟨k - 1, by omega, i + 1, _, _, _, _, _, _, _, by omega, hg.more _, rfl⟩
    · have f1' : ¬ i < J := by have := of_decide_eq_false f1; omega
      simp (maxSteps := 2000000) +contextual only [w_l_FnConvoys_3, huL, huL2, hd, hd', hw, hrow, hbb, hm2, hm3, f1, f1', f3, decide_true, decide_false, Wp_some, Wp_none, Wp_ite, Wc_some, Wc_none, Wc_ite, Wp_thenRun, seqQ_normal, seqQ_exit, seqQ_ret, Wp_inBlock, blkQ_normal, blkQ_ret, blkQ_same, blkQ_exit, Wp_opThen, opQ_at, Wp_guardP, retQ_normal, retQ_ret, loopQ_normal, loopQ_exit, loopQ_ret, go_sem, entry, joinEsc, if_pos, reduceIte, Nat.reduceAdd, Nat.reduceLeDiff, Nat.reduceLT, Nat.reduceEqDiff]
      exact ⟨k - 1, by omega, i + 1, _, _, _, _, _, _, _, by omega, hg.more _, rfl⟩

end Go.Proofs.Ytaikmfldjkbmmaa.Slim

/- Beams: the law on convoys. -/
namespace Go.Proofs.Ytaikmfldjkbmmaa.Slim

open Go

set_option linter.unusedSimpArgs false

set_option linter.unusedVariables false

variable {pr : Prims} {H : List Blk} {e : Option Nat}

theorem cv_fin (m0 : Mem) (L : List Blk) : finish 1 m0.H.length m0.esc (.bool true) ⟨L, none⟩ = some (.bool true, ⟨L.take m0.H.length, m0.esc⟩) := by
  unfold finish
  simp [AV.under, clean]

/-- one more on a row (see t_l_FnConvoys) -/
theorem more_on {x a b w : Int} {ls : List Ld} (h : onOk x a b ls = true) (hn : ls.length ≠ 12) (hw0 : 1 ≤ w) (hw1 : w ≤ 99) {y : Int} (hy0 : 0 ≤ y) (hy : y ≤ x) : onOk x a b (ls ++ [(y, w)]) = true := by
  have h' := on_facts h
  have h1 := h'.x2; have h2 := h'.len
  have hrow := h'.row
  unfold onOk at h ⊢
  unfold rowOk at hrow ⊢
  simp only [Bool.and_eq_true, Bool.not_eq_true', decide_eq_true_eq] at h hrow ⊢
  refine ⟨⟨h.1.1, ?_, ?_⟩, ?_⟩
  · rw [List.length_append, List.length_singleton]; omega
  · rw [List.all_append, hrow.2, Bool.true_and]
    simp only [List.all_cons, List.all_nil, Bool.and_true, okL, Bool.and_eq_true, decide_eq_true_eq]
    omega
  · rw [List.any_append, h.2, Bool.false_or]
    simp only [List.any_cons, List.any_nil, Bool.or_false, decide_eq_false_iff_not]
    omega

theorem side_zero {x a b : Int} {ls : List Ld} (h : onOk x a b ls = true) : sideW ls a b = 0 ↔ 0 ≤ momZ ls a ∧ momZ ls b ≤ 0 := by
  have h' := on_facts h
  have h1 := h'.x2; have h2 := h'.a0; have h3 := h'.ab; have h4 := h'.bx
  obtain ⟨n1, _, _⟩ := mom_at h'.row (p := a) (by omega)
  obtain ⟨n3, _, _⟩ := mom_at h'.row (p := b) (by omega)
  unfold sideW
  rw [n1, n3]
  by_cases h1 : momZ ls a < 0
  · rw [if_pos h1]
    omega
  · rw [if_neg h1]
    by_cases h2 : 0 < momZ ls b
    · rw [if_pos h2]
      omega
    · rw [if_neg h2]
      omega

theorem mom_snoc (ls : List Ld) (y w p : Int) : momZ (ls ++ [(y, w)]) p = momZ ls p + w * (y - p) := by
  unfold momZ
  rw [sumZ_append]
  simp [sumZ]

/-- where it rests is without gaps -/
theorem with_range {x a b w : Int} {ls : List Ld} (h : onOk x a b ls = true) (hn : ls.length ≠ 12) (hw0 : 1 ≤ w) (hw1 : w ≤ 99) {n : Nat} (hnx : (n : Int) = x + 1) (hlo : ¬ (opR (withG a b w ls) n).1 < 0) (y : Nat) (hy : (y : Int) ≤ x) : withG a b w ls y = (decide ((opR (withG a b w ls) n).1 ≤ (y : Int)) && decide ((y : Int) ≤ (opR (withG a b w ls) n).2)) := by
  have key : ∀ z : Nat, (z : Int) ≤ x → (withG a b w ls z = true ↔ 0 ≤ momZ ls a + w * ((z : Int) - a) ∧ momZ ls b + w * ((z : Int) - b) ≤ 0) := by
    intro z hz
    have hon := more_on h hn hw0 hw1 (y := (z : Int)) (by omega) hz
    unfold withG
    rw [decide_eq_true_eq, side_zero hon, mom_snoc, mom_snoc]
  have mono : ∀ (u v p : Int), u ≤ v → w * (u - p) ≤ w * (v - p) := fun u v p huv => Int.mul_le_mul_of_nonneg_left (by omega) (by omega)
  rcases opR_facts (withG a b w ls) n with ⟨h1, h2⟩ | ⟨J, K, h1, h2, h3, h4, h5, h6, h7⟩
  · rw [h1] at hlo
    exact absurd (by decide) hlo
  · rw [h1]
    show withG a b w ls y = (decide ((J : Int) ≤ (y : Int)) && decide ((y : Int) ≤ (K : Int)))
    by_cases hj : y < J
    · rw [h6 y hj, decide_eq_false (by omega : ¬ (J : Int) ≤ (y : Int))]
      rfl
    · by_cases hk : K < y
      · rw [h7 y hk (by omega), decide_eq_false (by omega : ¬ (y : Int) ≤ (K : Int)), Bool.and_false]
      · rw [decide_eq_true (by omega : (J : Int) ≤ (y : Int)), decide_eq_true (by omega : (y : Int) ≤ (K : Int)), Bool.and_true]
        rw [key y hy]
        have q1 := ((key J (by omega)).mp h4).1
        have q2 := ((key K (by omega)).mp h5).2
        have m1 := mono J y a (by omega)
        have m2 := mono y K b (by omega)
        omega

theorem cv_mid1 {w2 w3 w4 w5 w6 w7 w8 w9 w10 w11 w12 w13 w14 w15 w16 w17 w18 w19 w20 w21 w22 w23 w24 w25 w26 w27 w28 w29 w30 w31 w32 w33 w34 w35 w36 w37 w38 w39 w40 w41 w42 w43 w44 w45 w46 w47 w48 w49 w50 w51 w52 w53 w54 w55 w56 w57 w58 w59 w60 w61 w62 w63 : AV} {p0 : Option (Nat × Nat)} {s0 n0 : Nat} {c0 : Option Nat} {L : List Blk} (hc : CodeAt L (.slice p0 s0 n0 c0)) {Q : Ex → St → Prop}
    (hK : ∀ (G : List Blk) (x a b : Int) (u q : Nat) (ls : List Ld) (c : Option Nat) (v15 v16 v50 : AV), cellsAt (L ++ G) u = some [.int .i64 x, .int .i64 a, .int .i64 b] → cellsAt (L ++ G) q = some (encL ls) →
      Wp (run T pr (seqTl (seqTl (seqTl (seqTl (seqTl (seqTl (seqTl (seqTl c_l_FnConvoys)))))))) ⟨((.slice p0 s0 n0 c0) :: (.bool false) :: w2 :: w3 :: w4 :: w5 :: w6 :: w7 :: w8 :: w9 :: w10 :: (.ptr (some (u, 0))) :: (slL q ls.length c) :: (.bool (crossOk x a b ls && crossFrom ls a b (x.toNat + 1) 0)) :: (.bool (crossOk x a b ls)) :: (v15) :: (v16) :: w17 :: w18 :: w19 :: w20 :: w21 :: w22 :: w23 :: w24 :: w25 :: w26 :: w27 :: w28 :: w29 :: w30 :: w31 :: w32 :: w33 :: w34 :: w35 :: w36 :: w37 :: w38 :: w39 :: w40 :: w41 :: w42 :: w43 :: w44 :: w45 :: w46 :: w47 :: w48 :: w49 :: (v50) :: w51 :: w52 :: w53 :: w54 :: w55 :: w56 :: w57 :: w58 :: w59 :: w60 :: w61 :: w62 :: w63 :: []), ⟨L ++ G, none⟩⟩) Q) :
    Wp (run T pr (seqTl (seqTl (seqTl (seqTl (seqTl c_l_FnConvoys))))) ⟨((.slice p0 s0 n0 c0) :: (.bool false) :: w2 :: w3 :: w4 :: w5 :: w6 :: w7 :: w8 :: w9 :: w10 :: w11 :: w12 :: w13 :: w14 :: w15 :: w16 :: w17 :: w18 :: w19 :: w20 :: w21 :: w22 :: w23 :: w24 :: w25 :: w26 :: w27 :: w28 :: w29 :: w30 :: w31 :: w32 :: w33 :: w34 :: w35 :: w36 :: w37 :: w38 :: w39 :: w40 :: w41 :: w42 :: w43 :: w44 :: w45 :: w46 :: w47 :: w48 :: w49 :: w50 :: w51 :: w52 :: w53 :: w54 :: w55 :: w56 :: w57 :: w58 :: w59 :: w60 :: w61 :: w62 :: w63 :: []), ⟨L, none⟩⟩) Q := by
  obtain ⟨R, hR⟩ : ∃ R, R = (seqTl (seqTl (seqTl (seqTl (seqTl (seqTl (seqTl (seqTl c_l_FnConvoys)))))))) := ⟨_, rfl⟩
  rw [← hR] at hK
  have hcc : (seqTl (seqTl (seqTl (seqTl (seqTl c_l_FnConvoys))))) = (.seq (seqHd (seqTl (seqTl (seqTl (seqTl (seqTl c_l_FnConvoys)))))) (.seq (seqHd (seqTl (seqTl (seqTl (seqTl (seqTl (seqTl c_l_FnConvoys))))))) (.seq (seqHd (seqTl (seqTl (seqTl (seqTl (seqTl (seqTl (seqTl c_l_FnConvoys)))))))) R))) := by rw [hR]; rfl
  rw [hcc]
  have bxx : ∀ x : Bool, (!decide (x = x)) = false := fun x => by simp
  have hbb : ∀ x : Bool, (!(x == x)) = false := fun x => by simp
  simp (maxSteps := 2000000) +contextual only [c_l_FnConvoys, seqTl, seqHd, Wp_some, Wp_none, Wp_ite, Wc_some, Wc_none, Wc_ite, Wp_thenRun, seqQ_normal, seqQ_exit, seqQ_ret, Wp_inBlock, blkQ_normal, blkQ_ret, blkQ_same, blkQ_exit, Wp_opThen, opQ_at, Wp_guardP, retQ_normal, retQ_ret, loopQ_normal, loopQ_exit, loopQ_ret, go_sem, entry, joinEsc, if_pos, reduceIte, Nat.reduceAdd, Nat.reduceLeDiff, Nat.reduceLT, Nat.reduceEqDiff]
  refine (wc_DrawCanCross hc).mono ?_
  rintro v m ⟨x, a, b, ls, c1, rfl, hn1, rfl⟩
  have hi := fun G => e_i_CanCross (pr := pr) (H := L ++ (.cells (encL ls) true :: G)) (e := none) (q := L.length) (c := c1) (ls := ls) (by simp +contextual only [go_sem, entry, joinEsc, if_pos, reduceIte, Nat.reduceAdd, Nat.reduceLeDiff, Nat.reduceLT, Nat.reduceEqDiff]) (by omega) x a b
  have hs := fun G => e_s_CanCross (pr := pr) (H := L ++ (.cells (encL ls) true :: G)) (e := none) (q := L.length) (c := c1) (ls := ls) (by simp +contextual only [go_sem, entry, joinEsc, if_pos, reduceIte, Nat.reduceAdd, Nat.reduceLeDiff, Nat.reduceLT, Nat.reduceEqDiff]) (by omega) x a b
  have hic := fun G => e_i_IsConvoy (pr := pr) (H := L ++ (.cells (encL ls) true :: G)) (e := none) (q := L.length) (c := c1) (ls := ls) (by simp +contextual only [go_sem, entry, joinEsc, if_pos, reduceIte, Nat.reduceAdd, Nat.reduceLeDiff, Nat.reduceLT, Nat.reduceEqDiff]) (by omega)
  have hck : crossOk x a b ls = (beamOk x a b && convOk ls) := rfl
  cases hbm : beamOk x a b <;> cases hcv : convOk ls <;>
  · rw [hbm, hcv] at hck
    simp only [Bool.and_self, Bool.and_false, Bool.and_true, Bool.true_and, Bool.false_and] at hck
    have hK2 := fun G u q v15 v16 v50 => hK G x a b u q ls c1 v15 v16 v50
    rw [hck] at hi hs
    simp only [hck, Bool.false_and, Bool.true_and] at hK2
    simp (maxSteps := 2000000) +contextual only [hi, hs, hic, e_i_IsBeam, hbm, hcv, bxx, hbb, beq_self_eq_true, Nat.add_assoc, decide_true, Wp_some, Wp_none, Wp_ite, Wc_some, Wc_none, Wc_ite, Wp_thenRun, seqQ_normal, seqQ_exit, seqQ_ret, Wp_inBlock, blkQ_normal, blkQ_ret, blkQ_same, blkQ_exit, Wp_opThen, opQ_at, Wp_guardP, retQ_normal, retQ_ret, loopQ_normal, loopQ_exit, loopQ_ret, go_sem, entry, joinEsc, if_pos, reduceIte, Nat.reduceAdd, Nat.reduceLeDiff, Nat.reduceLT, Nat.reduceEqDiff]
    first | exact hK2 _ _ _ _ _ _ (by simp +contextual only [go_sem, entry, joinEsc, if_pos, reduceIte, Nat.reduceAdd, Nat.reduceLeDiff, Nat.reduceLT, Nat.reduceEqDiff]) (by simp +contextual only [go_sem, entry, joinEsc, if_pos, reduceIte, Nat.reduceAdd, Nat.reduceLeDiff, Nat.reduceLT, Nat.reduceEqDiff]) | exact ⟨fun _ => hK2 _ _ _ _ _ _ (by simp +contextual only [go_sem, entry, joinEsc, if_pos, reduceIte, Nat.reduceAdd, Nat.reduceLeDiff, Nat.reduceLT, Nat.reduceEqDiff]) (by simp +contextual only [go_sem, entry, joinEsc, if_pos, reduceIte, Nat.reduceAdd, Nat.reduceLeDiff, Nat.reduceLT, Nat.reduceEqDiff]), fun h => (h (Or.inr trivial)).elim⟩

theorem cv_mid2 {w2 w3 w4 w5 w6 w7 w8 w9 w10 w11 w12 w13 w14 w15 w16 w17 w18 w19 w20 w21 w22 w23 w24 w25 w26 w27 w28 w29 w30 w31 w32 w33 w34 w35 w36 w37 w38 w39 w40 w41 w42 w43 w44 w45 w46 w47 w48 w49 w50 w51 w52 w53 w54 w55 w56 w57 w58 w59 w60 w61 w62 w63 : AV} {p0 : Option (Nat × Nat)} {s0 n0 : Nat} {c0 : Option Nat} {L : List Blk} (hc : CodeAt L (.slice p0 s0 n0 c0)) {Q : Ex → St → Prop}
    (hK : ∀ (G : List Blk) (x a b w lo hi : Int) (u q : Nat) (ls : List Ld) (c : Option Nat) (two : Bool) (v23 v24 v25 v51 : AV), cellsAt (L ++ G) u = some [.int .i64 x, .int .i64 a, .int .i64 b] → cellsAt (L ++ G) q = some (encL ls) → (two = true → onOk x a b ls = true ∧ ls.length ≠ 12 ∧ 1 ≤ w ∧ w ≤ 99 ∧ ∀ y : Nat, (y : Int) ≤ x → withG a b w ls y = (decide (lo ≤ (y : Int)) && decide ((y : Int) ≤ hi))) →
      Wp (run T pr (seqTl (seqTl (seqTl (seqTl (seqTl (seqTl (seqTl (seqTl (seqTl (seqTl (seqTl c_l_FnConvoys))))))))))) ⟨((.slice p0 s0 n0 c0) :: (.bool false) :: w2 :: w3 :: w4 :: w5 :: w6 :: w7 :: w8 :: w9 :: w10 :: w11 :: w12 :: w13 :: w14 :: w15 :: w16 :: (.ptr (some (u, 0))) :: (slL q ls.length c) :: (.int .i64 w) :: (.int .i64 lo) :: (.int .i64 hi) :: (.bool two) :: (v23) :: (v24) :: (v25) :: w26 :: w27 :: w28 :: w29 :: w30 :: w31 :: w32 :: w33 :: w34 :: w35 :: w36 :: w37 :: w38 :: w39 :: w40 :: w41 :: w42 :: w43 :: w44 :: w45 :: w46 :: w47 :: w48 :: w49 :: w50 :: (v51) :: w52 :: w53 :: w54 :: w55 :: w56 :: w57 :: w58 :: w59 :: w60 :: w61 :: w62 :: w63 :: []), ⟨L ++ G, none⟩⟩) Q) :
    Wp (run T pr (seqTl (seqTl (seqTl (seqTl (seqTl (seqTl (seqTl (seqTl c_l_FnConvoys)))))))) ⟨((.slice p0 s0 n0 c0) :: (.bool false) :: w2 :: w3 :: w4 :: w5 :: w6 :: w7 :: w8 :: w9 :: w10 :: w11 :: w12 :: w13 :: w14 :: w15 :: w16 :: w17 :: w18 :: w19 :: w20 :: w21 :: w22 :: w23 :: w24 :: w25 :: w26 :: w27 :: w28 :: w29 :: w30 :: w31 :: w32 :: w33 :: w34 :: w35 :: w36 :: w37 :: w38 :: w39 :: w40 :: w41 :: w42 :: w43 :: w44 :: w45 :: w46 :: w47 :: w48 :: w49 :: w50 :: w51 :: w52 :: w53 :: w54 :: w55 :: w56 :: w57 :: w58 :: w59 :: w60 :: w61 :: w62 :: w63 :: []), ⟨L, none⟩⟩) Q := by
  obtain ⟨R, hR⟩ : ∃ R, R = (seqTl (seqTl (seqTl (seqTl (seqTl (seqTl (seqTl (seqTl (seqTl (seqTl (seqTl c_l_FnConvoys))))))))))) := ⟨_, rfl⟩
  rw [← hR] at hK
  have hcc : (seqTl (seqTl (seqTl (seqTl (seqTl (seqTl (seqTl (seqTl c_l_FnConvoys)))))))) = (.seq (seqHd (seqTl (seqTl (seqTl (seqTl (seqTl (seqTl (seqTl (seqTl c_l_FnConvoys))))))))) (.seq (seqHd (seqTl (seqTl (seqTl (seqTl (seqTl (seqTl (seqTl (seqTl (seqTl c_l_FnConvoys)))))))))) (.seq (seqHd (seqTl (seqTl (seqTl (seqTl (seqTl (seqTl (seqTl (seqTl (seqTl (seqTl c_l_FnConvoys))))))))))) R))) := by rw [hR]; rfl
  rw [hcc]
  have bxx : ∀ x : Bool, (!decide (x = x)) = false := fun x => by simp
  have hbb : ∀ x : Bool, (!(x == x)) = false := fun x => by simp
  have hdd : ∀ x : Int, decide (x = x) = true := fun x => decide_eq_true rfl
  simp (maxSteps := 2000000) +contextual only [c_l_FnConvoys, seqTl, seqHd, Wp_some, Wp_none, Wp_ite, Wc_some, Wc_none, Wc_ite, Wp_thenRun, seqQ_normal, seqQ_exit, seqQ_ret, Wp_inBlock, blkQ_normal, blkQ_ret, blkQ_same, blkQ_exit, Wp_opThen, opQ_at, Wp_guardP, retQ_normal, retQ_ret, loopQ_normal, loopQ_exit, loopQ_ret, go_sem, entry, joinEsc, if_pos, reduceIte, Nat.reduceAdd, Nat.reduceLeDiff, Nat.reduceLT, Nat.reduceEqDiff]
  refine (wc_DrawOutermostPlaces hc).mono ?_
  rintro v m ⟨x, a, b, wt, ls, c1, rfl, hn1, rfl⟩
  by_cases hv : onOk x a b ls = true ∧ ls.length ≠ 12 ∧ 1 ≤ wt ∧ wt ≤ 99
  · obtain ⟨hv1, hv2, hv3, hv4⟩ := hv
    have hx1 := (on_facts hv1).x1
    obtain ⟨X, rfl⟩ := Int.eq_ofNat_of_zero_le (show 0 ≤ x by omega)
    have hi := fun G => e_i_OutermostPlaces (pr := pr) (H := L ++ (.cells (encL ls) true :: G)) (e := none) (q := L.length) (c := c1) (ls := ls) (by simp +contextual only [go_sem, entry, joinEsc, if_pos, reduceIte, Nat.reduceAdd, Nat.reduceLeDiff, Nat.reduceLT, Nat.reduceEqDiff]) hv1 hv2 hv3 hv4
    have hs := fun G => e_s_OutermostPlaces (pr := pr) (H := L ++ (.cells (encL ls) true :: G)) (e := none) (q := L.length) (c := c1) (ls := ls) (by simp +contextual only [go_sem, entry, joinEsc, if_pos, reduceIte, Nat.reduceAdd, Nat.reduceLeDiff, Nat.reduceLT, Nat.reduceEqDiff]) hv1 hv2 hv3 hv4
    unfold opT at hi hs
    by_cases hlt : (opR (withG a b wt ls) (X + 1)).1 < 0
    · simp only [if_pos hlt] at hi hs
      simp (maxSteps := 2000000) +contextual only [hi, hs, bxx, hbb, hdd, beq_self_eq_true, Nat.add_assoc, decide_true, Wp_some, Wp_none, Wp_ite, Wc_some, Wc_none, Wc_ite, Wp_thenRun, seqQ_normal, seqQ_exit, seqQ_ret, Wp_inBlock, blkQ_normal, blkQ_ret, blkQ_same, blkQ_exit, Wp_opThen, opQ_at, Wp_guardP, retQ_normal, retQ_ret, loopQ_normal, loopQ_exit, loopQ_ret, go_sem, entry, joinEsc, if_pos, reduceIte, Nat.reduceAdd, Nat.reduceLeDiff, Nat.reduceLT, Nat.reduceEqDiff]
      exact hK _ X a b wt 0 0 _ _ ls _ false _ _ _ _ (by simp +contextual only [go_sem, entry, joinEsc, if_pos, reduceIte, Nat.reduceAdd, Nat.reduceLeDiff, Nat.reduceLT, Nat.reduceEqDiff]) (by simp +contextual only [go_sem, entry, joinEsc, if_pos, reduceIte, Nat.reduceAdd, Nat.reduceLeDiff, Nat.reduceLT, Nat.reduceEqDiff]) (fun h => by simp at h)
    · simp only [if_neg hlt] at hi hs
      have hwr := with_range hv1 hv2 hv3 hv4 (n := X + 1) (by omega) hlt
      simp (maxSteps := 2000000) +contextual only [hi, hs, bxx, hbb, hdd, beq_self_eq_true, Nat.add_assoc, decide_true, Wp_some, Wp_none, Wp_ite, Wc_some, Wc_none, Wc_ite, Wp_thenRun, seqQ_normal, seqQ_exit, seqQ_ret, Wp_inBlock, blkQ_normal, blkQ_ret, blkQ_same, blkQ_exit, Wp_opThen, opQ_at, Wp_guardP, retQ_normal, retQ_ret, loopQ_normal, loopQ_exit, loopQ_ret, go_sem, entry, joinEsc, if_pos, reduceIte, Nat.reduceAdd, Nat.reduceLeDiff, Nat.reduceLT, Nat.reduceEqDiff]
      exact hK _ X a b wt _ _ _ _ ls _ true _ _ _ _ (by simp +contextual only [go_sem, entry, joinEsc, if_pos, reduceIte, Nat.reduceAdd, Nat.reduceLeDiff, Nat.reduceLT, Nat.reduceEqDiff]) (by simp +contextual only [go_sem, entry, joinEsc, if_pos, reduceIte, Nat.reduceAdd, Nat.reduceLeDiff, Nat.reduceLT, Nat.reduceEqDiff]) (fun _ => ⟨hv1, hv2, hv3, hv4, hwr⟩)
  · have hi := fun G => e_i_OutermostPlaces_bad (pr := pr) (H := L ++ (.cells (encL ls) true :: G)) (e := none) (q := L.length) (c := c1) (ls := ls) (by simp +contextual only [go_sem, entry, joinEsc, if_pos, reduceIte, Nat.reduceAdd, Nat.reduceLeDiff, Nat.reduceLT, Nat.reduceEqDiff]) (by omega) hv
    have hs := fun G => e_s_OutermostPlaces_bad (pr := pr) (H := L ++ (.cells (encL ls) true :: G)) (e := none) (q := L.length) (c := c1) (ls := ls) (by simp +contextual only [go_sem, entry, joinEsc, if_pos, reduceIte, Nat.reduceAdd, Nat.reduceLeDiff, Nat.reduceLT, Nat.reduceEqDiff]) (by omega) hv
    simp (maxSteps := 2000000) +contextual only [hi, hs, bxx, hbb, hdd, beq_self_eq_true, Nat.add_assoc, decide_true, Wp_some, Wp_none, Wp_ite, Wc_some, Wc_none, Wc_ite, Wp_thenRun, seqQ_normal, seqQ_exit, seqQ_ret, Wp_inBlock, blkQ_normal, blkQ_ret, blkQ_same, blkQ_exit, Wp_opThen, opQ_at, Wp_guardP, retQ_normal, retQ_ret, loopQ_normal, loopQ_exit, loopQ_ret, go_sem, entry, joinEsc, if_pos, reduceIte, Nat.reduceAdd, Nat.reduceLeDiff, Nat.reduceLT, Nat.reduceEqDiff]
    exact hK _ x a b wt 0 0 _ _ ls _ false _ _ _ _ (by simp +contextual only [go_sem, entry, joinEsc, if_pos, reduceIte, Nat.reduceAdd, Nat.reduceLeDiff, Nat.reduceLT, Nat.reduceEqDiff]) (by simp +contextual only [go_sem, entry, joinEsc, if_pos, reduceIte, Nat.reduceAdd, Nat.reduceLeDiff, Nat.reduceLT, Nat.reduceEqDiff]) (fun h => by simp at h)

theorem cv_mid3 {w2 w3 w4 w5 w6 w7 w8 w9 w10 w11 w12 w13 w14 w15 w16 w17 w18 w19 w20 w21 w22 w23 w24 w25 w26 w27 w28 w29 w30 w31 w32 w33 w34 w35 w36 w37 w38 w39 w40 w41 w42 w43 w44 w45 w46 w47 w48 w49 w50 w51 w52 w53 w54 w55 w56 w57 w58 w59 w60 w61 w62 w63 : AV} {p0 : Option (Nat × Nat)} {s0 n0 : Nat} {c0 : Option Nat} {L : List Blk} (hc : CodeAt L (.slice p0 s0 n0 c0)) {Q : Ex → St → Prop}
    (hK : ∀ (G : List Blk) (v26 v27 v28 v29 v30 v31 v32 v33 v52 v53 : AV), Wp (run T pr (seqTl (seqTl (seqTl (seqTl (seqTl (seqTl (seqTl (seqTl (seqTl (seqTl (seqTl (seqTl (seqTl (seqTl (seqTl (seqTl c_l_FnConvoys)))))))))))))))) ⟨((.slice p0 s0 n0 c0) :: (.bool false) :: w2 :: w3 :: w4 :: w5 :: w6 :: w7 :: w8 :: w9 :: w10 :: w11 :: w12 :: w13 :: w14 :: w15 :: w16 :: w17 :: w18 :: w19 :: w20 :: w21 :: w22 :: w23 :: w24 :: w25 :: (v26) :: (v27) :: (v28) :: (v29) :: (v30) :: (v31) :: (v32) :: (v33) :: w34 :: w35 :: w36 :: w37 :: w38 :: w39 :: w40 :: w41 :: w42 :: w43 :: w44 :: w45 :: w46 :: w47 :: w48 :: w49 :: w50 :: w51 :: (v52) :: (v53) :: w54 :: w55 :: w56 :: w57 :: w58 :: w59 :: w60 :: w61 :: w62 :: w63 :: []), ⟨L ++ G, none⟩⟩) Q) :
    Wp (run T pr (seqTl (seqTl (seqTl (seqTl (seqTl (seqTl (seqTl (seqTl (seqTl (seqTl (seqTl c_l_FnConvoys))))))))))) ⟨((.slice p0 s0 n0 c0) :: (.bool false) :: w2 :: w3 :: w4 :: w5 :: w6 :: w7 :: w8 :: w9 :: w10 :: w11 :: w12 :: w13 :: w14 :: w15 :: w16 :: w17 :: w18 :: w19 :: w20 :: w21 :: w22 :: w23 :: w24 :: w25 :: w26 :: w27 :: w28 :: w29 :: w30 :: w31 :: w32 :: w33 :: w34 :: w35 :: w36 :: w37 :: w38 :: w39 :: w40 :: w41 :: w42 :: w43 :: w44 :: w45 :: w46 :: w47 :: w48 :: w49 :: w50 :: w51 :: w52 :: w53 :: w54 :: w55 :: w56 :: w57 :: w58 :: w59 :: w60 :: w61 :: w62 :: w63 :: []), ⟨L, none⟩⟩) Q := by
  obtain ⟨R, hR⟩ : ∃ R, R = (seqTl (seqTl (seqTl (seqTl (seqTl (seqTl (seqTl (seqTl (seqTl (seqTl (seqTl (seqTl (seqTl (seqTl (seqTl (seqTl c_l_FnConvoys)))))))))))))))) := ⟨_, rfl⟩
  rw [← hR] at hK
  have hcc : (seqTl (seqTl (seqTl (seqTl (seqTl (seqTl (seqTl (seqTl (seqTl (seqTl (seqTl c_l_FnConvoys))))))))))) = (.seq (seqHd (seqTl (seqTl (seqTl (seqTl (seqTl (seqTl (seqTl (seqTl (seqTl (seqTl (seqTl c_l_FnConvoys)))))))))))) (.seq (seqHd (seqTl (seqTl (seqTl (seqTl (seqTl (seqTl (seqTl (seqTl (seqTl (seqTl (seqTl (seqTl c_l_FnConvoys))))))))))))) (.seq (seqHd (seqTl (seqTl (seqTl (seqTl (seqTl (seqTl (seqTl (seqTl (seqTl (seqTl (seqTl (seqTl (seqTl c_l_FnConvoys)))))))))))))) (.seq (seqHd (seqTl (seqTl (seqTl (seqTl (seqTl (seqTl (seqTl (seqTl (seqTl (seqTl (seqTl (seqTl (seqTl (seqTl c_l_FnConvoys))))))))))))))) (.seq (seqHd (seqTl (seqTl (seqTl (seqTl (seqTl (seqTl (seqTl (seqTl (seqTl (seqTl (seqTl (seqTl (seqTl (seqTl (seqTl c_l_FnConvoys)))))))))))))))) R))))) := by rw [hR]; rfl
  rw [hcc]
  have bxx : ∀ x : Bool, (!decide (x = x)) = false := fun x => by simp
  have hbb : ∀ x : Bool, (!(x == x)) = false := fun x => by simp
  simp (maxSteps := 2000000) +contextual only [c_l_FnConvoys, seqTl, seqHd, Wp_some, Wp_none, Wp_ite, Wc_some, Wc_none, Wc_ite, Wp_thenRun, seqQ_normal, seqQ_exit, seqQ_ret, Wp_inBlock, blkQ_normal, blkQ_ret, blkQ_same, blkQ_exit, Wp_opThen, opQ_at, Wp_guardP, retQ_normal, retQ_ret, loopQ_normal, loopQ_exit, loopQ_ret, go_sem, entry, joinEsc, if_pos, reduceIte, Nat.reduceAdd, Nat.reduceLeDiff, Nat.reduceLT, Nat.reduceEqDiff]
  refine (wc_DrawIsConvoy hc).mono ?_
  rintro v m ⟨os, c1, rfl, hn1, rfl⟩
  have hic := fun G => e_i_IsConvoy (pr := pr) (H := L ++ (.cells (encL os) true :: G)) (e := none) (q := L.length) (c := c1) (ls := os) (by simp +contextual only [go_sem, entry, joinEsc, if_pos, reduceIte, Nat.reduceAdd, Nat.reduceLeDiff, Nat.reduceLT, Nat.reduceEqDiff]) (by omega)
  have hsc := fun G => e_s_IsConvoy (pr := pr) (H := L ++ (.cells (encL os) true :: G)) (e := none) (q := L.length) (c := c1) (ls := os) (by simp +contextual only [go_sem, entry, joinEsc, if_pos, reduceIte, Nat.reduceAdd, Nat.reduceLeDiff, Nat.reduceLT, Nat.reduceEqDiff]) (by omega)
  simp (maxSteps := 2000000) +contextual only [hic, hsc, bxx, hbb, Nat.add_assoc, decide_true, Wp_some, Wp_none, Wp_ite, Wc_some, Wc_none, Wc_ite, Wp_thenRun, seqQ_normal, seqQ_exit, seqQ_ret, Wp_inBlock, blkQ_normal, blkQ_ret, blkQ_same, blkQ_exit, Wp_opThen, opQ_at, Wp_guardP, retQ_normal, retQ_ret, loopQ_normal, loopQ_exit, loopQ_ret, go_sem, entry, joinEsc, if_pos, reduceIte, Nat.reduceAdd, Nat.reduceLeDiff, Nat.reduceLT, Nat.reduceEqDiff]
  refine (wc_DrawConvoyRow (hc.more _)).mono ?_
  rintro v m ⟨x, a, b, y, ls, c2, rfl, hn2, rfl⟩
  by_cases hv : beamOk x a b = true ∧ convOk ls = true ∧ 0 ≤ y ∧ y ≤ x
  · obtain ⟨hv1, hv2, hv3, hv4⟩ := hv
    have hlen := (conv_facts hv2).1
    have hrl := rowAt_length y ls
    obtain ⟨k1, hi⟩ := e_i_ConvoyRow (pr := pr) (H := L ++ [.cells (encL os) true, .cells (encL ls) true, .cells [.int .i64 x, .int .i64 a, .int .i64 b] true]) (e := none) (q := L.length + 1) (c := c2) (ls := ls) (by simp +contextual only [go_sem, entry, joinEsc, if_pos, reduceIte, Nat.reduceAdd, Nat.reduceLeDiff, Nat.reduceLT, Nat.reduceEqDiff]) hv1 hv2 hv3 hv4
    obtain ⟨k2, hs⟩ := e_s_ConvoyRow (pr := pr) (H := L ++ [.cells (encL os) true, .cells (encL ls) true, .cells [.int .i64 x, .int .i64 a, .int .i64 b] true, .cells (encL (rowAt y ls)) true]) (e := none) (q := L.length + 1) (c := c2) (ls := ls) (by simp +contextual only [go_sem, entry, joinEsc, if_pos, reduceIte, Nat.reduceAdd, Nat.reduceLeDiff, Nat.reduceLT, Nat.reduceEqDiff]) hv1 hv2 hv3 hv4
    have hr := e_l_rRow (pr := pr) (H := L ++ [.cells (encL os) true, .cells (encL ls) true, .cells [.int .i64 x, .int .i64 a, .int .i64 b] true, .cells (encL (rowAt y ls)) true, .cells (encL (rowAt y ls)) true]) (e := none) (b1 := L.length + 3) (b2 := L.length + 4) (c1 := k1) (c2 := k2) (ls := rowAt y ls) (by simp +contextual only [go_sem, entry, joinEsc, if_pos, reduceIte, Nat.reduceAdd, Nat.reduceLeDiff, Nat.reduceLT, Nat.reduceEqDiff]) (by simp +contextual only [go_sem, entry, joinEsc, if_pos, reduceIte, Nat.reduceAdd, Nat.reduceLeDiff, Nat.reduceLT, Nat.reduceEqDiff]) (by omega)
    simp only [List.length_append, List.length_cons, List.length_nil, Nat.zero_add, Nat.reduceAdd, List.append_assoc, List.cons_append, List.nil_append] at hi hs hr
    simp (maxSteps := 2000000) +contextual only [hi, hs, hr, bxx, hbb, beq_self_eq_true, Nat.add_assoc, decide_true, Wp_some, Wp_none, Wp_ite, Wc_some, Wc_none, Wc_ite, Wp_thenRun, seqQ_normal, seqQ_exit, seqQ_ret, Wp_inBlock, blkQ_normal, blkQ_ret, blkQ_same, blkQ_exit, Wp_opThen, opQ_at, Wp_guardP, retQ_normal, retQ_ret, loopQ_normal, loopQ_exit, loopQ_ret, go_sem, entry, joinEsc, if_pos, reduceIte, Nat.reduceAdd, Nat.reduceLeDiff, Nat.reduceLT, Nat.reduceEqDiff]
    first | exact hK _ _ _ _ _ _ _ _ _ _ _ | exact ⟨fun _ => hK _ _ _ _ _ _ _ _ _ _ _, fun h => (h (Or.inr trivial)).elim⟩
  · have hi := fun G => e_i_ConvoyRow_bad (pr := pr) (H := L ++ (.cells (encL os) true :: .cells (encL ls) true :: G)) (e := none) (q := L.length + 1) (c := c2) (ls := ls) (by simp +contextual only [go_sem, entry, joinEsc, if_pos, reduceIte, Nat.reduceAdd, Nat.reduceLeDiff, Nat.reduceLT, Nat.reduceEqDiff]) (by omega) hv
    have hs := fun G => e_s_ConvoyRow_bad (pr := pr) (H := L ++ (.cells (encL os) true :: .cells (encL ls) true :: G)) (e := none) (q := L.length + 1) (c := c2) (ls := ls) (by simp +contextual only [go_sem, entry, joinEsc, if_pos, reduceIte, Nat.reduceAdd, Nat.reduceLeDiff, Nat.reduceLT, Nat.reduceEqDiff]) (by omega) hv
    simp (maxSteps := 2000000) +contextual only [hi, hs, e_l_rRow_none, bxx, hbb, beq_self_eq_true, Nat.add_assoc, decide_true, Wp_some, Wp_none, Wp_ite, Wc_some, Wc_none, Wc_ite, Wp_thenRun, seqQ_normal, seqQ_exit, seqQ_ret, Wp_inBlock, blkQ_normal, blkQ_ret, blkQ_same, blkQ_exit, Wp_opThen, opQ_at, Wp_guardP, retQ_normal, retQ_ret, loopQ_normal, loopQ_exit, loopQ_ret, go_sem, entry, joinEsc, if_pos, reduceIte, Nat.reduceAdd, Nat.reduceLeDiff, Nat.reduceLT, Nat.reduceEqDiff]
    first | exact hK _ _ _ _ _ _ _ _ _ _ _ | exact ⟨fun _ => hK _ _ _ _ _ _ _ _ _ _ _, fun h => (h (Or.inr trivial)).elim⟩

/-- all positions -/
theorem cv_mid4 {w0 w2 w3 w4 w5 w6 w7 w8 w9 w10 w15 w16 w17 w18 w19 w20 w21 w22 w23 w24 w25 w26 w27 w28 w29 w30 w31 w32 w33 w34 w35 w36 w37 w38 w39 w40 w41 w42 w43 w44 w45 w46 w47 w48 w49 w50 w51 w52 w53 w54 w55 w56 w57 w58 w59 w60 w61 w62 w63 : AV} {x a b : Int} {u q : Nat} {ls : List Ld} {c : Option Nat} {L : List Blk} (hu : cellsAt L u = some [.int .i64 x, .int .i64 a, .int .i64 b]) (hq : cellsAt L q = some (encL ls)) {Q : Ex → St → Prop}
    (hK : ∀ (G : List Blk) (v11 v12 v13 v14 v34 v35 v36 v37 v38 v39 v54 v55 v56 v57 : AV), Wp (run T pr (seqTl (seqTl (seqTl (seqTl (seqTl (seqTl (seqTl (seqTl (seqTl (seqTl (seqTl (seqTl (seqTl (seqTl (seqTl (seqTl (seqTl c_l_FnConvoys))))))))))))))))) ⟨(w0 :: (.bool false) :: w2 :: w3 :: w4 :: w5 :: w6 :: w7 :: w8 :: w9 :: w10 :: (v11) :: (v12) :: (v13) :: (v14) :: w15 :: w16 :: w17 :: w18 :: w19 :: w20 :: w21 :: w22 :: w23 :: w24 :: w25 :: w26 :: w27 :: w28 :: w29 :: w30 :: w31 :: w32 :: w33 :: (v34) :: (v35) :: (v36) :: (v37) :: (v38) :: (v39) :: w40 :: w41 :: w42 :: w43 :: w44 :: w45 :: w46 :: w47 :: w48 :: w49 :: w50 :: w51 :: w52 :: w53 :: (v54) :: (v55) :: (v56) :: (v57) :: w58 :: w59 :: w60 :: w61 :: w62 :: w63 :: []), ⟨L ++ G, none⟩⟩) Q) :
    Wp (run T pr (seqTl (seqTl (seqTl (seqTl (seqTl (seqTl (seqTl (seqTl (seqTl (seqTl (seqTl (seqTl (seqTl (seqTl (seqTl (seqTl c_l_FnConvoys)))))))))))))))) ⟨(w0 :: (.bool false) :: w2 :: w3 :: w4 :: w5 :: w6 :: w7 :: w8 :: w9 :: w10 :: (.ptr (some (u, 0))) :: (slL q ls.length c) :: (.bool (crossOk x a b ls && crossFrom ls a b (x.toNat + 1) 0)) :: (.bool (crossOk x a b ls)) :: w15 :: w16 :: w17 :: w18 :: w19 :: w20 :: w21 :: w22 :: w23 :: w24 :: w25 :: w26 :: w27 :: w28 :: w29 :: w30 :: w31 :: w32 :: w33 :: w34 :: w35 :: w36 :: w37 :: w38 :: w39 :: w40 :: w41 :: w42 :: w43 :: w44 :: w45 :: w46 :: w47 :: w48 :: w49 :: w50 :: w51 :: w52 :: w53 :: w54 :: w55 :: w56 :: w57 :: w58 :: w59 :: w60 :: w61 :: w62 :: w63 :: []), ⟨L, none⟩⟩) Q := by
  obtain ⟨R, hR⟩ : ∃ R, R = (seqTl (seqTl (seqTl (seqTl (seqTl (seqTl (seqTl (seqTl (seqTl (seqTl (seqTl (seqTl (seqTl (seqTl (seqTl (seqTl (seqTl c_l_FnConvoys))))))))))))))))) := ⟨_, rfl⟩
  rw [← hR] at hK
  have hcc : (seqTl (seqTl (seqTl (seqTl (seqTl (seqTl (seqTl (seqTl (seqTl (seqTl (seqTl (seqTl (seqTl (seqTl (seqTl (seqTl c_l_FnConvoys)))))))))))))))) = (.seq (seqHd (seqTl (seqTl (seqTl (seqTl (seqTl (seqTl (seqTl (seqTl (seqTl (seqTl (seqTl (seqTl (seqTl (seqTl (seqTl (seqTl c_l_FnConvoys))))))))))))))))) R) := by rw [hR]; rfl
  rw [hcc]
  have bxx : ∀ x : Bool, (!decide (x = x)) = false := fun x => by simp
  have hbb : ∀ x : Bool, (!(x == x)) = false := fun x => by simp
  cases hck : crossOk x a b ls with
  | false =>
    simp (maxSteps := 2000000) +contextual only [c_l_FnConvoys, seqTl, seqHd, Wp_some, Wp_none, Wp_ite, Wc_some, Wc_none, Wc_ite, Wp_thenRun, seqQ_normal, seqQ_exit, seqQ_ret, Wp_inBlock, blkQ_normal, blkQ_ret, blkQ_same, blkQ_exit, Wp_opThen, opQ_at, Wp_guardP, retQ_normal, retQ_ret, loopQ_normal, loopQ_exit, loopQ_ret, go_sem, entry, joinEsc, if_pos, reduceIte, Nat.reduceAdd, Nat.reduceLeDiff, Nat.reduceLT, Nat.reduceEqDiff]
    have := hK []
    simp only [List.append_nil] at this
    exact this _ _ _ _ _ _ _ _ _ _ _ _ _ _
  | true =>
    have hck' := hck
    unfold crossOk at hck'
    obtain ⟨hbm, hcv⟩ := (Bool.and_eq_true_iff.mp hck')
    have hb := hbm
    unfold beamOk at hb
    simp only [decide_eq_true_eq] at hb
    obtain ⟨X, rfl⟩ := Int.eq_ofNat_of_zero_le (show 0 ≤ x by omega)
    rw [Bool.true_and, Int.toNat_natCast, cross_all]
    simp (maxSteps := 2000000) +contextual only [c_l_FnConvoys, seqTl, seqHd, Wp_some, Wp_none, Wp_ite, Wc_some, Wc_none, Wc_ite, Wp_thenRun, seqQ_normal, seqQ_exit, seqQ_ret, Wp_inBlock, blkQ_normal, blkQ_ret, blkQ_same, blkQ_exit, Wp_opThen, opQ_at, Wp_guardP, retQ_normal, retQ_ret, loopQ_normal, loopQ_exit, loopQ_ret, go_sem, entry, joinEsc, if_pos, reduceIte, Nat.reduceAdd, Nat.reduceLeDiff, Nat.reduceLT, Nat.reduceEqDiff]
    refine (cv_loop1 hu hq hbm hcv).mono ?_
    rintro _ _ ⟨rfl, G, v35, v36, v37, v38, v39, v55, v56, rfl⟩
    simp (maxSteps := 2000000) +contextual only [bxx, hbb, Wp_some, Wp_none, Wp_ite, Wc_some, Wc_none, Wc_ite, Wp_thenRun, seqQ_normal, seqQ_exit, seqQ_ret, Wp_inBlock, blkQ_normal, blkQ_ret, blkQ_same, blkQ_exit, Wp_opThen, opQ_at, Wp_guardP, retQ_normal, retQ_ret, loopQ_normal, loopQ_exit, loopQ_ret, go_sem, entry, joinEsc, if_pos, reduceIte, Nat.reduceAdd, Nat.reduceLeDiff, Nat.reduceLT, Nat.reduceEqDiff]
    exact hK _ _ _ _ _ _ _ _ _ _ _ _ _ _ _

theorem cv_mid5 {w0 w2 w3 w4 w5 w6 w7 w8 w9 w10 w11 w12 w13 w14 w15 w16 w23 w24 w25 w26 w27 w28 w29 w30 w31 w32 w33 w34 w35 w36 w37 w38 w39 w40 w41 w42 w43 w44 w45 w46 w47 w48 w49 w50 w51 w52 w53 w54 w55 w56 w57 w58 w59 w60 w61 w62 w63 : AV} {x a b wt lo hi : Int} {u q : Nat} {ls : List Ld} {c : Option Nat} {two : Bool} {L : List Blk} (hu : cellsAt L u = some [.int .i64 x, .int .i64 a, .int .i64 b]) (hq : cellsAt L q = some (encL ls)) (h2 : two = true → onOk x a b ls = true ∧ ls.length ≠ 12 ∧ 1 ≤ wt ∧ wt ≤ 99 ∧ ∀ y : Nat, (y : Int) ≤ x → withG a b wt ls y = (decide (lo ≤ (y : Int)) && decide ((y : Int) ≤ hi))) {Q : Ex → St → Prop}
    (hK : ∀ (G : List Blk) (v17 v18 v19 v20 v21 v22 v40 v41 v42 v58 v59 v60 : AV), Wp (run T pr (seqTl (seqTl (seqTl (seqTl (seqTl (seqTl (seqTl (seqTl (seqTl (seqTl (seqTl (seqTl (seqTl (seqTl (seqTl (seqTl (seqTl (seqTl c_l_FnConvoys)))))))))))))))))) ⟨(w0 :: (.bool false) :: w2 :: w3 :: w4 :: w5 :: w6 :: w7 :: w8 :: w9 :: w10 :: w11 :: w12 :: w13 :: w14 :: w15 :: w16 :: (v17) :: (v18) :: (v19) :: (v20) :: (v21) :: (v22) :: w23 :: w24 :: w25 :: w26 :: w27 :: w28 :: w29 :: w30 :: w31 :: w32 :: w33 :: w34 :: w35 :: w36 :: w37 :: w38 :: w39 :: (v40) :: (v41) :: (v42) :: w43 :: w44 :: w45 :: w46 :: w47 :: w48 :: w49 :: w50 :: w51 :: w52 :: w53 :: w54 :: w55 :: w56 :: w57 :: (v58) :: (v59) :: (v60) :: w61 :: w62 :: w63 :: []), ⟨L ++ G, none⟩⟩) Q) :
    Wp (run T pr (seqTl (seqTl (seqTl (seqTl (seqTl (seqTl (seqTl (seqTl (seqTl (seqTl (seqTl (seqTl (seqTl (seqTl (seqTl (seqTl (seqTl c_l_FnConvoys))))))))))))))))) ⟨(w0 :: (.bool false) :: w2 :: w3 :: w4 :: w5 :: w6 :: w7 :: w8 :: w9 :: w10 :: w11 :: w12 :: w13 :: w14 :: w15 :: w16 :: (.ptr (some (u, 0))) :: (slL q ls.length c) :: (.int .i64 wt) :: (.int .i64 lo) :: (.int .i64 hi) :: (.bool two) :: w23 :: w24 :: w25 :: w26 :: w27 :: w28 :: w29 :: w30 :: w31 :: w32 :: w33 :: w34 :: w35 :: w36 :: w37 :: w38 :: w39 :: w40 :: w41 :: w42 :: w43 :: w44 :: w45 :: w46 :: w47 :: w48 :: w49 :: w50 :: w51 :: w52 :: w53 :: w54 :: w55 :: w56 :: w57 :: w58 :: w59 :: w60 :: w61 :: w62 :: w63 :: []), ⟨L, none⟩⟩) Q := by
  obtain ⟨R, hR⟩ : ∃ R, R = (seqTl (seqTl (seqTl (seqTl (seqTl (seqTl (seqTl (seqTl (seqTl (seqTl (seqTl (seqTl (seqTl (seqTl (seqTl (seqTl (seqTl (seqTl c_l_FnConvoys)))))))))))))))))) := ⟨_, rfl⟩
  rw [← hR] at hK
  have hcc : (seqTl (seqTl (seqTl (seqTl (seqTl (seqTl (seqTl (seqTl (seqTl (seqTl (seqTl (seqTl (seqTl (seqTl (seqTl (seqTl (seqTl c_l_FnConvoys))))))))))))))))) = (.seq (seqHd (seqTl (seqTl (seqTl (seqTl (seqTl (seqTl (seqTl (seqTl (seqTl (seqTl (seqTl (seqTl (seqTl (seqTl (seqTl (seqTl (seqTl c_l_FnConvoys)))))))))))))))))) R) := by rw [hR]; rfl
  rw [hcc]
  cases two with
  | false =>
    simp (maxSteps := 2000000) +contextual only [c_l_FnConvoys, seqTl, seqHd, Wp_some, Wp_none, Wp_ite, Wc_some, Wc_none, Wc_ite, Wp_thenRun, seqQ_normal, seqQ_exit, seqQ_ret, Wp_inBlock, blkQ_normal, blkQ_ret, blkQ_same, blkQ_exit, Wp_opThen, opQ_at, Wp_guardP, retQ_normal, retQ_ret, loopQ_normal, loopQ_exit, loopQ_ret, go_sem, entry, joinEsc, if_pos, reduceIte, Nat.reduceAdd, Nat.reduceLeDiff, Nat.reduceLT, Nat.reduceEqDiff]
    have := hK []
    simp only [List.append_nil] at this
    exact this _ _ _ _ _ _ _ _ _ _ _ _
  | true =>
    obtain ⟨h3, h4, h5, h6, h7⟩ := h2 rfl
    have h' := on_facts h3
    have h8 := h'.x1; have h9 := h'.x2
    obtain ⟨X, rfl⟩ := Int.eq_ofNat_of_zero_le (show 0 ≤ x by omega)
    simp (maxSteps := 2000000) +contextual only [c_l_FnConvoys, seqTl, seqHd, Wp_some, Wp_none, Wp_ite, Wc_some, Wc_none, Wc_ite, Wp_thenRun, seqQ_normal, seqQ_exit, seqQ_ret, Wp_inBlock, blkQ_normal, blkQ_ret, blkQ_same, blkQ_exit, Wp_opThen, opQ_at, Wp_guardP, retQ_normal, retQ_ret, loopQ_normal, loopQ_exit, loopQ_ret, go_sem, entry, joinEsc, if_pos, reduceIte, Nat.reduceAdd, Nat.reduceLeDiff, Nat.reduceLT, Nat.reduceEqDiff]
    refine (cv_loop2 hu hq (by omega) h'.len (fun y hy => more_on h3 h4 h5 h6 (by omega) (by omega)) (fun y hy => h7 y (by omega))).mono ?_
    rintro _ _ ⟨rfl, G, v40, v41, v42, v59, v60, rfl⟩
    simp (maxSteps := 2000000) +contextual only [Wp_some, Wp_none, Wp_ite, Wc_some, Wc_none, Wc_ite, Wp_thenRun, seqQ_normal, seqQ_exit, seqQ_ret, Wp_inBlock, blkQ_normal, blkQ_ret, blkQ_same, blkQ_exit, Wp_opThen, opQ_at, Wp_guardP, retQ_normal, retQ_ret, loopQ_normal, loopQ_exit, loopQ_ret, go_sem, entry, joinEsc, if_pos, reduceIte, Nat.reduceAdd, Nat.reduceLeDiff, Nat.reduceLT, Nat.reduceEqDiff]
    exact hK _ _ _ _ _ _ _ _ _ _ _ _ _

theorem cv_no_end {w0 w2 w3 w4 w5 w6 w8 w9 w10 w11 w12 w13 w14 w15 w16 w17 w18 w19 w20 w21 w22 w23 w24 w25 w26 w27 w28 w29 w30 w31 w32 w33 w34 w35 w36 w37 w38 w39 w40 w41 w42 w43 w44 w45 w46 w47 w48 w49 w50 w51 w52 w53 w54 w55 w56 w57 w58 w59 w60 w61 w62 w63 : AV} {m0 : Mem} {L : List Blk} :
    Wp (run T pr (seqTl (seqTl (seqTl (seqTl (seqTl (seqTl (seqTl (seqTl (seqTl (seqTl (seqTl (seqTl (seqTl (seqTl (seqTl (seqTl (seqTl (seqTl c_l_FnConvoys)))))))))))))))))) ⟨(w0 :: (.bool false) :: w2 :: w3 :: w4 :: w5 :: w6 :: (.bool false) :: w8 :: w9 :: w10 :: w11 :: w12 :: w13 :: w14 :: w15 :: w16 :: w17 :: w18 :: w19 :: w20 :: w21 :: w22 :: w23 :: w24 :: w25 :: w26 :: w27 :: w28 :: w29 :: w30 :: w31 :: w32 :: w33 :: w34 :: w35 :: w36 :: w37 :: w38 :: w39 :: w40 :: w41 :: w42 :: w43 :: w44 :: w45 :: w46 :: w47 :: w48 :: w49 :: w50 :: w51 :: w52 :: w53 :: w54 :: w55 :: w56 :: w57 :: w58 :: w59 :: w60 :: w61 :: w62 :: w63 :: []), ⟨L, none⟩⟩) (retQ a_l_FnConvoys m0 fun v m => v = .bool true) := by
  simp (maxSteps := 2000000) +contextual only [a_l_FnConvoys, c_l_FnConvoys, seqTl, cv_fin, Wp_some, Wp_none, Wp_ite, Wc_some, Wc_none, Wc_ite, Wp_thenRun, seqQ_normal, seqQ_exit, seqQ_ret, Wp_inBlock, blkQ_normal, blkQ_ret, blkQ_same, blkQ_exit, Wp_opThen, opQ_at, Wp_guardP, retQ_normal, retQ_ret, loopQ_normal, loopQ_exit, loopQ_ret, go_sem, entry, joinEsc, if_pos, reduceIte, Nat.reduceAdd, Nat.reduceLeDiff, Nat.reduceLT, Nat.reduceEqDiff]

theorem cv_end {w0 w8 w9 w10 w11 w12 w13 w14 w15 w16 w17 w18 w19 w20 w21 w22 w23 w24 w25 w26 w27 w28 w29 w30 w31 w32 w33 w34 w35 w36 w37 w38 w39 w40 w41 w42 w43 w44 w45 w46 w47 w48 w49 w50 w51 w52 w53 w54 w55 w56 w57 w58 w59 w60 w61 w62 w63 : AV} {m0 : Mem} {u q X P : Nat} {c : Option Nat} {a b : Int} {ls : List Ld} {L : List Blk} (hu : cellsAt L u = some [.int .i64 X, .int .i64 a, .int .i64 b]) (hq : cellsAt L q = some (encL ls)) (hbm : beamOk X a b = true) (hcv : convOk ls = true) (hP : P ≤ X) :
    Wp (run T pr (seqTl (seqTl (seqTl (seqTl (seqTl (seqTl (seqTl (seqTl (seqTl (seqTl (seqTl (seqTl (seqTl (seqTl (seqTl (seqTl (seqTl (seqTl c_l_FnConvoys)))))))))))))))))) ⟨(w0 :: (.bool false) :: (.ptr (some (u, 0))) :: (slL q ls.length c) :: (.int .i64 P) :: (.int .i64 (wbR (fun y => bendZ a b (rowAt y ls) P) (X + 1)).1) :: (.int .i64 (wbR (fun y => bendZ a b (rowAt y ls) P) (X + 1)).2) :: (.bool true) :: w8 :: w9 :: w10 :: w11 :: w12 :: w13 :: w14 :: w15 :: w16 :: w17 :: w18 :: w19 :: w20 :: w21 :: w22 :: w23 :: w24 :: w25 :: w26 :: w27 :: w28 :: w29 :: w30 :: w31 :: w32 :: w33 :: w34 :: w35 :: w36 :: w37 :: w38 :: w39 :: w40 :: w41 :: w42 :: w43 :: w44 :: w45 :: w46 :: w47 :: w48 :: w49 :: w50 :: w51 :: w52 :: w53 :: w54 :: w55 :: w56 :: w57 :: w58 :: w59 :: w60 :: w61 :: w62 :: w63 :: []), ⟨L, none⟩⟩) (retQ a_l_FnConvoys m0 fun v m => v = .bool true) := by
  obtain ⟨J, j1, j2, j3, j4, j5⟩ := wbR_place (fun y => bendZ a b (rowAt y ls) P) X
  rw [j1]
  obtain ⟨R, hR⟩ : ∃ R, R = (seqTl (seqTl (seqTl (seqTl (seqTl (seqTl (seqTl (seqTl (seqTl (seqTl (seqTl (seqTl (seqTl (seqTl (seqTl (seqTl (seqTl (seqTl (seqTl (seqTl c_l_FnConvoys)))))))))))))))))))) := ⟨_, rfl⟩
  have hcc : (seqTl (seqTl (seqTl (seqTl (seqTl (seqTl (seqTl (seqTl (seqTl (seqTl (seqTl (seqTl (seqTl (seqTl (seqTl (seqTl (seqTl (seqTl c_l_FnConvoys)))))))))))))))))) = (.seq (seqHd (seqTl (seqTl (seqTl (seqTl (seqTl (seqTl (seqTl (seqTl (seqTl (seqTl (seqTl (seqTl (seqTl (seqTl (seqTl (seqTl (seqTl (seqTl c_l_FnConvoys))))))))))))))))))) (.seq (seqHd (seqTl (seqTl (seqTl (seqTl (seqTl (seqTl (seqTl (seqTl (seqTl (seqTl (seqTl (seqTl (seqTl (seqTl (seqTl (seqTl (seqTl (seqTl (seqTl c_l_FnConvoys)))))))))))))))))))) R)) := by rw [hR]; rfl
  rw [hcc]
  simp (maxSteps := 2000000) +contextual only [c_l_FnConvoys, seqTl, seqHd, Wp_some, Wp_none, Wp_ite, Wc_some, Wc_none, Wc_ite, Wp_thenRun, seqQ_normal, seqQ_exit, seqQ_ret, Wp_inBlock, blkQ_normal, blkQ_ret, blkQ_same, blkQ_exit, Wp_opThen, opQ_at, Wp_guardP, retQ_normal, retQ_ret, loopQ_normal, loopQ_exit, loopQ_ret, go_sem, entry, joinEsc, if_pos, reduceIte, Nat.reduceAdd, Nat.reduceLeDiff, Nat.reduceLT, Nat.reduceEqDiff]
  refine (cv_loop3 (J := J) hu hq hbm hcv hP (fun y hy => j5 y hy) (fun y hy => j4 y hy) j3).mono ?_
  rintro _ _ ⟨rfl, L2, v43, v44, v45, v46, v47, v62, v63, rfl⟩
  rw [hR]
  simp (maxSteps := 2000000) +contextual only [a_l_FnConvoys, c_l_FnConvoys, seqTl, seqHd, cv_fin, Wp_some, Wp_none, Wp_ite, Wc_some, Wc_none, Wc_ite, Wp_thenRun, seqQ_normal, seqQ_exit, seqQ_ret, Wp_inBlock, blkQ_normal, blkQ_ret, blkQ_same, blkQ_exit, Wp_opThen, opQ_at, Wp_guardP, retQ_normal, retQ_ret, loopQ_normal, loopQ_exit, loopQ_ret, go_sem, entry, joinEsc, if_pos, reduceIte, Nat.reduceAdd, Nat.reduceLeDiff, Nat.reduceLT, Nat.reduceEqDiff]

set_option maxHeartbeats 4000000 in
theorem wc_FnConvoys {p0 : Option (Nat × Nat)} {s0 n0 : Nat} {c0 : Option Nat} (hc0 : n0 ≤ 65536 → CodeAt H (.slice p0 s0 n0 c0)) : Wc (call T pr f_l_FnConvoys [.slice p0 s0 n0 c0] ⟨H, none⟩) (fun v m => v = .bool true) := by
  rw [call_wc t_l_FnConvoys]
  by_cases hb : 65536 < n0
  · have hb' : decide ((65536 : Int) < ((n0 : Nat) : Int)) = true := decide_eq_true (by omega)
    simp +contextual only [a_l_FnConvoys, c_l_FnConvoys, e_l_rBig, hb', Wp_some, Wp_none, Wp_ite, Wc_some, Wc_none, Wc_ite, Wp_thenRun, seqQ_normal, seqQ_exit, seqQ_ret, Wp_inBlock, blkQ_normal, blkQ_ret, blkQ_same, blkQ_exit, Wp_opThen, opQ_at, Wp_guardP, retQ_normal, retQ_ret, loopQ_normal, loopQ_exit, loopQ_ret, finish_one_eq, finish_one_eq0, finish_two_eq, finish_two_eq0, roots_slice_new, roots_slice_new0, roots_slice_none, roots_ptr_new, roots_ptr_new0, roots_int, roots_bool, roots_str, roots_agg, roots_tup, roots_cons, roots_nil, rename_slice, rename_slice_none, rename_ptr, rename_int, rename_bool, rename_str, rename_agg, rename_tup, rename_cons, rename_nil, keepBlks_nil, keepBlks_cons, flatAll_nil, flatAll_cons, flatBlk_cells, dedup_nil, dedup_one, dedup_two, renum_one, renum_one0, renum_two0, renum_two1, clean_none', clean_some, minEsc_none, minEsc_some, Nat.add_left_cancel_iff, Nat.le_add_right, Nat.le_refl, decide_true, go_sem, entry, joinEsc, if_pos, reduceIte, Nat.reduceAdd, Nat.reduceLeDiff, Nat.reduceLT, Nat.reduceEqDiff]
  · have hb' : decide ((65536 : Int) < ((n0 : Nat) : Int)) = false := decide_eq_false (by omega)
    have hc := hc0 (by omega)
    have bxx : ∀ x : Bool, (!decide (x = x)) = false := fun x => by simp
    have hbb : ∀ x : Bool, (!(x == x)) = false := fun x => by simp
    have hdd : ∀ x : Int, decide (x = x) = true := fun x => decide_eq_true rfl
    obtain ⟨R, hR⟩ : ∃ R, R = (seqTl (seqTl (seqTl (seqTl (seqTl c_l_FnConvoys))))) := ⟨_, rfl⟩
    have hcut : c_l_FnConvoys = (.seq (seqHd c_l_FnConvoys) (.seq (seqHd (seqTl c_l_FnConvoys)) (.seq (seqHd (seqTl (seqTl c_l_FnConvoys))) (.seq (seqHd (seqTl (seqTl (seqTl c_l_FnConvoys)))) (.seq (seqHd (seqTl (seqTl (seqTl (seqTl c_l_FnConvoys))))) R))))) := by rw [hR]; rfl
    show Wp (run T pr c_l_FnConvoys _) _
    rw [hcut]
    simp (maxSteps := 2000000) +contextual only [a_l_FnConvoys, c_l_FnConvoys, seqTl, seqHd, e_l_rBig, hb', Wp_some, Wp_none, Wp_ite, Wc_some, Wc_none, Wc_ite, Wp_thenRun, seqQ_normal, seqQ_exit, seqQ_ret, Wp_inBlock, blkQ_normal, blkQ_ret, blkQ_same, blkQ_exit, Wp_opThen, opQ_at, Wp_guardP, retQ_normal, retQ_ret, loopQ_normal, loopQ_exit, loopQ_ret, go_sem, entry, joinEsc, if_pos, reduceIte, Nat.reduceAdd, Nat.reduceLeDiff, Nat.reduceLT, Nat.reduceEqDiff]
    refine (wc_DrawWorstBend hc).mono ?_
    rintro v m ⟨x, a, b, p, ls, c1, rfl, hn1, rfl⟩
    by_cases hv : beamOk x a b = true ∧ convOk ls = true ∧ 0 ≤ p ∧ p ≤ x
    · obtain ⟨hv1, hv2, hv3, hv4⟩ := hv
      obtain ⟨X, rfl⟩ := Int.eq_ofNat_of_zero_le (show 0 ≤ x by omega)
      obtain ⟨P, rfl⟩ := Int.eq_ofNat_of_zero_le hv3
      have hi := fun G => e_i_WorstBend (pr := pr) (H := H ++ (.cells (encL ls) true :: G)) (e := none) (q := H.length) (c := c1) (ls := ls) (by simp +contextual only [go_sem, entry, joinEsc, if_pos, reduceIte, Nat.reduceAdd, Nat.reduceLeDiff, Nat.reduceLT, Nat.reduceEqDiff]) hv1 hv2 (P := P) (by omega)
      have hs := fun G => e_s_WorstBend (pr := pr) (H := H ++ (.cells (encL ls) true :: G)) (e := none) (q := H.length) (c := c1) (ls := ls) (by simp +contextual only [go_sem, entry, joinEsc, if_pos, reduceIte, Nat.reduceAdd, Nat.reduceLeDiff, Nat.reduceLT, Nat.reduceEqDiff]) hv1 hv2 (P := P) (by omega)
      simp (maxSteps := 2000000) +contextual only [hi, hs, bxx, hbb, hdd, beq_self_eq_true, Nat.add_assoc, decide_true, Wp_some, Wp_none, Wp_ite, Wc_some, Wc_none, Wc_ite, Wp_thenRun, seqQ_normal, seqQ_exit, seqQ_ret, Wp_inBlock, blkQ_normal, blkQ_ret, blkQ_same, blkQ_exit, Wp_opThen, opQ_at, Wp_guardP, retQ_normal, retQ_ret, loopQ_normal, loopQ_exit, loopQ_ret, go_sem, entry, joinEsc, if_pos, reduceIte, Nat.reduceAdd, Nat.reduceLeDiff, Nat.reduceLT, Nat.reduceEqDiff]
      rw [hR]
      refine cv_mid1 (hc.more _) ?_
      intro G1 x1 a1 b1 u1 q1 ls1 k1 v15 v16 v50 hu1 hq1
      refine cv_mid2 ((hc.more _).more _) ?_
      intro G2 x2 a2 b2 w2 lo hi2 u2 q2 ls2 k2 two v23 v24 v25 v51 hu2 hq2 h2
      refine cv_mid3 (((hc.more _).more _).more _) ?_
      intro G3 v26 v27 v28 v29 v30 v31 v32 v33 v52 v53
      refine cv_mid4 (cells_mono (cells_mono hu1 _) _) (cells_mono (cells_mono hq1 _) _) ?_
      intro G4 v11 v12 v13 v14 v34 v35 v36 v37 v38 v39 v54 v55 v56 v57
      refine cv_mid5 (cells_mono (cells_mono hu2 _) _) (cells_mono (cells_mono hq2 _) _) h2 ?_
      intro G5 v17 v18 v19 v20 v21 v22 v40 v41 v42 v58 v59 v60
      refine cv_end (u := H.length + 1) (q := H.length) ?_ ?_ hv1 hv2 (by omega)
      · exact cells_mono (cells_mono (cells_mono (cells_mono (cells_mono (by simp +contextual only [go_sem, entry, joinEsc, if_pos, reduceIte, Nat.reduceAdd, Nat.reduceLeDiff, Nat.reduceLT, Nat.reduceEqDiff]) _) _) _) _) _
      · exact cells_mono (cells_mono (cells_mono (cells_mono (cells_mono (by simp +contextual only [go_sem, entry, joinEsc, if_pos, reduceIte, Nat.reduceAdd, Nat.reduceLeDiff, Nat.reduceLT, Nat.reduceEqDiff]) _) _) _) _) _
    · have hi := fun G => e_i_WorstBend_bad (pr := pr) (H := H ++ (.cells (encL ls) true :: G)) (e := none) (q := H.length) (c := c1) (ls := ls) (by simp +contextual only [go_sem, entry, joinEsc, if_pos, reduceIte, Nat.reduceAdd, Nat.reduceLeDiff, Nat.reduceLT, Nat.reduceEqDiff]) (by omega) hv
      have hs := fun G => e_s_WorstBend_bad (pr := pr) (H := H ++ (.cells (encL ls) true :: G)) (e := none) (q := H.length) (c := c1) (ls := ls) (by simp +contextual only [go_sem, entry, joinEsc, if_pos, reduceIte, Nat.reduceAdd, Nat.reduceLeDiff, Nat.reduceLT, Nat.reduceEqDiff]) (by omega) hv
      simp (maxSteps := 2000000) +contextual only [hi, hs, bxx, hbb, hdd, beq_self_eq_true, Nat.add_assoc, decide_true, Wp_some, Wp_none, Wp_ite, Wc_some, Wc_none, Wc_ite, Wp_thenRun, seqQ_normal, seqQ_exit, seqQ_ret, Wp_inBlock, blkQ_normal, blkQ_ret, blkQ_same, blkQ_exit, Wp_opThen, opQ_at, Wp_guardP, retQ_normal, retQ_ret, loopQ_normal, loopQ_exit, loopQ_ret, go_sem, entry, joinEsc, if_pos, reduceIte, Nat.reduceAdd, Nat.reduceLeDiff, Nat.reduceLT, Nat.reduceEqDiff]
      rw [hR]
      refine cv_mid1 (hc.more _) ?_
      intro G1 x1 a1 b1 u1 q1 ls1 k1 v15 v16 v50 hu1 hq1
      refine cv_mid2 ((hc.more _).more _) ?_
      intro G2 x2 a2 b2 w2 lo hi2 u2 q2 ls2 k2 two v23 v24 v25 v51 hu2 hq2 h2
      refine cv_mid3 (((hc.more _).more _).more _) ?_
      intro G3 v26 v27 v28 v29 v30 v31 v32 v33 v52 v53
      refine cv_mid4 (cells_mono (cells_mono hu1 _) _) (cells_mono (cells_mono hq1 _) _) ?_
      intro G4 v11 v12 v13 v14 v34 v35 v36 v37 v38 v39 v54 v55 v56 v57
      refine cv_mid5 (cells_mono (cells_mono hu2 _) _) (cells_mono (cells_mono hq2 _) _) h2 ?_
      intro G5 v17 v18 v19 v20 v21 v22 v40 v41 v42 v58 v59 v60
      exact cv_no_end

theorem law_Convoys {av : AV} {zs : List Int} (h : ArgB H av zs) : ∃ m', call T pr f_l_FnConvoys [av] ⟨H, none⟩ = some (.bool true, m') := by
  obtain ⟨p, sz, n, c, rfl, hc⟩ := h.form
  obtain ⟨v, m, h1, rfl⟩ := wc_FnConvoys (pr := pr) hc
  exact ⟨m, h1⟩

end Go.Proofs.Ytaikmfldjkbmmaa.Slim
