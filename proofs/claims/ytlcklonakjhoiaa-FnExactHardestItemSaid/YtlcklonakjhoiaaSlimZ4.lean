/- Rows of loads: how they lie in memory, and the laws' own small functions. -/
import Derived.Test.YtlcklonakjhoiaaSlimZ3
/- Rows of loads: how they lie in memory, and the laws' own small functions. -/
namespace Go.Proofs.Ytlcklonakjhoiaa.Slim
open Go
set_option linter.unusedSimpArgs false
set_option linter.unusedVariables false

/-- a load: its place and its weight -/
abbrev Ld := Int × Int
def encL : List Ld → List AV
  | [] => []
  | l :: ls => .int .i64 l.1 :: .int .i64 l.2 :: encL ls

theorem encL_length : ∀ ls : List Ld, (encL ls).length = ls.length * 2
  | [] => rfl
  | l :: ls => by simp [encL, encL_length ls]; omega

theorem encL_append : ∀ a b : List Ld, encL (a ++ b) = encL a ++ encL b
  | [], b => rfl
  | l :: a, b => by simp [encL, encL_append a b]

theorem part_encL {ls : List Ld} {i : Nat} {l : Ld} (h : ls[i]? = some l) : part true (encL ls) (i * 2) 2 = some (.agg [.int .i64 l.1, .int .i64 l.2]) := by
  induction ls generalizing i with
  | nil => simp at h
  | cons a ls ih =>
    cases i with
    | zero => simp at h; subst h; simp [encL, part]
    | succ i =>
      simp at h
      rw [show (i + 1) * 2 = i * 2 + 1 + 1 by omega, encL, part_tk, part_tk]
      exact ih h
theorem part_encL0 {ls : List Ld} {i : Nat} {l : Ld} (sz : Nat) (h : ls[i]? = some l) : part false (encL ls) (i * 2) sz = some (.int .i64 l.1) := by
  induction ls generalizing i with
  | nil => simp at h
  | cons a ls ih =>
    cases i with
    | zero => simp at h; subst h; simp [encL, part]
    | succ i =>
      simp at h
      rw [show (i + 1) * 2 = i * 2 + 1 + 1 by omega, encL, part_fk, part_fk]
      exact ih h
theorem part_encL1 {ls : List Ld} {i : Nat} {l : Ld} (sz : Nat) (h : ls[i]? = some l) : part false (encL ls) (i * 2 + 1) sz = some (.int .i64 l.2) := by
  induction ls generalizing i with
  | nil => simp at h
  | cons a ls ih =>
    cases i with
    | zero => simp at h; subst h; simp [encL, part]
    | succ i =>
      simp at h
      rw [show (i + 1) * 2 + 1 = i * 2 + 1 + 1 + 1 by omega, encL, part_fk, part_fk]
      exact ih h

/-- a slice of loads, wherever it lies -/
abbrev slL (b n : Nat) (c : Option Nat) : AV := .slice (some (b, 0)) 2 n c

theorem cells_mono {H : List Blk} {b : Nat} {cs : List AV} (h : cellsAt H b = some cs) (G : List Blk) : cellsAt (H ++ G) b = some cs := cellsAt_old G h

theorem wrap_succ {i : Nat} (h : i < 9223372036854775807) : IntKind.i64.wrap ((i : Int) + 1) = ((i + 1 : Nat) : Int) := by
  rw [wrap64 (by omega) (by omega)]; omega

variable {pr : Prims} {H : List Blk} {e : Option Nat}

theorem e_l_toLoad (x a : Int) : call T pr f_l_toLoad [.agg [.int .i64 x, .int .i64 a]] ⟨H, e⟩ = some (.agg [.int .i64 x, .int .i64 a], ⟨H, e⟩) := by
  rw [call_eq t_l_toLoad]
  simp +contextual only [a_l_toLoad, c_l_toLoad, go_sem, entry, joinEsc, if_pos, reduceIte, Nat.reduceAdd, Nat.reduceLeDiff, Nat.reduceLT, Nat.reduceEqDiff]

theorem e_l_eqLoad (x a y b : Int) : call T pr f_l_eqLoad [.agg [.int .i64 x, .int .i64 a], .agg [.int .i64 y, .int .i64 b]] ⟨H, e⟩ = some (.bool (decide (x = y) && decide (a = b)), ⟨H, e⟩) := by
  rw [call_eq t_l_eqLoad]
  simp +contextual only [a_l_eqLoad, c_l_eqLoad, go_sem, entry, joinEsc, if_pos, reduceIte, Nat.reduceAdd, Nat.reduceLeDiff, Nat.reduceLT, Nat.reduceEqDiff]
  by_cases h1 : x = y <;> by_cases h2 : a = b <;> simp [h1, h2]

theorem e_l_szLoadS (n : Nat) (p : Option (Nat × Nat)) (sz : Nat) (c : Option Nat) (hn : n ≤ maxLen) : call T pr f_l_szLoadS [.slice p sz n c, .int .i64 1048576] ⟨H, e⟩ = some (.int .i64 (if n ≤ 1048576 then 1048576 - n else -1), ⟨H, e⟩) := by
  rw [call_eq t_l_szLoadS]
  have hm : maxLen = 9223372036854775807 := by decide
  simp +contextual only [a_l_szLoadS, c_l_szLoadS, go_sem, entry, joinEsc, if_pos, reduceIte, Nat.reduceAdd, Nat.reduceLeDiff, Nat.reduceLT, Nat.reduceEqDiff]
  rw [wrap64 (by omega) (by omega)]
  by_cases h1 : n ≤ 1048576
  · rw [if_neg (by omega), if_pos h1]
  · rw [if_pos (by omega), if_neg h1]

/-- the loop of eqLoadS -/
theorem loop_l_eqLoadS {b1 b2 : Nat} {c1 c2 : Option Nat} {ls : List Ld} (h1 : cellsAt H b1 = some (encL ls)) (h2 : cellsAt H b2 = some (encL ls)) (hn : ls.length ≤ 9223372036854775806) :
    ∀ (k i : Nat) (x5 x6 x7 : AV), k + i = ls.length → ∃ y5 y6, run T pr (.loop w_l_eqLoadS_1) ⟨[slL b1 ls.length c1, slL b2 ls.length c2, .bool false, .int .i64 i, x7, x5, x6], ⟨H, e⟩⟩ =
      some (.exit 0, ⟨[slL b1 ls.length c1, slL b2 ls.length c2, .bool false, .int .i64 ls.length, x7, y5, y6], ⟨H, e⟩⟩)
  | 0, i, x5, x6, x7, hk => by
    have hi : i = ls.length := by omega
    subst hi
    refine ⟨.bool false, x6, ?_⟩
    rw [run_loop]
    simp +contextual only [w_l_eqLoadS_1, Nat.lt_irrefl, decide_false, go_sem, entry, joinEsc, if_pos, reduceIte, Nat.reduceAdd, Nat.reduceLeDiff, Nat.reduceLT, Nat.reduceEqDiff]
  | k + 1, i, x5, x6, x7, hk => by
    have hi : i < ls.length := by omega
    obtain ⟨y5, y6, ih⟩ := loop_l_eqLoadS (c1 := c1) (c2 := c2) h1 h2 hn k (i + 1) (.bool true) (.bool false) x7 (by omega)
    refine ⟨y5, y6, ?_⟩
    rw [run_loop]
    have hl : ls[i]? = some ls[i] := List.getElem?_eq_getElem hi
    simp +contextual only [w_l_eqLoadS_1, h1, h2, hi, hl, part_encL hl, e_l_eqLoad, wrap_succ (show i < 9223372036854775807 by omega), decide_true, Bool.not_true, go_sem, entry, joinEsc, if_pos, reduceIte, Nat.reduceAdd, Nat.reduceLeDiff, Nat.reduceLT, Nat.reduceEqDiff]
    exact ih

end Go.Proofs.Ytlcklonakjhoiaa.Slim

/- The reference's and the program's small functions on rows. -/
namespace Go.Proofs.Ytlcklonakjhoiaa.Slim
open Go
set_option linter.unusedSimpArgs false
set_option linter.unusedVariables false

variable {pr : Prims} {H : List Blk} {e : Option Nat}

theorem e_i_within (x a b : Int) : call T pr f_i_within [.int .i64 x, .int .i64 a, .int .i64 b] ⟨H, e⟩ = some (.bool (decide (a ≤ x) && decide (x ≤ b)), ⟨H, e⟩) := by
  rw [call_eq t_i_within]
  simp +contextual only [a_i_within, c_i_within, go_sem, entry, joinEsc, if_pos, reduceIte, Nat.reduceAdd, Nat.reduceLeDiff, Nat.reduceLT, Nat.reduceEqDiff]

theorem e_s_l1In (x a b : Int) : call T pr f_s_l1In [.int .i64 x, .int .i64 a, .int .i64 b] ⟨H, e⟩ = some (.bool (decide (a ≤ x) && decide (x ≤ b)), ⟨H, e⟩) := by
  rw [call_eq t_s_l1In]
  simp +contextual only [a_s_l1In, c_s_l1In, go_sem, entry, joinEsc, if_pos, reduceIte, Nat.reduceAdd, Nat.reduceLeDiff, Nat.reduceLT, Nat.reduceEqDiff]

theorem e_s_l2In (x : Int) : call T pr f_s_l2In [.int .i64 x] ⟨H, e⟩ = some (.bool (decide (0 ≤ x) && decide (x ≤ 60)), ⟨H, e⟩) := by
  rw [call_eq t_s_l2In]
  simp +contextual only [a_s_l2In, c_s_l2In, e_s_l1In, go_sem, entry, joinEsc, if_pos, reduceIte, Nat.reduceAdd, Nat.reduceLeDiff, Nat.reduceLT, Nat.reduceEqDiff]

theorem e_i_isPlace (x : Int) : call T pr f_i_isPlace [.int .i64 x] ⟨H, e⟩ = some (.bool (decide (0 ≤ x) && decide (x ≤ 60)), ⟨H, e⟩) := by
  rw [call_eq t_i_isPlace]
  simp +contextual only [a_i_isPlace, c_i_isPlace, e_i_within, go_sem, entry, joinEsc, if_pos, reduceIte, Nat.reduceAdd, Nat.reduceLeDiff, Nat.reduceLT, Nat.reduceEqDiff]

theorem e_i_isWeight (x : Int) : call T pr f_i_isWeight [.int .i64 x] ⟨H, e⟩ = some (.bool (decide (1 ≤ x) && decide (x ≤ 99)), ⟨H, e⟩) := by
  rw [call_eq t_i_isWeight]
  simp +contextual only [a_i_isWeight, c_i_isWeight, e_i_within, go_sem, entry, joinEsc, if_pos, reduceIte, Nat.reduceAdd, Nat.reduceLeDiff, Nat.reduceLT, Nat.reduceEqDiff]

def okL (l : Ld) : Bool := (decide (0 ≤ l.1) && decide (l.1 ≤ 60)) && (decide (1 ≤ l.2) && decide (l.2 ≤ 99))
def rowOk (ls : List Ld) : Bool := decide (ls.length ≤ 12) && ls.all okL

theorem e_i_IsRow_1 (x y : Int) : call T pr f_i_IsRow_1 [.agg [.int .i64 x, .int .i64 y]] ⟨H, e⟩ = some (.bool (!okL (x, y)), ⟨H, e⟩) := by
  rw [call_eq t_i_IsRow_1]
  simp +contextual only [a_i_IsRow_1, c_i_IsRow_1, e_i_isPlace, e_i_isWeight, go_sem, entry, joinEsc, if_pos, reduceIte, Nat.reduceAdd, Nat.reduceLeDiff, Nat.reduceLT, Nat.reduceEqDiff]
  unfold okL
  by_cases h1 : (decide (0 ≤ x) && decide (x ≤ 60)) = true <;> simp [h1, finish_one, finish_one', under_bool]

/-- the loop of l2Row -/
theorem loop_s_l2Row {b : Nat} {c : Option Nat} {ls : List Ld} (h : cellsAt H b = some (encL ls)) :
    ∀ (k i : Nat) (y3 y4 : AV), k + i = 13 → ∃ z2 z3 z4, run T pr (.loop w_s_l2Row_1) ⟨[slL b ls.length c, .bool false, .int .i64 i, y3, y4], ⟨H, e⟩⟩ =
      some (if ((ls.drop i).take k).all okL = true then Ex.exit 0 else Ex.ret, ⟨[slL b ls.length c, .bool false, z2, z3, z4], ⟨H, e⟩⟩)
  | 0, i, y3, y4, hk => by
    have hi : i = 13 := by omega
    subst hi
    refine ⟨.int .i64 13, .bool false, y4, ?_⟩
    rw [run_loop]
    generalize run T pr (.loop w_s_l2Row_1) = R
    have h12 : ¬ ((13 : Nat) : Int) ≤ 12 := by omega
    simp +contextual only [w_s_l2Row_1, List.take_zero, List.all_nil, h12, decide_false, go_sem, entry, joinEsc, if_pos, reduceIte, Nat.reduceAdd, Nat.reduceLeDiff, Nat.reduceLT, Nat.reduceEqDiff]
    rfl
  | k + 1, i, y3, y4, hk => by
    by_cases hi : i < ls.length
    · have hl : ls[i]? = some ls[i] := List.getElem?_eq_getElem hi
      have h12 : ((i : Nat) : Int) ≤ 12 := by omega
      obtain ⟨z2, z3, z4, ih⟩ := loop_s_l2Row (c := c) h k (i + 1) (.bool true) (.bool false) (by omega)
      rw [List.drop_eq_getElem_cons hi, List.take_succ_cons, List.all_cons]
      have hok : okL ls[i] = ((decide (0 ≤ ls[i].1) && decide (ls[i].1 ≤ 60)) && (decide (1 ≤ ls[i].2) && decide (ls[i].2 ≤ 99))) := rfl
      rw [hok, run_loop]
      generalize run T pr (.loop w_s_l2Row_1) = R at ih ⊢
      cases h1 : (decide (0 ≤ ls[i].1) && decide (ls[i].1 ≤ 60)) with
      | false =>
        refine ⟨.int .i64 i, .bool true, .bool true, ?_⟩
        simp +contextual only [w_s_l2Row_1, h, hi, hl, h1, h12, part_encL0 _ hl, part_encL1 _ hl, e_s_l2In, e_s_l1In, decide_true, go_sem, entry, joinEsc, if_pos, reduceIte, Nat.reduceAdd, Nat.reduceLeDiff, Nat.reduceLT, Nat.reduceEqDiff]
      | true =>
        cases h2 : (decide (1 ≤ ls[i].2) && decide (ls[i].2 ≤ 99)) with
        | false =>
          refine ⟨.int .i64 i, .bool true, .bool true, ?_⟩
          simp +contextual only [w_s_l2Row_1, h, hi, hl, h1, h2, h12, part_encL0 _ hl, part_encL1 _ hl, e_s_l2In, e_s_l1In, decide_true, go_sem, entry, joinEsc, if_pos, reduceIte, Nat.reduceAdd, Nat.reduceLeDiff, Nat.reduceLT, Nat.reduceEqDiff]
        | true =>
          refine ⟨z2, z3, z4, ?_⟩
          simp +contextual only [w_s_l2Row_1, h, hi, hl, h1, h2, h12, part_encL0 _ hl, part_encL1 _ hl, e_s_l2In, e_s_l1In, wrap_succ (show i < 9223372036854775807 by omega), decide_true, go_sem, entry, joinEsc, if_pos, reduceIte, Nat.reduceAdd, Nat.reduceLeDiff, Nat.reduceLT, Nat.reduceEqDiff]
          exact ih
    · refine ⟨.int .i64 i, .bool false, y4, ?_⟩
      rw [run_loop]
      generalize run T pr (.loop w_s_l2Row_1) = R
      have hd : ls.drop i = [] := List.drop_eq_nil_of_le (by omega)
      simp +contextual only [w_s_l2Row_1, hd, List.take_nil, List.all_nil, hi, decide_false, go_sem, entry, joinEsc, if_pos, reduceIte, Nat.reduceAdd, Nat.reduceLeDiff, Nat.reduceLT, Nat.reduceEqDiff]

theorem e_s_l2Row {b : Nat} {c : Option Nat} {ls : List Ld} (h : cellsAt H b = some (encL ls)) : call T pr f_s_l2Row [slL b ls.length c] ⟨H, e⟩ = some (.bool (rowOk ls), ⟨H, e⟩) := by
  obtain ⟨z2, z3, z4, hl⟩ := loop_s_l2Row (pr := pr) (e := none) (c := c) h 13 0 .undef .undef rfl
  rw [call_eq t_s_l2Row]
  have h0 : ((0 : Nat) : Int) = 0 := rfl
  rw [h0] at hl
  simp +contextual only [a_s_l2Row, c_s_l2Row, hl, List.drop_zero, go_sem, entry, joinEsc, if_pos, reduceIte, Nat.reduceAdd, Nat.reduceLeDiff, Nat.reduceLT, Nat.reduceEqDiff]
  have hr : rowOk ls = (decide (ls.length ≤ 12) && (ls.take 13).all okL) := by
    unfold rowOk
    by_cases h12 : ls.length ≤ 12
    · rw [List.take_of_length_le (by omega)]
    · simp [h12]
  rw [hr]
  have hi : ((ls.length : Nat) : Int) ≤ 12 ↔ ls.length ≤ 12 := by omega
  cases h3 : (ls.take 13).all okL <;> simp +contextual only [hi, go_sem, entry, joinEsc, if_pos, reduceIte, Nat.reduceAdd, Nat.reduceLeDiff, Nat.reduceLT, Nat.reduceEqDiff] <;> simp [finish_one']

end Go.Proofs.Ytlcklonakjhoiaa.Slim

/- Copies of rows, searches in rows, and moments. -/
namespace Go.Proofs.Ytlcklonakjhoiaa.Slim
open Go
set_option linter.unusedSimpArgs false
set_option linter.unusedVariables false

variable {pr : Prims} {H : List Blk} {e : Option Nat}

theorem setRange_encL {X : List Ld} {i : Nat} {a b : Int} (h : i < X.length) : setRange (encL X) (i * 2) [.int .i64 a, .int .i64 b] = encL (X.set i (a, b)) := by
  induction X generalizing i with
  | nil => simp at h
  | cons x X ih =>
    cases i with
    | zero => simp [encL, setRange]
    | succ i =>
      rw [show (i + 1) * 2 = i * 2 + 1 + 1 by omega, encL, setRange_k, setRange_k, ih (by simpa using h)]
      rfl

theorem under_encL (n : Nat) : ∀ ls : List Ld, ((encL ls).all fun c => c.under n) = true
  | [] => rfl
  | l :: ls => by simp [encL, AV.under, under_encL n ls]

theorem zeros_encL : ∀ n, zeros n [.int .i64 0, .int .i64 0] = encL (List.replicate n (0, 0))
  | 0 => rfl
  | n + 1 => by
    have := zeros_encL n
    unfold zeros at *
    simp only [List.replicate_succ, List.flatten_cons, encL, List.cons_append, List.nil_append, this]

theorem take_set_succ {X ls : List Ld} {i : Nat} (hi : i < ls.length) (hX : X.length = ls.length) (h : X.take i = ls.take i) : (X.set i ls[i]).take (i + 1) = ls.take (i + 1) := by
  rw [List.take_succ_eq_append_getElem (by rw [List.length_set]; omega), List.take_succ_eq_append_getElem hi]
  rw [List.take_set_of_le (Nat.le_refl _), h]
  simp

/-- a slice of loads, as a law is handed it: nil or not -/
def ArgL (H : List Blk) (av : AV) (ls : List Ld) : Prop :=
  ∃ p sz c, av = .slice p sz ls.length c ∧ ls.length ≤ maxLen ∧ (ls ≠ [] → sz = 2 ∧ ∃ b, p = some (b, 0) ∧ cellsAt H b = some (encL ls))

/-- the loop of toLoadS -/
theorem loop_l_toLoadS {p : Option (Nat × Nat)} {sz : Nat} {c : Option Nat} {ls : List Ld} {r : AV} (ha : ls ≠ [] → sz = 2 ∧ ∃ b, p = some (b, 0) ∧ cellsAt H b = some (encL ls)) (hn : ls.length ≤ 1048576) :
    ∀ (k i : Nat) (X : List Ld) (y4 : AV), k + i = ls.length → X.length = ls.length → X.take i = ls.take i → ∃ z4, run T pr (.loop w_l_toLoadS_1) ⟨[.slice p sz ls.length c, r, slL H.length ls.length (some ls.length), .int .i64 i, y4], ⟨H ++ [.cells (encL X) true], e⟩⟩ =
      some (Ex.exit 0, ⟨[.slice p sz ls.length c, r, slL H.length ls.length (some ls.length), .int .i64 ls.length, z4], ⟨H ++ [.cells (encL ls) true], e⟩⟩)
  | 0, i, X, y4, hk, hX, ht => by
    have hi : i = ls.length := by omega
    subst hi
    rw [List.take_of_length_le (by omega), List.take_of_length_le (by omega)] at ht
    subst ht
    refine ⟨.bool false, ?_⟩
    rw [run_loop]
    generalize run T pr (.loop w_l_toLoadS_1) = R
    simp +contextual only [w_l_toLoadS_1, Nat.lt_irrefl, decide_false, go_sem, entry, joinEsc, if_pos, reduceIte, Nat.reduceAdd, Nat.reduceLeDiff, Nat.reduceLT, Nat.reduceEqDiff]
  | k + 1, i, X, y4, hk, hX, ht => by
    have hi : i < ls.length := by omega
    have hl : ls[i]? = some ls[i] := List.getElem?_eq_getElem hi
    obtain ⟨rfl, b, rfl, hb⟩ := ha (by intro h; subst h; simp at hi)
    obtain ⟨z4, ih⟩ := loop_l_toLoadS (c := c) (r := r) ha hn k (i + 1) (X.set i ls[i]) (.bool true) (by omega) (by simpa using hX) (take_set_succ hi hX ht)
    refine ⟨z4, ?_⟩
    rw [run_loop]
    generalize run T pr (.loop w_l_toLoadS_1) = R at ih ⊢
    have hle : i * 2 + 2 ≤ (encL X).length := by rw [encL_length]; omega
    simp +contextual only [w_l_toLoadS_1, cells_mono hb, hi, hl, part_encL hl, e_l_toLoad, hle, setRange_encL (show i < X.length by omega), wrap_succ (show i < 9223372036854775807 by omega), decide_true, go_sem, entry, joinEsc, if_pos, reduceIte, Nat.reduceAdd, Nat.reduceLeDiff, Nat.reduceLT, Nat.reduceEqDiff]
    exact ih

theorem e_l_toLoadS {av : AV} {ls : List Ld} (ha : ArgL H av ls) (hn : ls.length ≤ 1048576) : call T pr f_l_toLoadS [av] ⟨H, e⟩ = some (slL H.length ls.length (some ls.length), ⟨H ++ [.cells (encL ls) true], e⟩) := by
  obtain ⟨p, sz, c, rfl, _, ha⟩ := ha
  obtain ⟨z4, hl⟩ := loop_l_toLoadS (pr := pr) (e := none) (c := c) (r := .slice none 0 0 none) ha hn ls.length 0 (List.replicate ls.length (0, 0)) .undef (by omega) (by simp) (by simp)
  rw [call_eq t_l_toLoadS]
  have h0 : ((0 : Nat) : Int) = 0 := rfl
  have hmb : (ls.length : Int) * ((16 : Nat) : Int) ≤ ((maxBytes : Nat) : Int) := by unfold maxBytes; omega
  rw [h0, ← zeros_encL] at hl
  simp +contextual only [a_l_toLoadS, c_l_toLoadS, hmb, hl, under_encL, go_sem, entry, joinEsc, if_pos, reduceIte, Nat.reduceAdd, Nat.reduceLeDiff, Nat.reduceLT, Nat.reduceEqDiff]

end Go.Proofs.Ytlcklonakjhoiaa.Slim

/- Searches in rows, and moments. -/
namespace Go.Proofs.Ytlcklonakjhoiaa.Slim
open Go
set_option linter.unusedSimpArgs false
set_option linter.unusedVariables false

variable {pr : Prims} {H : List Blk} {e : Option Nat}

abbrev ldV (l : Ld) : AV := .agg [.int .i64 l.1, .int .i64 l.2]

/-- the loop of IndexFunc -/
theorem loop_IndexFunc {b : Nat} {c : Option Nat} {ls : List Ld} {g : FuncId} {first cap : List AV} {p : Ld → Bool} {r : AV} (h : cellsAt H b = some (encL ls)) (hn : ls.length ≤ 9223372036854775806)
    (hf : ∀ l ∈ ls, call T pr g (first ++ AV.agg [.int .i64 l.1, .int .i64 l.2] :: cap) ⟨H, e⟩ = some (.bool (p l), ⟨H, e⟩)) :
    ∀ (k i : Nat) (y3 y6 y7 : AV), k + i = ls.length → ∃ (j : Nat) (z3 z5 z6 z7 : AV), run T pr (.loop w_slices_IndexFunc_Si_Load_i_Load_1) ⟨[slL b ls.length c, .fn g first cap, r, y3, .int .i64 ls.length, .int .i64 i, y6, y7], ⟨H, e⟩⟩ =
      some (if (ls.drop i).any p = true then Ex.ret else Ex.exit 0, ⟨[slL b ls.length c, .fn g first cap, if (ls.drop i).any p = true then .int .i64 j else r, z3, .int .i64 ls.length, z5, z6, z7], ⟨H, e⟩⟩)
  | 0, i, y3, y6, y7, hk => by
    have hi : i = ls.length := by omega
    subst hi
    refine ⟨0, y3, .int .i64 ls.length, .bool false, y7, ?_⟩
    rw [run_loop]
    generalize run T pr (.loop w_slices_IndexFunc_Si_Load_i_Load_1) = R
    simp +contextual only [w_slices_IndexFunc_Si_Load_i_Load_1, Nat.lt_irrefl, decide_false, List.drop_length, List.any_nil, go_sem, entry, joinEsc, if_pos, reduceIte, Nat.reduceAdd, Nat.reduceLeDiff, Nat.reduceLT, Nat.reduceEqDiff]
  | k + 1, i, y3, y6, y7, hk => by
    have hi : i < ls.length := by omega
    have hl : ls[i]? = some ls[i] := List.getElem?_eq_getElem hi
    have hc := hf ls[i] (List.getElem_mem hi)
    rw [run_loop, List.drop_eq_getElem_cons hi, List.any_cons]
    obtain ⟨j, z3, z5, z6, z7, ih⟩ := loop_IndexFunc (c := c) (r := r) h hn hf k (i + 1) (.int .i64 i) (.bool true) (.bool false) (by omega)
    generalize run T pr (.loop w_slices_IndexFunc_Si_Load_i_Load_1) = R at ih ⊢
    cases hp : p ls[i] with
    | true =>
      refine ⟨i, .int .i64 i, .int .i64 i, .bool true, .bool true, ?_⟩
      rw [hp] at hc
      simp +contextual only [w_slices_IndexFunc_Si_Load_i_Load_1, h, hi, hl, part_encL hl, hc, decide_true, go_sem, entry, joinEsc, if_pos, reduceIte, Nat.reduceAdd, Nat.reduceLeDiff, Nat.reduceLT, Nat.reduceEqDiff]
    | false =>
      refine ⟨j, z3, z5, z6, z7, ?_⟩
      rw [hp] at hc
      simp +contextual only [w_slices_IndexFunc_Si_Load_i_Load_1, h, hi, hl, part_encL hl, hc, wrap_succ (show i < 9223372036854775807 by omega), decide_true, go_sem, entry, joinEsc, if_pos, reduceIte, Nat.reduceAdd, Nat.reduceLeDiff, Nat.reduceLT, Nat.reduceEqDiff]
      exact ih

theorem e_IndexFunc {b : Nat} {c : Option Nat} {ls : List Ld} {g : FuncId} {first cap : List AV} {p : Ld → Bool} (h : cellsAt H b = some (encL ls)) (hn : ls.length ≤ 9223372036854775806)
    (hf : ∀ l ∈ ls, call T pr g (first ++ AV.agg [.int .i64 l.1, .int .i64 l.2] :: cap) ⟨H, none⟩ = some (.bool (p l), ⟨H, none⟩)) :
    ∃ j : Nat, call T pr f_slices_IndexFunc_Si_Load_i_Load [slL b ls.length c, .fn g first cap] ⟨H, e⟩ = some (.int .i64 (if ls.any p = true then j else -1), ⟨H, e⟩) := by
  obtain ⟨j, z3, z5, z6, z7, hl⟩ := loop_IndexFunc (pr := pr) (e := none) (c := c) (r := .int .i64 0) h hn hf ls.length 0 .undef .undef .undef rfl
  refine ⟨j, ?_⟩
  have h0 : ((0 : Nat) : Int) = 0 := rfl
  rw [h0] at hl
  rw [call_eq t_slices_IndexFunc_Si_Load_i_Load]
  simp +contextual only [a_slices_IndexFunc_Si_Load_i_Load, c_slices_IndexFunc_Si_Load_i_Load, hl, go_sem, entry, joinEsc, if_pos, reduceIte, Nat.reduceAdd, Nat.reduceLeDiff, Nat.reduceLT, Nat.reduceEqDiff]
  cases hp : ls.any p <;> simp +contextual only [go_sem, entry, joinEsc, if_pos, reduceIte, Nat.reduceAdd, Nat.reduceLeDiff, Nat.reduceLT, Nat.reduceEqDiff]

theorem e_ContainsFunc {b : Nat} {c : Option Nat} {ls : List Ld} {g : FuncId} {first cap : List AV} {p : Ld → Bool} (h : cellsAt H b = some (encL ls)) (hn : ls.length ≤ 9223372036854775806)
    (hf : ∀ l ∈ ls, call T pr g (first ++ AV.agg [.int .i64 l.1, .int .i64 l.2] :: cap) ⟨H, none⟩ = some (.bool (p l), ⟨H, none⟩)) :
    call T pr f_slices_ContainsFunc_Si_Load_i_Load [slL b ls.length c, .fn g first cap] ⟨H, e⟩ = some (.bool (ls.any p), ⟨H, e⟩) := by
  obtain ⟨j, hl⟩ := e_IndexFunc (pr := pr) (e := none) (c := c) h hn hf
  rw [call_eq t_slices_ContainsFunc_Si_Load_i_Load]
  simp +contextual only [a_slices_ContainsFunc_Si_Load_i_Load, c_slices_ContainsFunc_Si_Load_i_Load, hl, go_sem, entry, joinEsc, if_pos, reduceIte, Nat.reduceAdd, Nat.reduceLeDiff, Nat.reduceLT, Nat.reduceEqDiff]
  cases hp : ls.any p <;> simp +contextual [finish_one', under_bool]

theorem e_i_IsRow {b : Nat} {c : Option Nat} {ls : List Ld} (h : cellsAt H b = some (encL ls)) : call T pr f_i_IsRow [slL b ls.length c] ⟨H, e⟩ = some (.bool (rowOk ls), ⟨H, e⟩) := by
  rw [call_eq t_i_IsRow]
  have hi : (12 : Int) < ((ls.length : Nat) : Int) ↔ 12 < ls.length := by omega
  by_cases h12 : ls.length ≤ 12
  · have hc := e_ContainsFunc (pr := pr) (e := none) (c := c) (g := f_i_IsRow_1) (first := []) (cap := []) (p := fun l => !okL l) h (by omega) (fun l _ => e_i_IsRow_1 l.1 l.2)
    have h12' : ¬ 12 < ls.length := by omega
    have hr : rowOk ls = !(ls.any fun l => !okL l) := by
      unfold rowOk
      rw [List.any_eq_not_all_not]
      simp [h12]
    rw [hr]
    simp +contextual only [a_i_IsRow, c_i_IsRow, hc, hi, h12', decide_false, go_sem, entry, joinEsc, if_pos, reduceIte, Nat.reduceAdd, Nat.reduceLeDiff, Nat.reduceLT, Nat.reduceEqDiff]
  · have h12' : 12 < ls.length := by omega
    have hr : rowOk ls = false := by unfold rowOk; simp [h12]
    rw [hr]
    simp +contextual only [a_i_IsRow, c_i_IsRow, hi, h12', decide_true, go_sem, entry, joinEsc, if_pos, reduceIte, Nat.reduceAdd, Nat.reduceLeDiff, Nat.reduceLT, Nat.reduceEqDiff]

/-- a moment, as both sides sum it up -/
def momStep (p : Int) (a : Int) (l : Ld) : Int := IntKind.i64.wrap (a + IntKind.i64.wrap (l.2 * IntKind.i64.wrap (l.1 - p)))
def momW (ls : List Ld) (p : Int) : Int := ls.foldl (momStep p) 0

/-- the side to which a row tips -/
def sideW (ls : List Ld) (a b : Int) : Int := if momW ls a < 0 then -1 else if 0 < momW ls b then 1 else 0

end Go.Proofs.Ytlcklonakjhoiaa.Slim

/- RestsOn, and its law. -/
namespace Go.Proofs.Ytlcklonakjhoiaa.Slim
open Go
set_option linter.unusedSimpArgs false
set_option linter.unusedVariables false

variable {pr : Prims} {H : List Blk} {e : Option Nat}

theorem ArgL.more {av : AV} {ls : List Ld} (h : ArgL H av ls) (G : List Blk) : ArgL (H ++ G) av ls := by
  obtain ⟨p, sz, c, h1, h2, h3⟩ := h
  refine ⟨p, sz, c, h1, h2, fun hne => ?_⟩
  obtain ⟨h4, b, h5, h6⟩ := h3 hne
  exact ⟨h4, b, h5, cells_mono h6 G⟩

theorem loads_of : ∀ (es : List (List Int)), (∀ e ∈ es, e.length = 2) → ∃ ls : List Ld, es.flatten.map (AV.int .i64) = encL ls ∧ ls.length = es.length
  | [], _ => ⟨[], rfl, rfl⟩
  | e :: es, h => by
    obtain ⟨ls, h1, h2⟩ := loads_of es (fun e' h' => h e' (by simp [h']))
    have h0 := h e (by simp)
    match e, h0 with
    | [x, y], _ => exact ⟨(x, y) :: ls, by simp [encL, h1], by simp [h2]⟩

theorem argL_of {av : AV} {es : List (List Int)} (h : IsArg H av .i64 2 es) : ∃ ls, ArgL H av ls := by
  obtain ⟨h1, h2⟩ := h
  rcases h2 with ⟨rfl, rfl⟩ | ⟨b, cap, rfl, h3, h4, h5⟩
  · exact ⟨[], none, 0, none, rfl, Nat.zero_le _, fun h => absurd rfl h⟩
  · obtain ⟨ls, h6, h7⟩ := loads_of es (fun e he => (h1 e he).1)
    refine ⟨ls, some (b, 0), 2, some cap, by rw [h7], by omega, fun _ => ⟨rfl, b, rfl, ?_⟩⟩
    unfold cellsAt
    rw [h5, h6]

theorem e_l_eqLoadS {b1 b2 : Nat} {c1 c2 : Option Nat} {ls : List Ld} (h1 : cellsAt H b1 = some (encL ls)) (h2 : cellsAt H b2 = some (encL ls)) (hn : ls.length ≤ 9223372036854775806) :
    call T pr f_l_eqLoadS [slL b1 ls.length c1, slL b2 ls.length c2] ⟨H, e⟩ = some (.bool true, ⟨H, e⟩) := by
  obtain ⟨z5, z6, hl⟩ := loop_l_eqLoadS (pr := pr) (e := none) (c1 := c1) (c2 := c2) h1 h2 hn ls.length 0 .undef .undef (.bool false) rfl
  have h0 : ((0 : Nat) : Int) = 0 := rfl
  rw [h0] at hl
  rw [call_eq t_l_eqLoadS]
  simp +contextual only [a_l_eqLoadS, c_l_eqLoadS, hl, decide_true, go_sem, entry, joinEsc, if_pos, reduceIte, Nat.reduceAdd, Nat.reduceLeDiff, Nat.reduceLT, Nat.reduceEqDiff]

end Go.Proofs.Ytlcklonakjhoiaa.Slim

/- Rows that grow. -/
namespace Go.Proofs.Ytlcklonakjhoiaa.Slim
open Go
set_option linter.unusedSimpArgs false
set_option linter.unusedVariables false

variable {pr : Prims} {H : List Blk} {e : Option Nat}

/-- what an append leaves of the blocks before it -/
def killIf (cap : Option Nat) (j : Nat) (G : List Blk) : List Blk := if cap = some 0 then G else G.set j .dead
theorem killIf_length (cap : Option Nat) (j : Nat) (G : List Blk) : (killIf cap j G).length = G.length := by unfold killIf; split <;> simp

theorem appendV_more {G : List Blk} {j k n sz bytes : Nat} {cs new : List AV} {cap : Option Nat} {str : Bool} {x : AV} (hb : G[j]? = some (.cells cs true)) (hx : srcCells str (H ++ G) x = some (k, new)) (hk : 0 < k)
    (hcs : cs.length = n * sz) (hnew : new.length = k * sz) (hmax : (n + k) * bytes ≤ maxBytes) (hcap : cap = some 0 → n = 0) :
    appendV (H ++ G) e str sz bytes (.slice (some (H.length + j, 0)) sz n cap) x = some (.slice (some (H.length + G.length, 0)) sz (n + k) none, ⟨H ++ (killIf cap j G ++ [.cells (cs ++ new) true]), e⟩) := by
  unfold appendV
  simp only [blkAt_newk, hb, hx]
  rw [if_pos ⟨trivial, hmax, hnew, by omega⟩]
  unfold killIf
  by_cases hc : cap = some 0
  · have hn := hcap hc
    subst hn
    have : cs = [] := by simpa using hcs
    subst this
    rw [if_pos ⟨hc, hk⟩, if_pos hc]
    simp
  · rw [if_neg (fun h => hc h.1), if_pos trivial, if_neg hc]
    have h1 : List.take (n * sz) (List.drop 0 cs) = cs := by rw [List.drop_zero, ← hcs, List.take_length]
    rw [h1, set_newk]
    simp

theorem srcCells_new (L : List Blk) (n sz : Nat) (cap : Option Nat) (cs : List AV) (b : Nat) (h : cellsAt L b = some cs) (hl : cs.length = n * sz) : srcCells false L (.slice (some (b, 0)) sz n cap) = some (n, cs) := by
  unfold srcCells
  simp only [Bool.false_eq_true, if_false, h]
  rw [if_pos (by omega), List.drop_zero, ← hl, List.take_length]

/-- one load more -/
theorem append_ld {G : List Blk} {j : Nat} {o : List Ld} {cap : Option Nat} (hG : G[j]? = some (.cells (encL o) true)) (hcap : cap = some 0 → o = []) (hmb : (o.length + 1) * 16 ≤ maxBytes) (a b : Int) :
    appendV (H ++ (G ++ [.cells [.int .i64 a, .int .i64 b] true])) e false 2 16 (slL (H.length + j) o.length cap) (.slice (some (H.length + G.length, 0)) 2 1 (some 1)) =
      some (slL (H.length + (G.length + 1)) (o.length + 1) none, ⟨H ++ (killIf cap j (G ++ [.cells [.int .i64 a, .int .i64 b] true]) ++ [.cells (encL o ++ [.int .i64 a, .int .i64 b]) true]), e⟩) := by
  have hj : j < G.length := (List.getElem?_eq_some_iff.mp hG).1
  rw [appendV_more (k := 1) (cs := encL o) (new := [.int .i64 a, .int .i64 b]) (by rw [List.getElem?_append_left hj]; exact hG)
    (srcCells_new _ 1 2 _ _ _ (by rw [cellsAt_newk, cellsAt_new0, cellsAt_cons0]) rfl) (by omega) (encL_length o) rfl hmb (fun h => by rw [hcap h]; rfl)]
  simp

/-- the loads of a convoy that have come so far -/
def rowAt (x : Int) (ls : List Ld) : List Ld := (ls.filter fun l => decide (l.1 ≤ x)).map fun l => (IntKind.i64.wrap (x - l.1), l.2)

end Go.Proofs.Ytlcklonakjhoiaa.Slim

/- Slices of numbers. -/
namespace Go.Proofs.Ytlcklonakjhoiaa.Slim

open Go

set_option linter.unusedSimpArgs false

set_option linter.unusedVariables false

variable {pr : Prims} {H : List Blk} {e : Option Nat}

abbrev encI (ls : List Int) : List AV := ls.map (AV.int .i64)

abbrev slI (b n : Nat) (c : Option Nat) : AV := .slice (some (b, 0)) 1 n c

theorem part_encI {ls : List Int} {i : Nat} {x : Int} (sz : Nat) (h : ls[i]? = some x) : part false (encI ls) i sz = some (.int .i64 x) := by
  rw [part_false, List.getElem?_map, h]; rfl

theorem under_encI (n : Nat) : ∀ ls : List Int, ((encI ls).all fun c => c.under n) = true
  | [] => rfl
  | l :: ls => by simp [encI, AV.under]

theorem zeros_encI : ∀ n, zeros n [.int .i64 0] = encI (List.replicate n 0)
  | 0 => rfl
  | n + 1 => by
    have := zeros_encI n
    unfold zeros encI at *
    simp only [List.replicate_succ, List.flatten_cons, List.map_cons, List.cons_append, List.nil_append, this]

theorem setRange_encI {X : List Int} {i : Nat} {a : Int} (h : i < X.length) : setRange (encI X) i [.int .i64 a] = encI (X.set i a) := by
  induction X generalizing i with
  | nil => simp at h
  | cons x X ih =>
    cases i with
    | zero => simp [encI, setRange]
    | succ i =>
      have := ih (i := i) (by simpa using h)
      simp only [encI, List.map_cons, List.set_cons_succ] at *
      rw [setRange_k, this]

theorem take_set_succ' {X ls : List Int} {i : Nat} (hi : i < ls.length) (hX : X.length = ls.length) (h : X.take i = ls.take i) : (X.set i ls[i]).take (i + 1) = ls.take (i + 1) := by
  rw [List.take_succ_eq_append_getElem (by rw [List.length_set]; omega), List.take_succ_eq_append_getElem hi]
  rw [List.take_set_of_le (Nat.le_refl _), h]
  simp

/-- a slice of numbers, as a law is handed it -/
def ArgI (H : List Blk) (av : AV) (ls : List Int) : Prop :=
  ∃ p sz c, av = .slice p sz ls.length c ∧ ls.length ≤ maxLen ∧ (ls ≠ [] → sz = 1 ∧ ∃ b, p = some (b, 0) ∧ cellsAt H b = some (encI ls))

theorem ArgI.more {av : AV} {ls : List Int} (h : ArgI H av ls) (G : List Blk) : ArgI (H ++ G) av ls := by
  obtain ⟨p, sz, c, h1, h2, h3⟩ := h
  refine ⟨p, sz, c, h1, h2, fun hne => ?_⟩
  obtain ⟨h4, b, h5, h6⟩ := h3 hne
  exact ⟨h4, b, h5, cells_mono h6 G⟩

theorem ints_of : ∀ (es : List (List Int)), (∀ e ∈ es, e.length = 1) → ∃ ls : List Int, es.flatten = ls ∧ ls.length = es.length
  | [], _ => ⟨[], rfl, rfl⟩
  | e :: es, h => by
    obtain ⟨ls, h1, h2⟩ := ints_of es (fun e' h' => h e' (by simp [h']))
    have h0 := h e (by simp)
    match e, h0 with
    | [x], _ => exact ⟨x :: ls, by simp [h1], by simp [h2]⟩

theorem argI_of {av : AV} {es : List (List Int)} (h : IsArg H av .i64 1 es) : ∃ ls, ArgI H av ls := by
  obtain ⟨h1, h2⟩ := h
  rcases h2 with ⟨rfl, rfl⟩ | ⟨b, cap, rfl, h3, h4, h5⟩
  · exact ⟨[], none, 0, none, rfl, Nat.zero_le _, fun h => absurd rfl h⟩
  · obtain ⟨ls, h6, h7⟩ := ints_of es (fun e he => (h1 e he).1)
    refine ⟨ls, some (b, 0), 1, some cap, by rw [h7], by omega, fun _ => ⟨rfl, b, rfl, ?_⟩⟩
    unfold cellsAt
    rw [h5, h6]

theorem loop_l_toIntS {p : Option (Nat × Nat)} {sz : Nat} {c : Option Nat} {ls : List Int} {r : AV} (ha : ls ≠ [] → sz = 1 ∧ ∃ b, p = some (b, 0) ∧ cellsAt H b = some (encI ls)) (hn : ls.length ≤ 1048576) :
    ∀ (k i : Nat) (X : List Int) (y4 : AV), k + i = ls.length → X.length = ls.length → X.take i = ls.take i → ∃ z4, run T pr (.loop w_l_toIntS_1) ⟨[.slice p sz ls.length c, r, slI H.length ls.length (some ls.length), .int .i64 i, y4], ⟨H ++ [.cells (encI X) true], e⟩⟩ =
      some (Ex.exit 0, ⟨[.slice p sz ls.length c, r, slI H.length ls.length (some ls.length), .int .i64 ls.length, z4], ⟨H ++ [.cells (encI ls) true], e⟩⟩)
  | 0, i, X, y4, hk, hX, ht => by
    have hi : i = ls.length := by omega
    subst hi
    rw [List.take_of_length_le (by omega), List.take_of_length_le (by omega)] at ht
    subst ht
    refine ⟨.bool false, ?_⟩
    rw [run_loop]
    generalize run T pr (.loop w_l_toIntS_1) = R
    simp +contextual only [w_l_toIntS_1, Nat.lt_irrefl, decide_false, go_sem, entry, joinEsc, if_pos, reduceIte, Nat.reduceAdd, Nat.reduceLeDiff, Nat.reduceLT, Nat.reduceEqDiff]
  | k + 1, i, X, y4, hk, hX, ht => by
    have hi : i < ls.length := by omega
    have hl : ls[i]? = some ls[i] := List.getElem?_eq_getElem hi
    obtain ⟨rfl, b, rfl, hb⟩ := ha (by intro h; subst h; simp at hi)
    obtain ⟨z4, ih⟩ := loop_l_toIntS (c := c) (r := r) ha hn k (i + 1) (X.set i ls[i]) (.bool true) (by omega) (by simpa using hX) (take_set_succ' hi hX ht)
    refine ⟨z4, ?_⟩
    rw [run_loop]
    generalize run T pr (.loop w_l_toIntS_1) = R at ih ⊢
    have hle : i + 1 ≤ (encI X).length := by rw [List.length_map]; omega
    simp +contextual only [w_l_toIntS_1, cells_mono hb, hi, hl, part_encI _ hl, hle, setRange_encI (show i < X.length by omega), wrap_succ (show i < 9223372036854775807 by omega), decide_true, go_sem, entry, joinEsc, if_pos, reduceIte, Nat.reduceAdd, Nat.reduceLeDiff, Nat.reduceLT, Nat.reduceEqDiff]
    exact ih

theorem e_l_toIntS {av : AV} {ls : List Int} (ha : ArgI H av ls) (hn : ls.length ≤ 1048576) : call T pr f_l_toIntS [av] ⟨H, e⟩ = some (slI H.length ls.length (some ls.length), ⟨H ++ [.cells (encI ls) true], e⟩) := by
  obtain ⟨p, sz, c, rfl, _, ha⟩ := ha
  obtain ⟨z4, hl⟩ := loop_l_toIntS (pr := pr) (e := none) (c := c) (r := .slice none 0 0 none) ha hn ls.length 0 (List.replicate ls.length 0) .undef (by omega) (by simp) (by simp)
  rw [call_eq t_l_toIntS]
  have h0 : ((0 : Nat) : Int) = 0 := rfl
  have hmb : (ls.length : Int) * ((8 : Nat) : Int) ≤ ((maxBytes : Nat) : Int) := by unfold maxBytes; omega
  rw [h0, ← zeros_encI] at hl
  simp +contextual only [a_l_toIntS, c_l_toIntS, hmb, hl, under_encI, go_sem, entry, joinEsc, if_pos, reduceIte, Nat.reduceAdd, Nat.reduceLeDiff, Nat.reduceLT, Nat.reduceEqDiff]

theorem loop_l_eqIntS {b1 b2 : Nat} {c1 c2 : Option Nat} {ls : List Int} {x4 : AV} (h1 : cellsAt H b1 = some (encI ls)) (h2 : cellsAt H b2 = some (encI ls)) (hn : ls.length ≤ 9223372036854775806) :
    ∀ (k i : Nat) (x5 x6 : AV), k + i = ls.length → ∃ y5 y6, run T pr (.loop w_l_eqIntS_1) ⟨[slI b1 ls.length c1, slI b2 ls.length c2, .bool false, .int .i64 i, x4, x5, x6], ⟨H, e⟩⟩ =
      some (.exit 0, ⟨[slI b1 ls.length c1, slI b2 ls.length c2, .bool false, .int .i64 ls.length, x4, y5, y6], ⟨H, e⟩⟩)
  | 0, i, x5, x6, hk => by
    have hi : i = ls.length := by omega
    subst hi
    refine ⟨.bool false, x6, ?_⟩
    rw [run_loop]
    generalize run T pr (.loop w_l_eqIntS_1) = R
    simp +contextual only [w_l_eqIntS_1, Nat.lt_irrefl, decide_false, go_sem, entry, joinEsc, if_pos, reduceIte, Nat.reduceAdd, Nat.reduceLeDiff, Nat.reduceLT, Nat.reduceEqDiff]
  | k + 1, i, x5, x6, hk => by
    have hi : i < ls.length := by omega
    obtain ⟨y5, y6, ih⟩ := loop_l_eqIntS (c1 := c1) (c2 := c2) (x4 := x4) h1 h2 hn k (i + 1) (.bool true) (.bool false) (by omega)
    refine ⟨y5, y6, ?_⟩
    rw [run_loop]
    have hl : ls[i]? = some ls[i] := List.getElem?_eq_getElem hi
    generalize run T pr (.loop w_l_eqIntS_1) = R at ih ⊢
    simp +contextual only [w_l_eqIntS_1, h1, h2, hi, hl, part_encI _ hl, wrap_succ (show i < 9223372036854775807 by omega), decide_true, Bool.not_true, go_sem, entry, joinEsc, if_pos, reduceIte, Nat.reduceAdd, Nat.reduceLeDiff, Nat.reduceLT, Nat.reduceEqDiff]
    exact ih

theorem e_l_eqIntS {b1 b2 : Nat} {c1 c2 : Option Nat} {ls : List Int} (h1 : cellsAt H b1 = some (encI ls)) (h2 : cellsAt H b2 = some (encI ls)) (hn : ls.length ≤ 9223372036854775806) :
    call T pr f_l_eqIntS [slI b1 ls.length c1, slI b2 ls.length c2] ⟨H, e⟩ = some (.bool true, ⟨H, e⟩) := by
  obtain ⟨z5, z6, hl⟩ := loop_l_eqIntS (pr := pr) (e := none) (c1 := c1) (c2 := c2) (x4 := .bool false) h1 h2 hn ls.length 0 .undef .undef rfl
  have h0 : ((0 : Nat) : Int) = 0 := rfl
  rw [h0] at hl
  rw [call_eq t_l_eqIntS]
  simp +contextual only [a_l_eqIntS, c_l_eqIntS, hl, decide_true, go_sem, entry, joinEsc, if_pos, reduceIte, Nat.reduceAdd, Nat.reduceLeDiff, Nat.reduceLT, Nat.reduceEqDiff]

theorem loop_s_l1Has {q : Nat} {c : Option Nat} {ls : List Int} {x : Int} (h : cellsAt H q = some (encI ls)) (hn : ls.length ≤ 9223372036854775806) :
    ∀ (k i : Nat) (y4 y5 : AV), k + i = ls.length → ∃ (z3 z4 z5 : AV), run T pr (.loop w_s_l1Has_1) ⟨[slI q ls.length c, .int .i64 x, .bool false, .int .i64 i, y4, y5], ⟨H, e⟩⟩ =
      some (if x ∈ ls.drop i then Ex.ret else Ex.exit 0, ⟨[slI q ls.length c, .int .i64 x, .bool (decide (x ∈ ls.drop i)), z3, z4, z5], ⟨H, e⟩⟩)
  | 0, i, y4, y5, hk => by
    have hi : i = ls.length := by omega
    subst hi
    refine ⟨.int .i64 ls.length, .bool false, y5, ?_⟩
    rw [run_loop]
    generalize run T pr (.loop w_s_l1Has_1) = R
    simp +contextual only [w_s_l1Has_1, Nat.lt_irrefl, decide_false, List.drop_length, List.not_mem_nil, go_sem, entry, joinEsc, if_pos, reduceIte, Nat.reduceAdd, Nat.reduceLeDiff, Nat.reduceLT, Nat.reduceEqDiff]
  | k + 1, i, y4, y5, hk => by
    have hi : i < ls.length := by omega
    have hl : ls[i]? = some ls[i] := List.getElem?_eq_getElem hi
    obtain ⟨z3, z4, z5, ih⟩ := loop_s_l1Has (c := c) (x := x) h hn k (i + 1) (.bool true) (.bool false) (by omega)
    rw [run_loop, List.drop_eq_getElem_cons hi]
    generalize run T pr (.loop w_s_l1Has_1) = R at ih ⊢
    by_cases hx : ls[i] = x
    · refine ⟨.int .i64 i, .bool true, .bool true, ?_⟩
      simp +contextual only [w_s_l1Has_1, h, hi, hl, part_encI _ hl, hx, decide_true, List.mem_cons, true_or, go_sem, entry, joinEsc, if_pos, reduceIte, Nat.reduceAdd, Nat.reduceLeDiff, Nat.reduceLT, Nat.reduceEqDiff]
    · refine ⟨z3, z4, z5, ?_⟩
      have hx' : ¬ x = ls[i] := fun h => hx h.symm
      simp +contextual only [w_s_l1Has_1, h, hi, hl, part_encI _ hl, hx, hx', decide_true, decide_false, List.mem_cons, false_or, wrap_succ (show i < 9223372036854775807 by omega), go_sem, entry, joinEsc, if_pos, reduceIte, Nat.reduceAdd, Nat.reduceLeDiff, Nat.reduceLT, Nat.reduceEqDiff]
      exact ih

theorem e_s_l1Has {q : Nat} {c : Option Nat} {ls : List Int} (h : cellsAt H q = some (encI ls)) (hn : ls.length ≤ 9223372036854775806) (x : Int) : call T pr f_s_l1Has [slI q ls.length c, .int .i64 x] ⟨H, e⟩ = some (.bool (decide (x ∈ ls)), ⟨H, e⟩) := by
  obtain ⟨z3, z4, z5, hl⟩ := loop_s_l1Has (pr := pr) (e := none) (c := c) (x := x) h hn ls.length 0 .undef .undef rfl
  have h0 : ((0 : Nat) : Int) = 0 := rfl
  rw [h0, List.drop_zero] at hl
  rw [call_eq t_s_l1Has]
  by_cases hx : x ∈ ls <;> simp only [hx, if_true, if_false, decide_true, decide_false] at hl ⊢ <;> simp +contextual only [a_s_l1Has, c_s_l1Has, hl, go_sem, entry, joinEsc, if_pos, reduceIte, Nat.reduceAdd, Nat.reduceLeDiff, Nat.reduceLT, Nat.reduceEqDiff]

end Go.Proofs.Ytlcklonakjhoiaa.Slim

/- Rafts: what is valid, and the reserves. -/
namespace Go.Proofs.Ytlcklonakjhoiaa.Slim

open Go

set_option linter.unusedSimpArgs false

set_option linter.unusedVariables false

variable {pr : Prims} {H : List Blk} {e : Option Nat}

def baseOk (a b : Int) : Bool := ((decide (0 ≤ a) && decide (a ≤ 60)) && (decide (0 ≤ b) && decide (b ≤ 60))) && decide (a ≤ b)

theorem e_i_isBase (a b : Int) : call T pr f_i_isBase [.int .i64 a, .int .i64 b] ⟨H, e⟩ = some (.bool (baseOk a b), ⟨H, e⟩) := by
  rw [call_eq t_i_isBase]
  simp +contextual only [a_i_isBase, c_i_isBase, e_i_isPlace, go_sem, entry, joinEsc, if_pos, reduceIte, Nat.reduceAdd, Nat.reduceLeDiff, Nat.reduceLT, Nat.reduceEqDiff]
  rfl

theorem e_s_l2Base (a b : Int) : call T pr f_s_l2Base [.int .i64 a, .int .i64 b] ⟨H, e⟩ = some (.bool (baseOk a b), ⟨H, e⟩) := by
  rw [call_eq t_s_l2Base]
  simp +contextual only [a_s_l2Base, c_s_l2Base, e_s_l2In, go_sem, entry, joinEsc, if_pos, reduceIte, Nat.reduceAdd, Nat.reduceLeDiff, Nat.reduceLT, Nat.reduceEqDiff]
  rfl

abbrev rfV (a b o : Int) : AV := .agg [.int .i64 a, .int .i64 b, .int .i64 o]

def raftOk (a b o : Int) : Bool := baseOk a b && (decide (1 ≤ o) && decide (o ≤ 99))

theorem e_i_IsRaft (a b o : Int) : call T pr f_i_IsRaft [rfV a b o] ⟨H, e⟩ = some (.bool (raftOk a b o), ⟨H, e⟩) := by
  rw [call_eq t_i_IsRaft]
  simp +contextual only [a_i_IsRaft, c_i_IsRaft, e_i_isBase, e_i_within, go_sem, entry, joinEsc, if_pos, reduceIte, Nat.reduceAdd, Nat.reduceLeDiff, Nat.reduceLT, Nat.reduceEqDiff]
  rfl

theorem e_s_l10Raft (a b o : Int) : call T pr f_s_l10Raft [rfV a b o] ⟨H, e⟩ = some (.bool (raftOk a b o), ⟨H, e⟩) := by
  rw [call_eq t_s_l10Raft]
  simp +contextual only [a_s_l10Raft, c_s_l10Raft, e_s_l2Base, e_s_l1In, go_sem, entry, joinEsc, if_pos, reduceIte, Nat.reduceAdd, Nat.reduceLeDiff, Nat.reduceLT, Nat.reduceEqDiff]
  rfl

theorem e_l_toRaft (a b o : Int) : call T pr f_l_toRaft [rfV a b o] ⟨H, e⟩ = some (rfV a b o, ⟨H, e⟩) := by
  rw [call_eq t_l_toRaft]
  simp +contextual only [a_l_toRaft, c_l_toRaft, go_sem, entry, joinEsc, if_pos, reduceIte, Nat.reduceAdd, Nat.reduceLeDiff, Nat.reduceLT, Nat.reduceEqDiff]

def cargoOk (a b o : Int) (ls : List Ld) : Bool := (raftOk a b o && rowOk ls) && decide (ls.length ≤ 8)

theorem e_i_areCargo {q : Nat} {c : Option Nat} {ls : List Ld} (h : cellsAt H q = some (encL ls)) (a b o : Int) : call T pr f_i_areCargo [rfV a b o, slL q ls.length c] ⟨H, e⟩ = some (.bool (cargoOk a b o ls), ⟨H, e⟩) := by
  rw [call_eq t_i_areCargo]
  have hi : decide (((ls.length : Nat) : Int) ≤ 8) = decide (ls.length ≤ 8) := decide_eq_decide.mpr (by omega)
  simp +contextual only [a_i_areCargo, c_i_areCargo, e_i_IsRaft, e_i_IsRow (cells_mono h _), hi, go_sem, entry, joinEsc, if_pos, reduceIte, Nat.reduceAdd, Nat.reduceLeDiff, Nat.reduceLT, Nat.reduceEqDiff]
  rfl

theorem e_s_l10Cargo {q : Nat} {c : Option Nat} {ls : List Ld} (h : cellsAt H q = some (encL ls)) (a b o : Int) : call T pr f_s_l10Cargo [rfV a b o, slL q ls.length c] ⟨H, e⟩ = some (.bool (cargoOk a b o ls), ⟨H, e⟩) := by
  rw [call_eq t_s_l10Cargo]
  have hi : decide (((ls.length : Nat) : Int) ≤ 8) = decide (ls.length ≤ 8) := decide_eq_decide.mpr (by omega)
  simp +contextual only [a_s_l10Cargo, c_s_l10Cargo, e_s_l10Raft, e_s_l2Row (cells_mono h _), hi, go_sem, entry, joinEsc, if_pos, reduceIte, Nat.reduceAdd, Nat.reduceLeDiff, Nat.reduceLT, Nat.reduceEqDiff]
  rfl

end Go.Proofs.Ytlcklonakjhoiaa.Slim

/- Rafts: the reserves. -/
namespace Go.Proofs.Ytlcklonakjhoiaa.Slim

open Go

set_option linter.unusedSimpArgs false

set_option linter.unusedVariables false

variable {pr : Prims} {H : List Blk} {e : Option Nat}

abbrev wr (x : Int) : Int := IntKind.i64.wrap x

theorem wr_ex (x : Int) : ∃ k : Int, wr x = x + k * 18446744073709551616 := by
  refine ⟨if x % 18446744073709551616 ≥ 9223372036854775808 then -(x / 18446744073709551616) - 1 else -(x / 18446744073709551616), ?_⟩
  unfold wr IntKind.wrap
  simp [IntKind.signed, IntKind.bits]
  split <;> omega

theorem wr_add_mul (x k : Int) : wr (x + k * 18446744073709551616) = wr x := by
  unfold wr IntKind.wrap
  simp [IntKind.signed, IntKind.bits]

/-- is item i in the set n? -/
def bitW (n : Int) (i : Nat) : Bool := decide (andI .i64 (shrI .i64 n i) 1 = 1)

def resL (a acc : Int) (l : Ld) : Int := wr (acc + wr (wr (2 * l.2) * wr (l.1 - a)))

def resR (b acc : Int) (l : Ld) : Int := wr (acc + wr (wr (2 * l.2) * wr (b - l.1)))

theorem resR_eq (b acc : Int) (l : Ld) : wr (acc - wr (wr (2 * l.2) * wr (l.1 - b))) = resR b acc l := by
  unfold resR
  obtain ⟨k1, h1⟩ := wr_ex (l.1 - b)
  obtain ⟨k2, h2⟩ := wr_ex (b - l.1)
  generalize wr (2 * l.2) = u
  obtain ⟨k3, h3⟩ := wr_ex (u * wr (l.1 - b))
  obtain ⟨k4, h4⟩ := wr_ex (u * wr (b - l.1))
  rw [h3, h4, h1, h2]
  have : acc - (u * (l.1 - b + k1 * 18446744073709551616) + k3 * 18446744073709551616) = acc + (u * (b - l.1 + k2 * 18446744073709551616) + k4 * 18446744073709551616) + (-(u * (k1 + k2)) - k3 - k4) * 18446744073709551616 := by
    have e1 : u * (l.1 - b + k1 * 18446744073709551616) = u * (l.1 - b) + u * k1 * 18446744073709551616 := by rw [Int.mul_add, Int.mul_assoc]
    have e2 : u * (b - l.1 + k2 * 18446744073709551616) = u * (b - l.1) + u * k2 * 18446744073709551616 := by rw [Int.mul_add, Int.mul_assoc]
    have e3 : u * (b - l.1) = -(u * (l.1 - b)) := by rw [← Int.mul_neg]; congr 1; omega
    have e4 : u * (k1 + k2) = u * k1 + u * k2 := Int.mul_add _ _ _
    rw [e1, e2, e3, e4]
    omega
  rw [this, wr_add_mul]

/-- over the items of the set n, from number i on -/
def overBits (f : Int → Ld → Int) (n : Int) : Nat → List Ld → Int → Int
  | _, [], acc => acc
  | i, l :: ls, acc => overBits f n (i + 1) ls (if bitW n i = true then f acc l else acc)

theorem shr_nat (x : Int) (i : Nat) : binop 0 .shr (.int .i64 x) (.int .i64 (i : Int)) = some (.int .i64 (shrI .i64 x i)) := by
  rw [binop_shr, if_neg (by omega)]

theorem loop_s_l10Reserve {q u : Nat} {c : Option Nat} {ls : List Ld} {rv : AV} {n : Int} {a b o : Int} (h : cellsAt H q = some (encL ls)) (hn : ls.length ≤ 9223372036854775806) (hu : cellsAt H u = some [.int .i64 a, .int .i64 b, .int .i64 o]) {y4 y5 : AV} :
    ∀ (k i : Nat) (L R : Int) (y9 y10 : AV), k + i = ls.length → ∃ (z9 z10 : AV), run T pr (.loop w_s_l10Reserve_1) ⟨[rv, slL q ls.length c, .int .i64 n, .ptr (some (u, 0)), y4, y5, .int .i64 L, .int .i64 R, .int .i64 i, y9, y10], ⟨H, e⟩⟩ =
      some (Ex.exit 0, ⟨[rv, slL q ls.length c, .int .i64 n, .ptr (some (u, 0)), y4, y5, .int .i64 (overBits (resL a) n i (ls.drop i) L), .int .i64 (overBits (resR b) n i (ls.drop i) R), .int .i64 ls.length, z9, z10], ⟨H, e⟩⟩)
  | 0, i, L, R, y9, y10, hk => by
    have hi : i = ls.length := by omega
    subst hi
    refine ⟨.bool false, y10, ?_⟩
    rw [run_loop]
    generalize run T pr (.loop w_s_l10Reserve_1) = R'
    simp +contextual only [w_s_l10Reserve_1, Nat.lt_irrefl, decide_false, List.drop_length, overBits, go_sem, entry, joinEsc, if_pos, reduceIte, Nat.reduceAdd, Nat.reduceLeDiff, Nat.reduceLT, Nat.reduceEqDiff]
  | k + 1, i, L, R, y9, y10, hk => by
    have hi : i < ls.length := by omega
    have hl : ls[i]? = some ls[i] := List.getElem?_eq_getElem hi
    rw [run_loop, List.drop_eq_getElem_cons hi, overBits, overBits]
    have hb : decide (andI .i64 (shrI .i64 n i) 1 = 1) = bitW n i := rfl
    cases h1 : bitW n i with
    | false =>
      obtain ⟨z9, z10, ih⟩ := loop_s_l10Reserve (c := c) (rv := rv) (n := n) (y4 := y4) (y5 := y5) h hn hu k (i + 1) L R (.bool true) (.bool false) (by omega)
      refine ⟨z9, z10, ?_⟩
      generalize run T pr (.loop w_s_l10Reserve_1) = R' at ih ⊢
      rw [h1] at hb
      have hb' := of_decide_eq_false hb
      simp +contextual only [w_s_l10Reserve_1, shr_nat, hb', decide_false, h, hu, hi, hl, part_encL0 _ hl, part_encL1 _ hl, wrap_succ (show i < 9223372036854775807 by omega), decide_true, go_sem, entry, joinEsc, if_pos, reduceIte, Nat.reduceAdd, Nat.reduceLeDiff, Nat.reduceLT, Nat.reduceEqDiff]
      exact ih
    | true =>
      obtain ⟨z9, z10, ih⟩ := loop_s_l10Reserve (c := c) (rv := rv) (n := n) (y4 := y4) (y5 := y5) h hn hu k (i + 1) (resL a L ls[i]) (resR b R ls[i]) (.bool true) (.bool true) (by omega)
      refine ⟨z9, z10, ?_⟩
      generalize run T pr (.loop w_s_l10Reserve_1) = R' at ih ⊢
      rw [h1] at hb
      have hb' := of_decide_eq_true hb
      simp +contextual only [w_s_l10Reserve_1, shr_nat, hb', h, hu, hi, hl, part_encL0 _ hl, part_encL1 _ hl, wrap_succ (show i < 9223372036854775807 by omega), decide_true, go_sem, entry, joinEsc, if_pos, reduceIte, Nat.reduceAdd, Nat.reduceLeDiff, Nat.reduceLT, Nat.reduceEqDiff]
      exact ih

end Go.Proofs.Ytlcklonakjhoiaa.Slim

/- Rafts: safe sets. -/
namespace Go.Proofs.Ytlcklonakjhoiaa.Slim

open Go

set_option linter.unusedSimpArgs false

set_option linter.unusedVariables false

variable {pr : Prims} {H : List Blk} {e : Option Nat}

def own0 (a b o : Int) : Int := wr (o * wr (b - a))

theorem e_s_l10Reserve {q : Nat} {c : Option Nat} {ls : List Ld} (h : cellsAt H q = some (encL ls)) (hn : ls.length ≤ 9223372036854775806) (a b o n : Int) : call T pr f_s_l10Reserve [rfV a b o, slL q ls.length c, .int .i64 n] ⟨H, e⟩ =
    some (.tup [.int .i64 (overBits (resL a) n 0 ls (own0 a b o)), .int .i64 (overBits (resR b) n 0 ls (own0 a b o))], ⟨H, e⟩) := by
  have hu : cellsAt (H ++ [Blk.cells [.int .i64 a, .int .i64 b, .int .i64 o] true]) H.length = some [.int .i64 a, .int .i64 b, .int .i64 o] := by simp [cellsAt, List.getElem?_append_right]
  obtain ⟨z9, z10, hl⟩ := loop_s_l10Reserve (pr := pr) (e := none) (c := c) (rv := rfV a b o) (n := n) (cells_mono h [Blk.cells [.int .i64 a, .int .i64 b, .int .i64 o] true]) hn hu (y4 := .int .i64 0) (y5 := .int .i64 0) ls.length 0 (own0 a b o) (own0 a b o) .undef .undef rfl
  have h0 : ((0 : Nat) : Int) = 0 := rfl
  rw [h0, List.drop_zero] at hl
  have ho : IntKind.i64.wrap (o * IntKind.i64.wrap (b - a)) = own0 a b o := rfl
  rw [call_eq t_s_l10Reserve]
  simp +contextual only [a_s_l10Reserve, c_s_l10Reserve, ho, hl, go_sem, entry, joinEsc, if_pos, reduceIte, Nat.reduceAdd, Nat.reduceLeDiff, Nat.reduceLT, Nat.reduceEqDiff]

def safeW (a b o : Int) (ls : List Ld) (n : Int) : Bool := decide (0 ≤ overBits (resL a) n 0 ls (own0 a b o)) && decide (0 ≤ overBits (resR b) n 0 ls (own0 a b o))

theorem e_s_l10Safe {q : Nat} {c : Option Nat} {ls : List Ld} (h : cellsAt H q = some (encL ls)) (hn : ls.length ≤ 9223372036854775806) (a b o n : Int) : call T pr f_s_l10Safe [rfV a b o, slL q ls.length c, .int .i64 n] ⟨H, e⟩ =
    some (.bool (safeW a b o ls n), ⟨H, e⟩) := by
  rw [call_eq t_s_l10Safe]
  simp +contextual only [a_s_l10Safe, c_s_l10Safe, e_s_l10Reserve (cells_mono h _) hn, go_sem, entry, joinEsc, if_pos, reduceIte, Nat.reduceAdd, Nat.reduceLeDiff, Nat.reduceLT, Nat.reduceEqDiff]
  rfl

theorem loop_i_Raft_reserve {q u : Nat} {c : Option Nat} {ls : List Ld} {rv y4 y5 : AV} {n : Int} {a b o : Int} (h : cellsAt H q = some (encL ls)) (hn : ls.length ≤ 9223372036854775806) (hu : cellsAt H u = some [.int .i64 a, .int .i64 b, .int .i64 o]) :
    ∀ (k i : Nat) (L R : Int) (G : List Blk) (y8 y9 y13 y14 : AV), k + i = ls.length → ∃ (G' : List Blk) (z8 z9 z13 z14 : AV), run T pr (.loop w_i_Raft_reserve_1) ⟨[rv, slL q ls.length c, .int .i64 n, .ptr (some (u, 0)), y4, y5, .int .i64 L, .int .i64 R, y8, y9, slL q ls.length c, .int .i64 ls.length, .int .i64 i, y13, y14], ⟨H ++ G, e⟩⟩ =
      some (Ex.exit 0, ⟨[rv, slL q ls.length c, .int .i64 n, .ptr (some (u, 0)), y4, y5, .int .i64 (overBits (resL a) n i (ls.drop i) L), .int .i64 (overBits (resR b) n i (ls.drop i) R), z8, z9, slL q ls.length c, .int .i64 ls.length, .int .i64 ls.length, z13, z14], ⟨H ++ G', e⟩⟩)
  | 0, i, L, R, G, y8, y9, y13, y14, hk => by
    have hi : i = ls.length := by omega
    subst hi
    refine ⟨G, y8, y9, .bool false, y14, ?_⟩
    rw [run_loop]
    generalize run T pr (.loop w_i_Raft_reserve_1) = R'
    simp +contextual only [w_i_Raft_reserve_1, Nat.lt_irrefl, decide_false, List.drop_length, overBits, go_sem, entry, joinEsc, if_pos, reduceIte, Nat.reduceAdd, Nat.reduceLeDiff, Nat.reduceLT, Nat.reduceEqDiff]
  | k + 1, i, L, R, G, y8, y9, y13, y14, hk => by
    have hi : i < ls.length := by omega
    have hl : ls[i]? = some ls[i] := List.getElem?_eq_getElem hi
    rw [run_loop, List.drop_eq_getElem_cons hi, overBits, overBits]
    have hb : decide (andI .i64 (shrI .i64 n i) 1 = 1) = bitW n i := rfl
    have hR := resR_eq b R ls[i]
    cases h1 : bitW n i with
    | false =>
      obtain ⟨G', z8, z9, z13, z14, ih⟩ := loop_i_Raft_reserve (c := c) (rv := rv) (n := n) (y4 := y4) (y5 := y5) h hn hu k (i + 1) L R (G ++ [.cells [.int .i64 ls[i].1, .int .i64 ls[i].2] true]) (.int .i64 i) (.ptr (some (H.length + G.length, 0))) (.bool true) (.bool false) (by omega)
      refine ⟨G', z8, z9, z13, z14, ?_⟩
      generalize run T pr (.loop w_i_Raft_reserve_1) = R' at ih ⊢
      rw [h1] at hb
      have hb' := of_decide_eq_false hb
      simp +contextual only [w_i_Raft_reserve_1, shr_nat, hb', decide_false, cells_mono h, cells_mono hu, hi, hl, part_encL hl, wrap_succ (show i < 9223372036854775807 by omega), decide_true, go_sem, entry, joinEsc, if_pos, reduceIte, Nat.reduceAdd, Nat.reduceLeDiff, Nat.reduceLT, Nat.reduceEqDiff]
      exact ih
    | true =>
      obtain ⟨G', z8, z9, z13, z14, ih⟩ := loop_i_Raft_reserve (c := c) (rv := rv) (n := n) (y4 := y4) (y5 := y5) h hn hu k (i + 1) (resL a L ls[i]) (resR b R ls[i]) (G ++ [.cells [.int .i64 ls[i].1, .int .i64 ls[i].2] true]) (.int .i64 i) (.ptr (some (H.length + G.length, 0))) (.bool true) (.bool true) (by omega)
      refine ⟨G', z8, z9, z13, z14, ?_⟩
      generalize run T pr (.loop w_i_Raft_reserve_1) = R' at ih ⊢
      rw [h1] at hb
      have hb' := of_decide_eq_true hb
      rw [← hR] at ih ⊢
      simp +contextual only [w_i_Raft_reserve_1, shr_nat, hb', cells_mono h, cells_mono hu, hi, hl, part_encL hl, wrap_succ (show i < 9223372036854775807 by omega), decide_true, go_sem, entry, joinEsc, if_pos, reduceIte, Nat.reduceAdd, Nat.reduceLeDiff, Nat.reduceLT, Nat.reduceEqDiff]
      exact ih

theorem e_i_Raft_reserve {q : Nat} {c : Option Nat} {ls : List Ld} (h : cellsAt H q = some (encL ls)) (hn : ls.length ≤ 9223372036854775806) (a b o n : Int) : call T pr f_i_Raft_reserve [rfV a b o, slL q ls.length c, .int .i64 n] ⟨H, e⟩ =
    some (.tup [.int .i64 (overBits (resL a) n 0 ls (own0 a b o)), .int .i64 (overBits (resR b) n 0 ls (own0 a b o))], ⟨H, e⟩) := by
  have hu : cellsAt (H ++ [Blk.cells [.int .i64 a, .int .i64 b, .int .i64 o] true]) H.length = some [.int .i64 a, .int .i64 b, .int .i64 o] := by simp [cellsAt, List.getElem?_append_right]
  obtain ⟨G', z8, z9, z13, z14, hl⟩ := loop_i_Raft_reserve (pr := pr) (e := none) (c := c) (rv := rfV a b o) (n := n) (y4 := .int .i64 0) (y5 := .int .i64 0) (cells_mono h [Blk.cells [.int .i64 a, .int .i64 b, .int .i64 o] true]) hn hu ls.length 0 (own0 a b o) (own0 a b o) [] .undef .undef .undef .undef rfl
  have h0 : ((0 : Nat) : Int) = 0 := rfl
  rw [h0, List.drop_zero, List.append_nil, List.append_assoc] at hl
  have ho : IntKind.i64.wrap (o * IntKind.i64.wrap (b - a)) = own0 a b o := rfl
  rw [call_eq t_i_Raft_reserve]
  simp +contextual only [a_i_Raft_reserve, c_i_Raft_reserve, ho, hl, go_sem, entry, joinEsc, if_pos, reduceIte, Nat.reduceAdd, Nat.reduceLeDiff, Nat.reduceLT, Nat.reduceEqDiff]

theorem e_i_Raft_isSafe {q : Nat} {c : Option Nat} {ls : List Ld} (h : cellsAt H q = some (encL ls)) (hn : ls.length ≤ 9223372036854775806) (a b o n : Int) : call T pr f_i_Raft_isSafe [rfV a b o, slL q ls.length c, .int .i64 n] ⟨H, e⟩ =
    some (.bool (safeW a b o ls n), ⟨H, e⟩) := by
  rw [call_eq t_i_Raft_isSafe]
  simp +contextual only [a_i_Raft_isSafe, c_i_Raft_isSafe, e_i_Raft_reserve (cells_mono h _) hn, go_sem, entry, joinEsc, if_pos, reduceIte, Nat.reduceAdd, Nat.reduceLeDiff, Nat.reduceLT, Nat.reduceEqDiff]
  rfl

end Go.Proofs.Ytlcklonakjhoiaa.Slim

/- Orders of a cargo. -/
namespace Go.Proofs.Ytlcklonakjhoiaa.Slim

open Go

set_option linter.unusedSimpArgs false

set_option linter.unusedVariables false

variable {pr : Prims} {H : List Blk} {e : Option Nat}

theorem length_le_of_sub {r : List Int} : ∀ {l : List Int}, r.Nodup → (∀ x ∈ r, x ∈ l) → r.length ≤ l.length := by
  induction r with
  | nil => intro l _ _; exact Nat.zero_le _
  | cons a r ih =>
    intro l hn hs
    have ha := hs a (by simp)
    obtain ⟨h1, h2⟩ := List.nodup_cons.mp hn
    have h3 := ih (l := l.erase a) h2 (fun x hx => by
      have hne : x ≠ a := fun e => h1 (e ▸ hx)
      exact (List.mem_erase_of_ne hne).mpr (hs x (by simp [hx])))
    have h4 := List.length_erase_of_mem ha
    have h5 := List.length_pos_of_mem ha
    simp only [List.length_cons]
    omega

/-- the numbers below n -/
def nums (n : Nat) : List Int := (List.range n).map fun (i : Nat) => (i : Int)

theorem nums_length (n : Nat) : (nums n).length = n := by simp [nums]

theorem mem_nums {n : Nat} {x : Int} : x ∈ nums n ↔ 0 ≤ x ∧ x < n := by
  unfold nums
  rw [List.mem_map]
  constructor
  · rintro ⟨i, hi, rfl⟩
    rw [List.mem_range] at hi
    omega
  · rintro ⟨h1, h2⟩
    exact ⟨x.toNat, by rw [List.mem_range]; omega, by omega⟩

theorem nums_nodup (n : Nat) : (nums n).Nodup := by
  unfold nums
  refine List.Pairwise.map _ ?_ List.nodup_range
  intro a b h e
  exact h (by omega)

/-- a list of n numbers has all numbers below n exactly if it has none twice, and no other -/
theorem order_iff {l : List Int} {n : Nat} (hl : l.length = n) : (∀ x : Int, 0 ≤ x → x < n → x ∈ l) ↔ (l.Nodup ∧ ∀ x ∈ l, 0 ≤ x ∧ x < n) := by
  constructor
  · intro h
    have key : ∀ (l' : List Int), (∀ x ∈ nums n, x ∈ l') → n ≤ l'.length := fun l' h' => by
      have := length_le_of_sub (nums_nodup n) h'
      rwa [nums_length] at this
    have hin : ∀ x ∈ l, 0 ≤ x ∧ x < n := by
      intro x hx
      refine Classical.byContradiction fun hc => ?_
      have := key (l.erase x) (fun y hy => by
        have hy' := mem_nums.mp hy
        have hne : y ≠ x := fun e => hc (e ▸ hy')
        exact (List.mem_erase_of_ne hne).mpr (h y hy'.1 hy'.2))
      have h4 := List.length_erase_of_mem hx
      have h5 := List.length_pos_of_mem hx
      omega
    refine ⟨?_, hin⟩
    have gen : ∀ (l : List Int), ¬ l.Nodup → ∃ x ∈ l, x ∈ l.erase x := by
      intro l
      induction l with
      | nil => intro h; exact absurd List.nodup_nil h
      | cons a l ih =>
        intro h
        by_cases ha : a ∈ l
        · exact ⟨a, by simp, by simpa using ha⟩
        · have hn : ¬ l.Nodup := fun hn => h (List.nodup_cons.mpr ⟨ha, hn⟩)
          obtain ⟨x, h1, h2⟩ := ih hn
          have hne : ¬ a = x := fun e => ha (e ▸ h1)
          refine ⟨x, by simp [h1], ?_⟩
          rw [List.erase_cons_tail (by simpa using hne)]
          simp [h2]
    refine Classical.byContradiction fun hc => ?_
    obtain ⟨x, h1, h2⟩ := gen l hc
    have := key (l.erase x) (fun y hy => by
      have hy' := mem_nums.mp hy
      by_cases e : y = x
      · rw [e]; exact h2
      · exact (List.mem_erase_of_ne e).mpr (h y hy'.1 hy'.2))
    have h4 := List.length_erase_of_mem h1
    have h5 := List.length_pos_of_mem h1
    omega
  · rintro ⟨h1, h2⟩ x hx0 hx1
    refine Classical.byContradiction fun hc => ?_
    have := length_le_of_sub (r := x :: l) (l := nums n) (List.nodup_cons.mpr ⟨hc, h1⟩) (fun y hy => by
      rcases List.mem_cons.mp hy with rfl | hy
      · exact mem_nums.mpr ⟨hx0, hx1⟩
      · exact mem_nums.mpr (h2 y hy))
    rw [nums_length] at this
    simp at this
    omega

theorem bits_facts : ∀ m : Nat, m < 256 → ∀ x : Nat, x < 8 → (m.testBit x = bitW m x ∧ shlI .i64 1 (x : Int) = ((2 ^ x : Nat) : Int) ∧ (m.testBit x = false → orI .i64 m (shlI .i64 1 (x : Int)) = ((m + 2 ^ x : Nat) : Int) ∧ wr ((m : Int) + shlI .i64 1 (x : Int)) = ((m + 2 ^ x : Nat) : Int) ∧ m + 2 ^ x < 256 ∧ ∀ y : Nat, y < 8 → (m + 2 ^ x).testBit y = (m.testBit y || decide (x = y)))) := by
  decide +kernel

end Go.Proofs.Ytlcklonakjhoiaa.Slim

/- Orders, walked; the first tip. -/
namespace Go.Proofs.Ytlcklonakjhoiaa.Slim

open Go

set_option linter.unusedSimpArgs false

set_option linter.unusedVariables false

variable {pr : Prims} {H : List Blk} {e : Option Nat}

theorem shl_nat (x : Int) (i : Nat) : binop 0 .shl (.int .i64 x) (.int .i64 (i : Int)) = some (.int .i64 (shlI .i64 x i)) := by
  rw [binop_shl, if_neg (by omega)]

/-- none twice, and no other, m being those that were -/
def ordOk (n : Nat) : Nat → List Int → Bool
  | _, [] => true
  | m, x :: xs => ((decide (0 ≤ x) && decide (x ≤ (n : Int) - 1)) && !m.testBit x.toNat) && ordOk n (m + 2 ^ x.toNat) xs

theorem loop_i_isOrder {q q' : Nat} {c c' : Option Nat} {n : Nat} {os : List Int} (hn8 : n ≤ 8) (h : cellsAt H q' = some (encI os)) (hn : os.length ≤ 9223372036854775806) :
    ∀ (k i m : Nat) (y4 y8 y9 : AV), k + i = os.length → m < 256 → ∃ (z3 z4 z7 z8 z9 : AV), run T pr (.loop w_i_isOrder_1) ⟨[slL q n c, slI q' os.length c', .bool false, .int .i64 m, y4, slI q' os.length c', .int .i64 os.length, .int .i64 i, y8, y9], ⟨H, e⟩⟩ =
      some (if ordOk n m (os.drop i) = true then Ex.exit 0 else Ex.ret, ⟨[slL q n c, slI q' os.length c', .bool false, z3, z4, slI q' os.length c', .int .i64 os.length, z7, z8, z9], ⟨H, e⟩⟩)
  | 0, i, m, y4, y8, y9, hk, hm => by
    have hi : i = os.length := by omega
    subst hi
    refine ⟨.int .i64 m, y4, .int .i64 os.length, .bool false, y9, ?_⟩
    rw [run_loop]
    generalize run T pr (.loop w_i_isOrder_1) = R
    simp +contextual only [w_i_isOrder_1, Nat.lt_irrefl, decide_false, List.drop_length, ordOk, go_sem, entry, joinEsc, if_pos, reduceIte, Nat.reduceAdd, Nat.reduceLeDiff, Nat.reduceLT, Nat.reduceEqDiff]
  | k + 1, i, m, y4, y8, y9, hk, hm => by
    have hi : i < os.length := by omega
    have hl : os[i]? = some os[i] := List.getElem?_eq_getElem hi
    have hw : IntKind.i64.wrap ((n : Int) - 1) = (n : Int) - 1 := wrap64 (by omega) (by omega)
    rw [run_loop, List.drop_eq_getElem_cons hi, ordOk]
    generalize hx : os[i] = x at hl ⊢
    cases h1 : (decide (0 ≤ x) && decide (x ≤ (n : Int) - 1)) with
    | false =>
      refine ⟨.int .i64 m, .int .i64 x, .int .i64 i, .bool true, .bool true, ?_⟩
      generalize run T pr (.loop w_i_isOrder_1) = R
      simp +contextual only [w_i_isOrder_1, h, hi, hl, part_encI _ hl, hw, e_i_within, h1, decide_true, go_sem, entry, joinEsc, if_pos, reduceIte, Nat.reduceAdd, Nat.reduceLeDiff, Nat.reduceLT, Nat.reduceEqDiff]
    | true =>
      obtain ⟨y, rfl⟩ : ∃ y : Nat, x = y := ⟨x.toNat, by simp at h1; omega⟩
      have hy8 : y < 8 := by simp at h1; omega
      obtain ⟨f1, f2, f3⟩ := bits_facts m hm y hy8
      have hb : decide (andI .i64 (shrI .i64 m y) 1 = 1) = bitW m y := rfl
      rw [Int.toNat_natCast, ← f1] at *
      cases h2 : m.testBit y with
      | true =>
        rw [h2] at hb
        have hb' := of_decide_eq_true hb
        refine ⟨.int .i64 m, .int .i64 y, .int .i64 i, .bool true, .bool true, ?_⟩
        generalize run T pr (.loop w_i_isOrder_1) = R
        simp +contextual only [w_i_isOrder_1, h, hi, hl, part_encI _ hl, hw, e_i_within, h1, shr_nat, hb', decide_true, go_sem, entry, joinEsc, if_pos, reduceIte, Nat.reduceAdd, Nat.reduceLeDiff, Nat.reduceLT, Nat.reduceEqDiff]
      | false =>
        obtain ⟨g1, g2, g3, g4⟩ := f3 h2
        obtain ⟨z3, z4, z7, z8, z9, ih⟩ := loop_i_isOrder (c := c) (c' := c') (q := q) hn8 h hn k (i + 1) (m + 2 ^ y) (.int .i64 y) (.bool true) (.bool false) (by omega) g3
        refine ⟨z3, z4, z7, z8, z9, ?_⟩
        generalize run T pr (.loop w_i_isOrder_1) = R at ih ⊢
        rw [h2] at hb
        have hb' := of_decide_eq_false hb
        have h1' : decide (0 ≤ (y : Int)) = true := by simp
        have h1'' : decide ((y : Int) ≤ (n : Int) - 1) = true := by simpa using h1
        simp +contextual only [w_i_isOrder_1, h, hi, hl, part_encI _ hl, hw, e_i_within, h1', h1'', Bool.and_self, shr_nat, shl_nat, hb', g1, wrap_succ (show i < 9223372036854775807 by omega), decide_true, decide_false, go_sem, entry, joinEsc, if_pos, reduceIte, Nat.reduceAdd, Nat.reduceLeDiff, Nat.reduceLT, Nat.reduceEqDiff]
        exact ih

end Go.Proofs.Ytlcklonakjhoiaa.Slim

/- Rafts: the first tip, on both sides. -/
namespace Go.Proofs.Ytlcklonakjhoiaa.Slim

open Go

set_option linter.unusedSimpArgs false

set_option linter.unusedVariables false

variable {pr : Prims} {H : List Blk} {e : Option Nat}

theorem e_i_isOrder {q q' : Nat} {c c' : Option Nat} {n : Nat} {os : List Int} (hn8 : n ≤ 8) (h : cellsAt H q' = some (encI os)) (hn : os.length ≤ 9223372036854775806) :
    call T pr f_i_isOrder [slL q n c, slI q' os.length c'] ⟨H, e⟩ = some (.bool (ordOk n 0 os && decide (os.length = n)), ⟨H, e⟩) := by
  obtain ⟨z3, z4, z7, z8, z9, hl⟩ := loop_i_isOrder (pr := pr) (e := none) (c := c) (c' := c') (q := q) hn8 h hn os.length 0 0 .undef .undef .undef rfl (by omega)
  have h0 : ((0 : Nat) : Int) = 0 := rfl
  have hi : decide ((os.length : Int) = (n : Int)) = decide (os.length = n) := decide_eq_decide.mpr (by omega)
  rw [h0, List.drop_zero] at hl
  rw [call_eq t_i_isOrder]
  cases h1 : ordOk n 0 os <;> rw [h1] at hl <;> simp +contextual only [a_i_isOrder, c_i_isOrder, hl, hi, Bool.false_and, Bool.true_and, go_sem, entry, joinEsc, if_pos, reduceIte, Nat.reduceAdd, Nat.reduceLeDiff, Nat.reduceLT, Nat.reduceEqDiff]

theorem ordOk_iff {n : Nat} (hn8 : n ≤ 8) : ∀ (os : List Int) (m : Nat), m < 256 → (ordOk n m os = true ↔ os.Nodup ∧ ∀ x ∈ os, (0 ≤ x ∧ x < n) ∧ m.testBit x.toNat = false)
  | [], m, hm => by simp [ordOk]
  | x :: xs, m, hm => by
    rw [ordOk, Bool.and_eq_true, Bool.and_eq_true, Bool.and_eq_true, decide_eq_true_eq, decide_eq_true_eq, List.nodup_cons]
    constructor
    · rintro ⟨⟨⟨h1, h2⟩, h3⟩, h4⟩
      have h3' : m.testBit x.toNat = false := by simpa using h3
      obtain ⟨_, _, f3⟩ := bits_facts m hm x.toNat (by omega)
      obtain ⟨_, _, g3, g4⟩ := f3 h3'
      obtain ⟨k1, k2⟩ := (ordOk_iff hn8 xs _ g3).mp h4
      refine ⟨⟨fun hx => ?_, k1⟩, fun y hy => ?_⟩
      · have := (k2 x hx).2
        rw [g4 _ (by omega)] at this
        simp at this
      · rcases List.mem_cons.mp hy with rfl | hy
        · exact ⟨⟨h1, by omega⟩, h3'⟩
        · obtain ⟨k3, k4⟩ := k2 y hy
          rw [g4 _ (by omega)] at k4
          exact ⟨k3, (Bool.or_eq_false_iff.mp k4).1⟩
    · rintro ⟨⟨h1, h2⟩, h3⟩
      obtain ⟨h4, h5⟩ := h3 x (by simp)
      obtain ⟨_, _, f3⟩ := bits_facts m hm x.toNat (by omega)
      obtain ⟨_, _, g3, g4⟩ := f3 h5
      refine ⟨⟨⟨h4.1, by omega⟩, by simp [h5]⟩, (ordOk_iff hn8 xs _ g3).mpr ⟨h2, fun y hy => ?_⟩⟩
      obtain ⟨k3, k4⟩ := h3 y (by simp [hy])
      refine ⟨k3, ?_⟩
      rw [g4 _ (by omega), k4]
      have : ¬ x.toNat = y.toNat := fun he => h1 (by rwa [show x = y by omega])
      simp [this]

/-- has the list all of k numbers, from i on? -/
def hasAll (os : List Int) : Nat → Nat → Bool
  | _, 0 => true
  | i, k + 1 => decide ((i : Int) ∈ os) && hasAll os (i + 1) k

theorem hasAll_iff {os : List Int} : ∀ (k i : Nat), hasAll os i k = true ↔ ∀ x : Int, (i : Int) ≤ x → x < i + k → x ∈ os
  | 0, i => by simp [hasAll]; intro x h1 h2; omega
  | k + 1, i => by
    rw [hasAll, Bool.and_eq_true, decide_eq_true_eq, hasAll_iff k (i + 1)]
    constructor
    · rintro ⟨h1, h2⟩ x h3 h4
      by_cases hx : x = i
      · rw [hx]; exact h1
      · exact h2 x (by omega) (by omega)
    · intro h
      exact ⟨h _ (by omega) (by omega), fun x h1 h2 => h x (by omega) (by omega)⟩

theorem hasAll_ord {os : List Int} {n : Nat} (hn8 : n ≤ 8) (hl : os.length = n) : hasAll os 0 n = ordOk n 0 os := by
  rw [Bool.eq_iff_iff, hasAll_iff, ordOk_iff hn8 os 0 (by omega)]
  have h0 : ((0 : Nat) : Int) = 0 := rfl
  rw [h0, Int.zero_add]
  constructor
  · intro h
    obtain ⟨h1, h2⟩ := (order_iff hl).mp (fun x h3 h4 => h x h3 h4)
    exact ⟨h1, fun x hx => ⟨h2 x hx, Nat.zero_testBit _⟩⟩
  · rintro ⟨h1, h2⟩
    have := (order_iff hl).mpr ⟨h1, fun x hx => (h2 x hx).1⟩
    exact fun x h3 h4 => this x h3 h4

theorem loop_s_l10Order {q' n : Nat} {rv p : AV} {c' : Option Nat} {os : List Int} {y6 : AV} (h : cellsAt H q' = some (encI os)) (hn : os.length ≤ 9223372036854775806) {q : Nat} {c : Option Nat} (hn8 : n ≤ 8) :
    ∀ (k i : Nat) (y7 y8 : AV), k + i = n → ∃ (z5 z7 z8 : AV), run T pr (.loop w_s_l10Order_1) ⟨[rv, slL q n c, slI q' os.length c', p, .bool false, .int .i64 i, y6, y7, y8], ⟨H, e⟩⟩ =
      some (if hasAll os i k = true then Ex.exit 0 else Ex.ret, ⟨[rv, slL q n c, slI q' os.length c', p, .bool false, z5, y6, z7, z8], ⟨H, e⟩⟩)
  | 0, i, y7, y8, hk => by
    have hi : i = n := by omega
    subst hi
    refine ⟨.int .i64 i, .bool false, y8, ?_⟩
    rw [run_loop]
    generalize run T pr (.loop w_s_l10Order_1) = R
    simp +contextual only [w_s_l10Order_1, Nat.lt_irrefl, decide_false, hasAll, go_sem, entry, joinEsc, if_pos, reduceIte, Nat.reduceAdd, Nat.reduceLeDiff, Nat.reduceLT, Nat.reduceEqDiff]
  | k + 1, i, y7, y8, hk => by
    have hi : i < n := by omega
    obtain ⟨z5, z7, z8, ih⟩ := loop_s_l10Order (rv := rv) (p := p) (y6 := y6) (c' := c') (c := c) (q := q) h hn hn8 k (i + 1) (.bool true) (.bool false) (by omega)
    rw [run_loop, hasAll]
    generalize run T pr (.loop w_s_l10Order_1) = R at ih ⊢
    cases h1 : decide ((i : Int) ∈ os) with
    | false =>
      refine ⟨.int .i64 i, .bool true, .bool true, ?_⟩
      simp +contextual only [w_s_l10Order_1, hi, e_s_l1Has h hn, h1, decide_true, go_sem, entry, joinEsc, if_pos, reduceIte, Nat.reduceAdd, Nat.reduceLeDiff, Nat.reduceLT, Nat.reduceEqDiff]
    | true =>
      refine ⟨z5, z7, z8, ?_⟩
      simp +contextual only [w_s_l10Order_1, hi, e_s_l1Has h hn, h1, decide_true, Bool.true_and, wrap_succ (show i < 9223372036854775807 by omega), go_sem, entry, joinEsc, if_pos, reduceIte, Nat.reduceAdd, Nat.reduceLeDiff, Nat.reduceLT, Nat.reduceEqDiff]
      exact ih

theorem e_s_l10Order {q q' : Nat} {c c' : Option Nat} {ls : List Ld} {os : List Int} (hq : cellsAt H q = some (encL ls)) (h : cellsAt H q' = some (encI os)) (hn : os.length ≤ 9223372036854775806) (a b o : Int) :
    call T pr f_s_l10Order [rfV a b o, slL q ls.length c, slI q' os.length c'] ⟨H, e⟩ = some (.bool (cargoOk a b o ls && (ordOk ls.length 0 os && decide (os.length = ls.length))), ⟨H, e⟩) := by
  rw [call_eq t_s_l10Order]
  have hi : decide ((os.length : Int) = (ls.length : Int)) = decide (os.length = ls.length) := decide_eq_decide.mpr (by omega)
  cases h1 : cargoOk a b o ls with
  | false => simp +contextual only [a_s_l10Order, c_s_l10Order, e_s_l10Cargo (cells_mono hq _), h1, Bool.false_and, go_sem, entry, joinEsc, if_pos, reduceIte, Nat.reduceAdd, Nat.reduceLeDiff, Nat.reduceLT, Nat.reduceEqDiff]
  | true =>
    by_cases h2 : os.length = ls.length
    · have hn8 : ls.length ≤ 8 := by
        unfold cargoOk at h1
        rw [Bool.and_eq_true, decide_eq_true_eq] at h1
        exact h1.2
      rw [← hasAll_ord hn8 h2]
      obtain ⟨z5, z7, z8, hl⟩ := loop_s_l10Order (pr := pr) (e := none) (rv := rfV a b o) (p := .ptr (some (H.length, 0))) (y6 := .bool false) (c := c) (c' := c') (q := q) (cells_mono h [Blk.cells [.int .i64 a, .int .i64 b, .int .i64 o] true]) hn hn8 ls.length 0 .undef .undef rfl
      have h0 : ((0 : Nat) : Int) = 0 := rfl
      rw [h0] at hl
      have h3 : ((os.length : Nat) : Int) = (ls.length : Nat) := by omega
      have h3' : decide (((ls.length : Nat) : Int) = (ls.length : Nat)) = true := decide_eq_true rfl
      rw [h2] at hl ⊢
      cases h4 : hasAll os 0 ls.length <;> rw [h4] at hl <;> simp +contextual only [a_s_l10Order, c_s_l10Order, e_s_l10Cargo (cells_mono hq _), h1, h2, h3, h3', hl, Bool.false_and, Bool.true_and, decide_true, Bool.not_true, go_sem, entry, joinEsc, if_pos, reduceIte, Nat.reduceAdd, Nat.reduceLeDiff, Nat.reduceLT, Nat.reduceEqDiff]
    · have h3 : ¬ ((os.length : Nat) : Int) = (ls.length : Nat) := by omega
      simp +contextual only [a_s_l10Order, c_s_l10Order, e_s_l10Cargo (cells_mono hq _), h1, h2, h3, decide_false, Bool.not_false, Bool.and_false, go_sem, entry, joinEsc, if_pos, reduceIte, Nat.reduceAdd, Nat.reduceLeDiff, Nat.reduceLT, Nat.reduceEqDiff]

/-- how many are on when it tips, 0 if it does not -/
def tipFrom (a b o : Int) (ls : List Ld) : Nat → Nat → List Int → Nat
  | _, _, [] => 0
  | i, m, x :: xs => if safeW a b o ls ((m + 2 ^ x.toNat : Nat) : Int) = true then tipFrom a b o ls (i + 1) (m + 2 ^ x.toNat) xs else i + 1

theorem loop_s_l10Tip {q q' u n : Nat} {rv : AV} {c c' : Option Nat} {ls : List Ld} {os : List Int} {a b o : Int} (hn8 : n ≤ 8) (hq : cellsAt H q = some (encL ls)) (hnq : ls.length ≤ 9223372036854775806) (h : cellsAt H q' = some (encI os)) (hn : os.length ≤ 9223372036854775806) (hu : cellsAt H u = some [.int .i64 a, .int .i64 b, .int .i64 o]) :
    ∀ (k i m : Nat) (y7 y8 : AV), k + i = os.length → m < 256 → ordOk n m (os.drop i) = true → ∃ (z5 z6 z7 z8 : AV), run T pr (.loop w_s_l10Tip_1) ⟨[rv, slL q ls.length c, slI q' os.length c', .ptr (some (u, 0)), .int .i64 0, .int .i64 m, .int .i64 i, y7, y8], ⟨H, e⟩⟩ =
      some (if tipFrom a b o ls i m (os.drop i) = 0 then Ex.exit 0 else Ex.ret, ⟨[rv, slL q ls.length c, slI q' os.length c', .ptr (some (u, 0)), .int .i64 (tipFrom a b o ls i m (os.drop i)), z5, z6, z7, z8], ⟨H, e⟩⟩)
  | 0, i, m, y7, y8, hk, hm, ho => by
    have hi : i = os.length := by omega
    subst hi
    refine ⟨.int .i64 m, .int .i64 os.length, .bool false, y8, ?_⟩
    have h0 : ((0 : Nat) : Int) = 0 := rfl
    rw [run_loop, List.drop_length, tipFrom, h0]
    generalize run T pr (.loop w_s_l10Tip_1) = R
    simp +contextual only [w_s_l10Tip_1, Nat.lt_irrefl, decide_false, go_sem, entry, joinEsc, if_pos, reduceIte, Nat.reduceAdd, Nat.reduceLeDiff, Nat.reduceLT, Nat.reduceEqDiff]
  | k + 1, i, m, y7, y8, hk, hm, ho => by
    have hi : i < os.length := by omega
    have hl : os[i]? = some os[i] := List.getElem?_eq_getElem hi
    rw [run_loop, List.drop_eq_getElem_cons hi, tipFrom]
    rw [List.drop_eq_getElem_cons hi, ordOk, Bool.and_eq_true, Bool.and_eq_true, Bool.and_eq_true, decide_eq_true_eq, decide_eq_true_eq] at ho
    generalize hx : os[i] = x at hl ho ⊢
    obtain ⟨⟨⟨h1, h2⟩, h3⟩, h4⟩ := ho
    obtain ⟨y, rfl⟩ : ∃ y : Nat, x = y := ⟨x.toNat, by omega⟩
    rw [Int.toNat_natCast] at *
    obtain ⟨_, _, f3⟩ := bits_facts m hm y (by omega)
    obtain ⟨_, g2, g3, g4⟩ := f3 (by simpa using h3)
    have g2' : IntKind.i64.wrap ((m : Int) + shlI .i64 1 (y : Int)) = ((m + 2 ^ y : Nat) : Int) := g2
    obtain ⟨z5, z6, z7, z8, ih⟩ := loop_s_l10Tip (rv := rv) (c := c) (c' := c') hn8 hq hnq h hn hu k (i + 1) (m + 2 ^ y) (.bool true) (.bool false) (by omega) g3 h4
    generalize run T pr (.loop w_s_l10Tip_1) = R at ih ⊢
    cases h5 : safeW a b o ls ((m + 2 ^ y : Nat) : Int) with
    | false =>
      refine ⟨.int .i64 ((m + 2 ^ y : Nat) : Int), .int .i64 i, .bool true, .bool true, ?_⟩
      simp +contextual only [w_s_l10Tip_1, h, hu, hi, hl, part_encI _ hl, shl_nat, g2', e_s_l10Safe hq hnq, h5, wrap_succ (show i < 9223372036854775807 by omega), decide_true, Nat.add_eq_zero_iff, Nat.succ_ne_zero, Nat.one_ne_zero, and_false, go_sem, entry, joinEsc, if_pos, reduceIte, Nat.reduceAdd, Nat.reduceLeDiff, Nat.reduceLT, Nat.reduceEqDiff]
    | true =>
      refine ⟨z5, z6, z7, z8, ?_⟩
      simp +contextual only [w_s_l10Tip_1, h, hu, hi, hl, part_encI _ hl, shl_nat, g2', e_s_l10Safe hq hnq, h5, wrap_succ (show i < 9223372036854775807 by omega), decide_true, go_sem, entry, joinEsc, if_pos, reduceIte, Nat.reduceAdd, Nat.reduceLeDiff, Nat.reduceLT, Nat.reduceEqDiff]
      exact ih

theorem e_s_l10Tip {q q' n : Nat} {c c' : Option Nat} {ls : List Ld} {os : List Int} (hn8 : n ≤ 8) (hq : cellsAt H q = some (encL ls)) (hnq : ls.length ≤ 9223372036854775806) (h : cellsAt H q' = some (encI os)) (hn : os.length ≤ 9223372036854775806) (ho : ordOk n 0 os = true) (a b o : Int) :
    call T pr f_s_l10Tip [rfV a b o, slL q ls.length c, slI q' os.length c'] ⟨H, e⟩ = some (.int .i64 (if tipFrom a b o ls 0 0 os = 0 then -1 else tipFrom a b o ls 0 0 os), ⟨H, e⟩) := by
  have hu : cellsAt (H ++ [Blk.cells [.int .i64 a, .int .i64 b, .int .i64 o] true]) H.length = some [.int .i64 a, .int .i64 b, .int .i64 o] := by simp [cellsAt, List.getElem?_append_right]
  obtain ⟨z5, z6, z7, z8, hl⟩ := loop_s_l10Tip (pr := pr) (e := none) (rv := rfV a b o) (c := c) (c' := c') hn8 (cells_mono hq [Blk.cells [.int .i64 a, .int .i64 b, .int .i64 o] true]) hnq (cells_mono h _) hn hu os.length 0 0 .undef .undef rfl (by omega) (by simpa using ho)
  have h0 : ((0 : Nat) : Int) = 0 := rfl
  rw [h0, List.drop_zero] at hl
  rw [call_eq t_s_l10Tip]
  by_cases h1 : tipFrom a b o ls 0 0 os = 0 <;> simp only [h1, if_true, if_false] at hl ⊢ <;> simp +contextual only [a_s_l10Tip, c_s_l10Tip, hl, go_sem, entry, joinEsc, if_pos, reduceIte, Nat.reduceAdd, Nat.reduceLeDiff, Nat.reduceLT, Nat.reduceEqDiff]

theorem loop_i_Raft_firstTip {q q' u n : Nat} {rv : AV} {c c' : Option Nat} {ls : List Ld} {os : List Int} {a b o : Int} (hn8 : n ≤ 8) (hq : cellsAt H q = some (encL ls)) (hnq : ls.length ≤ 9223372036854775806) (h : cellsAt H q' = some (encI os)) (hn : os.length ≤ 9223372036854775806) (hu : cellsAt H u = some [.int .i64 a, .int .i64 b, .int .i64 o]) :
    ∀ (k i m : Nat) (y6 y7 y11 y12 : AV), k + i = os.length → m < 256 → ordOk n m (os.drop i) = true → ∃ (z5 z6 z7 z10 z11 z12 : AV), run T pr (.loop w_i_Raft_firstTip_1) ⟨[rv, slL q ls.length c, slI q' os.length c', .ptr (some (u, 0)), .int .i64 0, .int .i64 m, y6, y7, slI q' os.length c', .int .i64 os.length, .int .i64 i, y11, y12], ⟨H, e⟩⟩ =
      some (if tipFrom a b o ls i m (os.drop i) = 0 then Ex.exit 0 else Ex.ret, ⟨[rv, slL q ls.length c, slI q' os.length c', .ptr (some (u, 0)), .int .i64 (tipFrom a b o ls i m (os.drop i)), z5, z6, z7, slI q' os.length c', .int .i64 os.length, z10, z11, z12], ⟨H, e⟩⟩)
  | 0, i, m, y6, y7, y11, y12, hk, hm, ho => by
    have hi : i = os.length := by omega
    subst hi
    refine ⟨.int .i64 m, y6, y7, .int .i64 os.length, .bool false, y12, ?_⟩
    have h0 : ((0 : Nat) : Int) = 0 := rfl
    rw [run_loop, List.drop_length, tipFrom, h0]
    generalize run T pr (.loop w_i_Raft_firstTip_1) = R
    simp +contextual only [w_i_Raft_firstTip_1, Nat.lt_irrefl, decide_false, go_sem, entry, joinEsc, if_pos, reduceIte, Nat.reduceAdd, Nat.reduceLeDiff, Nat.reduceLT, Nat.reduceEqDiff]
  | k + 1, i, m, y6, y7, y11, y12, hk, hm, ho => by
    have hi : i < os.length := by omega
    have hl : os[i]? = some os[i] := List.getElem?_eq_getElem hi
    rw [run_loop, List.drop_eq_getElem_cons hi, tipFrom]
    rw [List.drop_eq_getElem_cons hi, ordOk, Bool.and_eq_true, Bool.and_eq_true, Bool.and_eq_true, decide_eq_true_eq, decide_eq_true_eq] at ho
    generalize hx : os[i] = x at hl ho ⊢
    obtain ⟨⟨⟨h1, h2⟩, h3⟩, h4⟩ := ho
    obtain ⟨y, rfl⟩ : ∃ y : Nat, x = y := ⟨x.toNat, by omega⟩
    rw [Int.toNat_natCast] at *
    obtain ⟨_, _, f3⟩ := bits_facts m hm y (by omega)
    obtain ⟨g1, _, g3, g4⟩ := f3 (by simpa using h3)
    obtain ⟨z5, z6, z7, z10, z11, z12, ih⟩ := loop_i_Raft_firstTip (rv := rv) (c := c) (c' := c') hn8 hq hnq h hn hu k (i + 1) (m + 2 ^ y) (.int .i64 i) (.int .i64 y) (.bool true) (.bool false) (by omega) g3 h4
    generalize run T pr (.loop w_i_Raft_firstTip_1) = R at ih ⊢
    cases h5 : safeW a b o ls ((m + 2 ^ y : Nat) : Int) with
    | false =>
      refine ⟨.int .i64 ((m + 2 ^ y : Nat) : Int), .int .i64 i, .int .i64 y, .int .i64 i, .bool true, .bool true, ?_⟩
      simp +contextual only [w_i_Raft_firstTip_1, h, hu, hi, hl, part_encI _ hl, shl_nat, g1, e_i_Raft_isSafe hq hnq, h5, wrap_succ (show i < 9223372036854775807 by omega), decide_true, Nat.add_eq_zero_iff, Nat.succ_ne_zero, Nat.one_ne_zero, and_false, go_sem, entry, joinEsc, if_pos, reduceIte, Nat.reduceAdd, Nat.reduceLeDiff, Nat.reduceLT, Nat.reduceEqDiff]
    | true =>
      refine ⟨z5, z6, z7, z10, z11, z12, ?_⟩
      simp +contextual only [w_i_Raft_firstTip_1, h, hu, hi, hl, part_encI _ hl, shl_nat, g1, e_i_Raft_isSafe hq hnq, h5, wrap_succ (show i < 9223372036854775807 by omega), decide_true, go_sem, entry, joinEsc, if_pos, reduceIte, Nat.reduceAdd, Nat.reduceLeDiff, Nat.reduceLT, Nat.reduceEqDiff]
      exact ih

theorem e_i_Raft_firstTip {q q' n : Nat} {c c' : Option Nat} {ls : List Ld} {os : List Int} (hn8 : n ≤ 8) (hq : cellsAt H q = some (encL ls)) (hnq : ls.length ≤ 9223372036854775806) (h : cellsAt H q' = some (encI os)) (hn : os.length ≤ 9223372036854775806) (ho : ordOk n 0 os = true) (a b o : Int) :
    call T pr f_i_Raft_firstTip [rfV a b o, slL q ls.length c, slI q' os.length c'] ⟨H, e⟩ = some (.int .i64 (tipFrom a b o ls 0 0 os), ⟨H, e⟩) := by
  have hu : cellsAt (H ++ [Blk.cells [.int .i64 a, .int .i64 b, .int .i64 o] true]) H.length = some [.int .i64 a, .int .i64 b, .int .i64 o] := by simp [cellsAt, List.getElem?_append_right]
  obtain ⟨z5, z6, z7, z10, z11, z12, hl⟩ := loop_i_Raft_firstTip (pr := pr) (e := none) (rv := rfV a b o) (c := c) (c' := c') hn8 (cells_mono hq [Blk.cells [.int .i64 a, .int .i64 b, .int .i64 o] true]) hnq (cells_mono h _) hn hu os.length 0 0 .undef .undef .undef .undef rfl (by omega) (by simpa using ho)
  have h0 : ((0 : Nat) : Int) = 0 := rfl
  rw [h0, List.drop_zero] at hl
  rw [call_eq t_i_Raft_firstTip]
  by_cases h1 : tipFrom a b o ls 0 0 os = 0 <;> simp only [h1, if_true, if_false] at hl ⊢ <;> simp +contextual only [a_i_Raft_firstTip, c_i_Raft_firstTip, hl, h0, go_sem, entry, joinEsc, if_pos, reduceIte, Nat.reduceAdd, Nat.reduceLeDiff, Nat.reduceLT, Nat.reduceEqDiff]

/-- what FirstTip returns -/
def tipW (a b o : Int) (ls : List Ld) (os : List Int) : Nat := if (cargoOk a b o ls && (ordOk ls.length 0 os && decide (os.length = ls.length))) = true then tipFrom a b o ls 0 0 os else 0

theorem e_i_FirstTip {q q' : Nat} {c c' : Option Nat} {ls : List Ld} {os : List Int} (hq : cellsAt H q = some (encL ls)) (h : cellsAt H q' = some (encI os)) (hn : os.length ≤ 9223372036854775806) (a b o : Int) :
    call T pr f_i_FirstTip [rfV a b o, slL q ls.length c, slI q' os.length c'] ⟨H, e⟩ = some (.tup [.int .i64 (tipW a b o ls os), .bool (decide (0 < tipW a b o ls os))], ⟨H, e⟩) := by
  rw [call_eq t_i_FirstTip]
  unfold tipW
  cases h1 : cargoOk a b o ls with
  | false => simp +contextual only [a_i_FirstTip, c_i_FirstTip, e_i_areCargo (cells_mono hq _), h1, Bool.false_and, Bool.false_eq_true, if_false, Nat.lt_irrefl, decide_false, go_sem, entry, joinEsc, if_pos, reduceIte, Nat.reduceAdd, Nat.reduceLeDiff, Nat.reduceLT, Nat.reduceEqDiff]; rfl
  | true =>
    have hn8 : ls.length ≤ 8 := by
      unfold cargoOk at h1
      rw [Bool.and_eq_true, decide_eq_true_eq] at h1
      exact h1.2
    cases h2 : (ordOk ls.length 0 os && decide (os.length = ls.length)) with
    | false => simp +contextual only [a_i_FirstTip, c_i_FirstTip, e_i_areCargo (cells_mono hq _), e_i_isOrder hn8 (cells_mono h _) hn, h1, h2, Bool.and_false, Bool.false_eq_true, if_false, Nat.lt_irrefl, decide_false, go_sem, entry, joinEsc, if_pos, reduceIte, Nat.reduceAdd, Nat.reduceLeDiff, Nat.reduceLT, Nat.reduceEqDiff]; rfl
    | true =>
      have ho := (Bool.and_eq_true_iff.mp h2).1
      have hp : decide ((tipFrom a b o ls 0 0 os : Int) > 0) = decide (0 < tipFrom a b o ls 0 0 os) := decide_eq_decide.mpr (by omega)
      have hp' : decide ((0 : Int) < (tipFrom a b o ls 0 0 os : Int)) = decide (0 < tipFrom a b o ls 0 0 os) := decide_eq_decide.mpr (by omega)
      simp +contextual only [a_i_FirstTip, c_i_FirstTip, e_i_areCargo (cells_mono hq _), e_i_isOrder hn8 (cells_mono h _) hn, e_i_Raft_firstTip hn8 (cells_mono hq _) (show ls.length ≤ 9223372036854775806 by omega) (cells_mono h _) hn ho, h1, h2, hp, hp', Bool.and_true, go_sem, entry, joinEsc, if_pos, reduceIte, Nat.reduceAdd, Nat.reduceLeDiff, Nat.reduceLT, Nat.reduceEqDiff]

theorem e_s_FirstTip {q q' : Nat} {c c' : Option Nat} {ls : List Ld} {os : List Int} (hq : cellsAt H q = some (encL ls)) (h : cellsAt H q' = some (encI os)) (hn : os.length ≤ 9223372036854775806) (a b o : Int) :
    call T pr f_s_FirstTip [rfV a b o, slL q ls.length c, slI q' os.length c'] ⟨H, e⟩ = some (.tup [.int .i64 (tipW a b o ls os), .bool (decide (0 < tipW a b o ls os))], ⟨H, e⟩) := by
  rw [call_eq t_s_FirstTip]
  unfold tipW
  cases h1 : (cargoOk a b o ls && (ordOk ls.length 0 os && decide (os.length = ls.length))) with
  | false => simp +contextual only [a_s_FirstTip, c_s_FirstTip, e_s_l10Order (cells_mono hq _) (cells_mono h _) hn, h1, Bool.false_eq_true, if_false, Nat.lt_irrefl, decide_false, go_sem, entry, joinEsc, if_pos, reduceIte, Nat.reduceAdd, Nat.reduceLeDiff, Nat.reduceLT, Nat.reduceEqDiff]; rfl
  | true =>
    have hc := (Bool.and_eq_true_iff.mp h1).1
    have hn8 : ls.length ≤ 8 := by
      unfold cargoOk at hc
      rw [Bool.and_eq_true, decide_eq_true_eq] at hc
      exact hc.2
    have ho := (Bool.and_eq_true_iff.mp (Bool.and_eq_true_iff.mp h1).2).1
    have ht := fun G => e_s_l10Tip (pr := pr) (e := none) (c := c) (c' := c') hn8 (cells_mono hq G) (show ls.length ≤ 9223372036854775806 by omega) (cells_mono h G) hn ho a b o
    rw [if_pos rfl]
    by_cases h2 : tipFrom a b o ls 0 0 os = 0
    · simp only [h2, if_true] at ht ⊢
      simp +contextual only [a_s_FirstTip, c_s_FirstTip, e_s_l10Order (cells_mono hq _) (cells_mono h _) hn, ht, h1, Nat.lt_irrefl, decide_false, show ((-1 : Int) < 0) by omega, decide_true, go_sem, entry, joinEsc, if_pos, reduceIte, Nat.reduceAdd, Nat.reduceLeDiff, Nat.reduceLT, Nat.reduceEqDiff]; rfl
    · simp only [h2, if_false] at ht
      have h3 : ¬ ((tipFrom a b o ls 0 0 os : Int) < 0) := by omega
      have h4 : 0 < tipFrom a b o ls 0 0 os := by omega
      simp +contextual only [a_s_FirstTip, c_s_FirstTip, e_s_l10Order (cells_mono hq _) (cells_mono h _) hn, ht, h1, h3, h4, decide_false, decide_true, go_sem, entry, joinEsc, if_pos, reduceIte, Nat.reduceAdd, Nat.reduceLeDiff, Nat.reduceLT, Nat.reduceEqDiff]

theorem law_FirstTip {av av' : AV} {ls : List Ld} {os : List Int} (ha : ArgL H av ls) (hb : ArgI H av' os) (a b o : Int) : ∃ m', call T pr f_l_FnExactFirstTip [rfV a b o, av, av'] ⟨H, none⟩ = some (.bool true, m') := by
  refine ⟨⟨H, none⟩, ?_⟩
  have hsz : ∀ G e', call T pr f_l_szLoadS [av, .int .i64 1048576] ⟨G, e'⟩ = some (.int .i64 (if ls.length ≤ 1048576 then 1048576 - ls.length else -1), ⟨G, e'⟩) := by
    obtain ⟨p, sz, c, rfl, h2, h3⟩ := ha
    exact fun G e' => e_l_szLoadS ls.length p sz c h2
  have hlen : ∃ p sz c, av' = .slice p sz os.length c := by
    obtain ⟨p, sz, c, h1, _⟩ := hb
    exact ⟨p, sz, c, h1⟩
  rw [call_eq t_l_FnExactFirstTip]
  by_cases hm : os.length ≤ 1048576
  · have hm' : os.length ≤ 9223372036854775806 := by omega
    have hgt : decide ((os.length : Int) > 1048576) = false := decide_eq_false (by omega)
    have hgt' : decide ((1048576 : Int) < (os.length : Int)) = false := decide_eq_false (by omega)
    have hcopyI := fun G => e_l_toIntS (pr := pr) (e := none) (hb.more G) hm
    obtain ⟨p, sz, c, rfl⟩ := hlen
    by_cases hn : ls.length ≤ 1048576
    · have hn' : ls.length ≤ 9223372036854775806 := by omega
      have hneg : ¬ (1048576 - (ls.length : Int) < 0) := by omega
      have hcopy := fun G => e_l_toLoadS (pr := pr) (e := none) (ha.more G) hn
      simp +contextual only [a_l_FnExactFirstTip, c_l_FnExactFirstTip, hsz, hn, hm, hgt, hgt', hneg, decide_false, decide_true, e_l_toRaft, hcopy, hcopyI, e_s_FirstTip, e_i_FirstTip, e_l_eqLoadS, e_l_eqIntS, hn', hm', beq_self_eq_true, go_sem, entry, joinEsc, if_pos, reduceIte, Nat.reduceAdd, Nat.reduceLeDiff, Nat.reduceLT, Nat.reduceEqDiff]
    · simp +contextual only [a_l_FnExactFirstTip, c_l_FnExactFirstTip, hsz, hn, hgt, hgt', decide_true, show ((-1 : Int) < 0) by omega, go_sem, entry, joinEsc, if_pos, reduceIte, Nat.reduceAdd, Nat.reduceLeDiff, Nat.reduceLT, Nat.reduceEqDiff]
  · have hgt : decide ((os.length : Int) > 1048576) = true := decide_eq_true (by omega)
    have hgt' : decide ((1048576 : Int) < (os.length : Int)) = true := decide_eq_true (by omega)
    obtain ⟨p, sz, c, rfl⟩ := hlen
    simp +contextual only [a_l_FnExactFirstTip, c_l_FnExactFirstTip, hgt, hgt', go_sem, entry, joinEsc, if_pos, reduceIte, Nat.reduceAdd, Nat.reduceLeDiff, Nat.reduceLT, Nat.reduceEqDiff]

end Go.Proofs.Ytlcklonakjhoiaa.Slim

/- Rafts: in how many ways the rest can be loaded, on both sides. -/
namespace Go.Proofs.Ytlcklonakjhoiaa.Slim

open Go

set_option linter.unusedSimpArgs false

set_option linter.unusedVariables false

variable {pr : Prims} {H : List Blk} {e : Option Nat}

theorem pow_facts : ∀ n : Nat, n < 9 → (shlI .i64 1 (n : Int) = ((2 ^ n : Nat) : Int) ∧ 2 ^ n ≤ 256 ∧ 0 < 2 ^ n) := by decide +kernel

theorem set_facts : ∀ n : Nat, n < 9 → ∀ c : Nat, c < 2 ^ n → ∀ i : Nat, i < n → (c.testBit i = false → c + 2 ^ i < 2 ^ n) ∧ (c + 1 = 2 ^ n → c.testBit i = true) := by decide +kernel

theorem getD_get {W : List Int} {c : Nat} (h : c < W.length) : W[c]? = some (W.getD c 0) := by
  rw [List.getD_eq_getElem?_getD, List.getElem?_eq_getElem h]; rfl

/-- c's ways, grown by those of the items from i on -/
def waysIn (c : Nat) : Nat → Nat → List Int → List Int
  | 0, _, W => W
  | k + 1, i, W => waysIn c k (i + 1) (if c.testBit i = true then W else W.set c (wr (W.getD c 0 + W.getD (c + 2 ^ i) 0)))

theorem waysIn_length {c : Nat} : ∀ (k i : Nat) (W : List Int), (waysIn c k i W).length = W.length
  | 0, _, W => rfl
  | k + 1, i, W => by
    rw [waysIn, waysIn_length k]
    split <;> simp

theorem waysIn_full {c : Nat} : ∀ (k i : Nat) (W : List Int), (∀ j, i ≤ j → j < i + k → c.testBit j = true) → waysIn c k i W = W
  | 0, _, W, _ => rfl
  | k + 1, i, W, h => by
    rw [waysIn, if_pos (h i (by omega) (by omega)), waysIn_full k _ _ (fun j h1 h2 => h j (by omega) (by omega))]

def waysStep (safe : Nat → Bool) (n c : Nat) (W : List Int) : List Int := if safe c = true then (if c + 1 = 2 ^ n then W.set c 1 else waysIn c n 0 W) else W

theorem waysStep_length (safe : Nat → Bool) (n c : Nat) (W : List Int) : (waysStep safe n c W).length = W.length := by
  unfold waysStep
  split
  · split
    · simp
    · exact waysIn_length _ _ _
  · rfl

/-- the sets below c, from the last one to the first -/
def waysDown (safe : Nat → Bool) (n : Nat) : Nat → List Int → List Int
  | 0, W => W
  | c + 1, W => waysDown safe n c (waysStep safe n c W)

theorem waysDown_length (safe : Nat → Bool) (n : Nat) : ∀ (c : Nat) (W : List Int), (waysDown safe n c W).length = W.length
  | 0, W => rfl
  | c + 1, W => by rw [waysDown, waysDown_length safe n c, waysStep_length]

def waysW (a b o : Int) (ls : List Ld) : List Int := waysDown (fun c => safeW a b o ls (c : Int)) ls.length (2 ^ ls.length) (List.replicate (2 ^ ls.length) 0)

theorem waysW_length (a b o : Int) (ls : List Ld) : (waysW a b o ls).length = 2 ^ ls.length := by
  unfold waysW
  rw [waysDown_length]
  simp

theorem bit_clear {c i : Nat} (hc : c < 256) (hi : i < 8) (h : c.testBit i = false) : andI .i64 (shrI .i64 c (i : Int)) 1 = 0 := by
  have : ∀ c : Nat, c < 256 → ∀ i : Nat, i < 8 → c.testBit i = false → andI .i64 (shrI .i64 c (i : Int)) 1 = 0 := by decide +kernel
  exact this c hc i hi h

theorem bit_set {c i : Nat} (hc : c < 256) (hi : i < 8) (h : c.testBit i = true) : andI .i64 (shrI .i64 c (i : Int)) 1 = 1 := by
  have : ∀ c : Nat, c < 256 → ∀ i : Nat, i < 8 → c.testBit i = true → andI .i64 (shrI .i64 c (i : Int)) 1 = 1 := by decide +kernel
  exact this c hc i hi h

theorem loop_s_l10Ways_1 {rv p y3 y4 y8 y9 y10 : AV} {q : Nat} {c : Option Nat} {n F C : Nat} (hn8 : n ≤ 8) (hF : F = 2 ^ n) (hC : C < F) :
    ∀ (k i : Nat) (W : List Int) (y11 y12 : AV), k + i = n → W.length = F → ∃ (z11 z12 : AV), run T pr (.loop w_s_l10Ways_1) ⟨[rv, slL q n c, p, y3, y4, slI H.length F (some F), .int .i64 C, .int .i64 i, y8, y9, y10, y11, y12], ⟨H ++ [.cells (encI W) true], e⟩⟩ =
      some (Ex.exit 2, ⟨[rv, slL q n c, p, y3, y4, slI H.length F (some F), .int .i64 C, .int .i64 n, y8, y9, y10, z11, z12], ⟨H ++ [.cells (encI (waysIn C k i W)) true], e⟩⟩)
  | 0, i, W, y11, y12, hk, hW => by
    have hi : i = n := by omega
    subst hi
    refine ⟨.bool false, y12, ?_⟩
    rw [run_loop]
    generalize run T pr (.loop w_s_l10Ways_1) = R
    simp +contextual only [w_s_l10Ways_1, Nat.lt_irrefl, decide_false, waysIn, go_sem, entry, joinEsc, if_pos, reduceIte, Nat.reduceAdd, Nat.reduceLeDiff, Nat.reduceLT, Nat.reduceEqDiff]
  | k + 1, i, W, y11, y12, hk, hW => by
    have hi : i < n := by omega
    obtain ⟨p1, p2, p3⟩ := pow_facts n (by omega)
    obtain ⟨s1, s2⟩ := set_facts n (by omega) C (by omega) i hi
    obtain ⟨_, _, f3⟩ := bits_facts C (by omega) i (by omega)
    rw [run_loop, waysIn]
    cases h1 : C.testBit i with
    | true =>
      obtain ⟨z11, z12, ih⟩ := loop_s_l10Ways_1 (rv := rv) (p := p) (y3 := y3) (y4 := y4) (y8 := y8) (y9 := y9) (y10 := y10) (q := q) (c := c) hn8 hF hC k (i + 1) W (.bool true) (.bool false) (by omega) hW
      refine ⟨z11, z12, ?_⟩
      generalize run T pr (.loop w_s_l10Ways_1) = R at ih ⊢
      have hb := bit_set (c := C) (i := i) (by omega) (by omega) h1
      simp +contextual only [w_s_l10Ways_1, hi, shr_nat, hb, show ¬ ((1 : Int) = 0) by omega, decide_false, wrap_succ (show i < 9223372036854775807 by omega), decide_true, go_sem, entry, joinEsc, if_pos, reduceIte, Nat.reduceAdd, Nat.reduceLeDiff, Nat.reduceLT, Nat.reduceEqDiff]
      exact ih
    | false =>
      obtain ⟨_, g2, g3, g4⟩ := f3 h1
      have hlt := s1 h1
      have hb := bit_clear (c := C) (i := i) (by omega) (by omega) h1
      have g2' : IntKind.i64.wrap ((C : Int) + shlI .i64 1 (i : Int)) = ((C + 2 ^ i : Nat) : Int) := g2
      have hlt' : C + 2 ^ i < F := by omega
      have e1 := part_encI (ls := W) 1 (getD_get (W := W) (c := C) (by omega))
      have e2 := part_encI (ls := W) 1 (getD_get (W := W) (c := C + 2 ^ i) (by omega))
      have hle : C + 1 ≤ (encI W).length := by rw [List.length_map]; omega
      obtain ⟨z11, z12, ih⟩ := loop_s_l10Ways_1 (rv := rv) (p := p) (y3 := y3) (y4 := y4) (y8 := y8) (y9 := y9) (y10 := y10) (q := q) (c := c) hn8 hF hC k (i + 1) (W.set C (wr (W.getD C 0 + W.getD (C + 2 ^ i) 0))) (.bool true) (.bool true) (by omega) (by simpa using hW)
      refine ⟨z11, z12, ?_⟩
      generalize run T pr (.loop w_s_l10Ways_1) = R at ih ⊢
      simp +contextual only [w_s_l10Ways_1, hi, hC, hlt', shr_nat, shl_nat, hb, g2', e1, e2, hle, setRange_encI (show C < W.length by omega), wrap_succ (show i < 9223372036854775807 by omega), Nat.mul_one, decide_true, go_sem, entry, joinEsc, if_pos, reduceIte, Nat.reduceAdd, Nat.reduceLeDiff, Nat.reduceLT, Nat.reduceEqDiff]
      exact ih

theorem loop_i_Raft_waysOf_1 {rv p y3 y4 y8 y13 y14 : AV} {q : Nat} {c : Option Nat} {n F C : Nat} (hn8 : n ≤ 8) (hF : F = 2 ^ n) (hC : C < F) :
    ∀ (k i : Nat) (W : List Int) (y7 y11 y12 : AV), k + i = n → W.length = F → ∃ (z7 z11 z12 : AV), run T pr (.loop w_i_Raft_waysOf_1) ⟨[rv, slL q n c, p, y3, y4, slI H.length F (some F), .int .i64 C, y7, y8, .int .i64 n, .int .i64 i, y11, y12, y13, y14], ⟨H ++ [.cells (encI W) true], e⟩⟩ =
      some (Ex.exit 3, ⟨[rv, slL q n c, p, y3, y4, slI H.length F (some F), .int .i64 C, z7, y8, .int .i64 n, .int .i64 n, z11, z12, y13, y14], ⟨H ++ [.cells (encI (waysIn C k i W)) true], e⟩⟩)
  | 0, i, W, y7, y11, y12, hk, hW => by
    have hi : i = n := by omega
    subst hi
    refine ⟨y7, .bool false, y12, ?_⟩
    rw [run_loop]
    generalize run T pr (.loop w_i_Raft_waysOf_1) = R
    simp +contextual only [w_i_Raft_waysOf_1, Nat.lt_irrefl, decide_false, waysIn, go_sem, entry, joinEsc, if_pos, reduceIte, Nat.reduceAdd, Nat.reduceLeDiff, Nat.reduceLT, Nat.reduceEqDiff]
  | k + 1, i, W, y7, y11, y12, hk, hW => by
    have hi : i < n := by omega
    obtain ⟨p1, p2, p3⟩ := pow_facts n (by omega)
    obtain ⟨s1, s2⟩ := set_facts n (by omega) C (by omega) i hi
    obtain ⟨_, _, f3⟩ := bits_facts C (by omega) i (by omega)
    rw [run_loop, waysIn]
    cases h1 : C.testBit i with
    | true =>
      obtain ⟨z7, z11, z12, ih⟩ := loop_i_Raft_waysOf_1 (rv := rv) (p := p) (y3 := y3) (y4 := y4) (y8 := y8) (y13 := y13) (y14 := y14) (q := q) (c := c) hn8 hF hC k (i + 1) W (.int .i64 i) (.bool true) (.bool false) (by omega) hW
      refine ⟨z7, z11, z12, ?_⟩
      generalize run T pr (.loop w_i_Raft_waysOf_1) = R at ih ⊢
      have hb := bit_set (c := C) (i := i) (by omega) (by omega) h1
      simp +contextual only [w_i_Raft_waysOf_1, hi, shr_nat, hb, show ¬ ((1 : Int) = 0) by omega, decide_false, wrap_succ (show i < 9223372036854775807 by omega), decide_true, go_sem, entry, joinEsc, if_pos, reduceIte, Nat.reduceAdd, Nat.reduceLeDiff, Nat.reduceLT, Nat.reduceEqDiff]
      exact ih
    | false =>
      obtain ⟨g1, _, g3, g4⟩ := f3 h1
      have hlt := s1 h1
      have hb := bit_clear (c := C) (i := i) (by omega) (by omega) h1
      have hlt' : C + 2 ^ i < F := by omega
      have e1 := part_encI (ls := W) 1 (getD_get (W := W) (c := C) (by omega))
      have e2 := part_encI (ls := W) 1 (getD_get (W := W) (c := C + 2 ^ i) (by omega))
      have hle : C + 1 ≤ (encI W).length := by rw [List.length_map]; omega
      obtain ⟨z7, z11, z12, ih⟩ := loop_i_Raft_waysOf_1 (rv := rv) (p := p) (y3 := y3) (y4 := y4) (y8 := y8) (y13 := y13) (y14 := y14) (q := q) (c := c) hn8 hF hC k (i + 1) (W.set C (wr (W.getD C 0 + W.getD (C + 2 ^ i) 0))) (.int .i64 i) (.bool true) (.bool true) (by omega) (by simpa using hW)
      refine ⟨z7, z11, z12, ?_⟩
      generalize run T pr (.loop w_i_Raft_waysOf_1) = R at ih ⊢
      simp +contextual only [w_i_Raft_waysOf_1, hi, hC, hlt', shr_nat, shl_nat, hb, g1, e1, e2, hle, setRange_encI (show C < W.length by omega), wrap_succ (show i < 9223372036854775807 by omega), Nat.mul_one, decide_true, go_sem, entry, joinEsc, if_pos, reduceIte, Nat.reduceAdd, Nat.reduceLeDiff, Nat.reduceLT, Nat.reduceEqDiff]
      exact ih

theorem loop_s_l10Ways_2 {rv y3 : AV} {q u : Nat} {c : Option Nat} {ls : List Ld} {n F : Nat} {a b o : Int} (hls : ls.length = n) (hn8 : n ≤ 8) (hF : F = 2 ^ n) (h : cellsAt H q = some (encL ls)) (hu : cellsAt H u = some [.int .i64 a, .int .i64 b, .int .i64 o]) :
    ∀ (C : Nat) (x : Int) (W : List Int) (y7 y8 y9 y10 y11 y12 : AV), x = (C : Int) - 1 → C ≤ F → W.length = F → ∃ (z6 z7 z8 z9 z10 z11 z12 : AV), run T pr (.loop w_s_l10Ways_2) ⟨[rv, slL q n c, .ptr (some (u, 0)), y3, .int .i64 ((F - 1 : Nat) : Int), slI H.length F (some F), .int .i64 x, y7, y8, y9, y10, y11, y12], ⟨H ++ [.cells (encI W) true], none⟩⟩ =
      some (Ex.exit 0, ⟨[rv, slL q n c, .ptr (some (u, 0)), y3, .int .i64 ((F - 1 : Nat) : Int), slI H.length F (some F), z6, z7, z8, z9, z10, z11, z12], ⟨H ++ [.cells (encI (waysDown (fun c => safeW a b o ls (c : Int)) n C W)) true], none⟩⟩)
  | 0, x, W, y7, y8, y9, y10, y11, y12, hx, hC, hW => by
    subst hx
    refine ⟨.int .i64 (((0 : Nat) : Int) - 1), y7, .bool false, y9, y10, y11, y12, ?_⟩
    rw [run_loop]
    generalize run T pr (.loop w_s_l10Ways_2) = R
    simp +contextual only [w_s_l10Ways_2, show ¬ (0 ≤ ((0 : Nat) : Int) - 1) by omega, decide_false, waysDown, go_sem, entry, joinEsc, if_pos, reduceIte, Nat.reduceAdd, Nat.reduceLeDiff, Nat.reduceLT, Nat.reduceEqDiff]
  | C + 1, x, W, y7, y8, y9, y10, y11, y12, hx, hC, hW => by
    obtain rfl : x = (C : Int) := by omega
    obtain ⟨p1, p2, p3⟩ := pow_facts n (by omega)
    have hw : IntKind.i64.wrap ((C : Int) - 1) = (C : Int) - 1 := wrap64 (by omega) (by omega)
    have hsafe := fun G => e_s_l10Safe (pr := pr) (e := none) (c := c) (cells_mono h G) (show ls.length ≤ 9223372036854775806 by omega) a b o (C : Int)
    rw [hls] at hsafe
    rw [run_loop, waysDown, waysStep]
    have h0 : ((0 : Nat) : Int) = 0 := rfl
    cases h1 : safeW a b o ls (C : Int) with
    | false =>
      obtain ⟨z6, z7, z8, z9, z10, z11, z12, ih⟩ := loop_s_l10Ways_2 (rv := rv) (y3 := y3) (c := c) hls hn8 hF h hu C ((C : Int) - 1) W y7 (.bool true) (.bool true) y10 y11 y12 rfl (by omega) hW
      refine ⟨z6, z7, z8, z9, z10, z11, z12, ?_⟩
      generalize run T pr (.loop w_s_l10Ways_2) = R at ih ⊢
      simp +contextual only [w_s_l10Ways_2, cells_mono hu, hsafe, h1, hw, decide_true, go_sem, entry, joinEsc, if_pos, reduceIte, Nat.reduceAdd, Nat.reduceLeDiff, Nat.reduceLT, Nat.reduceEqDiff]
      exact ih
    | true =>
      by_cases hc : C + 1 = F
      · have hfull : waysIn C n 0 (W.set C 1) = W.set C 1 := waysIn_full n 0 _ (fun j h2 h3 => (set_facts n (by omega) C (by omega) j (by omega)).2 (by omega))
        obtain ⟨z11, z12, hl⟩ := loop_s_l10Ways_1 (pr := pr) (e := none) (H := H) (rv := rv) (p := .ptr (some (u, 0))) (y3 := y3) (y4 := .int .i64 ((F - 1 : Nat) : Int)) (y8 := .bool true) (y9 := .bool false) (y10 := .bool true) (q := q) (c := c) hn8 hF (show C < F by omega) n 0 (W.set C 1) y11 y12 rfl (by simpa using hW)
        rw [hfull, h0] at hl
        obtain ⟨w6, w7, w8, w9, w10, w11, w12, ih⟩ := loop_s_l10Ways_2 (rv := rv) (y3 := y3) (c := c) hls hn8 hF h hu C ((C : Int) - 1) (W.set C 1) (.int .i64 n) (.bool true) (.bool false) (.bool true) z11 z12 rfl (by omega) (by simpa using hW)
        refine ⟨w6, w7, w8, w9, w10, w11, w12, ?_⟩
        generalize run T pr (.loop w_s_l10Ways_2) = R at ih ⊢
        have hq : decide ((C : Int) = ((F - 1 : Nat) : Int)) = true := decide_eq_true (by omega)
        have hc' : C + 1 = 2 ^ n := by omega
        have hCF : C < F := by omega
        have hle : 2 ^ n ≤ (encI W).length := by rw [List.length_map]; omega
        simp +contextual only [w_s_l10Ways_2, cells_mono hu, hsafe, h1, hw, hq, hc', hCF, hle, hl, setRange_encI (show C < W.length by omega), Nat.mul_one, decide_true, go_sem, entry, joinEsc, if_pos, reduceIte, Nat.reduceAdd, Nat.reduceLeDiff, Nat.reduceLT, Nat.reduceEqDiff]
        exact ih
      · obtain ⟨z11, z12, hl⟩ := loop_s_l10Ways_1 (pr := pr) (e := none) (H := H) (rv := rv) (p := .ptr (some (u, 0))) (y3 := y3) (y4 := .int .i64 ((F - 1 : Nat) : Int)) (y8 := .bool true) (y9 := .bool false) (y10 := .bool false) (q := q) (c := c) hn8 hF (show C < F by omega) n 0 W y11 y12 rfl hW
        rw [h0] at hl
        obtain ⟨w6, w7, w8, w9, w10, w11, w12, ih⟩ := loop_s_l10Ways_2 (rv := rv) (y3 := y3) (c := c) hls hn8 hF h hu C ((C : Int) - 1) (waysIn C n 0 W) (.int .i64 n) (.bool true) (.bool false) (.bool false) z11 z12 rfl (by omega) (by rw [waysIn_length]; exact hW)
        refine ⟨w6, w7, w8, w9, w10, w11, w12, ?_⟩
        generalize run T pr (.loop w_s_l10Ways_2) = R at ih ⊢
        have hq : decide ((C : Int) = ((F - 1 : Nat) : Int)) = false := decide_eq_false (by omega)
        have hc' : ¬ C + 1 = 2 ^ n := by omega
        simp +contextual only [w_s_l10Ways_2, cells_mono hu, hsafe, h1, hw, hq, hc', hl, decide_true, go_sem, entry, joinEsc, if_pos, reduceIte, Nat.reduceAdd, Nat.reduceLeDiff, Nat.reduceLT, Nat.reduceEqDiff]
        exact ih

theorem loop_i_Raft_waysOf_2 {rv y3 : AV} {q u : Nat} {c : Option Nat} {ls : List Ld} {n F : Nat} {a b o : Int} (hls : ls.length = n) (hn8 : n ≤ 8) (hF : F = 2 ^ n) (h : cellsAt H q = some (encL ls)) (hu : cellsAt H u = some [.int .i64 a, .int .i64 b, .int .i64 o]) :
    ∀ (C : Nat) (x : Int) (W : List Int) (y7 y8 y9 y10 y11 y12 y13 y14 : AV), x = (C : Int) - 1 → C ≤ F → W.length = F → ∃ (z6 z7 z8 z9 z10 z11 z12 z13 z14 : AV), run T pr (.loop w_i_Raft_waysOf_2) ⟨[rv, slL q n c, .ptr (some (u, 0)), y3, .int .i64 ((F - 1 : Nat) : Int), slI H.length F (some F), .int .i64 x, y7, y8, y9, y10, y11, y12, y13, y14], ⟨H ++ [.cells (encI W) true], none⟩⟩ =
      some (Ex.exit 0, ⟨[rv, slL q n c, .ptr (some (u, 0)), y3, .int .i64 ((F - 1 : Nat) : Int), slI H.length F (some F), z6, z7, z8, z9, z10, z11, z12, z13, z14], ⟨H ++ [.cells (encI (waysDown (fun c => safeW a b o ls (c : Int)) n C W)) true], none⟩⟩)
  | 0, x, W, y7, y8, y9, y10, y11, y12, y13, y14, hx, hC, hW => by
    subst hx
    refine ⟨.int .i64 (((0 : Nat) : Int) - 1), y7, .bool false, y9, y10, y11, y12, y13, y14, ?_⟩
    rw [run_loop]
    generalize run T pr (.loop w_i_Raft_waysOf_2) = R
    simp +contextual only [w_i_Raft_waysOf_2, show ¬ (0 ≤ ((0 : Nat) : Int) - 1) by omega, decide_false, waysDown, go_sem, entry, joinEsc, if_pos, reduceIte, Nat.reduceAdd, Nat.reduceLeDiff, Nat.reduceLT, Nat.reduceEqDiff]
  | C + 1, x, W, y7, y8, y9, y10, y11, y12, y13, y14, hx, hC, hW => by
    obtain rfl : x = (C : Int) := by omega
    obtain ⟨p1, p2, p3⟩ := pow_facts n (by omega)
    have hw : IntKind.i64.wrap ((C : Int) - 1) = (C : Int) - 1 := wrap64 (by omega) (by omega)
    have hsafe := fun G => e_i_Raft_isSafe (pr := pr) (e := none) (c := c) (cells_mono h G) (show ls.length ≤ 9223372036854775806 by omega) a b o (C : Int)
    rw [hls] at hsafe
    rw [run_loop, waysDown, waysStep]
    have h0 : ((0 : Nat) : Int) = 0 := rfl
    cases h1 : safeW a b o ls (C : Int) with
    | false =>
      obtain ⟨z6, z7, z8, z9, z10, z11, z12, z13, z14, ih⟩ := loop_i_Raft_waysOf_2 (rv := rv) (y3 := y3) (c := c) hls hn8 hF h hu C ((C : Int) - 1) W y7 (.bool true) y9 y10 y11 y12 (.bool true) y14 rfl (by omega) hW
      refine ⟨z6, z7, z8, z9, z10, z11, z12, z13, z14, ?_⟩
      generalize run T pr (.loop w_i_Raft_waysOf_2) = R at ih ⊢
      simp +contextual only [w_i_Raft_waysOf_2, cells_mono hu, hsafe, h1, hw, decide_true, go_sem, entry, joinEsc, if_pos, reduceIte, Nat.reduceAdd, Nat.reduceLeDiff, Nat.reduceLT, Nat.reduceEqDiff]
      exact ih
    | true =>
      by_cases hc : C + 1 = F
      · obtain ⟨w6, w7, w8, w9, w10, w11, w12, w13, w14, ih⟩ := loop_i_Raft_waysOf_2 (rv := rv) (y3 := y3) (c := c) hls hn8 hF h hu C ((C : Int) - 1) (W.set C 1) y7 (.bool true) y9 y10 y11 y12 (.bool false) (.bool true) rfl (by omega) (by simpa using hW)
        refine ⟨w6, w7, w8, w9, w10, w11, w12, w13, w14, ?_⟩
        generalize run T pr (.loop w_i_Raft_waysOf_2) = R at ih ⊢
        have hq : decide ((C : Int) = ((F - 1 : Nat) : Int)) = true := decide_eq_true (by omega)
        have hc' : C + 1 = 2 ^ n := by omega
        have hCF : C < F := by omega
        have hle : 2 ^ n ≤ (encI W).length := by rw [List.length_map]; omega
        simp +contextual only [w_i_Raft_waysOf_2, cells_mono hu, hsafe, h1, hw, hq, hc', hCF, hle, setRange_encI (show C < W.length by omega), Nat.mul_one, decide_true, go_sem, entry, joinEsc, if_pos, reduceIte, Nat.reduceAdd, Nat.reduceLeDiff, Nat.reduceLT, Nat.reduceEqDiff]
        exact ih
      · obtain ⟨z7, z11, z12, hl⟩ := loop_i_Raft_waysOf_1 (pr := pr) (e := none) (H := H) (rv := rv) (p := .ptr (some (u, 0))) (y3 := y3) (y4 := .int .i64 ((F - 1 : Nat) : Int)) (y8 := .bool true) (y13 := .bool false) (y14 := .bool false) (q := q) (c := c) hn8 hF (show C < F by omega) n 0 W y7 y11 y12 rfl hW
        rw [h0] at hl
        obtain ⟨w6, w7, w8, w9, w10, w11, w12, w13, w14, ih⟩ := loop_i_Raft_waysOf_2 (rv := rv) (y3 := y3) (c := c) hls hn8 hF h hu C ((C : Int) - 1) (waysIn C n 0 W) z7 (.bool true) (.int .i64 n) (.int .i64 n) z11 z12 (.bool false) (.bool false) rfl (by omega) (by rw [waysIn_length]; exact hW)
        refine ⟨w6, w7, w8, w9, w10, w11, w12, w13, w14, ?_⟩
        generalize run T pr (.loop w_i_Raft_waysOf_2) = R at ih ⊢
        have hq : decide ((C : Int) = ((F - 1 : Nat) : Int)) = false := decide_eq_false (by omega)
        have hc' : ¬ C + 1 = 2 ^ n := by omega
        simp +contextual only [w_i_Raft_waysOf_2, cells_mono hu, hsafe, h1, hw, hq, hc', hl, decide_true, go_sem, entry, joinEsc, if_pos, reduceIte, Nat.reduceAdd, Nat.reduceLeDiff, Nat.reduceLT, Nat.reduceEqDiff]
        exact ih

theorem fin_ways (x : Blk) (W : List Int) (n : Nat) (c : Option Nat) (e0 : Option Nat) : finish 2 H.length e0 (slI (H.length + 1) n c) ⟨H ++ [x, Blk.cells (encI W) true], none⟩ = some (slI H.length n c, ⟨H ++ [Blk.cells (encI W) true], e0⟩) :=
  finish_two_at e0 rfl (under_encI _ _)

theorem e_s_l10Ways {q : Nat} {c : Option Nat} {ls : List Ld} (h : cellsAt H q = some (encL ls)) (hn8 : ls.length ≤ 8) (a b o : Int) : call T pr f_s_l10Ways [rfV a b o, slL q ls.length c] ⟨H, e⟩ =
    some (slI H.length (2 ^ ls.length) (some (2 ^ ls.length)), ⟨H ++ [.cells (encI (waysW a b o ls)) true], e⟩) := by
  obtain ⟨p1, p2, p3⟩ := pow_facts ls.length (by omega)
  unfold waysW
  generalize hF : 2 ^ ls.length = F at *
  have hu : cellsAt (H ++ [Blk.cells [.int .i64 a, .int .i64 b, .int .i64 o] true]) H.length = some [.int .i64 a, .int .i64 b, .int .i64 o] := by simp [cellsAt, List.getElem?_append_right]
  have hx : ((F - 1 : Nat) : Int) = (F : Int) - 1 := by omega
  obtain ⟨z6, z7, z8, z9, z10, z11, z12, hl⟩ := loop_s_l10Ways_2 (pr := pr) (c := c) (rv := rfV a b o) (y3 := .slice none 0 0 none) rfl hn8 hF.symm (cells_mono h [Blk.cells [.int .i64 a, .int .i64 b, .int .i64 o] true]) hu F ((F - 1 : Nat) : Int) (List.replicate F 0) .undef .undef .undef .undef .undef .undef hx (Nat.le_refl _) (by simp)
  rw [← zeros_encI, List.append_assoc, List.append_assoc] at hl
  simp only [List.length_append, List.length_cons, List.length_nil, Nat.zero_add, List.cons_append, List.nil_append] at hl
  have w1 : IntKind.i64.wrap ((F : Int) - 1) = ((F - 1 : Nat) : Int) := by rw [hx]; exact wrap64 (by omega) (by omega)
  have w2 : IntKind.i64.wrap (((F - 1 : Nat) : Int) + 1) = (F : Int) := by rw [hx, show (F : Int) - 1 + 1 = F by omega]; exact wrap64 (by omega) (by omega)
  have hmb : (F : Int) * ((8 : Nat) : Int) ≤ ((maxBytes : Nat) : Int) := by unfold maxBytes; omega
  rw [call_eq t_s_l10Ways]
  simp +contextual only [a_s_l10Ways, c_s_l10Ways, shl_nat, p1, w1, w2, hmb, hl, fin_ways, go_sem, entry, joinEsc, if_pos, reduceIte, Nat.reduceAdd, Nat.reduceLeDiff, Nat.reduceLT, Nat.reduceEqDiff]

theorem e_i_Raft_waysOf {q : Nat} {c : Option Nat} {ls : List Ld} (h : cellsAt H q = some (encL ls)) (hn8 : ls.length ≤ 8) (a b o : Int) : call T pr f_i_Raft_waysOf [rfV a b o, slL q ls.length c] ⟨H, e⟩ =
    some (slI H.length (2 ^ ls.length) (some (2 ^ ls.length)), ⟨H ++ [.cells (encI (waysW a b o ls)) true], e⟩) := by
  obtain ⟨p1, p2, p3⟩ := pow_facts ls.length (by omega)
  unfold waysW
  generalize hF : 2 ^ ls.length = F at *
  have hu : cellsAt (H ++ [Blk.cells [.int .i64 a, .int .i64 b, .int .i64 o] true]) H.length = some [.int .i64 a, .int .i64 b, .int .i64 o] := by simp [cellsAt, List.getElem?_append_right]
  have hx : ((F - 1 : Nat) : Int) = (F : Int) - 1 := by omega
  obtain ⟨z6, z7, z8, z9, z10, z11, z12, z13, z14, hl⟩ := loop_i_Raft_waysOf_2 (pr := pr) (c := c) (rv := rfV a b o) (y3 := .slice none 0 0 none) rfl hn8 hF.symm (cells_mono h [Blk.cells [.int .i64 a, .int .i64 b, .int .i64 o] true]) hu F ((F - 1 : Nat) : Int) (List.replicate F 0) .undef .undef .undef .undef .undef .undef .undef .undef hx (Nat.le_refl _) (by simp)
  rw [← zeros_encI, List.append_assoc, List.append_assoc] at hl
  simp only [List.length_append, List.length_cons, List.length_nil, Nat.zero_add, List.cons_append, List.nil_append] at hl
  have w1 : IntKind.i64.wrap ((F : Int) - 1) = ((F - 1 : Nat) : Int) := by rw [hx]; exact wrap64 (by omega) (by omega)
  have w2 : IntKind.i64.wrap (((F - 1 : Nat) : Int) + 1) = (F : Int) := by rw [hx, show (F : Int) - 1 + 1 = F by omega]; exact wrap64 (by omega) (by omega)
  have hmb : (F : Int) * ((8 : Nat) : Int) ≤ ((maxBytes : Nat) : Int) := by unfold maxBytes; omega
  rw [call_eq t_i_Raft_waysOf]
  simp +contextual only [a_i_Raft_waysOf, c_i_Raft_waysOf, shl_nat, p1, w1, w2, hmb, hl, fin_ways, go_sem, entry, joinEsc, if_pos, reduceIte, Nat.reduceAdd, Nat.reduceLeDiff, Nat.reduceLT, Nat.reduceEqDiff]

end Go.Proofs.Ytlcklonakjhoiaa.Slim

/- Rafts: what the ways tell; the next steps. -/
namespace Go.Proofs.Ytlcklonakjhoiaa.Slim

open Go

set_option linter.unusedSimpArgs false

set_option linter.unusedVariables false

variable {pr : Prims} {H : List Blk} {e : Option Nat}

/-- the items that are not in c -/
def mu (n c : Nat) : Nat := ((List.range n).filter fun i => !c.testBit i).length

theorem mu_facts : ∀ n : Nat, n < 9 → ∀ c : Nat, c < 2 ^ n → (mu n c ≤ 8 ∧ (mu n c = 0 ↔ c + 1 = 2 ^ n) ∧ ∀ i : Nat, i < n → c.testBit i = false → mu n c = mu n (c + 2 ^ i) + 1) := by decide +kernel

theorem mu_zero (n : Nat) : mu n 0 = n := by
  unfold mu
  rw [List.filter_eq_self.mpr (by simp)]
  simp

/-- item i can be added to c, and the rest in some way behind it -/
def okStep (W : List Int) (c i : Nat) : Bool := !c.testBit i && decide (0 < W.getD (c + 2 ^ i) 0)

def stepsW (W : List Int) (n c : Nat) : List Int := ((List.range n).filter (okStep W c)).map fun (i : Nat) => (i : Int)

theorem getD_set (W : List Int) (c d : Nat) (x : Int) (h : c < W.length) : (W.set c x).getD d 0 = if c = d then x else W.getD d 0 := by
  rw [List.getD_eq_getElem?_getD, List.getD_eq_getElem?_getD, List.getElem?_set]
  by_cases hd : c = d
  · subst hd; rw [if_pos rfl, if_pos rfl, if_pos h]; rfl
  · rw [if_neg hd, if_neg hd]

theorem waysIn_spec {c n b : Nat} : ∀ (k i : Nat) (W : List Int), k + i = n → c < W.length → (∀ j, j < n → c.testBit j = false → 0 ≤ W.getD (c + 2 ^ j) 0 ∧ W.getD (c + 2 ^ j) 0 ≤ b) → 0 ≤ W.getD c 0 → W.getD c 0 + k * b ≤ 9223372036854775807 →
    (∀ d, d ≠ c → (waysIn c k i W).getD d 0 = W.getD d 0) ∧ W.getD c 0 ≤ (waysIn c k i W).getD c 0 ∧ (waysIn c k i W).getD c 0 ≤ W.getD c 0 + k * b ∧ (W.getD c 0 < (waysIn c k i W).getD c 0 → ∃ j, j < n ∧ okStep W c j = true)
  | 0, i, W, hk, hc, hb, h0, hm => by
    rw [waysIn]
    refine ⟨fun d _ => rfl, Int.le_refl _, by omega, fun h => by omega⟩
  | k + 1, i, W, hk, hc, hb, h0, hm => by
    rw [waysIn]
    have hkb : ((k + 1 : Nat) : Int) * (b : Int) = (k : Int) * b + b := by
      rw [Int.natCast_add, Int.add_mul]; simp
    cases h1 : c.testBit i with
    | true =>
      rw [if_pos rfl]
      obtain ⟨r1, r2, r3, r4⟩ := waysIn_spec (n := n) (b := b) k (i + 1) W (by omega) hc hb h0 (by omega)
      exact ⟨r1, r2, by omega, r4⟩
    | false =>
      rw [if_neg (by simp)]
      obtain ⟨b1, b2⟩ := hb i (by omega) h1
      have hkb0 : (0 : Int) ≤ (k : Int) * b := Int.mul_nonneg (by omega) (by omega)
      have hwr : wr (W.getD c 0 + W.getD (c + 2 ^ i) 0) = W.getD c 0 + W.getD (c + 2 ^ i) 0 := wrap64 (by omega) (by omega)
      rw [hwr]
      generalize hx : W.getD c 0 + W.getD (c + 2 ^ i) 0 = x
      have hne : ∀ j, c + 2 ^ j ≠ c := fun j hj => by have := Nat.two_pow_pos j; omega
      have gs := fun d => getD_set W c d x hc
      obtain ⟨r1, r2, r3, r4⟩ := waysIn_spec (c := c) (n := n) (b := b) k (i + 1) (W.set c x) (by omega) (by simpa using hc)
        (fun j hj hjc => by rw [gs, if_neg (fun h => hne j h.symm)]; exact hb j hj hjc) (by rw [gs, if_pos rfl]; omega) (by rw [gs, if_pos rfl]; omega)
      rw [gs c, if_pos rfl] at r2 r3 r4
      refine ⟨fun d hd => by rw [r1 d hd, gs, if_neg (fun h => hd h.symm)], by omega, by omega, fun hlt => ?_⟩
      by_cases hz : 0 < W.getD (c + 2 ^ i) 0
      · exact ⟨i, by omega, by simp [okStep, h1]; simpa using hz⟩
      · obtain ⟨j, j1, j2⟩ := r4 (by omega)
        refine ⟨j, j1, ?_⟩
        unfold okStep at j2 ⊢
        rw [gs, if_neg (fun h => hne j h.symm)] at j2
        exact j2

/-- what is true of c's ways -/
def goodW (n : Nat) (W : List Int) (c : Nat) : Prop := 0 ≤ W.getD c 0 ∧ W.getD c 0 ≤ ((8 ^ mu n c : Nat) : Int) ∧ (0 < W.getD c 0 → mu n c ≠ 0 → ∃ i, i < n ∧ okStep W c i = true)

theorem goodW_of {n c : Nat} {W W' : List Int} (hs : ∀ d, c ≤ d → W'.getD d 0 = W.getD d 0) (h : goodW n W c) : goodW n W' c := by
  obtain ⟨h1, h2, h3⟩ := h
  refine ⟨by rw [hs c (Nat.le_refl _)]; exact h1, by rw [hs c (Nat.le_refl _)]; exact h2, fun k1 k2 => ?_⟩
  rw [hs c (Nat.le_refl _)] at k1
  obtain ⟨i, i1, i2⟩ := h3 k1 k2
  refine ⟨i, i1, ?_⟩
  unfold okStep at *
  rw [hs _ (Nat.le_add_right _ _)]
  exact i2

theorem waysDown_good {n F : Nat} (safe : Nat → Bool) (hn8 : n ≤ 8) (hF : F = 2 ^ n) : ∀ (C : Nat) (W : List Int), C ≤ F → W.length = F → (∀ c, c < C → W.getD c 0 = 0) → (∀ c, C ≤ c → c < F → goodW n W c) →
    ∀ c, c < F → goodW n (waysDown safe n C W) c
  | 0, W, _, _, _, h => fun c hc => by rw [waysDown]; exact h c (by omega) hc
  | C + 1, W, hC, hW, hz, h => by
    rw [waysDown]
    obtain ⟨m1, m2, m3⟩ := mu_facts n (by omega) C (by omega)
    have hz0 := hz C (by omega)
    have hCW : C < W.length := by omega
    have key : (∀ d, d ≠ C → (waysStep safe n C W).getD d 0 = W.getD d 0) ∧ goodW n (waysStep safe n C W) C := by
      unfold waysStep
      cases hs : safe C with
      | false =>
        rw [if_neg (by simp)]
        refine ⟨fun d _ => rfl, by omega, ?_, fun k1 => by omega⟩
        rw [hz0]; exact Int.natCast_nonneg _
      | true =>
        rw [if_pos rfl]
        by_cases hc : C + 1 = 2 ^ n
        · rw [if_pos hc]
          have gs := fun d => getD_set W C d 1 hCW
          have hm0 := m2.mpr hc
          refine ⟨fun d hd => by rw [gs, if_neg (fun h => hd h.symm)], ?_, ?_, fun _ k2 => absurd hm0 k2⟩
          · rw [gs, if_pos rfl]; omega
          · rw [gs, if_pos rfl, hm0]; simp
        · rw [if_neg hc]
          have hm0 : mu n C ≠ 0 := fun h => hc (m2.mp h)
          obtain ⟨m', hm'⟩ : ∃ m', mu n C = m' + 1 := ⟨mu n C - 1, by omega⟩
          have hp : 8 ^ m' ≤ 8 ^ 7 := Nat.pow_le_pow_right (by omega) (by omega)
          have hnb : (n : Int) * ((8 ^ m' : Nat) : Int) ≤ 8 * ((8 ^ m' : Nat) : Int) := Int.mul_le_mul_of_nonneg_right (by omega) (Int.natCast_nonneg _)
          have h87 : (8 : Nat) ^ 7 = 2097152 := by decide
          obtain ⟨r1, r2, r3, r4⟩ := waysIn_spec (c := C) (n := n) (b := 8 ^ m') n 0 W (by omega) hCW (fun j hj hjc => by
            have hlt := (set_facts n (by omega) C (by omega) j hj).1 hjc
            obtain ⟨g1, g2, _⟩ := h (C + 2 ^ j) (by have := Nat.two_pow_pos j; omega) (by omega)
            have := m3 j hj hjc
            rw [show mu n (C + 2 ^ j) = m' by omega] at g2
            exact ⟨g1, g2⟩) (by omega) (by omega)
          refine ⟨r1, by omega, ?_, fun k1 _ => ?_⟩
          · rw [hm', Nat.pow_succ]
            omega
          · obtain ⟨j, j1, j2⟩ := r4 (by omega)
            refine ⟨j, j1, ?_⟩
            unfold okStep at j2 ⊢
            rw [r1 _ (by have := Nat.two_pow_pos j; omega)]
            exact j2
    obtain ⟨k1, k2⟩ := key
    refine waysDown_good safe hn8 hF C _ (by omega) (by rw [waysStep_length]; exact hW) (fun c hc => by rw [k1 c (by omega)]; exact hz c (by omega)) ?_
    intro c hc1 hc2
    by_cases he : c = C
    · rw [he]; exact k2
    · exact goodW_of (W := W) (fun d hd => k1 d (by omega)) (h c (by omega) hc2)

theorem waysW_good {a b o : Int} {ls : List Ld} (hn8 : ls.length ≤ 8) : ∀ c, c < 2 ^ ls.length → goodW ls.length (waysW a b o ls) c :=
  waysDown_good _ hn8 rfl _ _ (Nat.le_refl _) (by simp) (fun c hc => by rw [List.getD_eq_getElem?_getD, List.getElem?_replicate, if_pos hc]; rfl) (fun c h1 h2 => absurd h1 (by omega))

theorem encI_append (a b : List Int) : encI (a ++ b) = encI a ++ encI b := by simp [encI]

/-- one number more -/
theorem append_in {G : List Blk} {j : Nat} {o : List Int} {cap : Option Nat} (hG : G[j]? = some (.cells (encI o) true)) (hcap : cap = some 0 → o = []) (hmb : (o.length + 1) * 8 ≤ maxBytes) (a : Int) :
    appendV (H ++ (G ++ [.cells [.int .i64 a] true])) e false 1 8 (slI (H.length + j) o.length cap) (.slice (some (H.length + G.length, 0)) 1 1 (some 1)) =
      some (slI (H.length + (G.length + 1)) (o.length + 1) none, ⟨H ++ (killIf cap j (G ++ [.cells [.int .i64 a] true]) ++ [.cells (encI o ++ [.int .i64 a]) true]), e⟩) := by
  have hj : j < G.length := (List.getElem?_eq_some_iff.mp hG).1
  rw [appendV_more (k := 1) (cs := encI o) (new := [.int .i64 a]) (by rw [List.getElem?_append_left hj]; exact hG)
    (srcCells_new _ 1 1 _ _ _ (by rw [cellsAt_newk, cellsAt_new0, cellsAt_cons0]) rfl) (by omega) (by simp) rfl hmb (fun h => by rw [hcap h]; rfl)]
  simp

theorem loop_i_stepsFrom {q w n F C : Nat} {c cw : Option Nat} {W : List Int} {y3 : AV} (hn8 : n ≤ 8) (hF : F = 2 ^ n) (hC : C < F) (hw : cellsAt H w = some (encI W)) (hW : W.length = F) :
    ∀ (k i : Nat) (o : List Int) (j : Nat) (cap : Option Nat) (G : List Blk) (y5 y8 y9 : AV), k + i = n → o.length ≤ i → G[j]? = some (.cells (encI o) true) → (cap = some 0 → o = []) →
      ∃ (j' : Nat) (cap' : Option Nat) (G' : List Blk) (z5 z8 z9 : AV), G'[j']? = some (.cells (encI (o ++ ((List.range' i k).filter (okStep W C)).map fun (i : Nat) => (i : Int))) true) ∧ run T pr (.loop w_i_stepsFrom_1) ⟨[slL q n c, slI w F cw, .int .i64 C, y3, slI (H.length + j) o.length cap, y5, .int .i64 n, .int .i64 i, y8, y9], ⟨H ++ G, e⟩⟩ =
      some (Ex.exit 0, ⟨[slL q n c, slI w F cw, .int .i64 C, y3, slI (H.length + j') (o ++ ((List.range' i k).filter (okStep W C)).map fun (i : Nat) => (i : Int)).length cap', z5, .int .i64 n, .int .i64 n, z8, z9], ⟨H ++ G', e⟩⟩)
  | 0, i, o, j, cap, G, y5, y8, y9, hk, ho, hG, hcap => by
    have hi : i = n := by omega
    subst hi
    refine ⟨j, cap, G, y5, .bool false, y9, ?_, ?_⟩
    · simpa using hG
    rw [run_loop]
    generalize run T pr (.loop w_i_stepsFrom_1) = R
    have h0 : (o ++ ((List.range' i 0).filter (okStep W C)).map fun (i : Nat) => (i : Int)) = o := by simp
    simp +contextual only [w_i_stepsFrom_1, Nat.lt_irrefl, decide_false, h0, go_sem, entry, joinEsc, if_pos, reduceIte, Nat.reduceAdd, Nat.reduceLeDiff, Nat.reduceLT, Nat.reduceEqDiff]
  | k + 1, i, o, j, cap, G, y5, y8, y9, hk, ho, hG, hcap => by
    have hi : i < n := by omega
    obtain ⟨p1, p2, p3⟩ := pow_facts n (by omega)
    obtain ⟨s1, s2⟩ := set_facts n (by omega) C (by omega) i hi
    obtain ⟨_, _, f3⟩ := bits_facts C (by omega) i (by omega)
    rw [run_loop, List.range'_succ, List.filter_cons]
    cases h1 : C.testBit i with
    | true =>
      have hok : okStep W C i = false := by simp [okStep, h1]
      rw [hok, if_neg (by simp)]
      obtain ⟨j', cap', G', z5, z8, z9, h2, ih⟩ := loop_i_stepsFrom (q := q) (c := c) (cw := cw) (y3 := y3) hn8 hF hC hw hW k (i + 1) o j cap G (.int .i64 i) (.bool true) (.bool false) (by omega) (by omega) hG hcap
      refine ⟨j', cap', G', z5, z8, z9, h2, ?_⟩
      generalize run T pr (.loop w_i_stepsFrom_1) = R at ih ⊢
      have hb := bit_set (c := C) (i := i) (by omega) (by omega) h1
      simp +contextual only [w_i_stepsFrom_1, hi, shr_nat, hb, show ¬ ((1 : Int) = 0) by omega, decide_false, wrap_succ (show i < 9223372036854775807 by omega), decide_true, go_sem, entry, joinEsc, if_pos, reduceIte, Nat.reduceAdd, Nat.reduceLeDiff, Nat.reduceLT, Nat.reduceEqDiff]
      simp only [List.length_append] at ih
      exact ih
    | false =>
      obtain ⟨g1, _, g3, g4⟩ := f3 h1
      have hlt := s1 h1
      have hb := bit_clear (c := C) (i := i) (by omega) (by omega) h1
      have hlt' : C + 2 ^ i < F := by omega
      have e2 := part_encI (ls := W) 1 (getD_get (W := W) (c := C + 2 ^ i) (by omega))
      cases h3 : decide (0 < W.getD (C + 2 ^ i) 0) with
      | false =>
        have hok : okStep W C i = false := by unfold okStep; rw [h1, h3]; rfl
        rw [hok, if_neg (by simp)]
        obtain ⟨j', cap', G', z5, z8, z9, h2, ih⟩ := loop_i_stepsFrom (q := q) (c := c) (cw := cw) (y3 := y3) hn8 hF hC hw hW k (i + 1) o j cap G (.int .i64 i) (.bool true) (.bool false) (by omega) (by omega) hG hcap
        refine ⟨j', cap', G', z5, z8, z9, h2, ?_⟩
        generalize run T pr (.loop w_i_stepsFrom_1) = R at ih ⊢
        simp +contextual only [w_i_stepsFrom_1, hi, cells_mono hw, hlt', shr_nat, shl_nat, hb, g1, e2, h3, wrap_succ (show i < 9223372036854775807 by omega), decide_true, go_sem, entry, joinEsc, if_pos, reduceIte, Nat.reduceAdd, Nat.reduceLeDiff, Nat.reduceLT, Nat.reduceEqDiff]
        simp only [List.length_append] at ih
        exact ih
      | true =>
        have hok : okStep W C i = true := by unfold okStep; rw [h1, h3]; rfl
        rw [hok, if_pos rfl]
        have hmb : (o.length + 1) * 8 ≤ maxBytes := by unfold maxBytes; omega
        obtain ⟨j', cap', G', z5, z8, z9, h2, ih⟩ := loop_i_stepsFrom (q := q) (c := c) (cw := cw) (y3 := y3) hn8 hF hC hw hW k (i + 1) (o ++ [(i : Int)]) (G.length + 1) none
          (killIf cap j (G ++ [.cells [.int .i64 i] true]) ++ [.cells (encI (o ++ [(i : Int)])) true]) (.int .i64 i) (.bool true) (.bool true) (by omega) (by simp; omega) (by
            rw [List.getElem?_append_right (by simp [killIf_length])]; simp [killIf_length]) (by simp)
        rw [List.append_assoc, List.singleton_append, ← List.map_cons (f := fun (i : Nat) => (i : Int))] at h2 ih
        refine ⟨j', cap', G', z5, z8, z9, h2, ?_⟩
        generalize run T pr (.loop w_i_stepsFrom_1) = R at ih ⊢
        simp +contextual only [w_i_stepsFrom_1, hi, cells_mono hw, hlt', shr_nat, shl_nat, hb, g1, e2, h3, fillParts, append_in hG hcap hmb, wrap_succ (show i < 9223372036854775807 by omega), decide_true, go_sem, entry, joinEsc, if_pos, reduceIte, Nat.reduceAdd, Nat.reduceLeDiff, Nat.reduceLT, Nat.reduceEqDiff]
        simp only [List.length_append, List.length_cons, List.length_nil, Nat.zero_add, encI_append, List.map_cons, List.map_nil] at ih
        exact ih

theorem e_i_stepsFrom {q w n F C : Nat} {c cw : Option Nat} {W : List Int} (hn8 : n ≤ 8) (hF : F = 2 ^ n) (hC : C < F) (hw : cellsAt H w = some (encI W)) (hW : W.length = F) : ∃ cap, call T pr f_i_stepsFrom [slL q n c, slI w F cw, .int .i64 C] ⟨H, e⟩ =
    some (slI H.length (stepsW W n C).length cap, ⟨H ++ [.cells (encI (stepsW W n C)) true], e⟩) := by
  obtain ⟨j', cap', G', z5, z8, z9, h1, hl⟩ := loop_i_stepsFrom (pr := pr) (e := none) (q := q) (c := c) (cw := cw) (y3 := .slice none 0 0 none) hn8 hF hC hw hW n 0 [] 0 (some 0) [.cells [] true] .undef .undef .undef rfl (Nat.zero_le _) rfl (fun _ => rfl)
  have h0 : ((0 : Nat) : Int) = 0 := rfl
  have hr : (List.map (fun (i : Nat) => (i : Int)) ((List.range' 0 n).filter (okStep W C))) = stepsW W n C := by unfold stepsW; rw [List.range_eq_range']
  rw [h0] at hl
  refine ⟨cap', ?_⟩
  rw [call_eq t_i_stepsFrom]
  simp only [List.nil_append, Nat.add_zero, List.length_nil, hr] at hl h1
  simp +contextual only [a_i_stepsFrom, c_i_stepsFrom, fillParts, hl, finish_two_at _ h1 (under_encI _ _), go_sem, entry, joinEsc, if_pos, reduceIte, Nat.reduceAdd, Nat.reduceLeDiff, Nat.reduceLT, Nat.reduceEqDiff]

end Go.Proofs.Ytlcklonakjhoiaa.Slim

/- Marks on memory that is told apart; results of two. -/
namespace Go.Proofs.Ytlcklonakjhoiaa.Slim

open Go

set_option linter.unusedSimpArgs false

set_option linter.unusedVariables false

variable {pr : Prims} {H : List Blk} {e : Option Nat}

theorem finish_one_set (v : AV) (e0 : Option Nat) (b : Nat) (x : Blk) (h : v.under H.length = true) : finish 1 H.length e0 v ⟨H.set b x, none⟩ = some (v, ⟨H.set b x, e0⟩) := by
  have : (H.set b x).take H.length = H.set b x := List.take_of_length_le (by simp)
  simp [finish, h, clean, this]

theorem finish_two_sb {G : List Blk} {j sz n o : Nat} {c : Option Nat} {cs : List AV} {wr : Bool} (x : Bool) (e0 : Option Nat) (hG : G[j]? = some (.cells cs wr)) (h : (cs.all fun c => c.under H.length) = true) :
    finish 2 H.length e0 (.tup [.slice (some (H.length + j, o)) sz n c, .bool x]) ⟨H ++ G, none⟩ = some (.tup [.slice (some (H.length, o)) sz n c, .bool x], ⟨H ++ [.cells cs wr], e0⟩) := by
  have hlt : ¬ H.length + j < H.length := by omega
  have hr : dedup (AV.roots H.length (.tup [.slice (some (H.length + j, o)) sz n c, .bool x])) = [H.length + j] := by
    unfold AV.roots AV.roots.go AV.roots.go AV.roots.go AV.roots
    rw [if_neg hlt]
    rfl
  have hb : (H ++ G)[H.length + j]? = some (.cells cs wr) := by rw [List.getElem?_append_right (by omega)]; simpa using hG
  unfold finish
  simp only [hr]
  have h2 : ([H.length + j].all fun b => flatBlk H.length (H ++ G)[b]?) = true := by
    simp only [List.all_cons, List.all_nil, Bool.and_true, hb, flatBlk]
    exact h
  simp only [clean, h2, and_self, if_true]
  simp [AV.rename, AV.rename.go, renum, hb, hlt]

theorem finish_two_sb0 (sz n : Nat) (c : Option Nat) (cs : List AV) (wr : Bool) (x : Bool) (e0 : Option Nat) (h : (cs.all fun c => c.under H.length) = true) :
    finish 2 H.length e0 (.tup [.slice (some (H.length, 0)) sz n c, .bool x]) ⟨H ++ [.cells cs wr], none⟩ = some (.tup [.slice (some (H.length, 0)) sz n c, .bool x], ⟨H ++ [.cells cs wr], e0⟩) :=
  finish_two_sb (G := [.cells cs wr]) (j := 0) x e0 rfl h

theorem finish_two_nb {G : List Blk} {sz n : Nat} {c : Option Nat} (x : Bool) (e0 : Option Nat) :
    finish 2 H.length e0 (.tup [.slice none sz n c, .bool x]) ⟨H ++ G, none⟩ = some (.tup [.slice none sz n c, .bool x], ⟨H, e0⟩) := by
  have hr : dedup (AV.roots H.length (.tup [.slice none sz n c, .bool x])) = [] := rfl
  unfold finish
  simp only [hr]
  simp [AV.rename, AV.rename.go, clean]

theorem set_same {L : List Blk} {b : Nat} {x : Blk} (h : L[b]? = some x) : L.set b x = L := by
  apply List.ext_getElem?
  intro i
  rw [List.getElem?_set]
  split
  · rename_i hi
    subst hi
    rw [h]
    rw [if_pos (List.getElem?_eq_some_iff.mp h).1]
  · rfl

def markedI (k : Nat) : Nat → List Int
  | 0 => []
  | n + 1 => (k : Int) :: markedI (k + 1) n

theorem markedI_length (k : Nat) : ∀ n, (markedI k n).length = n
  | 0 => rfl
  | n + 1 => by rw [markedI, List.length_cons, markedI_length (k + 1) n]

theorem markedI_get : ∀ (n k i : Nat), i < n → (markedI k n)[i]? = some ((k + i : Nat) : Int)
  | 0, k, i, h => by omega
  | n + 1, k, 0, h => by simp [markedI]
  | n + 1, k, i + 1, h => by
    rw [markedI, List.getElem?_cons_succ, markedI_get n (k + 1) i (by omega), show k + 1 + i = k + (i + 1) by omega]

theorem setRange_mid (P R : List Int) (r a : Int) : setRange (encI (P ++ r :: R)) P.length [.int .i64 a] = encI ((P ++ [a]) ++ R) := by
  rw [setRange_encI (by simp)]
  simp

theorem loop_l_markIntS {L : List Blk} {b n : Nat} {c : Option Nat} {r : AV} (hb : b < L.length) (hn : n ≤ 4194304) :
    ∀ (R P : List Int) (k : Nat) (y4 : AV), P.length + R.length = n → k + R.length ≤ 8388608 → ∃ z4, run T pr (.loop w_l_markIntS_1) ⟨[slI b n c, .int .i64 k, r, .int .i64 P.length, y4], ⟨L.set b (.cells (encI (P ++ R)) true), e⟩⟩ =
      some (Ex.exit 0, ⟨[slI b n c, .int .i64 ((k + R.length : Nat) : Int), r, .int .i64 n, z4], ⟨L.set b (.cells (encI (P ++ markedI k R.length)) true), e⟩⟩)
  | [], P, k, y4, hP, hk => by
    refine ⟨.bool false, ?_⟩
    obtain rfl : n = P.length := by simp at hP; omega
    rw [run_loop]
    generalize run T pr (.loop w_l_markIntS_1) = R'
    simp +contextual only [w_l_markIntS_1, Nat.lt_irrefl, decide_false, markedI, go_sem, entry, joinEsc, if_pos, reduceIte, Nat.reduceAdd, Nat.reduceLeDiff, Nat.reduceLT, Nat.reduceEqDiff]
  | x :: R, P, k, y4, hP, hk => by
    simp only [List.length_cons] at hP hk
    have hi : P.length < n := by omega
    obtain ⟨z4, ih⟩ := loop_l_markIntS (c := c) (r := r) hb hn R (P ++ [(k : Int)]) (k + 1) (.bool true) (by simp; omega) (by omega)
    refine ⟨z4, ?_⟩
    rw [run_loop]
    generalize run T pr (.loop w_l_markIntS_1) = R' at ih ⊢
    have hg : (L.set b (.cells (encI (P ++ x :: R)) true))[b]? = some (.cells (encI (P ++ x :: R)) true) := List.getElem?_set_self hb
    have hle : P.length + 1 ≤ (encI (P ++ x :: R)).length := by simp
    rw [show k + 1 + R.length = k + (R.length + 1) by omega] at ih
    simp only [List.append_assoc, List.singleton_append, List.length_append, List.length_cons, List.length_nil, Nat.zero_add] at ih
    simp +contextual only [w_l_markIntS_1, hi, hg, hle, setRange_mid, List.set_set, markedI, wrap_succ (show k < 9223372036854775807 by omega), wrap_succ (show P.length < 9223372036854775807 by omega), decide_true, go_sem, entry, joinEsc, if_pos, reduceIte, Nat.reduceAdd, Nat.reduceLeDiff, Nat.reduceLT, Nat.reduceEqDiff]
    exact ih

theorem e_l_markIntS {L : List Blk} {b : Nat} {c : Option Nat} {ls : List Int} (h : L[b]? = some (.cells (encI ls) true)) (hn : ls.length ≤ 4194304) (k : Nat) (hk : k ≤ 4194304) : call T pr f_l_markIntS [slI b ls.length c, .int .i64 k] ⟨L, e⟩ =
    some (.int .i64 ((k + ls.length : Nat) : Int), ⟨L.set b (.cells (encI (markedI k ls.length)) true), e⟩) := by
  have hb := (List.getElem?_eq_some_iff.mp h).1
  obtain ⟨z4, hl⟩ := loop_l_markIntS (pr := pr) (e := none) (c := c) (r := .int .i64 0) hb hn ls [] k .undef (by simp) (by omega)
  have h0 : ((0 : Nat) : Int) = 0 := rfl
  rw [List.length_nil, h0, List.nil_append, List.nil_append, set_same h] at hl
  rw [call_eq t_l_markIntS]
  simp +contextual only [a_l_markIntS, c_l_markIntS, hl, finish_one_set, go_sem, entry, joinEsc, if_pos, reduceIte, Nat.reduceAdd, Nat.reduceLeDiff, Nat.reduceLT, Nat.reduceEqDiff]

theorem loop_l_heldIntS {q n k0 : Nat} {c : Option Nat} {r : AV} (h : cellsAt H q = some (encI (markedI k0 n))) (hn : n ≤ 4194304) (hk0 : k0 ≤ 4194304) :
    ∀ (k i : Nat) (y4 y5 : AV), k + i = n → ∃ z4 z5, run T pr (.loop w_l_heldIntS_1) ⟨[slI q n c, .int .i64 ((k0 + i : Nat) : Int), r, .int .i64 i, y4, y5], ⟨H, e⟩⟩ =
      some (Ex.exit 0, ⟨[slI q n c, .int .i64 ((k0 + n : Nat) : Int), r, .int .i64 n, z4, z5], ⟨H, e⟩⟩)
  | 0, i, y4, y5, hk => by
    have hi : i = n := by omega
    subst hi
    refine ⟨.bool false, y5, ?_⟩
    rw [run_loop]
    generalize run T pr (.loop w_l_heldIntS_1) = R
    simp +contextual only [w_l_heldIntS_1, Nat.lt_irrefl, decide_false, go_sem, entry, joinEsc, if_pos, reduceIte, Nat.reduceAdd, Nat.reduceLeDiff, Nat.reduceLT, Nat.reduceEqDiff]
  | k + 1, i, y4, y5, hk => by
    have hi : i < n := by omega
    have hl := markedI_get n k0 i hi
    obtain ⟨z4, z5, ih⟩ := loop_l_heldIntS (c := c) (r := r) h hn hk0 k (i + 1) (.bool true) (.bool false) (by omega)
    refine ⟨z4, z5, ?_⟩
    rw [run_loop]
    rw [show k0 + (i + 1) = (k0 + i) + 1 by omega] at ih
    generalize hK : k0 + i = K at hl ih ⊢
    generalize run T pr (.loop w_l_heldIntS_1) = R at ih ⊢
    simp +contextual only [w_l_heldIntS_1, h, hi, part_encI _ hl, wrap_succ (show K < 9223372036854775807 by omega), wrap_succ (show i < 9223372036854775807 by omega), decide_true, go_sem, entry, joinEsc, if_pos, reduceIte, Nat.reduceAdd, Nat.reduceLeDiff, Nat.reduceLT, Nat.reduceEqDiff]
    exact ih

theorem e_l_heldIntS {q n k : Nat} {c : Option Nat} (h : cellsAt H q = some (encI (markedI k n))) (hn : n ≤ 4194304) (hk : k ≤ 4194304) : call T pr f_l_heldIntS [slI q n c, .int .i64 k] ⟨H, e⟩ = some (.int .i64 ((k + n : Nat) : Int), ⟨H, e⟩) := by
  obtain ⟨z4, z5, hl⟩ := loop_l_heldIntS (pr := pr) (e := none) (c := c) (r := .int .i64 0) h hn hk n 0 .undef .undef rfl
  have h0 : ((0 : Nat) : Int) = 0 := rfl
  rw [h0, Nat.add_zero] at hl
  rw [call_eq t_l_heldIntS]
  simp +contextual only [a_l_heldIntS, c_l_heldIntS, hl, go_sem, entry, joinEsc, if_pos, reduceIte, Nat.reduceAdd, Nat.reduceLeDiff, Nat.reduceLT, Nat.reduceEqDiff]

def markedL (k : Nat) : Nat → List Ld
  | 0 => []
  | n + 1 => ((k : Int), ((k + 1 : Nat) : Int)) :: markedL (k + 2) n

theorem setRange_midL0 (P R : List Ld) (r : Ld) (a : Int) : setRange (encL (P ++ r :: R)) (P.length * 2) [.int .i64 a] = encL (P ++ (a, r.2) :: R) := by
  induction P with
  | nil => simp [encL, setRange]
  | cons p P ih =>
    simp only [encL, List.cons_append, List.length_cons, Nat.add_mul, Nat.one_mul] at *
    rw [setRange_k, setRange_k, ih]

theorem setRange_midL1 (P R : List Ld) (r : Ld) (a : Int) : setRange (encL (P ++ r :: R)) (P.length * 2 + 1) [.int .i64 a] = encL (P ++ (r.1, a) :: R) := by
  induction P with
  | nil => simp [encL, setRange]
  | cons p P ih =>
    simp only [encL, List.cons_append, List.length_cons, Nat.add_mul, Nat.one_mul] at *
    rw [show P.length * 2 + 2 + 1 = P.length * 2 + 1 + 1 + 1 by omega, setRange_k, setRange_k, ih]

theorem loop_l_markLoadS {L : List Blk} {b n : Nat} {c : Option Nat} {r : AV} (hb : b < L.length) (hn : n ≤ 4194304) :
    ∀ (R P : List Ld) (k : Nat) (y4 : AV), P.length + R.length = n → k + R.length * 2 ≤ 16777216 → ∃ z4, run T pr (.loop w_l_markLoadS_1) ⟨[slL b n c, .int .i64 k, r, .int .i64 P.length, y4], ⟨L.set b (.cells (encL (P ++ R)) true), e⟩⟩ =
      some (Ex.exit 0, ⟨[slL b n c, .int .i64 ((k + R.length * 2 : Nat) : Int), r, .int .i64 n, z4], ⟨L.set b (.cells (encL (P ++ markedL k R.length)) true), e⟩⟩)
  | [], P, k, y4, hP, hk => by
    refine ⟨.bool false, ?_⟩
    obtain rfl : n = P.length := by simp at hP; omega
    rw [run_loop]
    generalize run T pr (.loop w_l_markLoadS_1) = R'
    simp +contextual only [w_l_markLoadS_1, Nat.lt_irrefl, decide_false, markedL, Nat.zero_mul, go_sem, entry, joinEsc, if_pos, reduceIte, Nat.reduceAdd, Nat.reduceLeDiff, Nat.reduceLT, Nat.reduceEqDiff]
  | x :: R, P, k, y4, hP, hk => by
    simp only [List.length_cons] at hP hk
    have hi : P.length < n := by omega
    obtain ⟨z4, ih⟩ := loop_l_markLoadS (c := c) (r := r) hb hn R (P ++ [((k : Int), ((k + 1 : Nat) : Int))]) (k + 2) (.bool true) (by simp; omega) (by omega)
    refine ⟨z4, ?_⟩
    rw [run_loop]
    generalize run T pr (.loop w_l_markLoadS_1) = R' at ih ⊢
    have hg : ∀ y : Ld, (L.set b (.cells (encL (P ++ y :: R)) true))[b]? = some (.cells (encL (P ++ y :: R)) true) := fun y => List.getElem?_set_self hb
    have hle : ∀ y : Ld, P.length * 2 + 1 ≤ (encL (P ++ y :: R)).length := by intro y; rw [encL_length]; simp; omega
    have hle' : ∀ y : Ld, P.length * 2 + 1 + 1 ≤ (encL (P ++ y :: R)).length := by intro y; rw [encL_length]; simp; omega
    have hle2 : ∀ y : Ld, P.length * 2 + 2 ≤ (encL (P ++ y :: R)).length := by intro y; rw [encL_length]; simp; omega
    rw [show k + 2 + R.length * 2 = k + (R.length + 1) * 2 by omega] at ih
    simp only [List.append_assoc, List.singleton_append, List.length_append, List.length_cons, List.length_nil, Nat.zero_add] at ih
    have hw1 : IntKind.i64.wrap ((k : Int) + 1) = ((k + 1 : Nat) : Int) := wrap_succ (show k < 9223372036854775807 by omega)
    have hw2 : IntKind.i64.wrap (((k + 1 : Nat) : Int) + 1) = ((k + 2 : Nat) : Int) := wrap_succ (show k + 1 < 9223372036854775807 by omega)
    simp +contextual only [w_l_markLoadS_1, hi, hg, hle, hle', hle2, setRange_midL0, setRange_midL1, List.set_set, markedL, hw1, hw2, wrap_succ (show P.length < 9223372036854775807 by omega), decide_true, go_sem, entry, joinEsc, if_pos, reduceIte, Nat.reduceAdd, Nat.reduceLeDiff, Nat.reduceLT, Nat.reduceEqDiff]
    exact ih

theorem e_l_markLoadS {L : List Blk} {b : Nat} {c : Option Nat} {ls : List Ld} (h : L[b]? = some (.cells (encL ls) true)) (hn : ls.length ≤ 4194304) (k : Nat) (hk : k ≤ 4194304) : call T pr f_l_markLoadS [slL b ls.length c, .int .i64 k] ⟨L, e⟩ =
    some (.int .i64 ((k + ls.length * 2 : Nat) : Int), ⟨L.set b (.cells (encL (markedL k ls.length)) true), e⟩) := by
  have hb := (List.getElem?_eq_some_iff.mp h).1
  obtain ⟨z4, hl⟩ := loop_l_markLoadS (pr := pr) (e := none) (c := c) (r := .int .i64 0) hb hn ls [] k .undef (by simp) (by omega)
  have h0 : ((0 : Nat) : Int) = 0 := rfl
  rw [List.length_nil, h0, List.nil_append, List.nil_append, set_same h] at hl
  rw [call_eq t_l_markLoadS]
  simp +contextual only [a_l_markLoadS, c_l_markLoadS, hl, finish_one_set, go_sem, entry, joinEsc, if_pos, reduceIte, Nat.reduceAdd, Nat.reduceLeDiff, Nat.reduceLT, Nat.reduceEqDiff]

/-- two slices without elements -/
theorem e_l_eqIntS_none {p1 p2 : Option (Nat × Nat)} {s1 s2 : Nat} {c1 c2 : Option Nat} : call T pr f_l_eqIntS [.slice p1 s1 0 c1, .slice p2 s2 0 c2] ⟨H, e⟩ = some (.bool true, ⟨H, e⟩) := by
  have h0 : ((0 : Nat) : Int) = 0 := rfl
  rw [call_eq t_l_eqIntS]
  have hl : run T pr (.loop w_l_eqIntS_1) ⟨[.slice p1 s1 0 c1, .slice p2 s2 0 c2, .bool false, .int .i64 0, .bool false, .undef, .undef], ⟨H, none⟩⟩ = some (.exit 0, ⟨[.slice p1 s1 0 c1, .slice p2 s2 0 c2, .bool false, .int .i64 0, .bool false, .bool false, .undef], ⟨H, none⟩⟩) := by
    rw [run_loop]
    generalize run T pr (.loop w_l_eqIntS_1) = R
    simp +contextual only [w_l_eqIntS_1, h0, Int.lt_irrefl, decide_false, go_sem, entry, joinEsc, if_pos, reduceIte, Nat.reduceAdd, Nat.reduceLeDiff, Nat.reduceLT, Nat.reduceEqDiff]
  simp +contextual only [a_l_eqIntS, c_l_eqIntS, hl, h0, decide_true, go_sem, entry, joinEsc, if_pos, reduceIte, Nat.reduceAdd, Nat.reduceLeDiff, Nat.reduceLT, Nat.reduceEqDiff]

theorem e_l_markIntS_none {p1 : Option (Nat × Nat)} {s1 : Nat} {c1 : Option Nat} (x : Int) : call T pr f_l_markIntS [.slice p1 s1 0 c1, .int .i64 x] ⟨H, e⟩ = some (.int .i64 x, ⟨H, e⟩) := by
  have h0 : ((0 : Nat) : Int) = 0 := rfl
  rw [call_eq t_l_markIntS]
  have hl : run T pr (.loop w_l_markIntS_1) ⟨[.slice p1 s1 0 c1, .int .i64 x, .int .i64 0, .int .i64 0, .undef], ⟨H, none⟩⟩ = some (.exit 0, ⟨[.slice p1 s1 0 c1, .int .i64 x, .int .i64 0, .int .i64 0, .bool false], ⟨H, none⟩⟩) := by
    rw [run_loop]
    generalize run T pr (.loop w_l_markIntS_1) = R
    simp +contextual only [w_l_markIntS_1, h0, Int.lt_irrefl, decide_false, go_sem, entry, joinEsc, if_pos, reduceIte, Nat.reduceAdd, Nat.reduceLeDiff, Nat.reduceLT, Nat.reduceEqDiff]
  simp +contextual only [a_l_markIntS, c_l_markIntS, hl, h0, decide_true, go_sem, entry, joinEsc, if_pos, reduceIte, Nat.reduceAdd, Nat.reduceLeDiff, Nat.reduceLT, Nat.reduceEqDiff]

theorem e_l_heldIntS_none {p1 : Option (Nat × Nat)} {s1 : Nat} {c1 : Option Nat} (x : Int) : call T pr f_l_heldIntS [.slice p1 s1 0 c1, .int .i64 x] ⟨H, e⟩ = some (.int .i64 x, ⟨H, e⟩) := by
  have h0 : ((0 : Nat) : Int) = 0 := rfl
  rw [call_eq t_l_heldIntS]
  have hl : run T pr (.loop w_l_heldIntS_1) ⟨[.slice p1 s1 0 c1, .int .i64 x, .int .i64 0, .int .i64 0, .undef, .undef], ⟨H, none⟩⟩ = some (.exit 0, ⟨[.slice p1 s1 0 c1, .int .i64 x, .int .i64 0, .int .i64 0, .bool false, .undef], ⟨H, none⟩⟩) := by
    rw [run_loop]
    generalize run T pr (.loop w_l_heldIntS_1) = R
    simp +contextual only [w_l_heldIntS_1, h0, Int.lt_irrefl, decide_false, go_sem, entry, joinEsc, if_pos, reduceIte, Nat.reduceAdd, Nat.reduceLeDiff, Nat.reduceLT, Nat.reduceEqDiff]
  simp +contextual only [a_l_heldIntS, c_l_heldIntS, hl, h0, decide_true, go_sem, entry, joinEsc, if_pos, reduceIte, Nat.reduceAdd, Nat.reduceLeDiff, Nat.reduceLT, Nat.reduceEqDiff]

end Go.Proofs.Ytlcklonakjhoiaa.Slim

/- Rafts: the first safe order, on both sides. -/
namespace Go.Proofs.Ytlcklonakjhoiaa.Slim

open Go

set_option linter.unusedSimpArgs false

set_option linter.unusedVariables false

variable {pr : Prims} {H : List Blk} {e : Option Nat}

/-- a capacity that is not told -/
def capOf : Option (AV × Mem) → Option Nat
  | some (.slice _ _ _ c, _) => c
  | some (.tup (.slice _ _ _ c :: _), _) => c
  | _ => none

noncomputable def hid (pr : Prims) (f : FuncId) (args : List AV) (m : Mem) : Option Nat := capOf (call T pr f args m)

theorem hid_slice {f : FuncId} {args : List AV} {m m' : Mem} {p : Option (Nat × Nat)} {sz n : Nat} (h : ∃ cap, call T pr f args m = some (.slice p sz n cap, m')) : call T pr f args m = some (.slice p sz n (hid pr f args m), m') := by
  obtain ⟨cap, h⟩ := h
  have h2 : hid pr f args m = cap := by unfold hid; rw [h]; rfl
  rw [h2]; exact h

theorem hid_tup {f : FuncId} {args vs : List AV} {m m' : Mem} {p : Option (Nat × Nat)} {sz n : Nat} (h : ∃ cap, call T pr f args m = some (.tup (.slice p sz n cap :: vs), m')) : call T pr f args m = some (.tup (.slice p sz n (hid pr f args m) :: vs), m') := by
  obtain ⟨cap, h⟩ := h
  have h2 : hid pr f args m = cap := by unfold hid; rw [h]; rfl
  rw [h2]; exact h

/-- the first item that can be added -/
def firstW (W : List Int) (n c : Nat) : Nat := ((List.range n).filter (okStep W c)).headD 0

def orderW (W : List Int) (n : Nat) : Nat → Nat → List Int
  | 0, _ => []
  | k + 1, c => ((firstW W n c : Nat) : Int) :: orderW W n k (c + 2 ^ firstW W n c)

theorem orderW_length (W : List Int) (n : Nat) : ∀ k c, (orderW W n k c).length = k
  | 0, _ => rfl
  | k + 1, c => by rw [orderW, List.length_cons, orderW_length]

theorem first_spec {W : List Int} {n c : Nat} (h : goodW n W c) (h1 : 0 < W.getD c 0) (h2 : mu n c ≠ 0) :
    firstW W n c < n ∧ okStep W c (firstW W n c) = true ∧ (∀ i, i < firstW W n c → okStep W c i = false) ∧ ∃ rest, stepsW W n c = ((firstW W n c : Nat) : Int) :: rest := by
  obtain ⟨i, i1, i2⟩ := h.2.2 h1 h2
  cases hf : (List.range n).filter (okStep W c) with
  | nil =>
    have := List.filter_eq_nil_iff.mp hf i (by simpa using i1)
    exact absurd i2 this
  | cons x rest =>
    have hx : firstW W n c = x := by unfold firstW; rw [hf]; rfl
    have hfind : (List.range n).find? (okStep W c) = some x := by rw [← List.head?_filter, hf]; rfl
    rw [List.find?_range_eq_some] at hfind
    obtain ⟨k1, k2, k3⟩ := hfind
    rw [hx]
    refine ⟨by simpa using k2, k1, fun i hi => by simpa using k3 i hi, _, by unfold stepsW; rw [hf]; rfl⟩

theorem append_in2 {G : List Blk} {B : Blk} {j : Nat} {o : List Int} {cap : Option Nat} (hG : G[j]? = some (.cells (encI o) true)) (hcap : cap = some 0 → o = []) (hmb : (o.length + 1) * 8 ≤ maxBytes) (a : Int) :
    appendV (H ++ (G ++ [B, .cells [.int .i64 a] true])) e false 1 8 (slI (H.length + j) o.length cap) (.slice (some (H.length + (G.length + 1), 0)) 1 1 (some 1)) =
      some (slI (H.length + (G.length + 2)) (o.length + 1) none, ⟨H ++ (killIf cap j (G ++ [B, .cells [.int .i64 a] true]) ++ [.cells (encI o ++ [.int .i64 a]) true]), e⟩) := by
  have hj : j < G.length := (List.getElem?_eq_some_iff.mp hG).1
  have h := append_in (H := H) (e := e) (G := G ++ [B]) (j := j) (o := o) (cap := cap) (by rw [List.getElem?_append_left hj]; exact hG) hcap hmb a
  simpa [Nat.add_assoc] using h

theorem loop_i_SafeOrder {rv p y3 y4 y9 y10 : AV} {q w n F : Nat} {c cw : Option Nat} {W : List Int} (hn8 : n ≤ 8) (hF : F = 2 ^ n) (hw : cellsAt H w = some (encI W)) (hW : W.length = F) (hgood : ∀ c, c < F → goodW n W c) :
    ∀ (k C : Nat) (o : List Int) (j : Nat) (cap : Option Nat) (G : List Blk) (y8 y11 : AV), k + o.length = n → mu n C = k → C < F → 0 < W.getD C 0 → G[j]? = some (.cells (encI o) true) → (cap = some 0 → o = []) →
      ∃ (j' : Nat) (cap' : Option Nat) (G' : List Blk) (z7 z8 z11 : AV), G'[j']? = some (.cells (encI (o ++ orderW W n k C)) true) ∧ run T pr (.loop w_i_SafeOrder_1) ⟨[rv, slL q n c, p, y3, y4, slI w F cw, slI (H.length + j) o.length cap, .int .i64 C, y8, y9, y10, y11], ⟨H ++ G, none⟩⟩ =
      some (Ex.exit 0, ⟨[rv, slL q n c, p, y3, y4, slI w F cw, slI (H.length + j') (o ++ orderW W n k C).length cap', z7, z8, y9, y10, z11], ⟨H ++ G', none⟩⟩)
  | 0, C, o, j, cap, G, y8, y11, hk, hmu, hC, hp, hG, hcap => by
    have hi : n = o.length := by omega
    subst hi
    refine ⟨j, cap, G, .int .i64 C, y8, .bool false, ?_, ?_⟩
    · simpa [orderW] using hG
    rw [run_loop]
    generalize run T pr (.loop w_i_SafeOrder_1) = R
    simp +contextual only [w_i_SafeOrder_1, Nat.lt_irrefl, decide_false, orderW, go_sem, entry, joinEsc, if_pos, reduceIte, Nat.reduceAdd, Nat.reduceLeDiff, Nat.reduceLT, Nat.reduceEqDiff]
  | k + 1, C, o, j, cap, G, y8, y11, hk, hmu, hC, hp, hG, hcap => by
    have hi : o.length < n := by omega
    obtain ⟨p1, p2, p3⟩ := pow_facts n (by omega)
    obtain ⟨f1, f2, f3, rest, f4⟩ := first_spec (hgood C hC) hp (by omega)
    rw [run_loop, orderW]
    generalize hx : firstW W n C = x at f1 f2 f3 f4 ⊢
    have f2' : C.testBit x = false ∧ 0 < W.getD (C + 2 ^ x) 0 := by
      unfold okStep at f2
      simp only [Bool.and_eq_true, decide_eq_true_eq] at f2
      exact ⟨by simpa using f2.1, f2.2⟩
    obtain ⟨_, _, b3⟩ := bits_facts C (by omega) x (by omega)
    obtain ⟨g1, _, g3, g4⟩ := b3 f2'.1
    obtain ⟨m1, m2, m3⟩ := mu_facts n (by omega) C (by omega)
    have hlt : C + 2 ^ x < F := by rw [hF]; exact (set_facts n (by omega) C (by omega) x f1).1 f2'.1
    have hsteps := hid_slice (e_i_stepsFrom (pr := pr) (e := none) (q := q) (c := c) (cw := cw) hn8 hF hC (cells_mono hw G) hW)
    rw [f4] at hsteps
    have hmb : (o.length + 1) * 8 ≤ maxBytes := by unfold maxBytes; omega
    have hpos : (0 : Int) < ((rest.length + 1 : Nat) : Int) := by omega
    obtain ⟨j', cap', G', z7, z8, z11, h2, ih⟩ := loop_i_SafeOrder (rv := rv) (p := p) (y3 := y3) (y4 := y4) (y9 := y9) (y10 := y10) (q := q) (c := c) (cw := cw) hn8 hF hw hW hgood k (C + 2 ^ x) (o ++ [(x : Int)]) (G.length + 2) none
      (killIf cap j (G ++ [.cells (encI ((x : Int) :: rest)) true, .cells [.int .i64 x] true]) ++ [.cells (encI (o ++ [(x : Int)])) true]) (.int .i64 x) (.bool true) (by simp; omega) (by have := m3 x f1 f2'.1; omega) hlt f2'.2 (by
        rw [List.getElem?_append_right (by simp [killIf_length])]; simp [killIf_length]) (by simp)
    rw [List.append_assoc, List.singleton_append] at h2 ih
    refine ⟨j', cap', G', z7, z8, z11, h2, ?_⟩
    generalize run T pr (.loop w_i_SafeOrder_1) = R at ih ⊢
    simp +contextual only [w_i_SafeOrder_1, hi, hsteps, hpos, Int.toNat_zero, Int.le_refl, Nat.zero_mul, fillParts, append_in2 hG hcap hmb, shl_nat, g1, decide_true, go_sem, entry, joinEsc, if_pos, reduceIte, Nat.reduceAdd, Nat.reduceLeDiff, Nat.reduceLT, Nat.reduceEqDiff]
    simp only [List.length_append, List.length_cons, List.length_nil, Nat.zero_add, encI_append, List.map_cons, List.map_nil] at ih
    exact ih

theorem loop_s_SafeOrder_1 {rv p y3 y4 out y9 y10 y11 : AV} {q w n F C x : Nat} {c cw : Option Nat} {W : List Int} (hn8 : n ≤ 8) (hF : F = 2 ^ n) (hC : C < F) (hw : cellsAt H w = some (encI W)) (hW : W.length = F) (hpos : ∀ c, c < F → 0 ≤ W.getD c 0)
    (hx : x < n) (h1 : okStep W C x = true) (h2 : ∀ i, i < x → okStep W C i = false) :
    ∀ (k i : Nat) (y12 : AV), k + i = x → ∃ z12, run T pr (.loop w_s_SafeOrder_1) ⟨[rv, slL q n c, p, y3, y4, out, slI w F cw, .int .i64 C, .int .i64 i, y9, y10, y11, y12], ⟨H, e⟩⟩ =
      some (Ex.exit 2, ⟨[rv, slL q n c, p, y3, y4, out, slI w F cw, .int .i64 C, .int .i64 x, y9, y10, y11, z12], ⟨H, e⟩⟩)
  | 0, i, y12, hk => by
    obtain rfl : i = x := by omega
    have f2' : C.testBit i = false ∧ 0 < W.getD (C + 2 ^ i) 0 := by
      unfold okStep at h1
      simp only [Bool.and_eq_true, decide_eq_true_eq] at h1
      exact ⟨by simpa using h1.1, h1.2⟩
    obtain ⟨p1, p2, p3⟩ := pow_facts n (by omega)
    obtain ⟨_, _, b3⟩ := bits_facts C (by omega) i (by omega)
    obtain ⟨_, g2, g3, g4⟩ := b3 f2'.1
    have g2' : IntKind.i64.wrap ((C : Int) + shlI .i64 1 (i : Int)) = ((C + 2 ^ i : Nat) : Int) := g2
    have hlt : C + 2 ^ i < F := by rw [hF]; exact (set_facts n (by omega) C (by omega) i hx).1 f2'.1
    have hb := bit_clear (c := C) (i := i) (by omega) (by omega) f2'.1
    have e2 := part_encI (ls := W) 1 (getD_get (W := W) (c := C + 2 ^ i) (by omega))
    have hne : ¬ W.getD (C + 2 ^ i) 0 = 0 := by omega
    refine ⟨.bool false, ?_⟩
    rw [run_loop]
    generalize run T pr (.loop w_s_SafeOrder_1) = R
    simp +contextual only [w_s_SafeOrder_1, hw, hlt, shr_nat, shl_nat, hb, g2', e2, hne, show ¬ ((0 : Int) = 1) by omega, decide_true, decide_false, go_sem, entry, joinEsc, if_pos, reduceIte, Nat.reduceAdd, Nat.reduceLeDiff, Nat.reduceLT, Nat.reduceEqDiff]
  | k + 1, i, y12, hk => by
    have hno := h2 i (by omega)
    obtain ⟨p1, p2, p3⟩ := pow_facts n (by omega)
    obtain ⟨z12, ih⟩ := loop_s_SafeOrder_1 (rv := rv) (p := p) (y3 := y3) (y4 := y4) (out := out) (y9 := y9) (y10 := y10) (y11 := y11) (q := q) (c := c) (cw := cw) hn8 hF hC hw hW hpos hx h1 h2 k (i + 1) (.bool true) (by omega)
    refine ⟨z12, ?_⟩
    rw [run_loop]
    generalize run T pr (.loop w_s_SafeOrder_1) = R at ih ⊢
    cases hbit : C.testBit i with
    | true =>
      have hb := bit_set (c := C) (i := i) (by omega) (by omega) hbit
      simp +contextual only [w_s_SafeOrder_1, shr_nat, hb, wrap_succ (show i < 9223372036854775807 by omega), decide_true, go_sem, entry, joinEsc, if_pos, reduceIte, Nat.reduceAdd, Nat.reduceLeDiff, Nat.reduceLT, Nat.reduceEqDiff]
      exact ih
    | false =>
      obtain ⟨_, _, b3⟩ := bits_facts C (by omega) i (by omega)
      obtain ⟨_, g2, g3, g4⟩ := b3 hbit
      have g2' : IntKind.i64.wrap ((C : Int) + shlI .i64 1 (i : Int)) = ((C + 2 ^ i : Nat) : Int) := g2
      have hlt : C + 2 ^ i < F := by rw [hF]; exact (set_facts n (by omega) C (by omega) i (by omega)).1 hbit
      have hb := bit_clear (c := C) (i := i) (by omega) (by omega) hbit
      have e2 := part_encI (ls := W) 1 (getD_get (W := W) (c := C + 2 ^ i) (by omega))
      have hz : W.getD (C + 2 ^ i) 0 = 0 := by
        unfold okStep at hno
        rw [hbit] at hno
        simp only [Bool.not_false, Bool.true_and, decide_eq_false_iff_not] at hno
        have := hpos _ hlt
        omega
      rw [hz] at e2
      simp +contextual only [w_s_SafeOrder_1, hw, hlt, shr_nat, shl_nat, hb, g2', e2, show ¬ ((0 : Int) = 1) by omega, wrap_succ (show i < 9223372036854775807 by omega), decide_true, decide_false, go_sem, entry, joinEsc, if_pos, reduceIte, Nat.reduceAdd, Nat.reduceLeDiff, Nat.reduceLT, Nat.reduceEqDiff]
      exact ih

theorem cells_kill {G E F : List Blk} {cap : Option Nat} {j w : Nat} {cs : List AV} (h : cellsAt (H ++ G) w = some cs) (hne : w ≠ H.length + j) : cellsAt (H ++ (killIf cap j (G ++ E) ++ F)) w = some cs := by
  have hlt : w < (H ++ G).length := by
    unfold cellsAt at h
    cases hb : (H ++ G)[w]? with
    | none => rw [hb] at h; cases h
    | some x => exact (List.getElem?_eq_some_iff.mp hb).1
  have h2 : (H ++ (killIf cap j (G ++ E) ++ F))[w]? = (H ++ G)[w]? := by
    by_cases hw : w < H.length
    · rw [List.getElem?_append_left hw, List.getElem?_append_left hw]
    · have e1 : ∀ X : List Blk, (H ++ X)[w]? = X[w - H.length]? := fun X => List.getElem?_append_right (by omega)
      have hl : w - H.length < G.length := by simp at hlt; omega
      have e2 : (killIf cap j (G ++ E) ++ F)[w - H.length]? = (killIf cap j (G ++ E))[w - H.length]? := List.getElem?_append_left (by rw [killIf_length]; simp; omega)
      rw [e1, e1, e2]
      unfold killIf
      split
      · rw [List.getElem?_append_left hl]
      · rw [List.getElem?_set_ne (by omega), List.getElem?_append_left hl]
  unfold cellsAt at *
  rw [h2]
  exact h

theorem cells_lt {L : List Blk} {w : Nat} {cs : List AV} (h : cellsAt L w = some cs) : w < L.length := by
  unfold cellsAt at h
  cases hb : L[w]? with
  | none => rw [hb] at h; cases h
  | some x => exact (List.getElem?_eq_some_iff.mp hb).1

theorem loop_s_SafeOrder_2 {rv p y3 y4 y9 y10 : AV} {q w n F : Nat} {c cw : Option Nat} {W : List Int} (hn8 : n ≤ 8) (hF : F = 2 ^ n) (hW : W.length = F) (hgood : ∀ c, c < F → goodW n W c) :
    ∀ (k C : Nat) (o : List Int) (j : Nat) (cap : Option Nat) (G : List Blk) (y8 y11 y12 : AV), cellsAt (H ++ G) w = some (encI W) → w ≠ H.length + j → k + o.length = n → mu n C = k → C < F → 0 < W.getD C 0 → G[j]? = some (.cells (encI o) true) → (cap = some 0 → o = []) →
      ∃ (j' : Nat) (cap' : Option Nat) (G' : List Blk) (z7 z8 z11 z12 : AV), G'[j']? = some (.cells (encI (o ++ orderW W n k C)) true) ∧ run T pr (.loop w_s_SafeOrder_2) ⟨[rv, slL q n c, p, y3, y4, slI (H.length + j) o.length cap, slI w F cw, .int .i64 C, y8, y9, y10, y11, y12], ⟨H ++ G, none⟩⟩ =
      some (Ex.exit 0, ⟨[rv, slL q n c, p, y3, y4, slI (H.length + j') (o ++ orderW W n k C).length cap', slI w F cw, z7, z8, y9, y10, z11, z12], ⟨H ++ G', none⟩⟩)
  | 0, C, o, j, cap, G, y8, y11, y12, hw, hne, hk, hmu, hC, hp, hG, hcap => by
    have hi : n = o.length := by omega
    subst hi
    refine ⟨j, cap, G, .int .i64 C, y8, .bool false, y12, ?_, ?_⟩
    · simpa [orderW] using hG
    rw [run_loop]
    generalize run T pr (.loop w_s_SafeOrder_2) = R
    simp +contextual only [w_s_SafeOrder_2, Nat.lt_irrefl, decide_false, orderW, go_sem, entry, joinEsc, if_pos, reduceIte, Nat.reduceAdd, Nat.reduceLeDiff, Nat.reduceLT, Nat.reduceEqDiff]
  | k + 1, C, o, j, cap, G, y8, y11, y12, hw, hne, hk, hmu, hC, hp, hG, hcap => by
    have hi : o.length < n := by omega
    obtain ⟨p1, p2, p3⟩ := pow_facts n (by omega)
    obtain ⟨f1, f2, f3, rest, f4⟩ := first_spec (hgood C hC) hp (by omega)
    rw [run_loop, orderW]
    generalize hx : firstW W n C = x at f1 f2 f3 f4 ⊢
    have f2' : C.testBit x = false ∧ 0 < W.getD (C + 2 ^ x) 0 := by
      unfold okStep at f2
      simp only [Bool.and_eq_true, decide_eq_true_eq] at f2
      exact ⟨by simpa using f2.1, f2.2⟩
    obtain ⟨_, _, b3⟩ := bits_facts C (by omega) x (by omega)
    obtain ⟨_, g2, g3, g4⟩ := b3 f2'.1
    have g2' : IntKind.i64.wrap ((C : Int) + shlI .i64 1 (x : Int)) = ((C + 2 ^ x : Nat) : Int) := g2
    obtain ⟨m1, m2, m3⟩ := mu_facts n (by omega) C (by omega)
    have hlt : C + 2 ^ x < F := by rw [hF]; exact (set_facts n (by omega) C (by omega) x f1).1 f2'.1
    have hmb : (o.length + 1) * 8 ≤ maxBytes := by unfold maxBytes; omega
    have hwl := cells_lt hw
    rw [List.length_append] at hwl
    obtain ⟨u12, hfind⟩ := loop_s_SafeOrder_1 (pr := pr) (e := none) (rv := rv) (p := p) (y3 := y3) (y4 := y4) (out := slI (H.length + j) o.length cap) (y9 := y9) (y10 := y10) (y11 := .bool true) (q := q) (c := c) (cw := cw) hn8 hF hC hw hW (fun c hc => (hgood c hc).1) f1 f2 f3 x 0 y12 rfl
    have h0 : ((0 : Nat) : Int) = 0 := rfl
    rw [h0] at hfind
    obtain ⟨j', cap', G', z7, z8, z11, z12, h2, ih⟩ := loop_s_SafeOrder_2 (rv := rv) (p := p) (y3 := y3) (y4 := y4) (y9 := y9) (y10 := y10) (q := q) (c := c) (cw := cw) hn8 hF hW hgood k (C + 2 ^ x) (o ++ [(x : Int)]) (G.length + 1) none
      (killIf cap j (G ++ [.cells [.int .i64 x] true]) ++ [.cells (encI (o ++ [(x : Int)])) true]) (.int .i64 x) (.bool true) u12 (cells_kill hw hne) (by omega) (by simp; omega) (by have := m3 x f1 f2'.1; omega) hlt f2'.2 (by
        rw [List.getElem?_append_right (by simp [killIf_length])]; simp [killIf_length]) (by simp)
    rw [List.append_assoc, List.singleton_append] at h2 ih
    refine ⟨j', cap', G', z7, z8, z11, z12, h2, ?_⟩
    generalize run T pr (.loop w_s_SafeOrder_2) = R at ih ⊢
    simp +contextual only [w_s_SafeOrder_2, hi, hfind, fillParts, append_in hG hcap hmb, shl_nat, g2', decide_true, go_sem, entry, joinEsc, if_pos, reduceIte, Nat.reduceAdd, Nat.reduceLeDiff, Nat.reduceLT, Nat.reduceEqDiff]
    simp only [List.length_append, List.length_cons, List.length_nil, Nat.zero_add, encI_append, List.map_cons, List.map_nil] at ih
    exact ih

/-- is there a safe order? -/
def canW (a b o : Int) (ls : List Ld) : Bool := cargoOk a b o ls && !decide ((waysW a b o ls).getD 0 0 = 0)

/-- the first safe order -/
def soW (a b o : Int) (ls : List Ld) : List Int := orderW (waysW a b o ls) ls.length ls.length 0

theorem cargo_le {a b o : Int} {ls : List Ld} (h : cargoOk a b o ls = true) : ls.length ≤ 8 := by
  unfold cargoOk at h
  rw [Bool.and_eq_true, decide_eq_true_eq] at h
  exact h.2

theorem ways0 {a b o : Int} {ls : List Ld} : (encI (waysW a b o ls))[0]? = some (.int .i64 ((waysW a b o ls).getD 0 0)) := by
  rw [List.getElem?_map, getD_get (by rw [waysW_length]; exact Nat.two_pow_pos _)]; rfl

theorem e_i_SafeOrder_no {q : Nat} {c : Option Nat} {ls : List Ld} (hq : cellsAt H q = some (encL ls)) (a b o : Int) (h : canW a b o ls = false) : call T pr f_i_SafeOrder [rfV a b o, slL q ls.length c] ⟨H, e⟩ =
    some (.tup [.slice none 0 0 none, .bool false], ⟨H, e⟩) := by
  rw [call_eq t_i_SafeOrder]
  cases h1 : cargoOk a b o ls with
  | false => simp +contextual only [a_i_SafeOrder, c_i_SafeOrder, e_i_areCargo (cells_mono hq _), h1, finish_two_nb, go_sem, entry, joinEsc, if_pos, reduceIte, Nat.reduceAdd, Nat.reduceLeDiff, Nat.reduceLT, Nat.reduceEqDiff]
  | true =>
    have hn8 := cargo_le h1
    unfold canW at h
    rw [h1, Bool.true_and] at h
    have hz : (waysW a b o ls).getD 0 0 = 0 := by simpa using h
    have h00 := ways0 (a := a) (b := b) (o := o) (ls := ls)
    rw [hz] at h00
    have hF : (0 : Int) < ((2 ^ ls.length : Nat) : Int) := by have := Nat.two_pow_pos ls.length; omega
    simp +contextual only [a_i_SafeOrder, c_i_SafeOrder, e_i_areCargo (cells_mono hq _), h1, e_i_Raft_waysOf (cells_mono hq _) hn8, fillParts, hF, part_false, h00, Int.toNat_zero, Int.le_refl, Nat.zero_mul, decide_true, finish_two_nb, go_sem, entry, joinEsc, if_pos, reduceIte, Nat.reduceAdd, Nat.reduceLeDiff, Nat.reduceLT, Nat.reduceEqDiff]

theorem e_s_SafeOrder_no {q : Nat} {c : Option Nat} {ls : List Ld} (hq : cellsAt H q = some (encL ls)) (a b o : Int) (h : canW a b o ls = false) : call T pr f_s_SafeOrder [rfV a b o, slL q ls.length c] ⟨H, e⟩ =
    some (.tup [slI H.length 0 (some 0), .bool false], ⟨H ++ [.cells [] true], e⟩) := by
  rw [call_eq t_s_SafeOrder]
  have hf1 : ∀ (B : Blk) (e0 : Option Nat), finish 2 H.length e0 (.tup [slI (H.length + 1) 0 (some 0), .bool false]) ⟨H ++ [B, .cells [] true], none⟩ = some (.tup [slI H.length 0 (some 0), .bool false], ⟨H ++ [.cells [] true], e0⟩) := fun B e0 => finish_two_sb false e0 rfl rfl
  have hf2 : ∀ (B B' : Blk) (e0 : Option Nat), finish 2 H.length e0 (.tup [slI (H.length + 1) 0 (some 0), .bool false]) ⟨H ++ [B, .cells [] true, B'], none⟩ = some (.tup [slI H.length 0 (some 0), .bool false], ⟨H ++ [.cells [] true], e0⟩) := fun B B' e0 => finish_two_sb false e0 rfl rfl
  cases h1 : cargoOk a b o ls with
  | false => simp +contextual only [a_s_SafeOrder, c_s_SafeOrder, e_s_l10Cargo (cells_mono hq _), h1, fillParts, hf1, go_sem, entry, joinEsc, if_pos, reduceIte, Nat.reduceAdd, Nat.reduceLeDiff, Nat.reduceLT, Nat.reduceEqDiff]
  | true =>
    have hn8 := cargo_le h1
    unfold canW at h
    rw [h1, Bool.true_and] at h
    have hz : (waysW a b o ls).getD 0 0 = 0 := by simpa using h
    have h00 := ways0 (a := a) (b := b) (o := o) (ls := ls)
    rw [hz] at h00
    have hF : (0 : Int) < ((2 ^ ls.length : Nat) : Int) := by have := Nat.two_pow_pos ls.length; omega
    simp +contextual only [a_s_SafeOrder, c_s_SafeOrder, e_s_l10Cargo (cells_mono hq _), h1, e_s_l10Ways (cells_mono hq _) hn8, fillParts, hF, part_false, h00, Int.toNat_zero, Int.le_refl, Nat.zero_mul, decide_true, hf2, go_sem, entry, joinEsc, if_pos, reduceIte, Nat.reduceAdd, Nat.reduceLeDiff, Nat.reduceLT, Nat.reduceEqDiff]

theorem e_i_SafeOrder {q : Nat} {c : Option Nat} {ls : List Ld} (hq : cellsAt H q = some (encL ls)) (a b o : Int) (h : canW a b o ls = true) : ∃ cap, call T pr f_i_SafeOrder [rfV a b o, slL q ls.length c] ⟨H, e⟩ =
    some (.tup [slI H.length (soW a b o ls).length cap, .bool true], ⟨H ++ [.cells (encI (soW a b o ls)) true], e⟩) := by
  unfold canW at h
  obtain ⟨h1, h2⟩ := Bool.and_eq_true_iff.mp h
  have hn8 := cargo_le h1
  have hz : ¬ (waysW a b o ls).getD 0 0 = 0 := by simpa using h2
  have h00 := ways0 (a := a) (b := b) (o := o) (ls := ls)
  have hF0 := Nat.two_pow_pos ls.length
  have hF : (0 : Int) < ((2 ^ ls.length : Nat) : Int) := by omega
  have hg := fun c hc => waysW_good (a := a) (b := b) (o := o) hn8 c hc
  have hp : 0 < (waysW a b o ls).getD 0 0 := by have := (hg 0 hF0).1; omega
  obtain ⟨j', cap', G', z7, z8, z11, k1, hl⟩ := loop_i_SafeOrder (pr := pr) (H := H ++ [Blk.cells [.int .i64 a, .int .i64 b, .int .i64 o] true, .cells (encI (waysW a b o ls)) true]) (rv := rfV a b o) (p := .ptr (some (H.length, 0))) (y3 := .slice none 0 0 none) (y4 := .bool false) (y9 := .bool false) (y10 := .bool false) (q := q) (w := H.length + 1) (c := c) (cw := some (2 ^ ls.length)) hn8 rfl
    (by simp [cellsAt, List.getElem?_append_right]) (waysW_length a b o ls) hg ls.length 0 [] 0 (some 0) [.cells [] true] .undef .undef rfl (mu_zero _) hF0 hp rfl (fun _ => rfl)
  have h0 : ((0 : Nat) : Int) = 0 := rfl
  rw [h0, List.nil_append] at hl
  rw [List.nil_append] at k1
  refine ⟨cap', ?_⟩
  have hs : orderW (waysW a b o ls) ls.length ls.length 0 = soW a b o ls := rfl
  rw [hs] at hl k1
  simp only [List.length_append, List.length_cons, List.length_nil, Nat.zero_add, Nat.add_zero, List.append_assoc, List.cons_append, List.nil_append, Nat.reduceAdd, Nat.add_assoc] at hl
  have hf : ∀ (B B' : Blk) (e0 : Option Nat), finish 2 H.length e0 (.tup [slI (H.length + (2 + j')) (soW a b o ls).length cap', .bool true]) ⟨H ++ (B :: B' :: G'), none⟩ = some (.tup [slI H.length (soW a b o ls).length cap', .bool true], ⟨H ++ [.cells (encI (soW a b o ls)) true], e0⟩) :=
    fun B B' e0 => finish_two_sb true e0 (by rw [show 2 + j' = j' + 1 + 1 by omega]; exact k1) (under_encI _ _)
  rw [call_eq t_i_SafeOrder]
  simp +contextual only [a_i_SafeOrder, c_i_SafeOrder, e_i_areCargo (cells_mono hq _), h1, e_i_Raft_waysOf (cells_mono hq _) hn8, fillParts, hF, part_false, h00, hz, hl, hf, Int.toNat_zero, Int.le_refl, Nat.zero_mul, decide_true, decide_false, go_sem, entry, joinEsc, if_pos, reduceIte, Nat.reduceAdd, Nat.reduceLeDiff, Nat.reduceLT, Nat.reduceEqDiff]

theorem e_s_SafeOrder {q : Nat} {c : Option Nat} {ls : List Ld} (hq : cellsAt H q = some (encL ls)) (a b o : Int) (h : canW a b o ls = true) : ∃ cap, call T pr f_s_SafeOrder [rfV a b o, slL q ls.length c] ⟨H, e⟩ =
    some (.tup [slI H.length (soW a b o ls).length cap, .bool true], ⟨H ++ [.cells (encI (soW a b o ls)) true], e⟩) := by
  unfold canW at h
  obtain ⟨h1, h2⟩ := Bool.and_eq_true_iff.mp h
  have hn8 := cargo_le h1
  have hz : ¬ (waysW a b o ls).getD 0 0 = 0 := by simpa using h2
  have h00 := ways0 (a := a) (b := b) (o := o) (ls := ls)
  have hF0 := Nat.two_pow_pos ls.length
  have hF : (0 : Int) < ((2 ^ ls.length : Nat) : Int) := by omega
  have hg := fun c hc => waysW_good (a := a) (b := b) (o := o) hn8 c hc
  have hp : 0 < (waysW a b o ls).getD 0 0 := by have := (hg 0 hF0).1; omega
  obtain ⟨j', cap', G', z7, z8, z11, z12, k1, hl⟩ := loop_s_SafeOrder_2 (pr := pr) (H := H ++ [Blk.cells [.int .i64 a, .int .i64 b, .int .i64 o] true]) (rv := rfV a b o) (p := .ptr (some (H.length, 0))) (y3 := .slice none 0 0 none) (y4 := .bool false) (y9 := .bool false) (y10 := .bool false) (q := q) (w := H.length + 2) (c := c) (cw := some (2 ^ ls.length)) hn8 rfl
    (waysW_length a b o ls) hg ls.length 0 [] 0 (some 0) [.cells [] true, .cells (encI (waysW a b o ls)) true] .undef .undef .undef (by simp [cellsAt, List.getElem?_append_right]) (by simp) rfl (mu_zero _) hF0 hp rfl (fun _ => rfl)
  have h0 : ((0 : Nat) : Int) = 0 := rfl
  rw [h0, List.nil_append] at hl
  rw [List.nil_append] at k1
  refine ⟨cap', ?_⟩
  have hs : orderW (waysW a b o ls) ls.length ls.length 0 = soW a b o ls := rfl
  rw [hs] at hl k1
  simp only [List.length_append, List.length_cons, List.length_nil, Nat.zero_add, Nat.add_zero, List.append_assoc, List.cons_append, List.nil_append, Nat.reduceAdd, Nat.add_assoc] at hl
  have hf : ∀ (B : Blk) (e0 : Option Nat), finish 2 H.length e0 (.tup [slI (H.length + (1 + j')) (soW a b o ls).length cap', .bool true]) ⟨H ++ (B :: G'), none⟩ = some (.tup [slI H.length (soW a b o ls).length cap', .bool true], ⟨H ++ [.cells (encI (soW a b o ls)) true], e0⟩) :=
    fun B e0 => finish_two_sb true e0 (by rw [show 1 + j' = j' + 1 by omega]; exact k1) (under_encI _ _)
  rw [call_eq t_s_SafeOrder]
  simp +contextual only [a_s_SafeOrder, c_s_SafeOrder, e_s_l10Cargo (cells_mono hq _), h1, e_s_l10Ways (cells_mono hq _) hn8, fillParts, hF, part_false, h00, hz, hl, hf, Int.toNat_zero, Int.le_refl, Nat.zero_mul, decide_true, decide_false, go_sem, entry, joinEsc, if_pos, reduceIte, Nat.reduceAdd, Nat.reduceLeDiff, Nat.reduceLT, Nat.reduceEqDiff]

end Go.Proofs.Ytlcklonakjhoiaa.Slim

/- Rafts: the law of the first safe order. -/
namespace Go.Proofs.Ytlcklonakjhoiaa.Slim

open Go

set_option linter.unusedSimpArgs false

set_option linter.unusedVariables false

variable {pr : Prims} {H : List Blk} {e : Option Nat}

theorem soW_length (a b o : Int) (ls : List Ld) : (soW a b o ls).length = ls.length := orderW_length _ _ _ _

theorem law_SafeOrder {av : AV} {ls : List Ld} (ha : ArgL H av ls) (a b o : Int) : ∃ m', call T pr f_l_FnExactSafeOrder [rfV a b o, av] ⟨H, none⟩ = some (.bool true, m') := by
  refine ⟨⟨H, none⟩, ?_⟩
  have hsz : ∀ G e', call T pr f_l_szLoadS [av, .int .i64 1048576] ⟨G, e'⟩ = some (.int .i64 (if ls.length ≤ 1048576 then 1048576 - ls.length else -1), ⟨G, e'⟩) := by
    obtain ⟨p, sz, c, rfl, h2, h3⟩ := ha
    exact fun G e' => e_l_szLoadS ls.length p sz c h2
  rw [call_eq t_l_FnExactSafeOrder]
  by_cases hn : ls.length ≤ 1048576
  · have hn' : ls.length ≤ 9223372036854775806 := by omega
    have hneg : ¬ (1048576 - (ls.length : Int) < 0) := by omega
    have hcopy := fun G => e_l_toLoadS (pr := pr) (e := none) (ha.more G) hn
    have hmark : ∀ L b c, L[b]? = some (.cells (encL ls) true) → call T pr f_l_markLoadS [slL b ls.length c, .int .i64 1] ⟨L, none⟩ = some (.int .i64 ((1 + ls.length * 2 : Nat) : Int), ⟨L.set b (.cells (encL (markedL 1 ls.length)) true), none⟩) :=
      fun L b c h => e_l_markLoadS h (by omega) 1 (by omega)
    have hk0 : ¬ (((1 + ls.length * 2 : Nat) : Int) < 0) := by omega
    have h10 : ¬ ((1 : Int) < 0) := by omega
    cases hcan : canW a b o ls with
    | false =>
      have hs := fun L q c hq => e_s_SafeOrder_no (pr := pr) (H := L) (e := none) (q := q) (c := c) (ls := ls) hq a b o hcan
      have hi := fun L q c hq => e_i_SafeOrder_no (pr := pr) (H := L) (e := none) (q := q) (c := c) (ls := ls) hq a b o hcan
      simp +contextual only [a_l_FnExactSafeOrder, c_l_FnExactSafeOrder, hsz, hn, hneg, decide_false, decide_true, e_l_toRaft, hcopy, hs, hi, e_l_eqIntS_none, e_l_markIntS_none, e_l_heldIntS_none, hmark, hk0, h10, e_l_eqLoadS, hn', beq_self_eq_true, go_sem, entry, joinEsc, if_pos, reduceIte, Nat.reduceAdd, Nat.reduceLeDiff, Nat.reduceLT, Nat.reduceEqDiff]
    | true =>
      have hl := soW_length a b o ls
      have hc8 := cargo_le (Bool.and_eq_true_iff.mp hcan).1
      have hs := fun L q c hq => hid_tup (e_s_SafeOrder (pr := pr) (H := L) (e := none) (q := q) (c := c) (ls := ls) hq a b o hcan)
      have hi := fun L q c hq => hid_tup (e_i_SafeOrder (pr := pr) (H := L) (e := none) (q := q) (c := c) (ls := ls) hq a b o hcan)
      generalize soW a b o ls = os at *
      have ho' : os.length ≤ 9223372036854775806 := by omega
      have hmi : ∀ L b c, L[b]? = some (.cells (encI os) true) → call T pr f_l_markIntS [slI b os.length c, .int .i64 1] ⟨L, none⟩ = some (.int .i64 ((1 + os.length : Nat) : Int), ⟨L.set b (.cells (encI (markedI 1 os.length)) true), none⟩) :=
        fun L b c h => e_l_markIntS h (by omega) 1 (by omega)
      have hhe : ∀ L b c, cellsAt L b = some (encI (markedI 1 os.length)) → call T pr f_l_heldIntS [slI b os.length c, .int .i64 1] ⟨L, none⟩ = some (.int .i64 ((1 + os.length : Nat) : Int), ⟨L, none⟩) :=
        fun L b c h => e_l_heldIntS (k := 1) h (by omega) (by omega)
      have hk1 : ¬ (((1 + os.length : Nat) : Int) < 0) := by omega
      simp +contextual only [a_l_FnExactSafeOrder, c_l_FnExactSafeOrder, hsz, hn, hneg, decide_false, decide_true, e_l_toRaft, hcopy, hs, hi, e_l_eqIntS, ho', hmi, hhe, hk1, hmark, hk0, h10, e_l_eqLoadS, hn', beq_self_eq_true, go_sem, entry, joinEsc, if_pos, reduceIte, Nat.reduceAdd, Nat.reduceLeDiff, Nat.reduceLT, Nat.reduceEqDiff]
  · simp +contextual only [a_l_FnExactSafeOrder, c_l_FnExactSafeOrder, hsz, hn, decide_true, show ((-1 : Int) < 0) by omega, go_sem, entry, joinEsc, if_pos, reduceIte, Nat.reduceAdd, Nat.reduceLeDiff, Nat.reduceLT, Nat.reduceEqDiff]

end Go.Proofs.Ytlcklonakjhoiaa.Slim

/- Rafts: from which sets all can be taken, on both sides. -/
namespace Go.Proofs.Ytlcklonakjhoiaa.Slim

open Go

set_option linter.unusedSimpArgs false

set_option linter.unusedVariables false

variable {pr : Prims} {H : List Blk} {e : Option Nat}

theorem bits_down : ∀ m : Nat, m < 256 → ∀ x : Nat, x < 8 → m.testBit x = true → (andNotI .i64 m (shlI .i64 1 (x : Int)) = ((m - 2 ^ x : Nat) : Int) ∧ wr ((m : Int) - shlI .i64 1 (x : Int)) = ((m - 2 ^ x : Nat) : Int) ∧ 2 ^ x ≤ m) := by decide +kernel

/-- the items that are in c -/
def nu (n c : Nat) : Nat := ((List.range n).filter fun i => c.testBit i).length

theorem nu_facts : ∀ n : Nat, n < 9 → ∀ c : Nat, c < 2 ^ n → ((nu n c = 0 ↔ c = 0) ∧ (c + 1 = 2 ^ n → nu n c = n) ∧ ∀ i : Nat, i < n → c.testBit i = true → nu n c = nu n (c - 2 ^ i) + 1) := by decide +kernel

abbrev encB (ls : List Bool) : List AV := ls.map AV.bool

theorem getB {B : List Bool} {c : Nat} (h : c < B.length) : B[c]? = some (B.getD c false) := by
  rw [List.getD_eq_getElem?_getD, List.getElem?_eq_getElem h]; rfl

theorem part_encB {B : List Bool} {i : Nat} (sz : Nat) (h : i < B.length) : part false (encB B) i sz = some (.bool (B.getD i false)) := by
  rw [part_false, List.getElem?_map, getB h]; rfl

theorem under_encB (n : Nat) : ∀ ls : List Bool, ((encB ls).all fun c => c.under n) = true
  | [] => rfl
  | l :: ls => by simp [encB, AV.under]

theorem zeros_encB : ∀ n, zeros n [.bool false] = encB (List.replicate n false)
  | 0 => rfl
  | n + 1 => by
    have := zeros_encB n
    unfold zeros encB at *
    simp only [List.replicate_succ, List.flatten_cons, List.map_cons, List.cons_append, List.nil_append, this]

theorem setRange_midB (P R : List Bool) (r a : Bool) : setRange (encB (P ++ r :: R)) P.length [.bool a] = encB (P ++ a :: R) := by
  induction P with
  | nil => simp [encB, setRange]
  | cons p P ih =>
    simp only [encB, List.cons_append, List.length_cons, List.map_cons] at *
    rw [setRange_k, ih]

theorem getD_pre {P R : List Bool} {d : Nat} (h : d < P.length) : (P ++ R).getD d false = P.getD d false := by
  rw [List.getD_eq_getElem?_getD, List.getD_eq_getElem?_getD, List.getElem?_append_left h]

/-- item i can be taken from c, and the rest in some way behind it -/
def okDown (W : List Bool) (c i : Nat) : Bool := c.testBit i && W.getD (c - 2 ^ i) false

def backV (safe : Nat → Bool) (n c : Nat) (B : List Bool) : Bool := safe c && (decide (c = 0) || (List.range n).any (okDown B c))

/-- the sets below c: can all be taken from them? -/
def backL (safe : Nat → Bool) (n : Nat) : Nat → List Bool
  | 0 => []
  | c + 1 => backL safe n c ++ [backV safe n c (backL safe n c)]

theorem backL_length (safe : Nat → Bool) (n : Nat) : ∀ c, (backL safe n c).length = c
  | 0 => rfl
  | c + 1 => by rw [backL, List.length_append, backL_length]; rfl

theorem backL_getD (safe : Nat → Bool) (n : Nat) {c d : Nat} : ∀ F, c < F → d < c → (backL safe n F).getD d false = (backL safe n c).getD d false
  | 0, h, _ => by omega
  | F + 1, h, hd => by
    rw [backL]
    by_cases hc : c = F
    · subst hc; exact getD_pre (by rw [backL_length]; exact hd)
    · rw [getD_pre (by rw [backL_length]; omega)]
      exact backL_getD safe n F (by omega) hd

theorem backL_val (safe : Nat → Bool) (n : Nat) {c : Nat} : ∀ F, c < F → (backL safe n F).getD c false = backV safe n c (backL safe n c)
  | 0, h => by omega
  | F + 1, h => by
    rw [backL]
    by_cases hc : c = F
    · subst hc
      rw [List.getD_eq_getElem?_getD, List.getElem?_append_right (by rw [backL_length]; exact Nat.le_refl _), backL_length, Nat.sub_self]
      rfl
    · rw [getD_pre (by rw [backL_length]; omega)]
      exact backL_val safe n F (by omega)

theorem back_good {safe : Nat → Bool} {n F c : Nat} (hF : F = 2 ^ n) (hn8 : n ≤ 8) (hc : c < F) (h : (backL safe n F).getD c false = true) (h0 : c ≠ 0) : ∃ i, i < n ∧ okDown (backL safe n F) c i = true := by
  rw [backL_val safe n F hc] at h
  unfold backV at h
  simp only [Bool.and_eq_true, Bool.or_eq_true, decide_eq_true_eq, List.any_eq_true, List.mem_range] at h
  rcases h.2 with h | ⟨i, i1, i2⟩
  · exact absurd h h0
  · refine ⟨i, i1, ?_⟩
    unfold okDown at i2 ⊢
    rw [Bool.and_eq_true] at i2 ⊢
    have := Nat.two_pow_pos i
    rw [backL_getD safe n F hc (by omega)]
    exact i2

def backW (a b o : Int) (ls : List Ld) : List Bool := backL (fun c => safeW a b o ls (c : Int)) ls.length (2 ^ ls.length)

theorem loop_s_l10Back_1 {rv p y3 y8 : AV} {q w n F C : Nat} {c cw : Option Nat} {B R : List Bool} (hn8 : n ≤ 8) (hF : F = 2 ^ n) (hC : C < F) (hw : cellsAt H w = some (encB (B ++ R))) (hB : B.length = C) (hR : B.length + R.length = F) :
    ∀ (k i : Nat) (g : Bool) (y9 : AV), k + i = n → ∃ (z9 : AV), run T pr (.loop w_s_l10Back_1) ⟨[rv, slL q n c, p, y3, slI w F cw, .int .i64 C, .bool g, .int .i64 i, y8, y9], ⟨H, e⟩⟩ =
      some (Ex.exit 2, ⟨[rv, slL q n c, p, y3, slI w F cw, .int .i64 C, .bool (g || (List.range' i k).any (okDown B C)), .int .i64 n, y8, z9], ⟨H, e⟩⟩)
  | 0, i, g, y9, hk => by
    have hi : i = n := by omega
    subst hi
    refine ⟨.bool false, ?_⟩
    have h0 : (g || (List.range' i 0).any (okDown B C)) = g := by simp
    rw [run_loop, h0]
    generalize run T pr (.loop w_s_l10Back_1) = R'
    simp +contextual only [w_s_l10Back_1, Nat.lt_irrefl, decide_false, go_sem, entry, joinEsc, if_pos, reduceIte, Nat.reduceAdd, Nat.reduceLeDiff, Nat.reduceLT, Nat.reduceEqDiff]
  | k + 1, i, g, y9, hk => by
    have hi : i < n := by omega
    obtain ⟨p1, p2, p3⟩ := pow_facts n (by omega)
    rw [run_loop, List.range'_succ, List.any_cons]
    cases g with
    | true =>
      obtain ⟨z9, ih⟩ := loop_s_l10Back_1 (rv := rv) (p := p) (y3 := y3) (y8 := y8) (q := q) (c := c) (cw := cw) hn8 hF hC hw hB hR k (i + 1) true (.bool true) (by omega)
      refine ⟨z9, ?_⟩
      generalize run T pr (.loop w_s_l10Back_1) = R' at ih ⊢
      rw [Bool.true_or] at ih ⊢
      simp +contextual only [w_s_l10Back_1, hi, wrap_succ (show i < 9223372036854775807 by omega), decide_true, go_sem, entry, joinEsc, if_pos, reduceIte, Nat.reduceAdd, Nat.reduceLeDiff, Nat.reduceLT, Nat.reduceEqDiff]
      exact ih
    | false =>
      rw [Bool.false_or]
      obtain ⟨z9, ih⟩ := loop_s_l10Back_1 (rv := rv) (p := p) (y3 := y3) (y8 := y8) (q := q) (c := c) (cw := cw) hn8 hF hC hw hB hR k (i + 1) (okDown B C i) (.bool true) (by omega)
      refine ⟨z9, ?_⟩
      generalize run T pr (.loop w_s_l10Back_1) = R' at ih ⊢
      unfold okDown at ih ⊢
      cases h1 : C.testBit i with
      | false =>
        have hb := bit_clear (c := C) (i := i) (by omega) (by omega) h1
        rw [h1, Bool.false_and] at ih
        rw [Bool.false_and]
        simp +contextual only [w_s_l10Back_1, hi, shr_nat, hb, show ¬ ((0 : Int) = 1) by omega, wrap_succ (show i < 9223372036854775807 by omega), decide_true, decide_false, go_sem, entry, joinEsc, if_pos, reduceIte, Nat.reduceAdd, Nat.reduceLeDiff, Nat.reduceLT, Nat.reduceEqDiff]
        exact ih
      | true =>
        have hb := bit_set (c := C) (i := i) (by omega) (by omega) h1
        obtain ⟨d1, d2, d3⟩ := bits_down C (by omega) i (by omega) h1
        have d2' : IntKind.i64.wrap ((C : Int) - shlI .i64 1 (i : Int)) = ((C - 2 ^ i : Nat) : Int) := d2
        have hp := Nat.two_pow_pos i
        have hlt : C - 2 ^ i < F := by omega
        have hg : part false (encB (B ++ R)) (C - 2 ^ i) 1 = some (.bool (B.getD (C - 2 ^ i) false)) := by rw [part_encB _ (by simp; omega), getD_pre (by omega)]
        rw [h1, Bool.true_and] at ih
        rw [Bool.true_and]
        simp +contextual only [w_s_l10Back_1, hw, hi, hlt, shr_nat, shl_nat, hb, d2', hg, wrap_succ (show i < 9223372036854775807 by omega), decide_true, go_sem, entry, joinEsc, if_pos, reduceIte, Nat.reduceAdd, Nat.reduceLeDiff, Nat.reduceLT, Nat.reduceEqDiff]
        exact ih

theorem loop_s_l10Back_2 {rv y3 : AV} {q u : Nat} {c : Option Nat} {ls : List Ld} {n F : Nat} {a b o : Int} (hls : ls.length = n) (hn8 : n ≤ 8) (hF : F = 2 ^ n) (h : cellsAt H q = some (encL ls)) (hu : cellsAt H u = some [.int .i64 a, .int .i64 b, .int .i64 o]) :
    ∀ (k C : Nat) (y6 y7 y8 y9 : AV), k + C = F → ∃ (z6 z7 z8 z9 : AV), run T pr (.loop w_s_l10Back_2) ⟨[rv, slL q n c, .ptr (some (u, 0)), y3, slI H.length F (some F), .int .i64 C, y6, y7, y8, y9], ⟨H ++ [.cells (encB (backL (fun c => safeW a b o ls (c : Int)) n C ++ List.replicate k false)) true], none⟩⟩ =
      some (Ex.exit 0, ⟨[rv, slL q n c, .ptr (some (u, 0)), y3, slI H.length F (some F), .int .i64 F, z6, z7, z8, z9], ⟨H ++ [.cells (encB (backL (fun c => safeW a b o ls (c : Int)) n F)) true], none⟩⟩)
  | 0, C, y6, y7, y8, y9, hk => by
    have hi : C = F := by omega
    subst hi
    refine ⟨y6, y7, .bool false, y9, ?_⟩
    rw [run_loop, List.replicate_zero, List.append_nil]
    generalize run T pr (.loop w_s_l10Back_2) = R
    simp +contextual only [w_s_l10Back_2, Nat.lt_irrefl, decide_false, go_sem, entry, joinEsc, if_pos, reduceIte, Nat.reduceAdd, Nat.reduceLeDiff, Nat.reduceLT, Nat.reduceEqDiff]
  | k + 1, C, y6, y7, y8, y9, hk => by
    have hC : C < F := by omega
    obtain ⟨p1, p2, p3⟩ := pow_facts n (by omega)
    have hsafe := fun G => e_s_l10Safe (pr := pr) (e := none) (c := c) (cells_mono h G) (show ls.length ≤ 9223372036854775806 by omega) a b o (C : Int)
    rw [hls] at hsafe
    have h0 : ((0 : Nat) : Int) = 0 := rfl
    have hz : decide ((C : Int) = 0) = decide (C = 0) := decide_eq_decide.mpr (by omega)
    rw [run_loop, List.replicate_succ]
    obtain ⟨z9, hl⟩ := loop_s_l10Back_1 (pr := pr) (e := none) (H := H ++ [.cells (encB (backL (fun c => safeW a b o ls (c : Int)) n C ++ (false :: List.replicate k false))) true]) (rv := rv) (p := .ptr (some (u, 0))) (y3 := y3) (y8 := .bool true) (q := q) (w := H.length) (c := c) (cw := some F) (B := backL (fun c => safeW a b o ls (c : Int)) n C) (R := false :: List.replicate k false) hn8 hF hC (by simp [cellsAt, List.getElem?_append_right]) (backL_length _ _ _) (by rw [backL_length]; simp; omega) n 0 (decide (C = 0)) y9 rfl
    rw [h0, ← List.range_eq_range'] at hl
    obtain ⟨w6, w7, w8, w9, ih⟩ := loop_s_l10Back_2 (rv := rv) (y3 := y3) (c := c) hls hn8 hF h hu k (C + 1) (.bool (decide (C = 0) || (List.range n).any (okDown (backL (fun c => safeW a b o ls (c : Int)) n C) C))) (.int .i64 n) (.bool true) z9 (by omega)
    refine ⟨w6, w7, w8, w9, ?_⟩
    generalize run T pr (.loop w_s_l10Back_2) = R at ih ⊢
    rw [backL, backV, List.append_assoc, List.singleton_append] at ih
    have hlen := backL_length (fun c => safeW a b o ls (c : Int)) n C
    generalize backL (fun c => safeW a b o ls (c : Int)) n C = B at *
    have hset : ∀ x, setRange (encB (B ++ false :: List.replicate k false)) C [.bool x] = encB (B ++ x :: List.replicate k false) := fun x => by
      conv => lhs; rw [← hlen]
      exact setRange_midB B _ false x
    have hle : C + 1 ≤ (encB (B ++ false :: List.replicate k false)).length := by simp; omega
    generalize (decide (C = 0) || (List.range n).any (okDown B C)) = g at *
    cases g with
    | false =>
      rw [Bool.and_false] at ih
      simp +contextual only [w_s_l10Back_2, cells_mono hu, hsafe, hz, hl, hC, hle, hset, wrap_succ (show C < 9223372036854775807 by omega), Nat.mul_one, decide_true, go_sem, entry, joinEsc, if_pos, reduceIte, Nat.reduceAdd, Nat.reduceLeDiff, Nat.reduceLT, Nat.reduceEqDiff]
      exact ih
    | true =>
      rw [Bool.and_true] at ih
      simp +contextual only [w_s_l10Back_2, cells_mono hu, hsafe, hz, hl, hC, hle, hset, wrap_succ (show C < 9223372036854775807 by omega), Nat.mul_one, decide_true, go_sem, entry, joinEsc, if_pos, reduceIte, Nat.reduceAdd, Nat.reduceLeDiff, Nat.reduceLT, Nat.reduceEqDiff]
      exact ih

theorem fin_back (x : Blk) (W : List Bool) (n : Nat) (c : Option Nat) (e0 : Option Nat) : finish 2 H.length e0 (slI (H.length + 1) n c) ⟨H ++ [x, Blk.cells (encB W) true], none⟩ = some (slI H.length n c, ⟨H ++ [Blk.cells (encB W) true], e0⟩) :=
  finish_two_at e0 rfl (under_encB _ _)

theorem e_s_l10Back {q : Nat} {c : Option Nat} {ls : List Ld} (h : cellsAt H q = some (encL ls)) (hn8 : ls.length ≤ 8) (a b o : Int) : call T pr f_s_l10Back [rfV a b o, slL q ls.length c] ⟨H, e⟩ =
    some (slI H.length (2 ^ ls.length) (some (2 ^ ls.length)), ⟨H ++ [.cells (encB (backW a b o ls)) true], e⟩) := by
  obtain ⟨p1, p2, p3⟩ := pow_facts ls.length (by omega)
  unfold backW
  generalize hF : 2 ^ ls.length = F at *
  have hu : cellsAt (H ++ [Blk.cells [.int .i64 a, .int .i64 b, .int .i64 o] true]) H.length = some [.int .i64 a, .int .i64 b, .int .i64 o] := by simp [cellsAt, List.getElem?_append_right]
  obtain ⟨z6, z7, z8, z9, hl⟩ := loop_s_l10Back_2 (pr := pr) (c := c) (rv := rfV a b o) (y3 := .slice none 0 0 none) rfl hn8 hF.symm (cells_mono h [Blk.cells [.int .i64 a, .int .i64 b, .int .i64 o] true]) hu F 0 .undef .undef .undef .undef (by omega)
  have h0 : ((0 : Nat) : Int) = 0 := rfl
  rw [backL, List.nil_append, ← zeros_encB, List.append_assoc, List.append_assoc, h0] at hl
  simp only [List.length_append, List.length_cons, List.length_nil, Nat.zero_add, List.cons_append, List.nil_append] at hl
  have hmb : (F : Int) * ((1 : Nat) : Int) ≤ ((maxBytes : Nat) : Int) := by unfold maxBytes; omega
  rw [call_eq t_s_l10Back]
  simp +contextual only [a_s_l10Back, c_s_l10Back, shl_nat, p1, hmb, hl, fin_back, go_sem, entry, joinEsc, if_pos, reduceIte, Nat.reduceAdd, Nat.reduceLeDiff, Nat.reduceLT, Nat.reduceEqDiff]

end Go.Proofs.Ytlcklonakjhoiaa.Slim

/- Rafts: the order in which all can be taken, on both sides; its law. -/
namespace Go.Proofs.Ytlcklonakjhoiaa.Slim

open Go

set_option linter.unusedSimpArgs false

set_option linter.unusedVariables false

variable {pr : Prims} {H : List Blk} {e : Option Nat}

def firstD (W : List Bool) (n c : Nat) : Nat := ((List.range n).filter (okDown W c)).headD 0

def unloadL (W : List Bool) (n : Nat) : Nat → Nat → List Int
  | 0, _ => []
  | k + 1, c => ((firstD W n c : Nat) : Int) :: unloadL W n k (c - 2 ^ firstD W n c)

theorem unloadL_length (W : List Bool) (n : Nat) : ∀ k c, (unloadL W n k c).length = k
  | 0, _ => rfl
  | k + 1, c => by rw [unloadL, List.length_cons, unloadL_length]

theorem firstD_spec {W : List Bool} {n c : Nat} (h : ∃ i, i < n ∧ okDown W c i = true) :
    firstD W n c < n ∧ okDown W c (firstD W n c) = true ∧ (∀ i, i < firstD W n c → okDown W c i = false) := by
  obtain ⟨i, i1, i2⟩ := h
  cases hf : (List.range n).filter (okDown W c) with
  | nil =>
    have := List.filter_eq_nil_iff.mp hf i (by simpa using i1)
    exact absurd i2 this
  | cons x rest =>
    have hx : firstD W n c = x := by unfold firstD; rw [hf]; rfl
    have hfind : (List.range n).find? (okDown W c) = some x := by rw [← List.head?_filter, hf]; rfl
    rw [List.find?_range_eq_some] at hfind
    obtain ⟨k1, k2, k3⟩ := hfind
    rw [hx]
    exact ⟨by simpa using k2, k1, fun i hi => by simpa using k3 i hi⟩

theorem loop_i_UnloadOrder_1 {a0 a1 a2 a3 a4 a5 b9 b10 b11 b12 b13 b14 b15 b16 b21 b22 b23 b24 b25 b26 : AV} {n F C : Nat} {B R : List Bool} (hn8 : n ≤ 8) (hF : F = 2 ^ n) (hC : C < F) (hB : B.length = C) (hR : B.length + (R.length + 1) = F) :
    ∀ (k i : Nat) (g : Bool) (y8 y19 y20 : AV), k + i = n → ∃ (z8 z19 z20 : AV), run T pr (.loop w_i_UnloadOrder_1) ⟨[a0, a1, a2, a3, a4, a5, slI H.length F (some F), .int .i64 C, y8, b9, b10, b11, b12, b13, b14, b15, b16, .int .i64 n, .int .i64 i, y19, y20, b21, b22, b23, b24, b25, b26], ⟨H ++ [.cells (encB (B ++ g :: R)) true], e⟩⟩ =
      some (Ex.exit 2, ⟨[a0, a1, a2, a3, a4, a5, slI H.length F (some F), .int .i64 C, z8, b9, b10, b11, b12, b13, b14, b15, b16, .int .i64 n, .int .i64 n, z19, z20, b21, b22, b23, b24, b25, b26], ⟨H ++ [.cells (encB (B ++ (g || (List.range' i k).any (okDown B C)) :: R)) true], e⟩⟩)
  | 0, i, g, y8, y19, y20, hk => by
    have hi : i = n := by omega
    subst hi
    refine ⟨y8, .bool false, y20, ?_⟩
    have h0 : (g || (List.range' i 0).any (okDown B C)) = g := by simp
    rw [run_loop, h0]
    generalize run T pr (.loop w_i_UnloadOrder_1) = R'
    simp +contextual only [w_i_UnloadOrder_1, Nat.lt_irrefl, decide_false, go_sem, entry, joinEsc, if_pos, reduceIte, Nat.reduceAdd, Nat.reduceLeDiff, Nat.reduceLT, Nat.reduceEqDiff]
  | k + 1, i, g, y8, y19, y20, hk => by
    have hi : i < n := by omega
    obtain ⟨p1, p2, p3⟩ := pow_facts n (by omega)
    rw [run_loop, List.range'_succ, List.any_cons]
    have hle : ∀ x : Bool, C + 1 ≤ (encB (B ++ x :: R)).length := fun x => by simp; omega
    have hset : ∀ x y : Bool, setRange (encB (B ++ y :: R)) C [.bool x] = encB (B ++ x :: R) := fun x y => by
      conv => lhs; rw [← hB]
      exact setRange_midB B _ y x
    cases h1 : C.testBit i with
    | false =>
      have hok : okDown B C i = false := by unfold okDown; rw [h1]; rfl
      rw [hok, Bool.false_or]
      obtain ⟨z8, z19, z20, ih⟩ := loop_i_UnloadOrder_1 (a0 := a0) (a1 := a1) (a2 := a2) (a3 := a3) (a4 := a4) (a5 := a5) (b9 := b9) (b10 := b10) (b11 := b11) (b12 := b12) (b13 := b13) (b14 := b14) (b15 := b15) (b16 := b16) (b21 := b21) (b22 := b22) (b23 := b23) (b24 := b24) (b25 := b25) (b26 := b26) hn8 hF hC hB hR k (i + 1) g (.int .i64 i) (.bool true) (.bool false) (by omega)
      refine ⟨z8, z19, z20, ?_⟩
      generalize run T pr (.loop w_i_UnloadOrder_1) = R' at ih ⊢
      have hb := bit_clear (c := C) (i := i) (by omega) (by omega) h1
      simp +contextual only [w_i_UnloadOrder_1, hi, shr_nat, hb, show ¬ ((0 : Int) = 1) by omega, wrap_succ (show i < 9223372036854775807 by omega), decide_true, decide_false, go_sem, entry, joinEsc, if_pos, reduceIte, Nat.reduceAdd, Nat.reduceLeDiff, Nat.reduceLT, Nat.reduceEqDiff]
      exact ih
    | true =>
      have hb := bit_set (c := C) (i := i) (by omega) (by omega) h1
      obtain ⟨d1, d2, d3⟩ := bits_down C (by omega) i (by omega) h1
      have hp := Nat.two_pow_pos i
      have hlt : C - 2 ^ i < F := by omega
      have hg : part false (encB (B ++ g :: R)) (C - 2 ^ i) 1 = some (.bool (B.getD (C - 2 ^ i) false)) := by rw [part_encB _ (by simp; omega), getD_pre (by omega)]
      have hok : okDown B C i = B.getD (C - 2 ^ i) false := by unfold okDown; rw [h1]; rfl
      rw [hok]
      cases h2 : B.getD (C - 2 ^ i) false with
      | false =>
        rw [h2] at hg
        rw [Bool.false_or]
        obtain ⟨z8, z19, z20, ih⟩ := loop_i_UnloadOrder_1 (a0 := a0) (a1 := a1) (a2 := a2) (a3 := a3) (a4 := a4) (a5 := a5) (b9 := b9) (b10 := b10) (b11 := b11) (b12 := b12) (b13 := b13) (b14 := b14) (b15 := b15) (b16 := b16) (b21 := b21) (b22 := b22) (b23 := b23) (b24 := b24) (b25 := b25) (b26 := b26) hn8 hF hC hB hR k (i + 1) g (.int .i64 i) (.bool true) (.bool false) (by omega)
        refine ⟨z8, z19, z20, ?_⟩
        generalize run T pr (.loop w_i_UnloadOrder_1) = R' at ih ⊢
        simp +contextual only [w_i_UnloadOrder_1, hi, hlt, shr_nat, shl_nat, hb, d1, hg, wrap_succ (show i < 9223372036854775807 by omega), decide_true, go_sem, entry, joinEsc, if_pos, reduceIte, Nat.reduceAdd, Nat.reduceLeDiff, Nat.reduceLT, Nat.reduceEqDiff]
        exact ih
      | true =>
        rw [h2] at hg
        rw [Bool.true_or, Bool.or_true]
        obtain ⟨z8, z19, z20, ih⟩ := loop_i_UnloadOrder_1 (a0 := a0) (a1 := a1) (a2 := a2) (a3 := a3) (a4 := a4) (a5 := a5) (b9 := b9) (b10 := b10) (b11 := b11) (b12 := b12) (b13 := b13) (b14 := b14) (b15 := b15) (b16 := b16) (b21 := b21) (b22 := b22) (b23 := b23) (b24 := b24) (b25 := b25) (b26 := b26) hn8 hF hC hB hR k (i + 1) true (.int .i64 i) (.bool true) (.bool true) (by omega)
        rw [Bool.true_or] at ih
        refine ⟨z8, z19, z20, ?_⟩
        generalize run T pr (.loop w_i_UnloadOrder_1) = R' at ih ⊢
        simp +contextual only [w_i_UnloadOrder_1, hi, hC, hlt, hle, hset, shr_nat, shl_nat, hb, d1, hg, wrap_succ (show i < 9223372036854775807 by omega), Nat.mul_one, decide_true, go_sem, entry, joinEsc, if_pos, reduceIte, Nat.reduceAdd, Nat.reduceLeDiff, Nat.reduceLT, Nat.reduceEqDiff]
        exact ih

theorem loop_i_UnloadOrder_2 {a0 a3 a4 a5 b9 b10 b11 b12 b21 b22 b23 b24 b25 b26 : AV} {q u : Nat} {c : Option Nat} {ls : List Ld} {n F : Nat} {a b o : Int} (hls : ls.length = n) (hn8 : n ≤ 8) (hF : F = 2 ^ n) (h : cellsAt H q = some (encL ls)) (hu : cellsAt H u = some [.int .i64 a, .int .i64 b, .int .i64 o]) :
    ∀ (k C : Nat) (y7 y8 y15 y16 y17 y18 y19 y20 : AV), k + C = F → ∃ (z7 z8 z15 z16 z17 z18 z19 z20 : AV), run T pr (.loop w_i_UnloadOrder_2) ⟨[a0, slL q n c, .ptr (some (u, 0)), a3, a4, a5, slI H.length F (some F), y7, y8, b9, b10, b11, b12, .int .i64 F, .int .i64 C, y15, y16, y17, y18, y19, y20, b21, b22, b23, b24, b25, b26], ⟨H ++ [.cells (encB (backL (fun c => safeW a b o ls (c : Int)) n C ++ List.replicate k false)) true], none⟩⟩ =
      some (Ex.exit 0, ⟨[a0, slL q n c, .ptr (some (u, 0)), a3, a4, a5, slI H.length F (some F), z7, z8, b9, b10, b11, b12, .int .i64 F, .int .i64 F, z15, z16, z17, z18, z19, z20, b21, b22, b23, b24, b25, b26], ⟨H ++ [.cells (encB (backL (fun c => safeW a b o ls (c : Int)) n F)) true], none⟩⟩)
  | 0, C, y7, y8, y15, y16, y17, y18, y19, y20, hk => by
    have hi : C = F := by omega
    subst hi
    refine ⟨y7, y8, .bool false, y16, y17, y18, y19, y20, ?_⟩
    rw [run_loop, List.replicate_zero, List.append_nil]
    generalize run T pr (.loop w_i_UnloadOrder_2) = R
    simp +contextual only [w_i_UnloadOrder_2, Nat.lt_irrefl, decide_false, go_sem, entry, joinEsc, if_pos, reduceIte, Nat.reduceAdd, Nat.reduceLeDiff, Nat.reduceLT, Nat.reduceEqDiff]
  | k + 1, C, y7, y8, y15, y16, y17, y18, y19, y20, hk => by
    have hC : C < F := by omega
    obtain ⟨p1, p2, p3⟩ := pow_facts n (by omega)
    have hsafe := fun G => e_i_Raft_isSafe (pr := pr) (e := none) (c := c) (cells_mono h G) (show ls.length ≤ 9223372036854775806 by omega) a b o (C : Int)
    rw [hls] at hsafe
    have h0 : ((0 : Nat) : Int) = 0 := rfl
    have hz : decide ((C : Int) = 0) = decide (C = 0) := decide_eq_decide.mpr (by omega)
    rw [run_loop, List.replicate_succ]
    have hlen := backL_length (fun c => safeW a b o ls (c : Int)) n C
    have hbk : backL (fun c => safeW a b o ls (c : Int)) n (C + 1) ++ List.replicate k false = backL (fun c => safeW a b o ls (c : Int)) n C ++ backV (fun c => safeW a b o ls (c : Int)) n C (backL (fun c => safeW a b o ls (c : Int)) n C) :: List.replicate k false := by
      rw [backL, List.append_assoc, List.singleton_append]
    have hset : ∀ x, setRange (encB (backL (fun c => safeW a b o ls (c : Int)) n C ++ false :: List.replicate k false)) C [.bool x] = encB (backL (fun c => safeW a b o ls (c : Int)) n C ++ x :: List.replicate k false) := fun x => by
      conv => lhs; rw [← hlen]
      rw [hlen]
      conv => lhs; arg 2; rw [← hlen]
      exact setRange_midB _ _ false x
    have hle : C + 1 ≤ (encB (backL (fun c => safeW a b o ls (c : Int)) n C ++ false :: List.replicate k false)).length := by simp [hlen]
    cases h1 : safeW a b o ls (C : Int) with
    | false =>
      have hv : backV (fun c => safeW a b o ls (c : Int)) n C (backL (fun c => safeW a b o ls (c : Int)) n C) = false := by unfold backV; simp only [h1, Bool.false_and]
      obtain ⟨z7, z8, z15, z16, z17, z18, z19, z20, ih⟩ := loop_i_UnloadOrder_2 (a0 := a0) (a3 := a3) (a4 := a4) (a5 := a5) (b9 := b9) (b10 := b10) (b11 := b11) (b12 := b12) (b21 := b21) (b22 := b22) (b23 := b23) (b24 := b24) (b25 := b25) (b26 := b26) (c := c) hls hn8 hF h hu k (C + 1) (.int .i64 C) y8 (.bool true) (.bool true) y17 y18 y19 y20 (by omega)
      rw [hbk, hv] at ih
      refine ⟨z7, z8, z15, z16, z17, z18, z19, z20, ?_⟩
      generalize run T pr (.loop w_i_UnloadOrder_2) = R at ih ⊢
      simp +contextual only [w_i_UnloadOrder_2, cells_mono hu, hsafe, h1, hC, wrap_succ (show C < 9223372036854775807 by omega), decide_true, go_sem, entry, joinEsc, if_pos, reduceIte, Nat.reduceAdd, Nat.reduceLeDiff, Nat.reduceLT, Nat.reduceEqDiff]
      exact ih
    | true =>
      have hv : backV (fun c => safeW a b o ls (c : Int)) n C (backL (fun c => safeW a b o ls (c : Int)) n C) = (decide (C = 0) || (List.range n).any (okDown (backL (fun c => safeW a b o ls (c : Int)) n C) C)) := by unfold backV; simp only [h1, Bool.true_and]
      obtain ⟨v8, v19, v20, hl⟩ := loop_i_UnloadOrder_1 (pr := pr) (e := none) (H := H) (a0 := a0) (a1 := slL q n c) (a2 := .ptr (some (u, 0))) (a3 := a3) (a4 := a4) (a5 := a5) (b9 := b9) (b10 := b10) (b11 := b11) (b12 := b12) (b13 := .int .i64 F) (b14 := .int .i64 C) (b15 := .bool true) (b16 := .bool false) (b21 := b21) (b22 := b22) (b23 := b23) (b24 := b24) (b25 := b25) (b26 := b26) hn8 hF hC hlen (R := List.replicate k false) (by rw [hlen]; simp; omega) n 0 (decide (C = 0)) y8 y19 y20 rfl
      rw [h0, ← List.range_eq_range'] at hl
      obtain ⟨z7, z8, z15, z16, z17, z18, z19, z20, ih⟩ := loop_i_UnloadOrder_2 (a0 := a0) (a3 := a3) (a4 := a4) (a5 := a5) (b9 := b9) (b10 := b10) (b11 := b11) (b12 := b12) (b21 := b21) (b22 := b22) (b23 := b23) (b24 := b24) (b25 := b25) (b26 := b26) (c := c) hls hn8 hF h hu k (C + 1) (.int .i64 C) v8 (.bool true) (.bool false) (.int .i64 n) (.int .i64 n) v19 v20 (by omega)
      rw [hbk, hv] at ih
      refine ⟨z7, z8, z15, z16, z17, z18, z19, z20, ?_⟩
      generalize run T pr (.loop w_i_UnloadOrder_2) = R at ih ⊢
      simp +contextual only [w_i_UnloadOrder_2, cells_mono hu, hsafe, h1, hz, hl, hC, hle, hset, wrap_succ (show C < 9223372036854775807 by omega), Nat.mul_one, decide_true, go_sem, entry, joinEsc, if_pos, reduceIte, Nat.reduceAdd, Nat.reduceLeDiff, Nat.reduceLT, Nat.reduceEqDiff]
      exact ih

theorem loop_i_UnloadOrder_3 {a0 a1 a2 a3 a4 a5 a7 a8 b12 b13 b14 b15 b16 b17 b18 b19 b20 b21 b22 : AV} {w n F C x : Nat} {cw : Option Nat} {W : List Bool} (hn8 : n ≤ 8) (hF : F = 2 ^ n) (hC : C < F) (hw : cellsAt H w = some (encB W)) (hW : W.length = F)
    (hx : x < n) (h1 : okDown W C x = true) (h2 : ∀ i, i < x → okDown W C i = false) {o : List Int} {j : Nat} {cap : Option Nat} {G : List Blk} (hG : G[j]? = some (.cells (encI o) true)) (hcap : cap = some 0 → o = []) (hmb : (o.length + 1) * 8 ≤ maxBytes) :
    ∀ (k i : Nat) (y11 y25 y26 : AV), k + i = x → ∃ z11 z24 z25 z26, run T pr (.loop w_i_UnloadOrder_3) ⟨[a0, a1, a2, a3, a4, a5, slI w F cw, a7, a8, slI (H.length + j) o.length cap, .int .i64 C, y11, b12, b13, b14, b15, b16, b17, b18, b19, b20, b21, b22, .int .i64 n, .int .i64 i, y25, y26], ⟨H ++ G, e⟩⟩ =
      some (Ex.exit 6, ⟨[a0, a1, a2, a3, a4, a5, slI w F cw, a7, a8, slI (H.length + (G.length + 1)) (o.length + 1) none, .int .i64 ((C - 2 ^ x : Nat) : Int), z11, b12, b13, b14, b15, b16, b17, b18, b19, b20, b21, b22, .int .i64 n, z24, z25, z26], ⟨H ++ (killIf cap j (G ++ [.cells [.int .i64 x] true]) ++ [.cells (encI (o ++ [(x : Int)])) true]), e⟩⟩)
  | 0, i, y11, y25, y26, hk => by
    obtain rfl : i = x := by omega
    obtain ⟨p1, p2, p3⟩ := pow_facts n (by omega)
    unfold okDown at h1
    rw [Bool.and_eq_true] at h1
    obtain ⟨hbit, hv⟩ := h1
    have hb := bit_set (c := C) (i := i) (by omega) (by omega) hbit
    obtain ⟨d1, d2, d3⟩ := bits_down C (by omega) i (by omega) hbit
    have hp := Nat.two_pow_pos i
    have hlt : C - 2 ^ i < F := by omega
    have hg := part_encB (B := W) (i := C - 2 ^ i) 1 (by omega)
    rw [hv] at hg
    refine ⟨.int .i64 i, .int .i64 i, .bool true, .bool true, ?_⟩
    rw [run_loop, encI_append]
    generalize run T pr (.loop w_i_UnloadOrder_3) = R
    simp +contextual only [w_i_UnloadOrder_3, cells_mono hw, hx, hlt, shr_nat, shl_nat, hb, d1, hg, fillParts, append_in hG hcap hmb, decide_true, decide_false, go_sem, entry, joinEsc, if_pos, reduceIte, Nat.reduceAdd, Nat.reduceLeDiff, Nat.reduceLT, Nat.reduceEqDiff]
  | k + 1, i, y11, y25, y26, hk => by
    have hno := h2 i (by omega)
    have hi : i < n := by omega
    obtain ⟨p1, p2, p3⟩ := pow_facts n (by omega)
    obtain ⟨z11, z24, z25, z26, ih⟩ := loop_i_UnloadOrder_3 (a0 := a0) (a1 := a1) (a2 := a2) (a3 := a3) (a4 := a4) (a5 := a5) (a7 := a7) (a8 := a8) (b12 := b12) (b13 := b13) (b14 := b14) (b15 := b15) (b16 := b16) (b17 := b17) (b18 := b18) (b19 := b19) (b20 := b20) (b21 := b21) (b22 := b22) (cw := cw) hn8 hF hC hw hW hx h1 h2 hG hcap hmb k (i + 1) (.int .i64 i) (.bool true) (.bool false) (by omega)
    refine ⟨z11, z24, z25, z26, ?_⟩
    rw [run_loop]
    generalize run T pr (.loop w_i_UnloadOrder_3) = R at ih ⊢
    cases hbit : C.testBit i with
    | false =>
      have hb := bit_clear (c := C) (i := i) (by omega) (by omega) hbit
      simp +contextual only [w_i_UnloadOrder_3, hi, shr_nat, hb, show ¬ ((0 : Int) = 1) by omega, wrap_succ (show i < 9223372036854775807 by omega), decide_true, decide_false, go_sem, entry, joinEsc, if_pos, reduceIte, Nat.reduceAdd, Nat.reduceLeDiff, Nat.reduceLT, Nat.reduceEqDiff]
      exact ih
    | true =>
      have hb := bit_set (c := C) (i := i) (by omega) (by omega) hbit
      obtain ⟨d1, d2, d3⟩ := bits_down C (by omega) i (by omega) hbit
      have hp := Nat.two_pow_pos i
      have hlt : C - 2 ^ i < F := by omega
      have hg := part_encB (B := W) (i := C - 2 ^ i) 1 (by omega)
      unfold okDown at hno
      rw [hbit, Bool.true_and] at hno
      rw [hno] at hg
      simp +contextual only [w_i_UnloadOrder_3, cells_mono hw, hi, hlt, shr_nat, shl_nat, hb, d1, hg, wrap_succ (show i < 9223372036854775807 by omega), decide_true, decide_false, go_sem, entry, joinEsc, if_pos, reduceIte, Nat.reduceAdd, Nat.reduceLeDiff, Nat.reduceLT, Nat.reduceEqDiff]
      exact ih

theorem loop_i_UnloadOrder_4 {a0 a2 a3 a4 a5 a7 a8 b12 b13 b14 b15 b16 b17 b18 b19 b20 b21 : AV} {q w n F : Nat} {c cw : Option Nat} {W : List Bool} (hn8 : n ≤ 8) (hF : F = 2 ^ n) (hw : cellsAt H w = some (encB W)) (hW : W.length = F) (hgood : ∀ c, c < F → W.getD c false = true → c ≠ 0 → ∃ i, i < n ∧ okDown W c i = true) :
    ∀ (k C : Nat) (o : List Int) (j : Nat) (cap : Option Nat) (G : List Blk) (y11 y22 y23 y24 y25 y26 : AV), k + o.length = n → nu n C = k → C < F → W.getD C false = true → G[j]? = some (.cells (encI o) true) → (cap = some 0 → o = []) →
      ∃ (j' : Nat) (cap' : Option Nat) (G' : List Blk) (z10 z11 z22 z23 z24 z25 z26 : AV), G'[j']? = some (.cells (encI (o ++ unloadL W n k C)) true) ∧ run T pr (.loop w_i_UnloadOrder_4) ⟨[a0, slL q n c, a2, a3, a4, a5, slI w F cw, a7, a8, slI (H.length + j) o.length cap, .int .i64 C, y11, b12, b13, b14, b15, b16, b17, b18, b19, b20, b21, y22, y23, y24, y25, y26], ⟨H ++ G, none⟩⟩ =
      some (Ex.exit 4, ⟨[a0, slL q n c, a2, a3, a4, a5, slI w F cw, a7, a8, slI (H.length + j') (o ++ unloadL W n k C).length cap', z10, z11, b12, b13, b14, b15, b16, b17, b18, b19, b20, b21, z22, z23, z24, z25, z26], ⟨H ++ G', none⟩⟩)
  | 0, C, o, j, cap, G, y11, y22, y23, y24, y25, y26, hk, hnu, hC, hp, hG, hcap => by
    obtain ⟨m1, m2, m3⟩ := nu_facts n (by omega) C (by omega)
    obtain rfl : C = 0 := m1.mp hnu
    have h0 : ((0 : Nat) : Int) = 0 := rfl
    refine ⟨j, cap, G, .int .i64 0, y11, .bool false, y23, y24, y25, y26, ?_, ?_⟩
    · simpa [unloadL] using hG
    rw [run_loop, h0]
    generalize run T pr (.loop w_i_UnloadOrder_4) = R
    have hu : o ++ unloadL W n 0 0 = o := by simp [unloadL]
    simp +contextual only [w_i_UnloadOrder_4, Int.lt_irrefl, decide_false, hu, go_sem, entry, joinEsc, if_pos, reduceIte, Nat.reduceAdd, Nat.reduceLeDiff, Nat.reduceLT, Nat.reduceEqDiff]
  | k + 1, C, o, j, cap, G, y11, y22, y23, y24, y25, y26, hk, hnu, hC, hp, hG, hcap => by
    obtain ⟨p1, p2, p3⟩ := pow_facts n (by omega)
    obtain ⟨m1, m2, m3⟩ := nu_facts n (by omega) C (by omega)
    have hC0 : C ≠ 0 := fun h => by have := m1.mpr h; omega
    have hCp : (0 : Int) < (C : Int) := by omega
    obtain ⟨f1, f2, f3⟩ := firstD_spec (hgood C hC hp hC0)
    rw [run_loop, unloadL]
    generalize hx : firstD W n C = x at f1 f2 f3 ⊢
    have f2' := f2
    unfold okDown at f2'
    rw [Bool.and_eq_true] at f2'
    have hmb : (o.length + 1) * 8 ≤ maxBytes := by unfold maxBytes; omega
    have h0 : ((0 : Nat) : Int) = 0 := rfl
    obtain ⟨v11, v24, v25, v26, hfind⟩ := loop_i_UnloadOrder_3 (pr := pr) (e := none) (a0 := a0) (a1 := slL q n c) (a2 := a2) (a3 := a3) (a4 := a4) (a5 := a5) (a7 := a7) (a8 := a8) (b12 := b12) (b13 := b13) (b14 := b14) (b15 := b15) (b16 := b16) (b17 := b17) (b18 := b18) (b19 := b19) (b20 := b20) (b21 := b21) (b22 := .bool true) (cw := cw) hn8 hF hC hw hW f1 f2 f3 hG hcap hmb x 0 y11 y25 y26 rfl
    rw [h0] at hfind
    obtain ⟨j', cap', G', z10, z11, z22, z23, z24, z25, z26, h2, ih⟩ := loop_i_UnloadOrder_4 (a0 := a0) (a2 := a2) (a3 := a3) (a4 := a4) (a5 := a5) (a7 := a7) (a8 := a8) (b12 := b12) (b13 := b13) (b14 := b14) (b15 := b15) (b16 := b16) (b17 := b17) (b18 := b18) (b19 := b19) (b20 := b20) (b21 := b21) (q := q) (c := c) (cw := cw) hn8 hF hw hW hgood k (C - 2 ^ x) (o ++ [(x : Int)]) (G.length + 1) none
      (killIf cap j (G ++ [.cells [.int .i64 x] true]) ++ [.cells (encI (o ++ [(x : Int)])) true]) v11 (.bool true) (.int .i64 n) v24 v25 v26 (by simp; omega) (by have := m3 x f1 f2'.1; omega) (Nat.lt_of_le_of_lt (Nat.sub_le _ _) hC) f2'.2 (by
        rw [List.getElem?_append_right (by simp [killIf_length])]; simp [killIf_length]) (by simp)
    rw [List.append_assoc, List.singleton_append] at h2 ih
    refine ⟨j', cap', G', z10, z11, z22, z23, z24, z25, z26, h2, ?_⟩
    generalize run T pr (.loop w_i_UnloadOrder_4) = R at ih ⊢
    simp +contextual only [w_i_UnloadOrder_4, hCp, hfind, decide_true, go_sem, entry, joinEsc, if_pos, reduceIte, Nat.reduceAdd, Nat.reduceLeDiff, Nat.reduceLT, Nat.reduceEqDiff]
    simp only [List.length_append, List.length_cons, List.length_nil, Nat.zero_add] at ih
    exact ih

theorem loop_s_UnloadOrder_1 {a0 a1 a2 a3 a4 a5 b9 b10 b11 : AV} {w n F C x : Nat} {cw : Option Nat} {W : List Bool} (hn8 : n ≤ 8) (hF : F = 2 ^ n) (hC : C < F) (hw : cellsAt H w = some (encB W)) (hW : W.length = F)
    (hx : x < n) (h1 : okDown W C x = true) (h2 : ∀ i, i < x → okDown W C i = false) :
    ∀ (k i : Nat) (y12 : AV), k + i = x → ∃ z12, run T pr (.loop w_s_UnloadOrder_1) ⟨[a0, a1, a2, a3, a4, a5, slI w F cw, .int .i64 C, .int .i64 i, b9, b10, b11, y12], ⟨H, e⟩⟩ =
      some (Ex.exit 2, ⟨[a0, a1, a2, a3, a4, a5, slI w F cw, .int .i64 C, .int .i64 x, b9, b10, b11, z12], ⟨H, e⟩⟩)
  | 0, i, y12, hk => by
    obtain rfl : i = x := by omega
    obtain ⟨p1, p2, p3⟩ := pow_facts n (by omega)
    unfold okDown at h1
    rw [Bool.and_eq_true] at h1
    obtain ⟨hbit, hv⟩ := h1
    have hb := bit_set (c := C) (i := i) (by omega) (by omega) hbit
    obtain ⟨d1, d2, d3⟩ := bits_down C (by omega) i (by omega) hbit
    have d2' : IntKind.i64.wrap ((C : Int) - shlI .i64 1 (i : Int)) = ((C - 2 ^ i : Nat) : Int) := d2
    have hp := Nat.two_pow_pos i
    have hlt : C - 2 ^ i < F := by omega
    have hg := part_encB (B := W) (i := C - 2 ^ i) 1 (by omega)
    rw [hv] at hg
    refine ⟨.bool false, ?_⟩
    rw [run_loop]
    generalize run T pr (.loop w_s_UnloadOrder_1) = R
    simp +contextual only [w_s_UnloadOrder_1, hw, hlt, shr_nat, shl_nat, hb, d2', hg, show ¬ ((1 : Int) = 0) by omega, decide_true, decide_false, go_sem, entry, joinEsc, if_pos, reduceIte, Nat.reduceAdd, Nat.reduceLeDiff, Nat.reduceLT, Nat.reduceEqDiff]
  | k + 1, i, y12, hk => by
    have hno := h2 i (by omega)
    have hi : i < n := by omega
    obtain ⟨p1, p2, p3⟩ := pow_facts n (by omega)
    obtain ⟨z12, ih⟩ := loop_s_UnloadOrder_1 (a0 := a0) (a1 := a1) (a2 := a2) (a3 := a3) (a4 := a4) (a5 := a5) (b9 := b9) (b10 := b10) (b11 := b11) (cw := cw) hn8 hF hC hw hW hx h1 h2 k (i + 1) (.bool true) (by omega)
    refine ⟨z12, ?_⟩
    rw [run_loop]
    generalize run T pr (.loop w_s_UnloadOrder_1) = R at ih ⊢
    cases hbit : C.testBit i with
    | false =>
      have hb := bit_clear (c := C) (i := i) (by omega) (by omega) hbit
      simp +contextual only [w_s_UnloadOrder_1, shr_nat, hb, wrap_succ (show i < 9223372036854775807 by omega), decide_true, decide_false, go_sem, entry, joinEsc, if_pos, reduceIte, Nat.reduceAdd, Nat.reduceLeDiff, Nat.reduceLT, Nat.reduceEqDiff]
      exact ih
    | true =>
      have hb := bit_set (c := C) (i := i) (by omega) (by omega) hbit
      obtain ⟨d1, d2, d3⟩ := bits_down C (by omega) i (by omega) hbit
      have d2' : IntKind.i64.wrap ((C : Int) - shlI .i64 1 (i : Int)) = ((C - 2 ^ i : Nat) : Int) := d2
      have hp := Nat.two_pow_pos i
      have hlt : C - 2 ^ i < F := by omega
      have hg := part_encB (B := W) (i := C - 2 ^ i) 1 (by omega)
      unfold okDown at hno
      rw [hbit, Bool.true_and] at hno
      rw [hno] at hg
      simp +contextual only [w_s_UnloadOrder_1, hw, hlt, shr_nat, shl_nat, hb, d2', hg, show ¬ ((1 : Int) = 0) by omega, wrap_succ (show i < 9223372036854775807 by omega), decide_true, decide_false, go_sem, entry, joinEsc, if_pos, reduceIte, Nat.reduceAdd, Nat.reduceLeDiff, Nat.reduceLT, Nat.reduceEqDiff]
      exact ih

theorem loop_s_UnloadOrder_2 {a0 a2 a3 a4 b9 b10 : AV} {q w n F : Nat} {c cw : Option Nat} {W : List Bool} (hn8 : n ≤ 8) (hF : F = 2 ^ n) (hW : W.length = F) (hgood : ∀ c, c < F → W.getD c false = true → c ≠ 0 → ∃ i, i < n ∧ okDown W c i = true) :
    ∀ (k C : Nat) (o : List Int) (j : Nat) (cap : Option Nat) (G : List Blk) (y8 y11 y12 : AV), cellsAt (H ++ G) w = some (encB W) → w ≠ H.length + j → k + o.length = n → nu n C = k → C < F → W.getD C false = true → G[j]? = some (.cells (encI o) true) → (cap = some 0 → o = []) →
      ∃ (j' : Nat) (cap' : Option Nat) (G' : List Blk) (z7 z8 z11 z12 : AV), G'[j']? = some (.cells (encI (o ++ unloadL W n k C)) true) ∧ run T pr (.loop w_s_UnloadOrder_2) ⟨[a0, slL q n c, a2, a3, a4, slI (H.length + j) o.length cap, slI w F cw, .int .i64 C, y8, b9, b10, y11, y12], ⟨H ++ G, none⟩⟩ =
      some (Ex.exit 0, ⟨[a0, slL q n c, a2, a3, a4, slI (H.length + j') (o ++ unloadL W n k C).length cap', slI w F cw, z7, z8, b9, b10, z11, z12], ⟨H ++ G', none⟩⟩)
  | 0, C, o, j, cap, G, y8, y11, y12, hw, hne, hk, hnu, hC, hp, hG, hcap => by
    obtain ⟨m1, m2, m3⟩ := nu_facts n (by omega) C (by omega)
    obtain rfl : C = 0 := m1.mp hnu
    have h0 : ((0 : Nat) : Int) = 0 := rfl
    refine ⟨j, cap, G, .int .i64 0, y8, .bool false, y12, ?_, ?_⟩
    · simpa [unloadL] using hG
    rw [run_loop, h0]
    generalize run T pr (.loop w_s_UnloadOrder_2) = R
    have hu : o ++ unloadL W n 0 0 = o := by simp [unloadL]
    simp +contextual only [w_s_UnloadOrder_2, Int.lt_irrefl, decide_false, hu, go_sem, entry, joinEsc, if_pos, reduceIte, Nat.reduceAdd, Nat.reduceLeDiff, Nat.reduceLT, Nat.reduceEqDiff]
  | k + 1, C, o, j, cap, G, y8, y11, y12, hw, hne, hk, hnu, hC, hp, hG, hcap => by
    obtain ⟨p1, p2, p3⟩ := pow_facts n (by omega)
    obtain ⟨m1, m2, m3⟩ := nu_facts n (by omega) C (by omega)
    have hC0 : C ≠ 0 := fun h => by have := m1.mpr h; omega
    have hCp : (0 : Int) < (C : Int) := by omega
    obtain ⟨f1, f2, f3⟩ := firstD_spec (hgood C hC hp hC0)
    rw [run_loop, unloadL]
    generalize hx : firstD W n C = x at f1 f2 f3 ⊢
    have f2' := f2
    unfold okDown at f2'
    rw [Bool.and_eq_true] at f2'
    obtain ⟨d1, d2, d3⟩ := bits_down C (by omega) x (by omega) f2'.1
    have d2' : IntKind.i64.wrap ((C : Int) - shlI .i64 1 (x : Int)) = ((C - 2 ^ x : Nat) : Int) := d2
    have hmb : (o.length + 1) * 8 ≤ maxBytes := by unfold maxBytes; omega
    have h0 : ((0 : Nat) : Int) = 0 := rfl
    have hwl := cells_lt hw
    rw [List.length_append] at hwl
    obtain ⟨v12, hfind⟩ := loop_s_UnloadOrder_1 (pr := pr) (e := none) (a0 := a0) (a1 := slL q n c) (a2 := a2) (a3 := a3) (a4 := a4) (a5 := slI (H.length + j) o.length cap) (b9 := b9) (b10 := b10) (b11 := .bool true) (cw := cw) hn8 hF hC hw hW f1 f2 f3 x 0 y12 rfl
    rw [h0] at hfind
    obtain ⟨j', cap', G', z7, z8, z11, z12, h2, ih⟩ := loop_s_UnloadOrder_2 (a0 := a0) (a2 := a2) (a3 := a3) (a4 := a4) (b9 := b9) (b10 := b10) (q := q) (c := c) (cw := cw) hn8 hF hW hgood k (C - 2 ^ x) (o ++ [(x : Int)]) (G.length + 1) none
      (killIf cap j (G ++ [.cells [.int .i64 x] true]) ++ [.cells (encI (o ++ [(x : Int)])) true]) (.int .i64 x) (.bool true) v12 (cells_kill hw hne) (by omega) (by simp; omega) (by have := m3 x f1 f2'.1; omega) (Nat.lt_of_le_of_lt (Nat.sub_le _ _) hC) f2'.2 (by
        rw [List.getElem?_append_right (by simp [killIf_length])]; simp [killIf_length]) (by simp)
    rw [List.append_assoc, List.singleton_append] at h2 ih
    refine ⟨j', cap', G', z7, z8, z11, z12, h2, ?_⟩
    generalize run T pr (.loop w_s_UnloadOrder_2) = R at ih ⊢
    simp +contextual only [w_s_UnloadOrder_2, hCp, hfind, fillParts, append_in hG hcap hmb, shl_nat, d2', decide_true, go_sem, entry, joinEsc, if_pos, reduceIte, Nat.reduceAdd, Nat.reduceLeDiff, Nat.reduceLT, Nat.reduceEqDiff]
    simp only [List.length_append, List.length_cons, List.length_nil, Nat.zero_add, encI_append, List.map_cons, List.map_nil] at ih
    exact ih

end Go.Proofs.Ytlcklonakjhoiaa.Slim

/- Rafts: the unloading's law. -/
namespace Go.Proofs.Ytlcklonakjhoiaa.Slim

open Go

set_option linter.unusedSimpArgs false

set_option linter.unusedVariables false

variable {pr : Prims} {H : List Blk} {e : Option Nat}

theorem backW_length (a b o : Int) (ls : List Ld) : (backW a b o ls).length = 2 ^ ls.length := backL_length _ _ _

/-- can all be taken? -/
def canU (a b o : Int) (ls : List Ld) : Bool := cargoOk a b o ls && (backW a b o ls).getD (2 ^ ls.length - 1) false

/-- the first order in which all can be taken -/
def uoW (a b o : Int) (ls : List Ld) : List Int := unloadL (backW a b o ls) ls.length ls.length (2 ^ ls.length - 1)

theorem uoW_length (a b o : Int) (ls : List Ld) : (uoW a b o ls).length = ls.length := unloadL_length _ _ _ _

theorem backF {a b o : Int} {ls : List Ld} (sz : Nat) : part false (encB (backW a b o ls)) (2 ^ ls.length - 1) sz = some (.bool ((backW a b o ls).getD (2 ^ ls.length - 1) false)) :=
  part_encB sz (by rw [backW_length]; have := Nat.two_pow_pos ls.length; omega)

theorem e_i_UnloadOrder {q : Nat} {c : Option Nat} {ls : List Ld} (hq : cellsAt H q = some (encL ls)) (a b o : Int) : ∃ cap, call T pr f_i_UnloadOrder [rfV a b o, slL q ls.length c] ⟨H, e⟩ =
    some (if canU a b o ls = true then (.tup [slI H.length (uoW a b o ls).length cap, .bool true], ⟨H ++ [.cells (encI (uoW a b o ls)) true], e⟩) else (.tup [.slice none 0 0 none, .bool false], ⟨H, e⟩)) := by
  rw [call_eq t_i_UnloadOrder]
  unfold canU
  cases h1 : cargoOk a b o ls with
  | false =>
    refine ⟨none, ?_⟩
    rw [Bool.false_and, if_neg (by simp)]
    simp +contextual only [a_i_UnloadOrder, c_i_UnloadOrder, e_i_areCargo (cells_mono hq _), h1, finish_two_nb, go_sem, entry, joinEsc, if_pos, reduceIte, Nat.reduceAdd, Nat.reduceLeDiff, Nat.reduceLT, Nat.reduceEqDiff]
  | true =>
    have hn8 := cargo_le h1
    rw [Bool.true_and]
    obtain ⟨p1, p2, p3⟩ := pow_facts ls.length (by omega)
    have hlen := backW_length a b o ls
    have hbF := backF (a := a) (b := b) (o := o) (ls := ls) 1
    have hgood := fun c (hc : c < 2 ^ ls.length) => back_good (safe := fun c => safeW a b o ls (c : Int)) (n := ls.length) rfl hn8 hc
    have hbw : backL (fun c => safeW a b o ls (c : Int)) ls.length (2 ^ ls.length) = backW a b o ls := rfl
    simp only [hbw] at hgood
    have hnu := (nu_facts ls.length (by omega) (2 ^ ls.length - 1) (by omega)).2.1 (by omega)
    have huo : uoW a b o ls = unloadL (backW a b o ls) ls.length ls.length (2 ^ ls.length - 1) := rfl
    have hu : cellsAt (H ++ [Blk.cells [.int .i64 a, .int .i64 b, .int .i64 o] true]) H.length = some [.int .i64 a, .int .i64 b, .int .i64 o] := by simp [cellsAt, List.getElem?_append_right]
    generalize hF : 2 ^ ls.length = F at *
    have hx : ((F - 1 : Nat) : Int) = (F : Int) - 1 := by omega
    have w1 : IntKind.i64.wrap ((F : Int) - 1) = ((F - 1 : Nat) : Int) := by rw [hx]; exact wrap64 (by omega) (by omega)
    have w2 : IntKind.i64.wrap (((F - 1 : Nat) : Int) + 1) = (F : Int) := by rw [hx, show (F : Int) - 1 + 1 = F by omega]; exact wrap64 (by omega) (by omega)
    have hmb : (F : Int) * ((1 : Nat) : Int) ≤ ((maxBytes : Nat) : Int) := by unfold maxBytes; omega
    have h0 : ((0 : Nat) : Int) = 0 := rfl
    have hFl : F - 1 < F := by omega
    obtain ⟨z7, z8, z15, z16, z17, z18, z19, z20, hl⟩ := loop_i_UnloadOrder_2 (pr := pr) (a0 := rfV a b o) (a3 := .slice none 0 0 none) (a4 := .bool false) (a5 := .int .i64 ((F - 1 : Nat) : Int)) (b9 := .undef) (b10 := .undef) (b11 := .undef) (b12 := .bool false) (b21 := .undef) (b22 := .undef) (b23 := .undef) (b24 := .undef) (b25 := .undef) (b26 := .undef) (c := c) rfl hn8 hF.symm (cells_mono hq [Blk.cells [.int .i64 a, .int .i64 b, .int .i64 o] true]) hu F 0 .undef .undef .undef .undef .undef .undef .undef .undef (by omega)
    rw [backL, List.nil_append, ← zeros_encB, List.append_assoc, List.append_assoc, h0, hbw] at hl
    simp only [List.length_append, List.length_cons, List.length_nil, Nat.zero_add, List.cons_append, List.nil_append] at hl
    cases h2 : (backW a b o ls).getD (F - 1) false with
    | false =>
      refine ⟨none, ?_⟩
      rw [h2] at hbF
      rw [if_neg (by simp)]
      simp +contextual only [a_i_UnloadOrder, c_i_UnloadOrder, e_i_areCargo (cells_mono hq _), h1, shl_nat, p1, w1, w2, hmb, hl, hFl, hbF, finish_two_nb, go_sem, entry, joinEsc, if_pos, reduceIte, Nat.reduceAdd, Nat.reduceLeDiff, Nat.reduceLT, Nat.reduceEqDiff]
    | true =>
      rw [h2] at hbF
      obtain ⟨j', cap', G', v10, v11, v22, v23, v24, v25, v26, k1, hl2⟩ := loop_i_UnloadOrder_4 (pr := pr) (H := H ++ [Blk.cells [.int .i64 a, .int .i64 b, .int .i64 o] true, .cells (encB (backW a b o ls)) true]) (a0 := rfV a b o) (a2 := .ptr (some (H.length, 0))) (a3 := .slice none 0 0 none) (a4 := .bool false) (a5 := .int .i64 ((F - 1 : Nat) : Int)) (a7 := z7) (a8 := z8) (b12 := .bool false) (b13 := .int .i64 F) (b14 := .int .i64 F) (b15 := z15) (b16 := z16) (b17 := z17) (b18 := z18) (b19 := z19) (b20 := z20) (b21 := .bool false) (q := q) (w := H.length + 1) (c := c) (cw := some F) hn8 hF.symm
        (by simp [cellsAt, List.getElem?_append_right]) hlen hgood ls.length (F - 1) [] 0 (some 0) [.cells [] true] .undef .undef .undef .undef .undef .undef rfl hnu hFl h2 rfl (fun _ => rfl)
      rw [List.nil_append, ← huo] at hl2 k1
      refine ⟨cap', ?_⟩
      rw [if_pos rfl]
      simp only [List.length_append, List.length_cons, List.length_nil, Nat.zero_add, Nat.add_zero, List.append_assoc, List.cons_append, List.nil_append, Nat.reduceAdd, Nat.add_assoc] at hl2
      have hf : ∀ (B B' : Blk) (e0 : Option Nat), finish 2 H.length e0 (.tup [slI (H.length + (2 + j')) (uoW a b o ls).length cap', .bool true]) ⟨H ++ (B :: B' :: G'), none⟩ = some (.tup [slI H.length (uoW a b o ls).length cap', .bool true], ⟨H ++ [.cells (encI (uoW a b o ls)) true], e0⟩) :=
        fun B B' e0 => finish_two_sb true e0 (by rw [show 2 + j' = j' + 1 + 1 by omega]; exact k1) (under_encI _ _)
      simp +contextual only [a_i_UnloadOrder, c_i_UnloadOrder, e_i_areCargo (cells_mono hq _), h1, shl_nat, p1, w1, w2, hmb, hl, hFl, hbF, fillParts, hl2, hf, go_sem, entry, joinEsc, if_pos, reduceIte, Nat.reduceAdd, Nat.reduceLeDiff, Nat.reduceLT, Nat.reduceEqDiff]

theorem e_s_UnloadOrder {q : Nat} {c : Option Nat} {ls : List Ld} (hq : cellsAt H q = some (encL ls)) (a b o : Int) : ∃ cap, call T pr f_s_UnloadOrder [rfV a b o, slL q ls.length c] ⟨H, e⟩ =
    some (if canU a b o ls = true then (.tup [slI H.length (uoW a b o ls).length cap, .bool true], ⟨H ++ [.cells (encI (uoW a b o ls)) true], e⟩) else (.tup [slI H.length 0 (some 0), .bool false], ⟨H ++ [.cells [] true], e⟩)) := by
  rw [call_eq t_s_UnloadOrder]
  unfold canU
  have hf1 : ∀ (B : Blk) (e0 : Option Nat), finish 2 H.length e0 (.tup [slI (H.length + 1) 0 (some 0), .bool false]) ⟨H ++ [B, .cells [] true], none⟩ = some (.tup [slI H.length 0 (some 0), .bool false], ⟨H ++ [.cells [] true], e0⟩) := fun B e0 => finish_two_sb false e0 rfl rfl
  have hf2 : ∀ (B B' : Blk) (e0 : Option Nat), finish 2 H.length e0 (.tup [slI (H.length + 1) 0 (some 0), .bool false]) ⟨H ++ [B, .cells [] true, B'], none⟩ = some (.tup [slI H.length 0 (some 0), .bool false], ⟨H ++ [.cells [] true], e0⟩) := fun B B' e0 => finish_two_sb false e0 rfl rfl
  cases h1 : cargoOk a b o ls with
  | false =>
    refine ⟨none, ?_⟩
    rw [Bool.false_and, if_neg (by simp)]
    simp +contextual only [a_s_UnloadOrder, c_s_UnloadOrder, e_s_l10Cargo (cells_mono hq _), h1, fillParts, hf1, go_sem, entry, joinEsc, if_pos, reduceIte, Nat.reduceAdd, Nat.reduceLeDiff, Nat.reduceLT, Nat.reduceEqDiff]
  | true =>
    have hn8 := cargo_le h1
    rw [Bool.true_and]
    obtain ⟨p1, p2, p3⟩ := pow_facts ls.length (by omega)
    have hlen := backW_length a b o ls
    have hbF := backF (a := a) (b := b) (o := o) (ls := ls) 1
    have hgood := fun c (hc : c < 2 ^ ls.length) => back_good (safe := fun c => safeW a b o ls (c : Int)) (n := ls.length) rfl hn8 hc
    have hbw : backL (fun c => safeW a b o ls (c : Int)) ls.length (2 ^ ls.length) = backW a b o ls := rfl
    simp only [hbw] at hgood
    have hnu := (nu_facts ls.length (by omega) (2 ^ ls.length - 1) (by omega)).2.1 (by omega)
    have huo : uoW a b o ls = unloadL (backW a b o ls) ls.length ls.length (2 ^ ls.length - 1) := rfl
    have hback := fun G => e_s_l10Back (pr := pr) (e := none) (c := c) (cells_mono hq G) hn8 a b o
    generalize hF : 2 ^ ls.length = F at *
    have hx : ((F - 1 : Nat) : Int) = (F : Int) - 1 := by omega
    have w1 : IntKind.i64.wrap ((F : Int) - 1) = ((F - 1 : Nat) : Int) := by rw [hx]; exact wrap64 (by omega) (by omega)
    have hFl : F - 1 < F := by omega
    cases h2 : (backW a b o ls).getD (F - 1) false with
    | false =>
      refine ⟨none, ?_⟩
      rw [h2] at hbF
      rw [if_neg (by simp)]
      simp +contextual only [a_s_UnloadOrder, c_s_UnloadOrder, e_s_l10Cargo (cells_mono hq _), h1, fillParts, shl_nat, p1, w1, hback, hFl, hbF, hf2, go_sem, entry, joinEsc, if_pos, reduceIte, Nat.reduceAdd, Nat.reduceLeDiff, Nat.reduceLT, Nat.reduceEqDiff]
    | true =>
      rw [h2] at hbF
      obtain ⟨j', cap', G', v7, v8, v11, v12, k1, hl2⟩ := loop_s_UnloadOrder_2 (pr := pr) (H := H ++ [Blk.cells [.int .i64 a, .int .i64 b, .int .i64 o] true]) (a0 := rfV a b o) (a2 := .ptr (some (H.length, 0))) (a3 := .slice none 0 0 none) (a4 := .bool false) (b9 := .bool false) (b10 := .bool false) (q := q) (w := H.length + 2) (c := c) (cw := some F) hn8 hF.symm
        hlen hgood ls.length (F - 1) [] 0 (some 0) [.cells [] true, .cells (encB (backW a b o ls)) true] .undef .undef .undef (by simp [cellsAt, List.getElem?_append_right]) (by simp) rfl hnu hFl h2 rfl (fun _ => rfl)
      rw [List.nil_append, ← huo] at hl2 k1
      refine ⟨cap', ?_⟩
      rw [if_pos rfl]
      simp only [List.length_append, List.length_cons, List.length_nil, Nat.zero_add, Nat.add_zero, List.append_assoc, List.cons_append, List.nil_append, Nat.reduceAdd, Nat.add_assoc] at hl2
      have hf : ∀ (B : Blk) (e0 : Option Nat), finish 2 H.length e0 (.tup [slI (H.length + (1 + j')) (uoW a b o ls).length cap', .bool true]) ⟨H ++ (B :: G'), none⟩ = some (.tup [slI H.length (uoW a b o ls).length cap', .bool true], ⟨H ++ [.cells (encI (uoW a b o ls)) true], e0⟩) :=
        fun B e0 => finish_two_sb true e0 (by rw [show 1 + j' = j' + 1 by omega]; exact k1) (under_encI _ _)
      simp +contextual only [a_s_UnloadOrder, c_s_UnloadOrder, e_s_l10Cargo (cells_mono hq _), h1, fillParts, shl_nat, p1, w1, hback, hFl, hbF, hl2, hf, go_sem, entry, joinEsc, if_pos, reduceIte, Nat.reduceAdd, Nat.reduceLeDiff, Nat.reduceLT, Nat.reduceEqDiff]

theorem law_UnloadOrder {av : AV} {ls : List Ld} (ha : ArgL H av ls) (a b o : Int) : ∃ m', call T pr f_l_FnExactUnloadOrder [rfV a b o, av] ⟨H, none⟩ = some (.bool true, m') := by
  refine ⟨⟨H, none⟩, ?_⟩
  have hsz : ∀ G e', call T pr f_l_szLoadS [av, .int .i64 1048576] ⟨G, e'⟩ = some (.int .i64 (if ls.length ≤ 1048576 then 1048576 - ls.length else -1), ⟨G, e'⟩) := by
    obtain ⟨p, sz, c, rfl, h2, h3⟩ := ha
    exact fun G e' => e_l_szLoadS ls.length p sz c h2
  rw [call_eq t_l_FnExactUnloadOrder]
  by_cases hn : ls.length ≤ 1048576
  · have hn' : ls.length ≤ 9223372036854775806 := by omega
    have hneg : ¬ (1048576 - (ls.length : Int) < 0) := by omega
    have hcopy := fun G => e_l_toLoadS (pr := pr) (e := none) (ha.more G) hn
    have hmark : ∀ L b c, L[b]? = some (.cells (encL ls) true) → call T pr f_l_markLoadS [slL b ls.length c, .int .i64 1] ⟨L, none⟩ = some (.int .i64 ((1 + ls.length * 2 : Nat) : Int), ⟨L.set b (.cells (encL (markedL 1 ls.length)) true), none⟩) :=
      fun L b c h => e_l_markLoadS h (by omega) 1 (by omega)
    have hk0 : ¬ (((1 + ls.length * 2 : Nat) : Int) < 0) := by omega
    have h10 : ¬ ((1 : Int) < 0) := by omega
    have hs0 := fun L q c hq => e_s_UnloadOrder (pr := pr) (H := L) (e := none) (q := q) (c := c) (ls := ls) hq a b o
    have hi0 := fun L q c hq => e_i_UnloadOrder (pr := pr) (H := L) (e := none) (q := q) (c := c) (ls := ls) hq a b o
    cases hcan : canU a b o ls with
    | false =>
      simp only [hcan, Bool.false_eq_true, if_false] at hs0 hi0
      have hs : ∀ L q c, cellsAt L q = some (encL ls) → _ := fun L q c hq => (hs0 L q c hq).choose_spec
      have hi : ∀ L q c, cellsAt L q = some (encL ls) → _ := fun L q c hq => (hi0 L q c hq).choose_spec
      simp +contextual only [a_l_FnExactUnloadOrder, c_l_FnExactUnloadOrder, hsz, hn, hneg, decide_false, decide_true, e_l_toRaft, hcopy, hs, hi, e_l_eqIntS_none, e_l_markIntS_none, e_l_heldIntS_none, hmark, hk0, h10, e_l_eqLoadS, hn', beq_self_eq_true, go_sem, entry, joinEsc, if_pos, reduceIte, Nat.reduceAdd, Nat.reduceLeDiff, Nat.reduceLT, Nat.reduceEqDiff]
    | true =>
      have hl := uoW_length a b o ls
      have hc8 := cargo_le (Bool.and_eq_true_iff.mp hcan).1
      simp only [hcan, if_true] at hs0 hi0
      have hs := fun L q c hq => hid_tup (hs0 L q c hq)
      have hi := fun L q c hq => hid_tup (hi0 L q c hq)
      generalize uoW a b o ls = os at *
      have ho' : os.length ≤ 9223372036854775806 := by omega
      have hmi : ∀ L b c, L[b]? = some (.cells (encI os) true) → call T pr f_l_markIntS [slI b os.length c, .int .i64 1] ⟨L, none⟩ = some (.int .i64 ((1 + os.length : Nat) : Int), ⟨L.set b (.cells (encI (markedI 1 os.length)) true), none⟩) :=
        fun L b c h => e_l_markIntS h (by omega) 1 (by omega)
      have hhe : ∀ L b c, cellsAt L b = some (encI (markedI 1 os.length)) → call T pr f_l_heldIntS [slI b os.length c, .int .i64 1] ⟨L, none⟩ = some (.int .i64 ((1 + os.length : Nat) : Int), ⟨L, none⟩) :=
        fun L b c h => e_l_heldIntS (k := 1) h (by omega) (by omega)
      have hk1 : ¬ (((1 + os.length : Nat) : Int) < 0) := by omega
      simp +contextual only [a_l_FnExactUnloadOrder, c_l_FnExactUnloadOrder, hsz, hn, hneg, decide_false, decide_true, e_l_toRaft, hcopy, hs, hi, e_l_eqIntS, ho', hmi, hhe, hk1, hmark, hk0, h10, e_l_eqLoadS, hn', beq_self_eq_true, go_sem, entry, joinEsc, if_pos, reduceIte, Nat.reduceAdd, Nat.reduceLeDiff, Nat.reduceLT, Nat.reduceEqDiff]
  · simp +contextual only [a_l_FnExactUnloadOrder, c_l_FnExactUnloadOrder, hsz, hn, decide_true, show ((-1 : Int) < 0) by omega, go_sem, entry, joinEsc, if_pos, reduceIte, Nat.reduceAdd, Nat.reduceLeDiff, Nat.reduceLT, Nat.reduceEqDiff]

end Go.Proofs.Ytlcklonakjhoiaa.Slim

/- Rafts: sets that rise, and the next safe steps; the law. -/
namespace Go.Proofs.Ytlcklonakjhoiaa.Slim

open Go

set_option linter.unusedSimpArgs false

set_option linter.unusedVariables false

variable {pr : Prims} {H : List Blk} {e : Option Nat}

/-- does a list rise, above lo and below n? -/
def rises (n : Int) : Int → List Int → Bool
  | _, [] => true
  | lo, x :: xs => (decide (lo < x) && decide (x ≤ n - 1)) && rises n x xs

def bitsF (acc : Int) : List Int → Int
  | [] => acc
  | x :: xs => bitsF (orI .i64 acc (shlI .i64 1 x)) xs

def codeN (m : Nat) : List Int → Nat
  | [] => m
  | x :: xs => codeN (m + 2 ^ x.toNat) xs

/-- what stands before place i -/
def before (os : List Int) (i : Nat) (lo : Int) : Prop := (i = 0 ∧ lo = -1) ∨ ∃ i', i = i' + 1 ∧ os[i']? = some lo ∧ 0 ≤ lo

theorem before_next {os : List Int} {i : Nat} {x : Int} (h : os[i]? = some x) (h0 : 0 ≤ x) : before os (i + 1) x := .inr ⟨i, rfl, h, h0⟩

theorem before_in {os : List Int} {i : Nat} {lo : Int} {x n : Int} (h : before os i lo) (hw : (decide (0 ≤ x) && decide (x ≤ n)) = false) : (decide (lo < x) && decide (x ≤ n)) = false := by
  have : -1 ≤ lo := by
    rcases h with ⟨_, rfl⟩ | ⟨_, _, _, h⟩ <;> omega
  simp only [Bool.and_eq_false_iff, decide_eq_false_iff_not] at *
  omega

theorem low_bits : ∀ m : Nat, m < 256 → ∀ x : Nat, x < 8 → m < 2 ^ x → (m.testBit x = false ∧ m + 2 ^ x < 2 ^ (x + 1)) := by decide +kernel

theorem pow_mono8 : ∀ n : Nat, n < 9 → ∀ x : Nat, x < n → 2 ^ (x + 1) ≤ 2 ^ n := by decide +kernel

theorem bitsF_code {n : Nat} (hn8 : n ≤ 8) : ∀ (os : List Int) (lo : Int) (m : Nat), -1 ≤ lo → lo < n → m < 2 ^ (lo + 1).toNat → rises n lo os = true → bitsF m os = (codeN m os : Nat) ∧ codeN m os < 2 ^ n
  | [], lo, m, h1, h2, h3, _ => by
    refine ⟨rfl, ?_⟩
    rw [codeN]
    have : (2 : Nat) ^ (lo + 1).toNat ≤ 2 ^ n := Nat.pow_le_pow_right (by omega) (by omega)
    omega
  | x :: xs, lo, m, h1, h2, h3, hr => by
    rw [rises, Bool.and_eq_true, Bool.and_eq_true, decide_eq_true_eq, decide_eq_true_eq] at hr
    obtain ⟨⟨r1, r2⟩, r3⟩ := hr
    obtain ⟨y, rfl⟩ : ∃ y : Nat, x = y := ⟨x.toNat, by omega⟩
    have hp : (2 : Nat) ^ (lo + 1).toNat ≤ 2 ^ y := Nat.pow_le_pow_right (by omega) (by omega)
    have hp8 : (2 : Nat) ^ y ≤ 2 ^ 8 := Nat.pow_le_pow_right (by omega) (by omega)
    have h256 : (2 : Nat) ^ 8 = 256 := by decide
    obtain ⟨l1, l2⟩ := low_bits m (by omega) y (by omega) (by omega)
    obtain ⟨_, _, f3⟩ := bits_facts m (by omega) y (by omega)
    obtain ⟨g1, _, _, _⟩ := f3 l1
    rw [bitsF, codeN, g1, Int.toNat_natCast]
    exact bitsF_code hn8 xs y (m + 2 ^ y) (by omega) (by omega) (by rw [show ((y : Int) + 1).toNat = y + 1 by omega]; exact l2) r3

theorem loop_i_bitsOf {q q' n : Nat} {c c' : Option Nat} {os : List Int} (h : cellsAt H q' = some (encI os)) (hn : os.length ≤ 9223372036854775806) (hnn : n ≤ 1048576) :
    ∀ (k i : Nat) (lo acc : Int) (y5 y6 y10 y11 : AV), k + i = os.length → before os i lo → ∃ (z4 z5 z6 z9 z10 z11 : AV), (rises n lo (os.drop i) = true → z4 = .int .i64 (bitsF acc (os.drop i))) ∧ run T pr (.loop w_i_bitsOf_1) ⟨[slL q n c, slI q' os.length c', .int .i64 0, .bool false, .int .i64 acc, y5, y6, slI q' os.length c', .int .i64 os.length, .int .i64 i, y10, y11], ⟨H, e⟩⟩ =
      some (if rises n lo (os.drop i) = true then Ex.exit 0 else Ex.ret, ⟨[slL q n c, slI q' os.length c', .int .i64 0, .bool false, z4, z5, z6, slI q' os.length c', .int .i64 os.length, z9, z10, z11], ⟨H, e⟩⟩)
  | 0, i, lo, acc, y5, y6, y10, y11, hk, hb => by
    have hi : i = os.length := by omega
    subst hi
    refine ⟨.int .i64 acc, y5, y6, .int .i64 os.length, .bool false, y11, (fun _ => by rw [List.drop_length]; rfl), ?_⟩
    rw [run_loop]
    generalize run T pr (.loop w_i_bitsOf_1) = R
    simp +contextual only [w_i_bitsOf_1, Nat.lt_irrefl, decide_false, List.drop_length, rises, go_sem, entry, joinEsc, if_pos, reduceIte, Nat.reduceAdd, Nat.reduceLeDiff, Nat.reduceLT, Nat.reduceEqDiff]
  | k + 1, i, lo, acc, y5, y6, y10, y11, hk, hb => by
    have hi : i < os.length := by omega
    have hl : os[i]? = some os[i] := List.getElem?_eq_getElem hi
    have hw : IntKind.i64.wrap ((n : Int) - 1) = (n : Int) - 1 := wrap64 (by omega) (by omega)
    rw [run_loop, List.drop_eq_getElem_cons hi, rises, bitsF]
    generalize hx : os[i] = x at hl ⊢
    cases h1 : (decide (0 ≤ x) && decide (x ≤ (n : Int) - 1)) with
    | false =>
      have h2 := before_in hb h1
      refine ⟨.int .i64 acc, .int .i64 i, .int .i64 x, .int .i64 i, .bool true, .bool true, (fun h => by rw [h2] at h; cases h), ?_⟩
      generalize run T pr (.loop w_i_bitsOf_1) = R
      simp +contextual only [w_i_bitsOf_1, h, hi, hl, part_encI _ hl, hw, e_i_within, h1, h2, decide_true, go_sem, entry, joinEsc, if_pos, reduceIte, Nat.reduceAdd, Nat.reduceLeDiff, Nat.reduceLT, Nat.reduceEqDiff]
    | true =>
      have h1a : decide (0 ≤ x) = true := (Bool.and_eq_true_iff.mp h1).1
      have h1b : decide (x ≤ (n : Int) - 1) = true := (Bool.and_eq_true_iff.mp h1).2
      have hx0 : 0 ≤ x := by simpa using h1a
      obtain ⟨y, rfl⟩ : ∃ y : Nat, x = y := ⟨x.toNat, by omega⟩
      obtain ⟨z4, z5, z6, z9, z10, z11, hz, ih⟩ := loop_i_bitsOf (q := q) (c := c) (c' := c') h hn hnn k (i + 1) y (orI .i64 acc (shlI .i64 1 y)) (.int .i64 i) (.int .i64 y) (.bool true) (.bool false) (by omega) (before_next hl hx0)
      rcases hb with ⟨rfl, rfl⟩ | ⟨i', rfl, hp, hp0⟩
      · have hm : decide ((-1 : Int) < (y : Int)) = true := by simp; omega
        rw [hm, h1b, Bool.and_self, Bool.true_and]
        refine ⟨z4, z5, z6, z9, z10, z11, hz, ?_⟩
        generalize run T pr (.loop w_i_bitsOf_1) = R at ih ⊢
        have h0 : ((0 : Nat) : Int) = 0 := rfl
        have h00 : ¬ ((0 : Int) < ((0 : Nat) : Int)) := by omega
        simp +contextual only [w_i_bitsOf_1, h, hi, hl, part_encI _ hl, hw, e_i_within, h1a, h1b, h00, shl_nat, Int.lt_irrefl, wrap_succ (show 0 < 9223372036854775807 by omega), decide_true, decide_false, go_sem, entry, joinEsc, if_pos, reduceIte, Nat.reduceAdd, Nat.reduceLeDiff, Nat.reduceLT, Nat.reduceEqDiff]
        exact ih
      · have hw' : IntKind.i64.wrap (((i' + 1 : Nat) : Int) - 1) = (i' : Int) := by rw [show ((i' + 1 : Nat) : Int) - 1 = (i' : Int) by omega]; exact wrap64 (by omega) (by omega)
        have hi' : i' < os.length := by omega
        have hpos : (0 : Int) < ((i' + 1 : Nat) : Int) := by omega
        by_cases h3 : (y : Int) ≤ lo
        · have h4 : decide (lo < (y : Int)) = false := decide_eq_false (by omega)
          rw [h4, Bool.false_and, Bool.false_and]
          refine ⟨.int .i64 acc, .int .i64 ((i' + 1 : Nat) : Int), .int .i64 y, .int .i64 ((i' + 1 : Nat) : Int), .bool true, .bool true, (fun h => by cases h), ?_⟩
          generalize run T pr (.loop w_i_bitsOf_1) = R
          simp +contextual only [w_i_bitsOf_1, h, hi, hi', hl, part_encI _ hl, part_encI _ hp, hw, hw', hpos, e_i_within, h1a, h1b, h3, shl_nat, decide_true, decide_false, go_sem, entry, joinEsc, if_pos, reduceIte, Nat.reduceAdd, Nat.reduceLeDiff, Nat.reduceLT, Nat.reduceEqDiff]
        · have h4 : decide (lo < (y : Int)) = true := decide_eq_true (by omega)
          rw [h4, h1b, Bool.and_self, Bool.true_and]
          refine ⟨z4, z5, z6, z9, z10, z11, hz, ?_⟩
          generalize run T pr (.loop w_i_bitsOf_1) = R at ih ⊢
          simp +contextual only [w_i_bitsOf_1, h, hi, hi', hl, part_encI _ hl, part_encI _ hp, hw, hw', hpos, e_i_within, h1a, h1b, h3, shl_nat, wrap_succ (show i' + 1 < 9223372036854775807 by omega), decide_true, decide_false, go_sem, entry, joinEsc, if_pos, reduceIte, Nat.reduceAdd, Nat.reduceLeDiff, Nat.reduceLT, Nat.reduceEqDiff]
          exact ih

theorem e_i_bitsOf {q q' n : Nat} {c c' : Option Nat} {os : List Int} (h : cellsAt H q' = some (encI os)) (hn : os.length ≤ 9223372036854775806) (hnn : n ≤ 1048576) :
    call T pr f_i_bitsOf [slL q n c, slI q' os.length c'] ⟨H, e⟩ = some (.tup [.int .i64 (if rises n (-1) os = true then bitsF 0 os else 0), .bool (rises n (-1) os)], ⟨H, e⟩) := by
  obtain ⟨z4, z5, z6, z9, z10, z11, hz, hl⟩ := loop_i_bitsOf (pr := pr) (e := none) (q := q) (c := c) (c' := c') h hn hnn os.length 0 (-1) 0 .undef .undef .undef .undef rfl (.inl ⟨rfl, rfl⟩)
  have h0 : ((0 : Nat) : Int) = 0 := rfl
  rw [h0, List.drop_zero] at hl
  rw [List.drop_zero] at hz
  rw [call_eq t_i_bitsOf]
  cases h1 : rises n (-1) os with
  | false => simp only [h1, Bool.false_eq_true, if_false] at hl ⊢; simp +contextual only [a_i_bitsOf, c_i_bitsOf, hl, go_sem, entry, joinEsc, if_pos, reduceIte, Nat.reduceAdd, Nat.reduceLeDiff, Nat.reduceLT, Nat.reduceEqDiff]
  | true => rw [hz h1] at hl; simp only [h1, if_true] at hl ⊢; simp +contextual only [a_i_bitsOf, c_i_bitsOf, hl, go_sem, entry, joinEsc, if_pos, reduceIte, Nat.reduceAdd, Nat.reduceLeDiff, Nat.reduceLT, Nat.reduceEqDiff]

theorem loop_s_l1Rising {q' : Nat} {n : Int} {c' : Option Nat} {os : List Int} (h : cellsAt H q' = some (encI os)) (hn : os.length ≤ 9223372036854775806) :
    ∀ (k i : Nat) (lo : Int) (y5 y6 : AV), k + i = os.length → before os i lo → ∃ (z4 z5 z6 : AV), run T pr (.loop w_s_l1Rising_1) ⟨[slI q' os.length c', .int .i64 0, .int .i64 (n - 1), .bool false, .int .i64 i, y5, y6], ⟨H, e⟩⟩ =
      some (if rises n lo (os.drop i) = true then Ex.exit 0 else Ex.ret, ⟨[slI q' os.length c', .int .i64 0, .int .i64 (n - 1), .bool false, z4, z5, z6], ⟨H, e⟩⟩)
  | 0, i, lo, y5, y6, hk, hb => by
    have hi : i = os.length := by omega
    subst hi
    refine ⟨.int .i64 os.length, .bool false, y6, ?_⟩
    rw [run_loop]
    generalize run T pr (.loop w_s_l1Rising_1) = R
    simp +contextual only [w_s_l1Rising_1, Nat.lt_irrefl, decide_false, List.drop_length, rises, go_sem, entry, joinEsc, if_pos, reduceIte, Nat.reduceAdd, Nat.reduceLeDiff, Nat.reduceLT, Nat.reduceEqDiff]
  | k + 1, i, lo, y5, y6, hk, hb => by
    have hi : i < os.length := by omega
    have hl : os[i]? = some os[i] := List.getElem?_eq_getElem hi
    rw [run_loop, List.drop_eq_getElem_cons hi, rises]
    generalize hx : os[i] = x at hl ⊢
    cases h1 : (decide (0 ≤ x) && decide (x ≤ n - 1)) with
    | false =>
      have h2 := before_in hb h1
      refine ⟨.int .i64 i, .bool true, .bool true, ?_⟩
      generalize run T pr (.loop w_s_l1Rising_1) = R
      simp +contextual only [w_s_l1Rising_1, h, hi, hl, part_encI _ hl, e_s_l1In, h1, h2, decide_true, go_sem, entry, joinEsc, if_pos, reduceIte, Nat.reduceAdd, Nat.reduceLeDiff, Nat.reduceLT, Nat.reduceEqDiff]
    | true =>
      have h1a : decide (0 ≤ x) = true := (Bool.and_eq_true_iff.mp h1).1
      have h1b : decide (x ≤ n - 1) = true := (Bool.and_eq_true_iff.mp h1).2
      have hx0 : 0 ≤ x := by simpa using h1a
      obtain ⟨z4, z5, z6, ih⟩ := loop_s_l1Rising (n := n) (c' := c') h hn k (i + 1) x (.bool true) (.bool false) (by omega) (before_next hl hx0)
      rcases hb with ⟨rfl, rfl⟩ | ⟨i', rfl, hp, hp0⟩
      · have hm : decide ((-1 : Int) < x) = true := decide_eq_true (by omega)
        rw [hm, h1b, Bool.and_self, Bool.true_and]
        refine ⟨z4, z5, z6, ?_⟩
        generalize run T pr (.loop w_s_l1Rising_1) = R at ih ⊢
        have h0 : ((0 : Nat) : Int) = 0 := rfl
        have h00 : ¬ ((0 : Int) < ((0 : Nat) : Int)) := by omega
        simp +contextual only [w_s_l1Rising_1, h, hi, hl, part_encI _ hl, e_s_l1In, h1a, h1b, h00, Int.lt_irrefl, wrap_succ (show 0 < 9223372036854775807 by omega), decide_true, decide_false, go_sem, entry, joinEsc, if_pos, reduceIte, Nat.reduceAdd, Nat.reduceLeDiff, Nat.reduceLT, Nat.reduceEqDiff]
        exact ih
      · have hw' : IntKind.i64.wrap (((i' + 1 : Nat) : Int) - 1) = (i' : Int) := by rw [show ((i' + 1 : Nat) : Int) - 1 = (i' : Int) by omega]; exact wrap64 (by omega) (by omega)
        have hi' : i' < os.length := by omega
        have hpos : (0 : Int) < ((i' + 1 : Nat) : Int) := by omega
        by_cases h3 : x ≤ lo
        · have h4 : decide (lo < x) = false := decide_eq_false (by omega)
          rw [h4, Bool.false_and, Bool.false_and]
          refine ⟨.int .i64 ((i' + 1 : Nat) : Int), .bool true, .bool true, ?_⟩
          generalize run T pr (.loop w_s_l1Rising_1) = R
          simp +contextual only [w_s_l1Rising_1, h, hi, hi', hl, part_encI _ hl, part_encI _ hp, hw', hpos, e_s_l1In, h1a, h1b, h3, decide_true, decide_false, go_sem, entry, joinEsc, if_pos, reduceIte, Nat.reduceAdd, Nat.reduceLeDiff, Nat.reduceLT, Nat.reduceEqDiff]
        · have h4 : decide (lo < x) = true := decide_eq_true (by omega)
          rw [h4, h1b, Bool.and_self, Bool.true_and]
          refine ⟨z4, z5, z6, ?_⟩
          generalize run T pr (.loop w_s_l1Rising_1) = R at ih ⊢
          simp +contextual only [w_s_l1Rising_1, h, hi, hi', hl, part_encI _ hl, part_encI _ hp, hw', hpos, e_s_l1In, h1a, h1b, h3, wrap_succ (show i' + 1 < 9223372036854775807 by omega), decide_true, decide_false, go_sem, entry, joinEsc, if_pos, reduceIte, Nat.reduceAdd, Nat.reduceLeDiff, Nat.reduceLT, Nat.reduceEqDiff]
          exact ih

theorem e_s_l1Rising {q' : Nat} {n : Int} {c' : Option Nat} {os : List Int} (h : cellsAt H q' = some (encI os)) (hn : os.length ≤ 9223372036854775806) :
    call T pr f_s_l1Rising [slI q' os.length c', .int .i64 0, .int .i64 (n - 1)] ⟨H, e⟩ = some (.bool (rises n (-1) os), ⟨H, e⟩) := by
  obtain ⟨z4, z5, z6, hl⟩ := loop_s_l1Rising (pr := pr) (e := none) (n := n) (c' := c') h hn os.length 0 (-1) .undef .undef rfl (.inl ⟨rfl, rfl⟩)
  have h0 : ((0 : Nat) : Int) = 0 := rfl
  rw [h0, List.drop_zero] at hl
  rw [call_eq t_s_l1Rising]
  cases h1 : rises n (-1) os <;> rw [h1] at hl <;> simp +contextual only [a_s_l1Rising, c_s_l1Rising, hl, go_sem, entry, joinEsc, if_pos, reduceIte, Nat.reduceAdd, Nat.reduceLeDiff, Nat.reduceLT, Nat.reduceEqDiff]

theorem loop_s_l10Code {q' n : Nat} {rv cg p y4 y5 y8 : AV} {c' : Option Nat} {os : List Int} (hn8 : n ≤ 8) (h : cellsAt H q' = some (encI os)) (hn : os.length ≤ 9223372036854775806) :
    ∀ (k i m : Nat) (lo : Int) (y9 : AV), k + i = os.length → -1 ≤ lo → lo < n → m < 2 ^ (lo + 1).toNat → rises n lo (os.drop i) = true → ∃ (z9 : AV), run T pr (.loop w_s_l10Code_1) ⟨[rv, cg, slI q' os.length c', p, y4, y5, .int .i64 m, .int .i64 i, y8, y9], ⟨H, e⟩⟩ =
      some (Ex.exit 0, ⟨[rv, cg, slI q' os.length c', p, y4, y5, .int .i64 (codeN m (os.drop i) : Nat), .int .i64 os.length, y8, z9], ⟨H, e⟩⟩)
  | 0, i, m, lo, y9, hk, h1, h2, h3, hr => by
    have hi : i = os.length := by omega
    subst hi
    refine ⟨.bool false, ?_⟩
    rw [run_loop]
    generalize run T pr (.loop w_s_l10Code_1) = R
    simp +contextual only [w_s_l10Code_1, Nat.lt_irrefl, decide_false, List.drop_length, codeN, go_sem, entry, joinEsc, if_pos, reduceIte, Nat.reduceAdd, Nat.reduceLeDiff, Nat.reduceLT, Nat.reduceEqDiff]
  | k + 1, i, m, lo, y9, hk, h1, h2, h3, hr => by
    have hi : i < os.length := by omega
    have hl : os[i]? = some os[i] := List.getElem?_eq_getElem hi
    rw [List.drop_eq_getElem_cons hi, rises, Bool.and_eq_true, Bool.and_eq_true, decide_eq_true_eq, decide_eq_true_eq] at hr
    rw [run_loop, List.drop_eq_getElem_cons hi, codeN]
    generalize hx : os[i] = x at hl hr ⊢
    obtain ⟨⟨r1, r2⟩, r3⟩ := hr
    obtain ⟨y, rfl⟩ : ∃ y : Nat, x = y := ⟨x.toNat, by omega⟩
    have hp : (2 : Nat) ^ (lo + 1).toNat ≤ 2 ^ y := Nat.pow_le_pow_right (by omega) (by omega)
    have hp8 : (2 : Nat) ^ y ≤ 2 ^ 8 := Nat.pow_le_pow_right (by omega) (by omega)
    have h256 : (2 : Nat) ^ 8 = 256 := by decide
    obtain ⟨l1, l2⟩ := low_bits m (by omega) y (by omega) (by omega)
    obtain ⟨_, _, f3⟩ := bits_facts m (by omega) y (by omega)
    obtain ⟨_, g2, _, _⟩ := f3 l1
    have g2' : IntKind.i64.wrap ((m : Int) + shlI .i64 1 (y : Int)) = ((m + 2 ^ y : Nat) : Int) := g2
    rw [Int.toNat_natCast]
    obtain ⟨z9, ih⟩ := loop_s_l10Code (rv := rv) (cg := cg) (p := p) (y4 := y4) (y5 := y5) (y8 := y8) (c' := c') hn8 h hn k (i + 1) (m + 2 ^ y) y (.bool true) (by omega) (by omega) (by omega) (by rw [show ((y : Int) + 1).toNat = y + 1 by omega]; exact l2) r3
    refine ⟨z9, ?_⟩
    generalize run T pr (.loop w_s_l10Code_1) = R at ih ⊢
    simp +contextual only [w_s_l10Code_1, h, hi, hl, part_encI _ hl, shl_nat, g2', wrap_succ (show i < 9223372036854775807 by omega), decide_true, go_sem, entry, joinEsc, if_pos, reduceIte, Nat.reduceAdd, Nat.reduceLeDiff, Nat.reduceLT, Nat.reduceEqDiff]
    exact ih

/-- a set of a cargo -/
def setOk (a b o : Int) (ls : List Ld) (os : List Int) : Bool := cargoOk a b o ls && rises ls.length (-1) os

theorem e_s_l10Code {q q' : Nat} {c c' : Option Nat} {ls : List Ld} {os : List Int} (hq : cellsAt H q = some (encL ls)) (h : cellsAt H q' = some (encI os)) (hn : os.length ≤ 9223372036854775806) (a b o : Int) :
    call T pr f_s_l10Code [rfV a b o, slL q ls.length c, slI q' os.length c'] ⟨H, e⟩ = some (.tup [.int .i64 (if setOk a b o ls os = true then ((codeN 0 os : Nat) : Int) else 0), .bool (setOk a b o ls os)], ⟨H, e⟩) := by
  rw [call_eq t_s_l10Code]
  unfold setOk
  cases h1 : cargoOk a b o ls with
  | false =>
    rw [Bool.false_and, if_neg (by simp)]
    simp +contextual only [a_s_l10Code, c_s_l10Code, e_s_l10Cargo (cells_mono hq _), h1, go_sem, entry, joinEsc, if_pos, reduceIte, Nat.reduceAdd, Nat.reduceLeDiff, Nat.reduceLT, Nat.reduceEqDiff]
  | true =>
    have hn8 := cargo_le h1
    have hw : IntKind.i64.wrap ((ls.length : Int) - 1) = (ls.length : Int) - 1 := wrap64 (by omega) (by omega)
    rw [Bool.true_and]
    cases h2 : rises ls.length (-1) os with
    | false =>
      rw [if_neg (by simp)]
      simp +contextual only [a_s_l10Code, c_s_l10Code, e_s_l10Cargo (cells_mono hq _), h1, hw, e_s_l1Rising (cells_mono h _) hn, h2, go_sem, entry, joinEsc, if_pos, reduceIte, Nat.reduceAdd, Nat.reduceLeDiff, Nat.reduceLT, Nat.reduceEqDiff]
    | true =>
      rw [if_pos rfl]
      obtain ⟨z9, hl⟩ := loop_s_l10Code (pr := pr) (e := none) (rv := rfV a b o) (cg := slL q ls.length c) (p := .ptr (some (H.length, 0))) (y4 := .int .i64 0) (y5 := .bool false) (y8 := .bool false) (c' := c') hn8 (cells_mono h [Blk.cells [.int .i64 a, .int .i64 b, .int .i64 o] true]) hn os.length 0 0 (-1) .undef rfl (by omega) (by omega) (by decide) (by simpa using h2)
      have h0 : ((0 : Nat) : Int) = 0 := rfl
      rw [h0, List.drop_zero] at hl
      simp +contextual only [a_s_l10Code, c_s_l10Code, e_s_l10Cargo (cells_mono hq _), h1, hw, e_s_l1Rising (cells_mono h _) hn, h2, hl, go_sem, entry, joinEsc, if_pos, reduceIte, Nat.reduceAdd, Nat.reduceLeDiff, Nat.reduceLT, Nat.reduceEqDiff]

theorem loop_s_SafeStep {a0 a2 a3 a4 a5 a8 y11 : AV} {q w n F C : Nat} {c cw : Option Nat} {W : List Int} (hn8 : n ≤ 8) (hF : F = 2 ^ n) (hC : C < F) (hW : W.length = F) :
    ∀ (k i : Nat) (o : List Int) (j : Nat) (cap : Option Nat) (G : List Blk) (y12 y13 : AV), cellsAt (H ++ G) w = some (encI W) → w ≠ H.length + j → k + i = n → o.length ≤ i → G[j]? = some (.cells (encI o) true) → (cap = some 0 → o = []) →
      ∃ (j' : Nat) (cap' : Option Nat) (G' : List Blk) (z12 z13 : AV), G'[j']? = some (.cells (encI (o ++ ((List.range' i k).filter (okStep W C)).map fun (i : Nat) => (i : Int))) true) ∧ run T pr (.loop w_s_SafeStep_1) ⟨[a0, slL q n c, a2, a3, a4, a5, slI (H.length + j) o.length cap, .int .i64 C, a8, slI w F cw, .int .i64 i, y11, y12, y13], ⟨H ++ G, none⟩⟩ =
      some (Ex.exit 0, ⟨[a0, slL q n c, a2, a3, a4, a5, slI (H.length + j') (o ++ ((List.range' i k).filter (okStep W C)).map fun (i : Nat) => (i : Int)).length cap', .int .i64 C, a8, slI w F cw, .int .i64 n, y11, z12, z13], ⟨H ++ G', none⟩⟩)
  | 0, i, o, j, cap, G, y12, y13, hw, hne, hk, ho, hG, hcap => by
    have hi : i = n := by omega
    subst hi
    refine ⟨j, cap, G, .bool false, y13, ?_, ?_⟩
    · simpa using hG
    rw [run_loop]
    generalize run T pr (.loop w_s_SafeStep_1) = R
    have h0 : (o ++ ((List.range' i 0).filter (okStep W C)).map fun (i : Nat) => (i : Int)) = o := by simp
    simp +contextual only [w_s_SafeStep_1, Nat.lt_irrefl, decide_false, h0, go_sem, entry, joinEsc, if_pos, reduceIte, Nat.reduceAdd, Nat.reduceLeDiff, Nat.reduceLT, Nat.reduceEqDiff]
  | k + 1, i, o, j, cap, G, y12, y13, hw, hne, hk, ho, hG, hcap => by
    have hi : i < n := by omega
    obtain ⟨p1, p2, p3⟩ := pow_facts n (by omega)
    obtain ⟨s1, s2⟩ := set_facts n (by omega) C (by omega) i hi
    obtain ⟨_, _, f3⟩ := bits_facts C (by omega) i (by omega)
    rw [run_loop, List.range'_succ, List.filter_cons]
    cases h1 : C.testBit i with
    | true =>
      have hok : okStep W C i = false := by simp [okStep, h1]
      rw [hok, if_neg (by simp)]
      obtain ⟨j', cap', G', z12, z13, h2, ih⟩ := loop_s_SafeStep (a0 := a0) (a2 := a2) (a3 := a3) (a4 := a4) (a5 := a5) (a8 := a8) (y11 := y11) (q := q) (c := c) (cw := cw) hn8 hF hC hW k (i + 1) o j cap G (.bool true) (.bool false) hw hne (by omega) (by omega) hG hcap
      refine ⟨j', cap', G', z12, z13, h2, ?_⟩
      generalize run T pr (.loop w_s_SafeStep_1) = R at ih ⊢
      have hb := bit_set (c := C) (i := i) (by omega) (by omega) h1
      simp +contextual only [w_s_SafeStep_1, hi, shr_nat, hb, show ¬ ((1 : Int) = 0) by omega, decide_false, wrap_succ (show i < 9223372036854775807 by omega), decide_true, go_sem, entry, joinEsc, if_pos, reduceIte, Nat.reduceAdd, Nat.reduceLeDiff, Nat.reduceLT, Nat.reduceEqDiff]
      simp only [List.length_append] at ih
      exact ih
    | false =>
      obtain ⟨_, g2, g3, g4⟩ := f3 h1
      have g2' : IntKind.i64.wrap ((C : Int) + shlI .i64 1 (i : Int)) = ((C + 2 ^ i : Nat) : Int) := g2
      have hlt := s1 h1
      have hb := bit_clear (c := C) (i := i) (by omega) (by omega) h1
      have hlt' : C + 2 ^ i < F := by omega
      have e2 := part_encI (ls := W) 1 (getD_get (W := W) (c := C + 2 ^ i) (by omega))
      cases h3 : decide (0 < W.getD (C + 2 ^ i) 0) with
      | false =>
        have hok : okStep W C i = false := by unfold okStep; rw [h1, h3]; rfl
        rw [hok, if_neg (by simp)]
        obtain ⟨j', cap', G', z12, z13, h2, ih⟩ := loop_s_SafeStep (a0 := a0) (a2 := a2) (a3 := a3) (a4 := a4) (a5 := a5) (a8 := a8) (y11 := y11) (q := q) (c := c) (cw := cw) hn8 hF hC hW k (i + 1) o j cap G (.bool true) (.bool false) hw hne (by omega) (by omega) hG hcap
        refine ⟨j', cap', G', z12, z13, h2, ?_⟩
        generalize run T pr (.loop w_s_SafeStep_1) = R at ih ⊢
        simp +contextual only [w_s_SafeStep_1, hw, hi, hlt', shr_nat, shl_nat, hb, g2', e2, h3, wrap_succ (show i < 9223372036854775807 by omega), decide_true, go_sem, entry, joinEsc, if_pos, reduceIte, Nat.reduceAdd, Nat.reduceLeDiff, Nat.reduceLT, Nat.reduceEqDiff]
        simp only [List.length_append] at ih
        exact ih
      | true =>
        have hok : okStep W C i = true := by unfold okStep; rw [h1, h3]; rfl
        rw [hok, if_pos rfl]
        have hmb : (o.length + 1) * 8 ≤ maxBytes := by unfold maxBytes; omega
        have hwl := cells_lt hw
        rw [List.length_append] at hwl
        obtain ⟨j', cap', G', z12, z13, h2, ih⟩ := loop_s_SafeStep (a0 := a0) (a2 := a2) (a3 := a3) (a4 := a4) (a5 := a5) (a8 := a8) (y11 := y11) (q := q) (c := c) (cw := cw) hn8 hF hC hW k (i + 1) (o ++ [(i : Int)]) (G.length + 1) none
          (killIf cap j (G ++ [.cells [.int .i64 i] true]) ++ [.cells (encI (o ++ [(i : Int)])) true]) (.bool true) (.bool true) (cells_kill hw hne) (by omega) (by omega) (by simp; omega) (by
            rw [List.getElem?_append_right (by simp [killIf_length])]; simp [killIf_length]) (by simp)
        rw [List.append_assoc, List.singleton_append, ← List.map_cons (f := fun (i : Nat) => (i : Int))] at h2 ih
        refine ⟨j', cap', G', z12, z13, h2, ?_⟩
        generalize run T pr (.loop w_s_SafeStep_1) = R at ih ⊢
        simp +contextual only [w_s_SafeStep_1, hw, hi, hlt', shr_nat, shl_nat, hb, g2', e2, h3, fillParts, append_in hG hcap hmb, wrap_succ (show i < 9223372036854775807 by omega), decide_true, go_sem, entry, joinEsc, if_pos, reduceIte, Nat.reduceAdd, Nat.reduceLeDiff, Nat.reduceLT, Nat.reduceEqDiff]
        simp only [List.length_append, List.length_cons, List.length_nil, Nat.zero_add, encI_append, List.map_cons, List.map_nil] at ih
        exact ih

/-- is the set one from which steps are told? -/
def canS (a b o : Int) (ls : List Ld) (os : List Int) : Bool := setOk a b o ls os && safeW a b o ls ((codeN 0 os : Nat) : Int)

def ssW (a b o : Int) (ls : List Ld) (os : List Int) : List Int := stepsW (waysW a b o ls) ls.length (codeN 0 os)

theorem ssW_le (a b o : Int) (ls : List Ld) (os : List Int) : (ssW a b o ls os).length ≤ ls.length := by
  unfold ssW stepsW
  rw [List.length_map]
  have := List.length_filter_le (okStep (waysW a b o ls) (codeN 0 os)) (List.range ls.length)
  simpa using this

end Go.Proofs.Ytlcklonakjhoiaa.Slim

/- Rafts: the law of the next safe steps. -/
namespace Go.Proofs.Ytlcklonakjhoiaa.Slim

open Go

set_option linter.unusedSimpArgs false

set_option linter.unusedVariables false

variable {pr : Prims} {H : List Blk} {e : Option Nat}

theorem code_lt {ls : List Ld} {os : List Int} (hn8 : ls.length ≤ 8) (h : rises ls.length (-1) os = true) : codeN 0 os < 2 ^ ls.length ∧ bitsF 0 os = ((codeN 0 os : Nat) : Int) := by
  obtain ⟨h1, h2⟩ := bitsF_code (n := ls.length) hn8 os (-1) 0 (by omega) (by omega) (by decide) h
  exact ⟨h2, h1⟩

theorem e_i_SafeStep_no {q q' : Nat} {c c' : Option Nat} {ls : List Ld} {os : List Int} (hq : cellsAt H q = some (encL ls)) (hls : ls.length ≤ 1048576) (hq' : cellsAt H q' = some (encI os)) (hn : os.length ≤ 9223372036854775806) (a b o : Int) (h : canS a b o ls os = false) :
    call T pr f_i_SafeStep [rfV a b o, slL q ls.length c, slI q' os.length c'] ⟨H, e⟩ = some (.tup [.slice none 0 0 none, .bool false], ⟨H, e⟩) := by
  rw [call_eq t_i_SafeStep]
  cases h1 : rises ls.length (-1) os with
  | false => simp +contextual only [a_i_SafeStep, c_i_SafeStep, e_i_bitsOf (cells_mono hq' _) hn hls, h1, finish_two_nb, go_sem, entry, joinEsc, if_pos, reduceIte, Nat.reduceAdd, Nat.reduceLeDiff, Nat.reduceLT, Nat.reduceEqDiff]
  | true =>
    cases h2 : cargoOk a b o ls with
    | false => simp +contextual only [a_i_SafeStep, c_i_SafeStep, e_i_bitsOf (cells_mono hq' _) hn hls, h1, e_i_areCargo (cells_mono hq _), h2, finish_two_nb, go_sem, entry, joinEsc, if_pos, reduceIte, Nat.reduceAdd, Nat.reduceLeDiff, Nat.reduceLT, Nat.reduceEqDiff]
    | true =>
      have hn8 := cargo_le h2
      obtain ⟨k1, k2⟩ := code_lt hn8 h1
      unfold canS setOk at h
      rw [h1, h2, Bool.and_self, Bool.true_and] at h
      simp +contextual only [a_i_SafeStep, c_i_SafeStep, e_i_bitsOf (cells_mono hq' _) hn hls, h1, e_i_areCargo (cells_mono hq _), h2, k2, e_i_Raft_isSafe (cells_mono hq _) (show ls.length ≤ 9223372036854775806 by omega), h, finish_two_nb, go_sem, entry, joinEsc, if_pos, reduceIte, Nat.reduceAdd, Nat.reduceLeDiff, Nat.reduceLT, Nat.reduceEqDiff]

theorem e_s_SafeStep_no {q q' : Nat} {c c' : Option Nat} {ls : List Ld} {os : List Int} (hq : cellsAt H q = some (encL ls)) (hq' : cellsAt H q' = some (encI os)) (hn : os.length ≤ 9223372036854775806) (a b o : Int) (h : canS a b o ls os = false) :
    call T pr f_s_SafeStep [rfV a b o, slL q ls.length c, slI q' os.length c'] ⟨H, e⟩ = some (.tup [slI H.length 0 (some 0), .bool false], ⟨H ++ [.cells [] true], e⟩) := by
  rw [call_eq t_s_SafeStep]
  have hf1 : ∀ (B : Blk) (e0 : Option Nat), finish 2 H.length e0 (.tup [slI (H.length + 1) 0 (some 0), .bool false]) ⟨H ++ [B, .cells [] true], none⟩ = some (.tup [slI H.length 0 (some 0), .bool false], ⟨H ++ [.cells [] true], e0⟩) := fun B e0 => finish_two_sb false e0 rfl rfl
  cases h1 : setOk a b o ls os with
  | false => simp +contextual only [a_s_SafeStep, c_s_SafeStep, e_s_l10Code (cells_mono hq _) (cells_mono hq' _) hn, h1, fillParts, hf1, go_sem, entry, joinEsc, if_pos, reduceIte, Nat.reduceAdd, Nat.reduceLeDiff, Nat.reduceLT, Nat.reduceEqDiff]
  | true =>
    have hn8 := cargo_le (Bool.and_eq_true_iff.mp h1).1
    unfold canS at h
    rw [h1, Bool.true_and] at h
    simp +contextual only [a_s_SafeStep, c_s_SafeStep, e_s_l10Code (cells_mono hq _) (cells_mono hq' _) hn, h1, e_s_l10Safe (cells_mono hq _) (show ls.length ≤ 9223372036854775806 by omega), h, fillParts, hf1, go_sem, entry, joinEsc, if_pos, reduceIte, Nat.reduceAdd, Nat.reduceLeDiff, Nat.reduceLT, Nat.reduceEqDiff]

theorem e_i_SafeStep {q q' : Nat} {c c' : Option Nat} {ls : List Ld} {os : List Int} (hq : cellsAt H q = some (encL ls)) (hq' : cellsAt H q' = some (encI os)) (hn : os.length ≤ 9223372036854775806) (a b o : Int) (h : canS a b o ls os = true) :
    ∃ cap, call T pr f_i_SafeStep [rfV a b o, slL q ls.length c, slI q' os.length c'] ⟨H, e⟩ = some (.tup [slI H.length (ssW a b o ls os).length cap, .bool true], ⟨H ++ [.cells (encI (ssW a b o ls os)) true], e⟩) := by
  unfold canS at h
  obtain ⟨h12, h3⟩ := Bool.and_eq_true_iff.mp h
  unfold setOk at h12
  obtain ⟨h2, h1⟩ := Bool.and_eq_true_iff.mp h12
  have hn8 := cargo_le h2
  obtain ⟨k1, k2⟩ := code_lt hn8 h1
  have hs : stepsW (waysW a b o ls) ls.length (codeN 0 os) = ssW a b o ls os := rfl
  obtain ⟨cp, hst⟩ := e_i_stepsFrom (pr := pr) (e := none) (H := H ++ [.cells [.int .i64 a, .int .i64 b, .int .i64 o] true, .cells (encI (waysW a b o ls)) true]) (q := q) (w := H.length + 1) (c := c) (cw := some (2 ^ ls.length)) hn8 rfl k1 (by simp [cellsAt, List.getElem?_append_right]) (waysW_length a b o ls)
  simp only [hs, List.length_append, List.length_cons, List.length_nil, Nat.zero_add, List.append_assoc, List.cons_append, List.nil_append, Nat.reduceAdd] at hst
  refine ⟨cp, ?_⟩
  have hf : ∀ (B B' : Blk) (cap : Option Nat) (e0 : Option Nat), finish 2 H.length e0 (.tup [slI (H.length + 2) (ssW a b o ls os).length cap, .bool true]) ⟨H ++ [B, B', .cells (encI (ssW a b o ls os)) true], none⟩ = some (.tup [slI H.length (ssW a b o ls os).length cap, .bool true], ⟨H ++ [.cells (encI (ssW a b o ls os)) true], e0⟩) :=
    fun B B' cap e0 => finish_two_sb true e0 rfl (under_encI _ _)
  rw [call_eq t_i_SafeStep]
  simp +contextual only [a_i_SafeStep, c_i_SafeStep, e_i_bitsOf (cells_mono hq' _) hn (show ls.length ≤ 1048576 by omega), h1, e_i_areCargo (cells_mono hq _), h2, k2, e_i_Raft_isSafe (cells_mono hq _) (show ls.length ≤ 9223372036854775806 by omega), h3, e_i_Raft_waysOf (cells_mono hq _) hn8, hst, hf, go_sem, entry, joinEsc, if_pos, reduceIte, Nat.reduceAdd, Nat.reduceLeDiff, Nat.reduceLT, Nat.reduceEqDiff]

theorem e_s_SafeStep {q q' : Nat} {c c' : Option Nat} {ls : List Ld} {os : List Int} (hq : cellsAt H q = some (encL ls)) (hq' : cellsAt H q' = some (encI os)) (hn : os.length ≤ 9223372036854775806) (a b o : Int) (h : canS a b o ls os = true) :
    ∃ cap, call T pr f_s_SafeStep [rfV a b o, slL q ls.length c, slI q' os.length c'] ⟨H, e⟩ = some (.tup [slI H.length (ssW a b o ls os).length cap, .bool true], ⟨H ++ [.cells (encI (ssW a b o ls os)) true], e⟩) := by
  unfold canS at h
  obtain ⟨h12, h3⟩ := Bool.and_eq_true_iff.mp h
  have h12' := h12
  unfold setOk at h12'
  obtain ⟨h2, h1⟩ := Bool.and_eq_true_iff.mp h12'
  have hn8 := cargo_le h2
  obtain ⟨k1, k2⟩ := code_lt hn8 h1
  have hs : (List.map (fun (i : Nat) => (i : Int)) ((List.range' 0 ls.length).filter (okStep (waysW a b o ls) (codeN 0 os)))) = ssW a b o ls os := by unfold ssW stepsW; rw [List.range_eq_range']
  obtain ⟨j', cap', G', z12, z13, m1, hl⟩ := loop_s_SafeStep (pr := pr) (H := H ++ [Blk.cells [.int .i64 a, .int .i64 b, .int .i64 o] true]) (a0 := rfV a b o) (a2 := slI q' os.length c') (a3 := .ptr (some (H.length, 0))) (a4 := .slice none 0 0 none) (a5 := .bool false) (a8 := .bool true) (y11 := .bool false) (q := q) (w := H.length + 2) (c := c) (cw := some (2 ^ ls.length)) hn8 rfl k1
    (waysW_length a b o ls) ls.length 0 [] 0 (some 0) [.cells [] true, .cells (encI (waysW a b o ls)) true] .undef .undef (by simp [cellsAt, List.getElem?_append_right]) (by simp) rfl (Nat.zero_le _) rfl (fun _ => rfl)
  have h0 : ((0 : Nat) : Int) = 0 := rfl
  rw [h0, List.nil_append, hs] at hl
  rw [List.nil_append, hs] at m1
  refine ⟨cap', ?_⟩
  simp only [List.length_append, List.length_cons, List.length_nil, Nat.zero_add, Nat.add_zero, List.append_assoc, List.cons_append, List.nil_append, Nat.reduceAdd, Nat.add_assoc] at hl
  have hf : ∀ (B : Blk) (e0 : Option Nat), finish 2 H.length e0 (.tup [slI (H.length + (1 + j')) (ssW a b o ls os).length cap', .bool true]) ⟨H ++ (B :: G'), none⟩ = some (.tup [slI H.length (ssW a b o ls os).length cap', .bool true], ⟨H ++ [.cells (encI (ssW a b o ls os)) true], e0⟩) :=
    fun B e0 => finish_two_sb true e0 (by rw [show 1 + j' = j' + 1 by omega]; exact m1) (under_encI _ _)
  rw [call_eq t_s_SafeStep]
  simp +contextual only [a_s_SafeStep, c_s_SafeStep, e_s_l10Code (cells_mono hq _) (cells_mono hq' _) hn, h12, e_s_l10Safe (cells_mono hq _) (show ls.length ≤ 9223372036854775806 by omega), h3, e_s_l10Ways (cells_mono hq _) hn8, fillParts, hl, hf, go_sem, entry, joinEsc, if_pos, reduceIte, Nat.reduceAdd, Nat.reduceLeDiff, Nat.reduceLT, Nat.reduceEqDiff]

theorem law_SafeStep {av av' : AV} {ls : List Ld} {os : List Int} (ha : ArgL H av ls) (hb : ArgI H av' os) (a b o : Int) : ∃ m', call T pr f_l_FnExactSafeStep [rfV a b o, av, av'] ⟨H, none⟩ = some (.bool true, m') := by
  refine ⟨⟨H, none⟩, ?_⟩
  have hsz : ∀ G e', call T pr f_l_szLoadS [av, .int .i64 1048576] ⟨G, e'⟩ = some (.int .i64 (if ls.length ≤ 1048576 then 1048576 - ls.length else -1), ⟨G, e'⟩) := by
    obtain ⟨p, sz, c, rfl, h2, h3⟩ := ha
    exact fun G e' => e_l_szLoadS ls.length p sz c h2
  have hlen : ∃ p sz c, av' = .slice p sz os.length c := by
    obtain ⟨p, sz, c, h1, _⟩ := hb
    exact ⟨p, sz, c, h1⟩
  rw [call_eq t_l_FnExactSafeStep]
  by_cases hm : os.length ≤ 1048576
  · have hm' : os.length ≤ 9223372036854775806 := by omega
    have hgt : decide ((os.length : Int) > 1048576) = false := decide_eq_false (by omega)
    have hgt' : decide ((1048576 : Int) < (os.length : Int)) = false := decide_eq_false (by omega)
    have hcopyI := fun G => e_l_toIntS (pr := pr) (e := none) (hb.more G) hm
    obtain ⟨p, sz, c, rfl⟩ := hlen
    by_cases hn : ls.length ≤ 1048576
    · have hn' : ls.length ≤ 9223372036854775806 := by omega
      have hneg : ¬ (1048576 - (ls.length : Int) < 0) := by omega
      have hcopy := fun G => e_l_toLoadS (pr := pr) (e := none) (ha.more G) hn
      have hmark : ∀ L b c, L[b]? = some (.cells (encL ls) true) → call T pr f_l_markLoadS [slL b ls.length c, .int .i64 1] ⟨L, none⟩ = some (.int .i64 ((1 + ls.length * 2 : Nat) : Int), ⟨L.set b (.cells (encL (markedL 1 ls.length)) true), none⟩) :=
        fun L b c h => e_l_markLoadS h (by omega) 1 (by omega)
      have hmark2 : ∀ L b c, L[b]? = some (.cells (encI os) true) → call T pr f_l_markIntS [slI b os.length c, .int .i64 ((1 + ls.length * 2 : Nat) : Int)] ⟨L, none⟩ = some (.int .i64 ((1 + ls.length * 2 + os.length : Nat) : Int), ⟨L.set b (.cells (encI (markedI (1 + ls.length * 2) os.length)) true), none⟩) :=
        fun L b c h => e_l_markIntS h (by omega) (1 + ls.length * 2) (by omega)
      have hk0 : ¬ (((1 + ls.length * 2 + os.length : Nat) : Int) < 0) := by omega
      have h10 : ¬ ((1 : Int) < 0) := by omega
      cases hcan : canS a b o ls os with
      | false =>
        have hs := fun L q c hq q' c' hq' => e_s_SafeStep_no (pr := pr) (H := L) (e := none) (q := q) (c := c) (ls := ls) (q' := q') (c' := c') (os := os) hq hq' hm' a b o hcan
        have hi := fun L q c hq q' c' hq' => e_i_SafeStep_no (pr := pr) (H := L) (e := none) (q := q) (c := c) (ls := ls) (q' := q') (c' := c') (os := os) hq hn hq' hm' a b o hcan
        simp +contextual only [a_l_FnExactSafeStep, c_l_FnExactSafeStep, hsz, hn, hm, hgt, hgt', hneg, decide_false, decide_true, e_l_toRaft, hcopy, hcopyI, hs, hi, e_l_eqIntS_none, e_l_markIntS_none, e_l_heldIntS_none, hmark, hmark2, hk0, h10, e_l_eqLoadS, e_l_eqIntS, hn', hm', beq_self_eq_true, go_sem, entry, joinEsc, if_pos, reduceIte, Nat.reduceAdd, Nat.reduceLeDiff, Nat.reduceLT, Nat.reduceEqDiff]
      | true =>
        have hl := ssW_le a b o ls os
        have hc8 := cargo_le (Bool.and_eq_true_iff.mp (Bool.and_eq_true_iff.mp hcan).1).1
        have hs := fun L q c hq q' c' hq' => hid_tup (e_s_SafeStep (pr := pr) (H := L) (e := none) (q := q) (c := c) (ls := ls) (q' := q') (c' := c') (os := os) hq hq' hm' a b o hcan)
        have hi := fun L q c hq q' c' hq' => hid_tup (e_i_SafeStep (pr := pr) (H := L) (e := none) (q := q) (c := c) (ls := ls) (q' := q') (c' := c') (os := os) hq hq' hm' a b o hcan)
        generalize ssW a b o ls os = rs at *
        have ho' : rs.length ≤ 9223372036854775806 := by omega
        have hmi : ∀ L b c, L[b]? = some (.cells (encI rs) true) → call T pr f_l_markIntS [slI b rs.length c, .int .i64 1] ⟨L, none⟩ = some (.int .i64 ((1 + rs.length : Nat) : Int), ⟨L.set b (.cells (encI (markedI 1 rs.length)) true), none⟩) :=
          fun L b c h => e_l_markIntS h (by omega) 1 (by omega)
        have hhe : ∀ L b c, cellsAt L b = some (encI (markedI 1 rs.length)) → call T pr f_l_heldIntS [slI b rs.length c, .int .i64 1] ⟨L, none⟩ = some (.int .i64 ((1 + rs.length : Nat) : Int), ⟨L, none⟩) :=
          fun L b c h => e_l_heldIntS (k := 1) h (by omega) (by omega)
        have hk1 : ¬ (((1 + rs.length : Nat) : Int) < 0) := by omega
        simp +contextual only [a_l_FnExactSafeStep, c_l_FnExactSafeStep, hsz, hn, hm, hgt, hgt', hneg, decide_false, decide_true, e_l_toRaft, hcopy, hcopyI, hs, hi, e_l_eqIntS, ho', hm', hmi, hhe, hk1, hmark, hmark2, hk0, h10, e_l_eqLoadS, hn', beq_self_eq_true, go_sem, entry, joinEsc, if_pos, reduceIte, Nat.reduceAdd, Nat.reduceLeDiff, Nat.reduceLT, Nat.reduceEqDiff]
    · simp +contextual only [a_l_FnExactSafeStep, c_l_FnExactSafeStep, hsz, hn, hgt, hgt', decide_true, show ((-1 : Int) < 0) by omega, go_sem, entry, joinEsc, if_pos, reduceIte, Nat.reduceAdd, Nat.reduceLeDiff, Nat.reduceLT, Nat.reduceEqDiff]
  · have hgt : decide ((os.length : Int) > 1048576) = true := decide_eq_true (by omega)
    have hgt' : decide ((1048576 : Int) < (os.length : Int)) = true := decide_eq_true (by omega)
    obtain ⟨p, sz, c, rfl⟩ := hlen
    simp +contextual only [a_l_FnExactSafeStep, c_l_FnExactSafeStep, hgt, hgt', go_sem, entry, joinEsc, if_pos, reduceIte, Nat.reduceAdd, Nat.reduceLeDiff, Nat.reduceLT, Nat.reduceEqDiff]

end Go.Proofs.Ytlcklonakjhoiaa.Slim

/- Stages of a chain: what is valid, copies, marks. -/
namespace Go.Proofs.Ytlcklonakjhoiaa.Slim

open Go

set_option linter.unusedSimpArgs false

set_option linter.unusedVariables false

variable {pr : Prims} {H : List Blk} {e : Option Nat}

def ratioOk (x : Int) : Bool := decide (1 ≤ x) && decide (x ≤ 24)

/-- a stage: its kind and its two numbers -/
abbrev Sg := Int × Int × Int

def stageOk (s : Sg) : Bool :=
  if s.1 = 1 then ratioOk s.2.1 && ratioOk s.2.2 else if s.1 = 3 then ratioOk s.2.1 && ratioOk s.2.2 else if s.1 = 2 then ratioOk s.2.1 && decide (s.2.2 = 0)
  else if s.1 = 4 then (ratioOk s.2.1 && ratioOk s.2.2) && decide (s.2.2 ≤ s.2.1) else if s.1 = 5 then (ratioOk s.2.1 && ratioOk s.2.2) && decide (s.2.2 < s.2.1) else false

abbrev sgV (s : Sg) : AV := .agg [.int .i64 s.1, .int .i64 s.2.1, .int .i64 s.2.2]

def encS : List Sg → List AV
  | [] => []
  | s :: ss => .int .i64 s.1 :: .int .i64 s.2.1 :: .int .i64 s.2.2 :: encS ss

theorem encS_length : ∀ ss : List Sg, (encS ss).length = ss.length * 3
  | [] => rfl
  | s :: ss => by simp [encS, encS_length ss]; omega

theorem part_encS {ss : List Sg} {i : Nat} {s : Sg} (h : ss[i]? = some s) : part true (encS ss) (i * 3) 3 = some (.agg [.int .i64 s.1, .int .i64 s.2.1, .int .i64 s.2.2]) := by
  induction ss generalizing i with
  | nil => simp at h
  | cons a ss ih =>
    cases i with
    | zero => simp at h; subst h; simp [encS, part]
    | succ i =>
      simp at h
      rw [show (i + 1) * 3 = i * 3 + 1 + 1 + 1 by omega, encS, part_tk, part_tk, part_tk]
      exact ih h

theorem setRange_encS {X : List Sg} {i : Nat} {k a b : Int} (h : i < X.length) : setRange (encS X) (i * 3) [.int .i64 k, .int .i64 a, .int .i64 b] = encS (X.set i (k, a, b)) := by
  induction X generalizing i with
  | nil => simp at h
  | cons x X ih =>
    cases i with
    | zero => simp [encS, setRange]
    | succ i =>
      rw [show (i + 1) * 3 = i * 3 + 1 + 1 + 1 by omega, encS, setRange_k, setRange_k, setRange_k, ih (by simpa using h)]
      rfl

theorem under_encS (n : Nat) : ∀ ss : List Sg, ((encS ss).all fun c => c.under n) = true
  | [] => rfl
  | s :: ss => by simp [encS, AV.under, under_encS n ss]

theorem zeros_encS : ∀ n, zeros n [.int .i64 0, .int .i64 0, .int .i64 0] = encS (List.replicate n (0, 0, 0))
  | 0 => rfl
  | n + 1 => by
    have := zeros_encS n
    unfold zeros at *
    simp only [List.replicate_succ, List.flatten_cons, encS, List.cons_append, List.nil_append, this]

theorem take_set_succS {X ss : List Sg} {i : Nat} (hi : i < ss.length) (hX : X.length = ss.length) (h : X.take i = ss.take i) : (X.set i ss[i]).take (i + 1) = ss.take (i + 1) := by
  rw [List.take_succ_eq_append_getElem (by rw [List.length_set]; omega), List.take_succ_eq_append_getElem hi]
  rw [List.take_set_of_le (Nat.le_refl _), h]
  simp

abbrev slS (b n : Nat) (c : Option Nat) : AV := .slice (some (b, 0)) 3 n c

/-- a slice of stages, as a law is handed it -/
def ArgS (H : List Blk) (av : AV) (ss : List Sg) : Prop :=
  ∃ p sz c, av = .slice p sz ss.length c ∧ ss.length ≤ maxLen ∧ (ss ≠ [] → sz = 3 ∧ ∃ b, p = some (b, 0) ∧ cellsAt H b = some (encS ss))

theorem ArgS.more {av : AV} {ss : List Sg} (h : ArgS H av ss) (G : List Blk) : ArgS (H ++ G) av ss := by
  obtain ⟨p, sz, c, h1, h2, h3⟩ := h
  refine ⟨p, sz, c, h1, h2, fun hne => ?_⟩
  obtain ⟨h4, b, h5, h6⟩ := h3 hne
  exact ⟨h4, b, h5, cells_mono h6 G⟩

theorem stages_of : ∀ (es : List (List Int)), (∀ e ∈ es, e.length = 3) → ∃ ss : List Sg, es.flatten.map (AV.int .i64) = encS ss ∧ ss.length = es.length
  | [], _ => ⟨[], rfl, rfl⟩
  | e :: es, h => by
    obtain ⟨ss, h1, h2⟩ := stages_of es (fun e' h' => h e' (by simp [h']))
    have h0 := h e (by simp)
    match e, h0 with
    | [x, y, z], _ => exact ⟨(x, y, z) :: ss, by simp [encS, h1], by simp [h2]⟩

theorem argS_of {av : AV} {es : List (List Int)} (h : IsArg H av .i64 3 es) : ∃ ss, ArgS H av ss := by
  obtain ⟨h1, h2⟩ := h
  rcases h2 with ⟨rfl, rfl⟩ | ⟨b, cap, rfl, h3, h4, h5⟩
  · exact ⟨[], none, 0, none, rfl, Nat.zero_le _, fun h => absurd rfl h⟩
  · obtain ⟨ss, h6, h7⟩ := stages_of es (fun e he => (h1 e he).1)
    refine ⟨ss, some (b, 0), 3, some cap, by rw [h7], by omega, fun _ => ⟨rfl, b, rfl, ?_⟩⟩
    unfold cellsAt
    rw [h5, h6]

def chainOk (ls : List Sg) : Bool := ls.all stageOk && decide (ls.length ≤ 5)

end Go.Proofs.Ytlcklonakjhoiaa.Slim
