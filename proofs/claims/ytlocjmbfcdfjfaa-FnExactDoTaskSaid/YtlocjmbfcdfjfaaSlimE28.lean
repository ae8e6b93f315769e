/- Stages of a chain: what is valid, copies, marks. -/
import Derived.Test.YtlocjmbfcdfjfaaSlimE20
namespace Go.Proofs.Ytlocjmbfcdfjfaa.Slim

open Go

set_option linter.unusedSimpArgs false

set_option linter.unusedVariables false

variable {pr : Prims} {H : List Blk} {e : Option Nat}

def ratioOk (x : Int) : Bool := decide (1 ≤ x) && decide (x ≤ 24)

theorem e_i_isRatio (x : Int) : call T pr f_i_isRatio [.int .i64 x] ⟨H, e⟩ = some (.bool (ratioOk x), ⟨H, e⟩) := by
  rw [call_eq t_i_isRatio]
  simp +contextual only [a_i_isRatio, c_i_isRatio, e_i_within, go_sem, entry, joinEsc, if_pos, reduceIte, Nat.reduceAdd, Nat.reduceLeDiff, Nat.reduceLT, Nat.reduceEqDiff]
  rfl

theorem e_s_l7Two (x y : Int) : call T pr f_s_l7Two [.int .i64 x, .int .i64 y] ⟨H, e⟩ = some (.bool (ratioOk x && ratioOk y), ⟨H, e⟩) := by
  rw [call_eq t_s_l7Two]
  simp +contextual only [a_s_l7Two, c_s_l7Two, e_s_l1In, go_sem, entry, joinEsc, if_pos, reduceIte, Nat.reduceAdd, Nat.reduceLeDiff, Nat.reduceLT, Nat.reduceEqDiff]
  rfl

/-- a stage: its kind and its two numbers -/
abbrev Sg := Int × Int × Int

def stageOk (s : Sg) : Bool :=
  if s.1 = 1 then ratioOk s.2.1 && ratioOk s.2.2 else if s.1 = 3 then ratioOk s.2.1 && ratioOk s.2.2 else if s.1 = 2 then ratioOk s.2.1 && decide (s.2.2 = 0)
  else if s.1 = 4 then (ratioOk s.2.1 && ratioOk s.2.2) && decide (s.2.2 ≤ s.2.1) else if s.1 = 5 then (ratioOk s.2.1 && ratioOk s.2.2) && decide (s.2.2 < s.2.1) else false

abbrev sgV (s : Sg) : AV := .agg [.int .i64 s.1, .int .i64 s.2.1, .int .i64 s.2.2]

theorem e_i_IsStage (k a b : Int) : call T pr f_i_IsStage [.agg [.int .i64 k, .int .i64 a, .int .i64 b]] ⟨H, e⟩ = some (.bool (stageOk (k, a, b)), ⟨H, e⟩) := by
  rw [call_eq t_i_IsStage]
  unfold stageOk
  by_cases h1 : k = 1
  · simp +contextual only [a_i_IsStage, c_i_IsStage, e_i_isRatio, h1, decide_true, go_sem, entry, joinEsc, if_pos, reduceIte, Nat.reduceAdd, Nat.reduceLeDiff, Nat.reduceLT, Nat.reduceEqDiff]
  by_cases h3 : k = 3
  · simp +contextual only [a_i_IsStage, c_i_IsStage, e_i_isRatio, h3, show ¬ ((3 : Int) = 1) by omega, decide_true, decide_false, go_sem, entry, joinEsc, if_pos, reduceIte, Nat.reduceAdd, Nat.reduceLeDiff, Nat.reduceLT, Nat.reduceEqDiff]
  by_cases h2 : k = 2
  · simp +contextual only [a_i_IsStage, c_i_IsStage, e_i_isRatio, h2, show ¬ ((2 : Int) = 1) by omega, show ¬ ((2 : Int) = 3) by omega, decide_true, decide_false, go_sem, entry, joinEsc, if_pos, reduceIte, Nat.reduceAdd, Nat.reduceLeDiff, Nat.reduceLT, Nat.reduceEqDiff]
  by_cases h4 : k = 4
  · simp +contextual only [a_i_IsStage, c_i_IsStage, e_i_isRatio, h4, show ¬ ((4 : Int) = 1) by omega, show ¬ ((4 : Int) = 3) by omega, show ¬ ((4 : Int) = 2) by omega, decide_true, decide_false, go_sem, entry, joinEsc, if_pos, reduceIte, Nat.reduceAdd, Nat.reduceLeDiff, Nat.reduceLT, Nat.reduceEqDiff]
  by_cases h5 : k = 5
  · simp +contextual only [a_i_IsStage, c_i_IsStage, e_i_isRatio, h5, show ¬ ((5 : Int) = 1) by omega, show ¬ ((5 : Int) = 3) by omega, show ¬ ((5 : Int) = 2) by omega, show ¬ ((5 : Int) = 4) by omega, decide_true, decide_false, go_sem, entry, joinEsc, if_pos, reduceIte, Nat.reduceAdd, Nat.reduceLeDiff, Nat.reduceLT, Nat.reduceEqDiff]
  · simp +contextual only [a_i_IsStage, c_i_IsStage, e_i_isRatio, h1, h2, h3, h4, h5, decide_true, decide_false, go_sem, entry, joinEsc, if_pos, reduceIte, Nat.reduceAdd, Nat.reduceLeDiff, Nat.reduceLT, Nat.reduceEqDiff]

theorem e_s_l7Stage (k a b : Int) : call T pr f_s_l7Stage [.agg [.int .i64 k, .int .i64 a, .int .i64 b]] ⟨H, e⟩ = some (.bool (stageOk (k, a, b)), ⟨H, e⟩) := by
  rw [call_eq t_s_l7Stage]
  have hr : ∀ x : Int, (decide (1 ≤ x) && decide (x ≤ 24)) = ratioOk x := fun x => rfl
  unfold stageOk
  by_cases h1 : k = 1
  · simp +contextual only [a_s_l7Stage, c_s_l7Stage, e_s_l7Two, e_s_l1In, hr, h1, decide_true, go_sem, entry, joinEsc, if_pos, reduceIte, Nat.reduceAdd, Nat.reduceLeDiff, Nat.reduceLT, Nat.reduceEqDiff]
  by_cases h3 : k = 3
  · simp +contextual only [a_s_l7Stage, c_s_l7Stage, e_s_l7Two, e_s_l1In, hr, h3, show ¬ ((3 : Int) = 1) by omega, decide_true, decide_false, go_sem, entry, joinEsc, if_pos, reduceIte, Nat.reduceAdd, Nat.reduceLeDiff, Nat.reduceLT, Nat.reduceEqDiff]
  by_cases h2 : k = 2
  · simp +contextual only [a_s_l7Stage, c_s_l7Stage, e_s_l7Two, e_s_l1In, hr, h2, show ¬ ((2 : Int) = 1) by omega, show ¬ ((2 : Int) = 3) by omega, decide_true, decide_false, go_sem, entry, joinEsc, if_pos, reduceIte, Nat.reduceAdd, Nat.reduceLeDiff, Nat.reduceLT, Nat.reduceEqDiff]
  by_cases h4 : k = 4
  · simp +contextual only [a_s_l7Stage, c_s_l7Stage, e_s_l7Two, e_s_l1In, hr, h4, show ¬ ((4 : Int) = 1) by omega, show ¬ ((4 : Int) = 3) by omega, show ¬ ((4 : Int) = 2) by omega, decide_true, decide_false, go_sem, entry, joinEsc, if_pos, reduceIte, Nat.reduceAdd, Nat.reduceLeDiff, Nat.reduceLT, Nat.reduceEqDiff]
  by_cases h5 : k = 5
  · simp +contextual only [a_s_l7Stage, c_s_l7Stage, e_s_l7Two, e_s_l1In, hr, h5, show ¬ ((5 : Int) = 1) by omega, show ¬ ((5 : Int) = 3) by omega, show ¬ ((5 : Int) = 2) by omega, show ¬ ((5 : Int) = 4) by omega, decide_true, decide_false, go_sem, entry, joinEsc, if_pos, reduceIte, Nat.reduceAdd, Nat.reduceLeDiff, Nat.reduceLT, Nat.reduceEqDiff]
  · simp +contextual only [a_s_l7Stage, c_s_l7Stage, e_s_l7Two, e_s_l1In, hr, h1, h2, h3, h4, h5, decide_true, decide_false, go_sem, entry, joinEsc, if_pos, reduceIte, Nat.reduceAdd, Nat.reduceLeDiff, Nat.reduceLT, Nat.reduceEqDiff]

def encS : List Sg → List AV
  | [] => []
  | s :: ss => .int .i64 s.1 :: .int .i64 s.2.1 :: .int .i64 s.2.2 :: encS ss

theorem encS_length : ∀ ss : List Sg, (encS ss).length = ss.length * 3
  | [] => rfl
  | s :: ss => by simp [encS, encS_length ss]; omega

theorem part_encS {ss : List Sg} {i : Nat} {s : Sg} (h : ss[i]? = some s) : part true (encS ss) (i * 3) 3 = some (.agg [.int .i64 s.1, .int .i64 s.2.1, .int .i64 s.2.2]) := by
  induction ss generalizing i with
  | nil => simp at h
  | cons a ss ih =>
    cases i with
    | zero => simp at h; subst h; simp [encS, part]
    | succ i =>
      simp at h
      rw [show (i + 1) * 3 = i * 3 + 1 + 1 + 1 by omega, encS, part_tk, part_tk, part_tk]
      exact ih h

theorem setRange_encS {X : List Sg} {i : Nat} {k a b : Int} (h : i < X.length) : setRange (encS X) (i * 3) [.int .i64 k, .int .i64 a, .int .i64 b] = encS (X.set i (k, a, b)) := by
  induction X generalizing i with
  | nil => simp at h
  | cons x X ih =>
    cases i with
    | zero => simp [encS, setRange]
    | succ i =>
      rw [show (i + 1) * 3 = i * 3 + 1 + 1 + 1 by omega, encS, setRange_k, setRange_k, setRange_k, ih (by simpa using h)]
      rfl

theorem under_encS (n : Nat) : ∀ ss : List Sg, ((encS ss).all fun c => c.under n) = true
  | [] => rfl
  | s :: ss => by simp [encS, AV.under, under_encS n ss]

theorem zeros_encS : ∀ n, zeros n [.int .i64 0, .int .i64 0, .int .i64 0] = encS (List.replicate n (0, 0, 0))
  | 0 => rfl
  | n + 1 => by
    have := zeros_encS n
    unfold zeros at *
    simp only [List.replicate_succ, List.flatten_cons, encS, List.cons_append, List.nil_append, this]

theorem take_set_succS {X ss : List Sg} {i : Nat} (hi : i < ss.length) (hX : X.length = ss.length) (h : X.take i = ss.take i) : (X.set i ss[i]).take (i + 1) = ss.take (i + 1) := by
  rw [List.take_succ_eq_append_getElem (by rw [List.length_set]; omega), List.take_succ_eq_append_getElem hi]
  rw [List.take_set_of_le (Nat.le_refl _), h]
  simp

abbrev slS (b n : Nat) (c : Option Nat) : AV := .slice (some (b, 0)) 3 n c

/-- a slice of stages, as a law is handed it -/
def ArgS (H : List Blk) (av : AV) (ss : List Sg) : Prop :=
  ∃ p sz c, av = .slice p sz ss.length c ∧ ss.length ≤ maxLen ∧ (ss ≠ [] → sz = 3 ∧ ∃ b, p = some (b, 0) ∧ cellsAt H b = some (encS ss))

theorem ArgS.more {av : AV} {ss : List Sg} (h : ArgS H av ss) (G : List Blk) : ArgS (H ++ G) av ss := by
  obtain ⟨p, sz, c, h1, h2, h3⟩ := h
  refine ⟨p, sz, c, h1, h2, fun hne => ?_⟩
  obtain ⟨h4, b, h5, h6⟩ := h3 hne
  exact ⟨h4, b, h5, cells_mono h6 G⟩

theorem stages_of : ∀ (es : List (List Int)), (∀ e ∈ es, e.length = 3) → ∃ ss : List Sg, es.flatten.map (AV.int .i64) = encS ss ∧ ss.length = es.length
  | [], _ => ⟨[], rfl, rfl⟩
  | e :: es, h => by
    obtain ⟨ss, h1, h2⟩ := stages_of es (fun e' h' => h e' (by simp [h']))
    have h0 := h e (by simp)
    match e, h0 with
    | [x, y, z], _ => exact ⟨(x, y, z) :: ss, by simp [encS, h1], by simp [h2]⟩

theorem argS_of {av : AV} {es : List (List Int)} (h : IsArg H av .i64 3 es) : ∃ ss, ArgS H av ss := by
  obtain ⟨h1, h2⟩ := h
  rcases h2 with ⟨rfl, rfl⟩ | ⟨b, cap, rfl, h3, h4, h5⟩
  · exact ⟨[], none, 0, none, rfl, Nat.zero_le _, fun h => absurd rfl h⟩
  · obtain ⟨ss, h6, h7⟩ := stages_of es (fun e he => (h1 e he).1)
    refine ⟨ss, some (b, 0), 3, some cap, by rw [h7], by omega, fun _ => ⟨rfl, b, rfl, ?_⟩⟩
    unfold cellsAt
    rw [h5, h6]

theorem e_l_toStage (k a b : Int) : call T pr f_l_toStage [.agg [.int .i64 k, .int .i64 a, .int .i64 b]] ⟨H, e⟩ = some (.agg [.int .i64 k, .int .i64 a, .int .i64 b], ⟨H, e⟩) := by
  rw [call_eq t_l_toStage]
  simp +contextual only [a_l_toStage, c_l_toStage, go_sem, entry, joinEsc, if_pos, reduceIte, Nat.reduceAdd, Nat.reduceLeDiff, Nat.reduceLT, Nat.reduceEqDiff]

theorem e_l_eqStage (k a b : Int) : call T pr f_l_eqStage [.agg [.int .i64 k, .int .i64 a, .int .i64 b], .agg [.int .i64 k, .int .i64 a, .int .i64 b]] ⟨H, e⟩ = some (.bool true, ⟨H, e⟩) := by
  rw [call_eq t_l_eqStage]
  simp +contextual only [a_l_eqStage, c_l_eqStage, decide_true, go_sem, entry, joinEsc, if_pos, reduceIte, Nat.reduceAdd, Nat.reduceLeDiff, Nat.reduceLT, Nat.reduceEqDiff]

theorem loop_l_toStageS {p : Option (Nat × Nat)} {sz : Nat} {c : Option Nat} {ls : List Sg} {r : AV} (ha : ls ≠ [] → sz = 3 ∧ ∃ b, p = some (b, 0) ∧ cellsAt H b = some (encS ls)) (hn : ls.length ≤ 1048576) :
    ∀ (k i : Nat) (X : List Sg) (y4 : AV), k + i = ls.length → X.length = ls.length → X.take i = ls.take i → ∃ z4, run T pr (.loop w_l_toStageS_1) ⟨[.slice p sz ls.length c, r, slS H.length ls.length (some ls.length), .int .i64 i, y4], ⟨H ++ [.cells (encS X) true], e⟩⟩ =
      some (Ex.exit 0, ⟨[.slice p sz ls.length c, r, slS H.length ls.length (some ls.length), .int .i64 ls.length, z4], ⟨H ++ [.cells (encS ls) true], e⟩⟩)
  | 0, i, X, y4, hk, hX, ht => by
    have hi : i = ls.length := by omega
    subst hi
    rw [List.take_of_length_le (by omega), List.take_of_length_le (by omega)] at ht
    subst ht
    refine ⟨.bool false, ?_⟩
    rw [run_loop]
    generalize run T pr (.loop w_l_toStageS_1) = R
    simp +contextual only [w_l_toStageS_1, Nat.lt_irrefl, decide_false, go_sem, entry, joinEsc, if_pos, reduceIte, Nat.reduceAdd, Nat.reduceLeDiff, Nat.reduceLT, Nat.reduceEqDiff]
  | k + 1, i, X, y4, hk, hX, ht => by
    have hi : i < ls.length := by omega
    have hl : ls[i]? = some ls[i] := List.getElem?_eq_getElem hi
    obtain ⟨rfl, b, rfl, hb⟩ := ha (by intro h; subst h; simp at hi)
    obtain ⟨z4, ih⟩ := loop_l_toStageS (c := c) (r := r) ha hn k (i + 1) (X.set i ls[i]) (.bool true) (by omega) (by simpa using hX) (take_set_succS hi hX ht)
    refine ⟨z4, ?_⟩
    rw [run_loop]
    generalize run T pr (.loop w_l_toStageS_1) = R at ih ⊢
    have hle : i * 3 + 3 ≤ (encS X).length := by rw [encS_length]; omega
    simp +contextual only [w_l_toStageS_1, cells_mono hb, hi, hl, part_encS hl, e_l_toStage, hle, setRange_encS (show i < X.length by omega), wrap_succ (show i < 9223372036854775807 by omega), decide_true, go_sem, entry, joinEsc, if_pos, reduceIte, Nat.reduceAdd, Nat.reduceLeDiff, Nat.reduceLT, Nat.reduceEqDiff]
    exact ih

theorem e_l_toStageS {av : AV} {ls : List Sg} (ha : ArgS H av ls) (hn : ls.length ≤ 1048576) : call T pr f_l_toStageS [av] ⟨H, e⟩ = some (slS H.length ls.length (some ls.length), ⟨H ++ [.cells (encS ls) true], e⟩) := by
  obtain ⟨p, sz, c, rfl, _, ha⟩ := ha
  obtain ⟨z4, hl⟩ := loop_l_toStageS (pr := pr) (e := none) (c := c) (r := .slice none 0 0 none) ha hn ls.length 0 (List.replicate ls.length (0, 0, 0)) .undef (by omega) (by simp) (by simp)
  rw [call_eq t_l_toStageS]
  have h0 : ((0 : Nat) : Int) = 0 := rfl
  have hmb : (ls.length : Int) * ((24 : Nat) : Int) ≤ ((maxBytes : Nat) : Int) := by unfold maxBytes; omega
  rw [h0, ← zeros_encS] at hl
  simp +contextual only [a_l_toStageS, c_l_toStageS, hmb, hl, under_encS, go_sem, entry, joinEsc, if_pos, reduceIte, Nat.reduceAdd, Nat.reduceLeDiff, Nat.reduceLT, Nat.reduceEqDiff]

theorem loop_l_eqStageS {b1 b2 : Nat} {c1 c2 : Option Nat} {ls : List Sg} (h1 : cellsAt H b1 = some (encS ls)) (h2 : cellsAt H b2 = some (encS ls)) (hn : ls.length ≤ 9223372036854775806) :
    ∀ (k i : Nat) (x5 x6 x7 : AV), k + i = ls.length → ∃ y5 y6, run T pr (.loop w_l_eqStageS_1) ⟨[slS b1 ls.length c1, slS b2 ls.length c2, .bool false, .int .i64 i, x7, x5, x6], ⟨H, e⟩⟩ =
      some (.exit 0, ⟨[slS b1 ls.length c1, slS b2 ls.length c2, .bool false, .int .i64 ls.length, x7, y5, y6], ⟨H, e⟩⟩)
  | 0, i, x5, x6, x7, hk => by
    have hi : i = ls.length := by omega
    subst hi
    refine ⟨.bool false, x6, ?_⟩
    rw [run_loop]
    generalize run T pr (.loop w_l_eqStageS_1) = R
    simp +contextual only [w_l_eqStageS_1, Nat.lt_irrefl, decide_false, go_sem, entry, joinEsc, if_pos, reduceIte, Nat.reduceAdd, Nat.reduceLeDiff, Nat.reduceLT, Nat.reduceEqDiff]
  | k + 1, i, x5, x6, x7, hk => by
    have hi : i < ls.length := by omega
    obtain ⟨y5, y6, ih⟩ := loop_l_eqStageS (c1 := c1) (c2 := c2) h1 h2 hn k (i + 1) (.bool true) (.bool false) x7 (by omega)
    refine ⟨y5, y6, ?_⟩
    rw [run_loop]
    have hl : ls[i]? = some ls[i] := List.getElem?_eq_getElem hi
    generalize run T pr (.loop w_l_eqStageS_1) = R at ih ⊢
    simp +contextual only [w_l_eqStageS_1, h1, h2, hi, hl, part_encS hl, e_l_eqStage, wrap_succ (show i < 9223372036854775807 by omega), decide_true, Bool.not_true, go_sem, entry, joinEsc, if_pos, reduceIte, Nat.reduceAdd, Nat.reduceLeDiff, Nat.reduceLT, Nat.reduceEqDiff]
    exact ih

theorem e_l_eqStageS {b1 b2 : Nat} {c1 c2 : Option Nat} {ls : List Sg} (h1 : cellsAt H b1 = some (encS ls)) (h2 : cellsAt H b2 = some (encS ls)) (hn : ls.length ≤ 9223372036854775806) :
    call T pr f_l_eqStageS [slS b1 ls.length c1, slS b2 ls.length c2] ⟨H, e⟩ = some (.bool true, ⟨H, e⟩) := by
  obtain ⟨z5, z6, hl⟩ := loop_l_eqStageS (pr := pr) (e := none) (c1 := c1) (c2 := c2) h1 h2 hn ls.length 0 .undef .undef (.bool false) rfl
  have h0 : ((0 : Nat) : Int) = 0 := rfl
  rw [h0] at hl
  rw [call_eq t_l_eqStageS]
  simp +contextual only [a_l_eqStageS, c_l_eqStageS, hl, decide_true, go_sem, entry, joinEsc, if_pos, reduceIte, Nat.reduceAdd, Nat.reduceLeDiff, Nat.reduceLT, Nat.reduceEqDiff]

def chainOk (ls : List Sg) : Bool := ls.all stageOk && decide (ls.length ≤ 5)

theorem loop_i_isChain {q : Nat} {c : Option Nat} {ls : List Sg} (h : cellsAt H q = some (encS ls)) (hn : ls.length ≤ 9223372036854775806) :
    ∀ (k i : Nat) (G : List Blk) (y2 y6 y7 : AV), k + i = ls.length → ∃ (G' : List Blk) (z2 z5 z6 z7 : AV), run T pr (.loop w_i_isChain_1) ⟨[slS q ls.length c, .bool false, y2, slS q ls.length c, .int .i64 ls.length, .int .i64 i, y6, y7], ⟨H ++ G, e⟩⟩ =
      some (if (ls.drop i).all stageOk = true then Ex.exit 0 else Ex.ret, ⟨[slS q ls.length c, .bool false, z2, slS q ls.length c, .int .i64 ls.length, z5, z6, z7], ⟨H ++ G', e⟩⟩)
  | 0, i, G, y2, y6, y7, hk => by
    have hi : i = ls.length := by omega
    subst hi
    refine ⟨G, y2, .int .i64 ls.length, .bool false, y7, ?_⟩
    rw [run_loop]
    generalize run T pr (.loop w_i_isChain_1) = R
    simp +contextual only [w_i_isChain_1, Nat.lt_irrefl, decide_false, List.drop_length, List.all_nil, go_sem, entry, joinEsc, if_pos, reduceIte, Nat.reduceAdd, Nat.reduceLeDiff, Nat.reduceLT, Nat.reduceEqDiff]
  | k + 1, i, G, y2, y6, y7, hk => by
    have hi : i < ls.length := by omega
    have hl : ls[i]? = some ls[i] := List.getElem?_eq_getElem hi
    rw [run_loop, List.drop_eq_getElem_cons hi, List.all_cons]
    cases h1 : stageOk ls[i] with
    | false =>
      refine ⟨G ++ [.cells [.int .i64 ls[i].1, .int .i64 ls[i].2.1, .int .i64 ls[i].2.2] true], .ptr (some (H.length + G.length, 0)), .int .i64 i, .bool true, .bool true, ?_⟩
      generalize run T pr (.loop w_i_isChain_1) = R
      simp +contextual only [w_i_isChain_1, cells_mono h, hi, hl, part_encS hl, e_i_IsStage, h1, decide_true, go_sem, entry, joinEsc, if_pos, reduceIte, Nat.reduceAdd, Nat.reduceLeDiff, Nat.reduceLT, Nat.reduceEqDiff]
    | true =>
      obtain ⟨G', z2, z5, z6, z7, ih⟩ := loop_i_isChain (c := c) h hn k (i + 1) (G ++ [.cells [.int .i64 ls[i].1, .int .i64 ls[i].2.1, .int .i64 ls[i].2.2] true]) (.ptr (some (H.length + G.length, 0))) (.bool true) (.bool false) (by omega)
      refine ⟨G', z2, z5, z6, z7, ?_⟩
      generalize run T pr (.loop w_i_isChain_1) = R at ih ⊢
      simp +contextual only [w_i_isChain_1, cells_mono h, hi, hl, part_encS hl, e_i_IsStage, h1, wrap_succ (show i < 9223372036854775807 by omega), decide_true, go_sem, entry, joinEsc, if_pos, reduceIte, Nat.reduceAdd, Nat.reduceLeDiff, Nat.reduceLT, Nat.reduceEqDiff]
      exact ih

theorem e_i_isChain {q : Nat} {c : Option Nat} {ls : List Sg} (h : cellsAt H q = some (encS ls)) (hn : ls.length ≤ 9223372036854775806) : call T pr f_i_isChain [slS q ls.length c] ⟨H, e⟩ = some (.bool (chainOk ls), ⟨H, e⟩) := by
  obtain ⟨G', z2, z5, z6, z7, hl⟩ := loop_i_isChain (pr := pr) (e := none) (c := c) h hn ls.length 0 [] .undef .undef .undef rfl
  have h0 : ((0 : Nat) : Int) = 0 := rfl
  have hi : decide (((ls.length : Nat) : Int) ≤ 5) = decide (ls.length ≤ 5) := decide_eq_decide.mpr (by omega)
  rw [h0, List.append_nil, List.drop_zero] at hl
  rw [call_eq t_i_isChain]
  unfold chainOk
  cases h1 : ls.all stageOk <;> rw [h1] at hl <;> simp +contextual only [a_i_isChain, c_i_isChain, hl, hi, go_sem, entry, joinEsc, if_pos, reduceIte, Nat.reduceAdd, Nat.reduceLeDiff, Nat.reduceLT, Nat.reduceEqDiff]

theorem e_i_isChain_none {p : Option (Nat × Nat)} {sz : Nat} {c : Option Nat} : call T pr f_i_isChain [.slice p sz 0 c] ⟨H, e⟩ = some (.bool true, ⟨H, e⟩) := by
  have h0 : ((0 : Nat) : Int) = 0 := rfl
  rw [call_eq t_i_isChain]
  have hl : run T pr (.loop w_i_isChain_1) ⟨[.slice p sz 0 c, .bool false, .undef, .slice p sz 0 c, .int .i64 0, .int .i64 0, .undef, .undef], ⟨H, none⟩⟩ = some (.exit 0, ⟨[.slice p sz 0 c, .bool false, .undef, .slice p sz 0 c, .int .i64 0, .int .i64 0, .bool false, .undef], ⟨H, none⟩⟩) := by
    rw [run_loop]
    generalize run T pr (.loop w_i_isChain_1) = R
    simp +contextual only [w_i_isChain_1, h0, Int.lt_irrefl, decide_false, go_sem, entry, joinEsc, if_pos, reduceIte, Nat.reduceAdd, Nat.reduceLeDiff, Nat.reduceLT, Nat.reduceEqDiff]
  simp +contextual only [a_i_isChain, c_i_isChain, hl, h0, show ((0 : Int) ≤ 5) by omega, decide_true, go_sem, entry, joinEsc, if_pos, reduceIte, Nat.reduceAdd, Nat.reduceLeDiff, Nat.reduceLT, Nat.reduceEqDiff]

theorem loop_s_l7Stages {q : Nat} {c : Option Nat} {ls : List Sg} {x : AV} (h : cellsAt H q = some (encS ls)) (hn : ls.length ≤ 9223372036854775806) :
    ∀ (k i : Nat) (y4 y5 : AV), k + i = ls.length → ∃ (z3 z4 z5 : AV), run T pr (.loop w_s_l7Stages_1) ⟨[slS q ls.length c, x, .bool false, .int .i64 i, y4, y5], ⟨H, e⟩⟩ =
      some (if (ls.drop i).all stageOk = true then Ex.exit 0 else Ex.ret, ⟨[slS q ls.length c, x, .bool false, z3, z4, z5], ⟨H, e⟩⟩)
  | 0, i, y4, y5, hk => by
    have hi : i = ls.length := by omega
    subst hi
    refine ⟨.int .i64 ls.length, .bool false, y5, ?_⟩
    rw [run_loop]
    generalize run T pr (.loop w_s_l7Stages_1) = R
    simp +contextual only [w_s_l7Stages_1, Nat.lt_irrefl, decide_false, List.drop_length, List.all_nil, go_sem, entry, joinEsc, if_pos, reduceIte, Nat.reduceAdd, Nat.reduceLeDiff, Nat.reduceLT, Nat.reduceEqDiff]
  | k + 1, i, y4, y5, hk => by
    have hi : i < ls.length := by omega
    have hl : ls[i]? = some ls[i] := List.getElem?_eq_getElem hi
    rw [run_loop, List.drop_eq_getElem_cons hi, List.all_cons]
    cases h1 : stageOk ls[i] with
    | false =>
      refine ⟨.int .i64 i, .bool true, .bool true, ?_⟩
      generalize run T pr (.loop w_s_l7Stages_1) = R
      simp +contextual only [w_s_l7Stages_1, h, hi, hl, part_encS hl, e_s_l7Stage, h1, decide_true, go_sem, entry, joinEsc, if_pos, reduceIte, Nat.reduceAdd, Nat.reduceLeDiff, Nat.reduceLT, Nat.reduceEqDiff]
    | true =>
      obtain ⟨z3, z4, z5, ih⟩ := loop_s_l7Stages (c := c) (x := x) h hn k (i + 1) (.bool true) (.bool false) (by omega)
      refine ⟨z3, z4, z5, ?_⟩
      generalize run T pr (.loop w_s_l7Stages_1) = R at ih ⊢
      simp +contextual only [w_s_l7Stages_1, h, hi, hl, part_encS hl, e_s_l7Stage, h1, wrap_succ (show i < 9223372036854775807 by omega), decide_true, go_sem, entry, joinEsc, if_pos, reduceIte, Nat.reduceAdd, Nat.reduceLeDiff, Nat.reduceLT, Nat.reduceEqDiff]
      exact ih

theorem e_s_l7Stages {q : Nat} {c : Option Nat} {ls : List Sg} (h : cellsAt H q = some (encS ls)) (hn : ls.length ≤ 9223372036854775806) : call T pr f_s_l7Stages [slS q ls.length c, .int .i64 5] ⟨H, e⟩ = some (.bool (chainOk ls), ⟨H, e⟩) := by
  obtain ⟨z3, z4, z5, hl⟩ := loop_s_l7Stages (pr := pr) (e := none) (c := c) (x := .int .i64 5) h hn ls.length 0 .undef .undef rfl
  have h0 : ((0 : Nat) : Int) = 0 := rfl
  have hi : decide (((ls.length : Nat) : Int) ≤ 5) = decide (ls.length ≤ 5) := decide_eq_decide.mpr (by omega)
  rw [h0, List.drop_zero] at hl
  rw [call_eq t_s_l7Stages]
  unfold chainOk
  cases h1 : ls.all stageOk <;> rw [h1] at hl <;> simp +contextual only [a_s_l7Stages, c_s_l7Stages, hl, hi, go_sem, entry, joinEsc, if_pos, reduceIte, Nat.reduceAdd, Nat.reduceLeDiff, Nat.reduceLT, Nat.reduceEqDiff]

end Go.Proofs.Ytlocjmbfcdfjfaa.Slim
