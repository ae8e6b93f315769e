/- New stands, and the first laws of stands. -/
import Derived.Test.YtlocjmbfcdfjfaaSlimE29
namespace Go.Proofs.Ytlocjmbfcdfjfaa.Slim

open Go

set_option linter.unusedSimpArgs false

set_option linter.unusedVariables false

variable {pr : Prims} {H : List Blk} {e : Option Nat}

theorem e_l_eqStand {r1 r2 c1 c2 : AV} (h1 : ∀ G, call T pr f_l_eqLoadS [r1, r2] ⟨H ++ G, none⟩ = some (.bool true, ⟨H ++ G, none⟩)) (h2 : ∀ G, call T pr f_l_eqStageS [c1, c2] ⟨H ++ G, none⟩ = some (.bool true, ⟨H ++ G, none⟩)) (a b t k : Int) :
    call T pr f_l_eqStand [stV r1 a b c1 t k, stV r2 a b c2 t k] ⟨H, e⟩ = some (.bool true, ⟨H, e⟩) := by
  rw [call_eq t_l_eqStand]
  simp +contextual only [a_l_eqStand, c_l_eqStand, h1, h2, decide_true, go_sem, entry, joinEsc, if_pos, reduceIte, Nat.reduceAdd, Nat.reduceLeDiff, Nat.reduceLT, Nat.reduceEqDiff]

theorem e_l_markStand_none {p1 p2 : Option (Nat × Nat)} {s1 s2 : Nat} {c1 c2 : Option Nat} (a b t k x : Int) : call T pr f_l_markStand [stV (.slice p1 s1 0 c1) a b (.slice p2 s2 0 c2) t k, .int .i64 x] ⟨H, e⟩ = some (.int .i64 x, ⟨H, e⟩) := by
  rw [call_eq t_l_markStand]
  simp +contextual only [a_l_markStand, c_l_markStand, e_l_markLoadS_none, e_l_markStageS_none, go_sem, entry, joinEsc, if_pos, reduceIte, Nat.reduceAdd, Nat.reduceLeDiff, Nat.reduceLT, Nat.reduceEqDiff]

theorem e_l_heldStand_none {p1 p2 : Option (Nat × Nat)} {s1 s2 : Nat} {c1 c2 : Option Nat} (a b t k x : Int) (hx : 0 ≤ x) : call T pr f_l_heldStand [stV (.slice p1 s1 0 c1) a b (.slice p2 s2 0 c2) t k, .int .i64 x] ⟨H, e⟩ = some (.int .i64 x, ⟨H, e⟩) := by
  have h : ¬ (x < 0) := by omega
  rw [call_eq t_l_heldStand]
  simp +contextual only [a_l_heldStand, c_l_heldStand, e_l_heldLoadS_none, e_l_heldStageS_none, h, decide_false, go_sem, entry, joinEsc, if_pos, reduceIte, Nat.reduceAdd, Nat.reduceLeDiff, Nat.reduceLT, Nat.reduceEqDiff]

theorem append_nil0 {L : List Blk} {b : Nat} (sz bytes : Nat) (h : L[b]? = some (.cells [] true)) : appendV L e false sz bytes (.slice (some (b, 0)) sz 0 (some 0)) (.slice none 0 0 none) = some (.slice (some (L.length, 0)) sz 0 none, ⟨L.set b .dead ++ [.cells [] true], e⟩) := by
  unfold appendV
  simp [h, srcCells]

theorem e_s_l12Own_nil (a b t k : Int) : call T pr f_s_l12Own [stV (.slice none 0 0 none) a b (.slice none 0 0 none) t k] ⟨H, e⟩ =
    some (stV (slL H.length 0 none) a b (slS (H.length + 1) 0 none) t k, ⟨H ++ [.cells [] true, .cells [] true], e⟩) := by
  have hf : ∀ (B0 B1 B2 B3 B5 : Blk) (e0 e1 : Option Nat), clean H.length e1 = true → finish 2 H.length e0 (stV (slL (H.length + 4) 0 none) a b (slS (H.length + 6) 0 none) t k) ⟨H ++ [B0, B1, B2, B3, .cells [] true, B5, .cells [] true], e1⟩ = some (stV (slL H.length 0 none) a b (slS (H.length + 1) 0 none) t k, ⟨H ++ [.cells [] true, .cells [] true], e0⟩) :=
    fun B0 B1 B2 B3 B5 e0 e1 hc => finish_stand a b t k e0 e1 hc rfl rfl (by decide) rfl rfl
  rw [call_eq t_s_l12Own]
  simp +contextual only [a_s_l12Own, c_s_l12Own, fillParts, append_nil0, hf, under_slice, under_sliceN, Nat.add_assoc, Nat.add_lt_add_iff_left, Nat.lt_irrefl, decide_false, clean_minEsc, clean_none, Nat.le_add_right, Nat.le_refl, decide_true, go_sem, entry, joinEsc, if_pos, reduceIte, Nat.reduceAdd, Nat.reduceLeDiff, Nat.reduceLT, Nat.reduceEqDiff]

theorem e_s_NewStand_yes (a b : Int) (h : baseOk a b = true) : call T pr f_s_NewStand [.int .i64 a, .int .i64 b] ⟨H, e⟩ =
    some (.tup [stV (slL H.length 0 none) a b (slS (H.length + 1) 0 none) 0 0, .bool true], ⟨H ++ [.cells [] true, .cells [] true], e⟩) := by
  have hf : ∀ (B0 : Blk) (e0 e1 : Option Nat), clean H.length e1 = true → finish 2 H.length e0 (.tup [stV (slL (H.length + 1) 0 none) a b (slS (H.length + 2) 0 none) 0 0, .bool true]) ⟨H ++ [B0, .cells [] true, .cells [] true], e1⟩ = some (.tup [stV (slL H.length 0 none) a b (slS (H.length + 1) 0 none) 0 0, .bool true], ⟨H ++ [.cells [] true, .cells [] true], e0⟩) :=
    fun B0 e0 e1 hc => finish_standB a b 0 0 true e0 e1 hc rfl rfl (by decide) rfl rfl
  rw [call_eq t_s_NewStand]
  simp +contextual only [a_s_NewStand, c_s_NewStand, e_s_l2Base, h, fillParts, e_s_l12Own_nil, hf, under_slice, under_sliceN, Nat.add_assoc, Nat.add_lt_add_iff_left, Nat.lt_irrefl, decide_false, clean_minEsc, clean_none, Nat.le_add_right, Nat.le_refl, decide_true, go_sem, entry, joinEsc, if_pos, reduceIte, Nat.reduceAdd, Nat.reduceLeDiff, Nat.reduceLT, Nat.reduceEqDiff]

theorem e_s_NewStand_no (a b : Int) (h : baseOk a b = false) : call T pr f_s_NewStand [.int .i64 a, .int .i64 b] ⟨H, e⟩ =
    some (.tup [stV (.slice none 0 0 none) 0 0 (.slice none 0 0 none) 0 0, .bool false], ⟨H, e⟩) := by
  rw [call_eq t_s_NewStand]
  simp +contextual only [a_s_NewStand, c_s_NewStand, e_s_l2Base, h, fillParts, finish_standN, under_sliceN, clean_none, go_sem, entry, joinEsc, if_pos, reduceIte, Nat.reduceAdd, Nat.reduceLeDiff, Nat.reduceLT, Nat.reduceEqDiff]

theorem e_i_NewStand (a b : Int) : call T pr f_i_NewStand [.int .i64 a, .int .i64 b] ⟨H, e⟩ =
    some (if baseOk a b = true then .tup [stV (.slice none 0 0 none) a b (.slice none 0 0 none) 0 0, .bool true] else .tup [stV (.slice none 0 0 none) 0 0 (.slice none 0 0 none) 0 0, .bool false], ⟨H, e⟩) := by
  have hs := fun L => e_i_IsStand (pr := pr) (H := L) (e := none) (row := .slice none 0 0 none) (chain := .slice none 0 0 none) (x := true) (y := true) (fun G => e_i_IsRow_none) (fun G => e_i_isChain_none) a b 0 0
  have hro : restOk a b 0 0 = baseOk a b := by simp [restOk]
  simp only [Bool.true_and, hro] at hs
  rw [call_eq t_i_NewStand]
  cases h : baseOk a b with
  | false => simp +contextual only [a_i_NewStand, c_i_NewStand, hs, h, fillParts, setRange_0, setRange_k, setRange_nil, finish_standN, under_sliceN, clean_none, go_sem, entry, joinEsc, if_pos, reduceIte, Nat.reduceAdd, Nat.reduceLeDiff, Nat.reduceLT, Nat.reduceEqDiff]
  | true => simp +contextual only [a_i_NewStand, c_i_NewStand, hs, h, fillParts, setRange_0, setRange_k, setRange_nil, finish_standN, under_sliceN, clean_none, go_sem, entry, joinEsc, if_pos, reduceIte, Nat.reduceAdd, Nat.reduceLeDiff, Nat.reduceLT, Nat.reduceEqDiff]

theorem law_NewStand (a b : Int) : ∃ m', call T pr f_l_FnExactNewStand [.int .i64 a, .int .i64 b] ⟨H, none⟩ = some (.bool true, m') := by
  refine ⟨⟨H, none⟩, ?_⟩
  have h10 : ¬ ((1 : Int) < 0) := by omega
  have heq := fun L p1 p2 p3 p4 s1 s2 s3 s4 k1 k2 k3 k4 x y z w => e_l_eqStand (pr := pr) (H := L) (e := none) (r1 := .slice p1 s1 0 k1) (r2 := .slice p2 s2 0 k2) (c1 := .slice p3 s3 0 k3) (c2 := .slice p4 s4 0 k4) (fun G => e_l_eqLoadS_none) (fun G => e_l_eqStageS_none) x y z w
  have hheld := fun L p1 p2 s1 s2 c1 c2 x y z w => e_l_heldStand_none (pr := pr) (H := L) (e := none) (p1 := p1) (p2 := p2) (s1 := s1) (s2 := s2) (c1 := c1) (c2 := c2) x y z w 1 (by omega)
  rw [call_eq t_l_FnExactNewStand]
  cases h : baseOk a b with
  | false =>
    have hi := fun L => e_i_NewStand (pr := pr) (H := L) (e := none) a b
    simp only [h, Bool.false_eq_true, if_false] at hi
    simp +contextual only [a_l_FnExactNewStand, c_l_FnExactNewStand, e_s_NewStand_no a b h, hi, heq, hheld, e_l_markStand_none, h10, under_slice, under_sliceN, decide_true, decide_false, beq_self_eq_true, go_sem, entry, joinEsc, if_pos, reduceIte, Nat.reduceAdd, Nat.reduceLeDiff, Nat.reduceLT, Nat.reduceEqDiff]
  | true =>
    have hi := fun L => e_i_NewStand (pr := pr) (H := L) (e := none) a b
    simp only [h, if_true] at hi
    simp +contextual only [a_l_FnExactNewStand, c_l_FnExactNewStand, e_s_NewStand_yes a b h, hi, heq, hheld, e_l_markStand_none, h10, under_slice, under_sliceN, Nat.add_assoc, Nat.add_lt_add_iff_left, Nat.lt_add_right_iff_pos, decide_true, decide_false, beq_self_eq_true, go_sem, entry, joinEsc, if_pos, reduceIte, Nat.reduceAdd, Nat.reduceLeDiff, Nat.reduceLT, Nat.reduceEqDiff]

/-- a stand, as a law is handed it -/
theorem law_IsStand {row chain : AV} {ls : List Ld} {ss : List Sg} (ha : ArgL H row ls) (hs : ArgS H chain ss) (a b t k : Int) : ∃ m', call T pr f_l_FnExactIsStand [stV row a b chain t k] ⟨H, none⟩ = some (.bool true, m') := by
  refine ⟨⟨H, none⟩, ?_⟩
  have hsz : ∀ G e', call T pr f_l_szStand [stV row a b chain t k, .int .i64 1048576] ⟨G, e'⟩ = some (.int .i64 (if ls.length + ss.length ≤ 1048576 then 1048576 - ((ls.length + ss.length : Nat) : Int) else -1), ⟨G, e'⟩) := by
    obtain ⟨p, sz, c, rfl, h2, h3⟩ := ha
    obtain ⟨p', sz', c', rfl, h2', h3'⟩ := hs
    exact fun G e' => e_l_szStand h2 h2' a b t k
  rw [call_eq t_l_FnExactIsStand]
  by_cases hn : ls.length + ss.length ≤ 1048576
  · have hneg : ¬ (1048576 - ((ls.length + ss.length : Nat) : Int) < 0) := by omega
    have hto := fun G => e_l_toStand (pr := pr) (e := none) (ha.more G) (hs.more G) (by omega) (by omega) a b t k
    have hsi : ∀ L q q' c c', cellsAt L q = some (encL ls) → cellsAt L q' = some (encS ss) → call T pr f_s_IsStand [stV (slL q ls.length c) a b (slS q' ss.length c') t k] ⟨L, none⟩ = some (.bool (rowOk ls && (chainOk ss && restOk a b t k)), ⟨L, none⟩) :=
      fun L q q' c c' h1 h2 => e_s_IsStand (fun G => e_s_l2Row (cells_mono h1 G)) (fun G => e_s_l7Stages (cells_mono h2 G) (by omega)) a b t k
    have hii : ∀ L q q' c c', cellsAt L q = some (encL ls) → cellsAt L q' = some (encS ss) → call T pr f_i_IsStand [stV (slL q ls.length c) a b (slS q' ss.length c') t k] ⟨L, none⟩ = some (.bool (rowOk ls && (chainOk ss && restOk a b t k)), ⟨L, none⟩) :=
      fun L q q' c c' h1 h2 => e_i_IsStand (fun G => e_i_IsRow (cells_mono h1 G)) (fun G => e_i_isChain (cells_mono h2 G) (by omega)) a b t k
    have heq : ∀ L q1 q2 k1 k2 q3 q4 k3 k4, cellsAt L q1 = some (encL ls) → cellsAt L q2 = some (encL ls) → cellsAt L q3 = some (encS ss) → cellsAt L q4 = some (encS ss) → call T pr f_l_eqStand [stV (slL q1 ls.length k1) a b (slS q3 ss.length k3) t k, stV (slL q2 ls.length k2) a b (slS q4 ss.length k4) t k] ⟨L, none⟩ = some (.bool true, ⟨L, none⟩) :=
      fun L q1 q2 k1 k2 q3 q4 k3 k4 h1 h2 h3 h4 => e_l_eqStand (fun G => e_l_eqLoadS (cells_mono h1 G) (cells_mono h2 G) (by omega)) (fun G => e_l_eqStageS (cells_mono h3 G) (cells_mono h4 G) (by omega)) a b t k
    simp +contextual only [a_l_FnExactIsStand, c_l_FnExactIsStand, hsz, hn, hneg, hto, hsi, hii, heq, under_slice, under_sliceN, Nat.add_assoc, Nat.add_lt_add_iff_left, Nat.lt_add_right_iff_pos, decide_true, decide_false, beq_self_eq_true, go_sem, entry, joinEsc, if_pos, reduceIte, Nat.reduceAdd, Nat.reduceLeDiff, Nat.reduceLT, Nat.reduceEqDiff]
  · simp +contextual only [a_l_FnExactIsStand, c_l_FnExactIsStand, hsz, hn, decide_true, show ((-1 : Int) < 0) by omega, go_sem, entry, joinEsc, if_pos, reduceIte, Nat.reduceAdd, Nat.reduceLeDiff, Nat.reduceLT, Nat.reduceEqDiff]

end Go.Proofs.Ytlocjmbfcdfjfaa.Slim
