/- New consoles; the law. -/
import Derived.Test.YtlocjmbfcdfjfaaSlimZ9
/- New consoles; the law. -/
namespace Go.Proofs.Ytlocjmbfcdfjfaa.Slim

open Go

set_option linter.unusedSimpArgs false

set_option linter.unusedVariables false

variable {pr : Prims} {H : List Blk} {e : Option Nat}

/-- a console with an empty log -/
abbrev csV (row : AV) (a b : Int) (chain : AV) (t k : Int) : AV := .agg [row, .int .i64 a, .int .i64 b, chain, .int .i64 t, .int .i64 k, .str ⟨#[]⟩, .str ⟨#[]⟩, .int .i64 0]

theorem finish_consoleB {G : List Blk} {j1 j2 n1 n2 : Nat} {c1 c2 : Option Nat} {cs1 cs2 : List AV} {w1 w2 : Bool} (a b t k : Int) (x : Bool) (e0 e1 : Option Nat) (hc : clean H.length e1 = true) (h1 : G[j1]? = some (.cells cs1 w1)) (h2 : G[j2]? = some (.cells cs2 w2)) (hne : j1 ≠ j2)
    (u1 : (cs1.all fun c => c.under H.length) = true) (u2 : (cs2.all fun c => c.under H.length) = true) :
    finish 2 H.length e0 (.tup [csV (slL (H.length + j1) n1 c1) a b (slS (H.length + j2) n2 c2) t k, .bool x]) ⟨H ++ G, e1⟩ = some (.tup [csV (slL H.length n1 c1) a b (slS (H.length + 1) n2 c2) t k, .bool x], ⟨H ++ [.cells cs1 w1, .cells cs2 w2], e0⟩) := by
  have hlt1 : ¬ H.length + j1 < H.length := by omega
  have hlt2 : ¬ H.length + j2 < H.length := by omega
  have hne' : ¬ H.length + j2 = H.length + j1 := by omega
  have hr : dedup (AV.roots H.length (.tup [csV (slL (H.length + j1) n1 c1) a b (slS (H.length + j2) n2 c2) t k, .bool x])) = [H.length + j1, H.length + j2] := by
    simp only [AV.roots, AV.roots.go, if_neg hlt1, if_neg hlt2, List.nil_append, List.cons_append, List.append_nil]
    simp [dedup, hne', hne, Ne.symm hne]
  have hb1 : (H ++ G)[H.length + j1]? = some (.cells cs1 w1) := by rw [List.getElem?_append_right (by omega)]; simpa using h1
  have hb2 : (H ++ G)[H.length + j2]? = some (.cells cs2 w2) := by rw [List.getElem?_append_right (by omega)]; simpa using h2
  unfold finish
  simp only [hr]
  have h3 : ([H.length + j1, H.length + j2].all fun b => flatBlk H.length (H ++ G)[b]?) = true := by
    simp only [List.all_cons, List.all_nil, Bool.and_true, hb1, hb2, flatBlk, u1, u2, Bool.and_self]
  simp only [hc, h3, and_self, if_true]
  have hq : (H.length + j1 == H.length + j2) = false := by simpa using hne
  simp [AV.rename, AV.rename.go, renum, hb1, hb2, List.idxOf_cons]
  refine ⟨fun h => by omega, ?_⟩
  rw [if_neg hlt2, hq]
  rfl

theorem finish_consoleN {G : List Blk} {s1 s2 n1 n2 : Nat} {c1 c2 : Option Nat} (a b t k : Int) (x : Bool) (e0 e1 : Option Nat) (hc : clean H.length e1 = true) :
    finish 2 H.length e0 (.tup [csV (.slice none s1 n1 c1) a b (.slice none s2 n2 c2) t k, .bool x]) ⟨H ++ G, e1⟩ = some (.tup [csV (.slice none s1 n1 c1) a b (.slice none s2 n2 c2) t k, .bool x], ⟨H, e0⟩) := by
  have hr : dedup (AV.roots H.length (.tup [csV (.slice none s1 n1 c1) a b (.slice none s2 n2 c2) t k, .bool x])) = [] := rfl
  unfold finish
  simp only [hr]
  simp [AV.rename, AV.rename.go, hc]

theorem fill_console (row chain : AV) (a b t k : Int) (g : X → AV) (x : X) (hx : g x = stV row a b chain t k) : fillParts g [.slice none 0 0 none, .int .i64 (0), .int .i64 (0), .slice none 0 0 none, .int .i64 (0), .int .i64 (0), .str ⟨#[]⟩, .str ⟨#[]⟩, .int .i64 (0)] [(0, 6, x)] = some [row, .int .i64 a, .int .i64 b, chain, .int .i64 t, .int .i64 k, .str ⟨#[]⟩, .str ⟨#[]⟩, .int .i64 0] := by
  unfold fillParts fillParts
  rw [hx]
  rfl

theorem e_i_NewConsole {q1 q2 : Nat} {c1 c2 : Option Nat} {ls : List Ld} {ss : List Sg} (h1 : cellsAt H q1 = some (encL ls)) (h2 : cellsAt H q2 = some (encS ss)) (hn : ls.length ≤ 1048576) (hm : ss.length ≤ 1048576) (a b t k : Int) (hok : (rowOk ls && (chainOk ss && restOk a b t k)) = true) :
    call T pr f_i_NewConsole [stV (slL q1 ls.length c1) a b (slS q2 ss.length c2) t k] ⟨H, e⟩ = some (.tup [csV (slL H.length ls.length none) a b (slS (H.length + 1) ss.length none) t k, .bool true], ⟨H ++ [.cells (encL ls) true, .cells (encS ss) true], e⟩) := by
  have his : ∀ G, call T pr f_i_IsStand [stV (slL q1 ls.length c1) a b (slS q2 ss.length c2) t k] ⟨H ++ G, none⟩ = some (.bool (rowOk ls && (chainOk ss && restOk a b t k)), ⟨H ++ G, none⟩) :=
    fun G => e_i_IsStand (fun X => by rw [List.append_assoc]; exact e_i_IsRow (cells_mono h1 _)) (fun X => by rw [List.append_assoc]; exact e_i_isChain (cells_mono h2 _) (by omega)) a b t k
  have hf : ∀ (B0 B1 : Blk) (e0 e1 : Option Nat), clean H.length e1 = true → finish 2 H.length e0 (.tup [csV (slL (H.length + 2) ls.length none) a b (slS (H.length + 3) ss.length none) t k, .bool true]) ⟨H ++ [B0, B1, .cells (encL ls) true, .cells (encS ss) true], e1⟩ = some (.tup [csV (slL H.length ls.length none) a b (slS (H.length + 1) ss.length none) t k, .bool true], ⟨H ++ [.cells (encL ls) true, .cells (encS ss) true], e0⟩) :=
    fun B0 B1 e0 e1 hc => finish_consoleB a b t k true e0 e1 hc rfl rfl (by decide) (under_encL _ _) (under_encS _ _)
  rw [call_eq t_i_NewConsole]
  simp +contextual only [a_i_NewConsole, c_i_NewConsole, his, hok, e_i_copyStand (cells_mono h1 _) (cells_mono h2 _) hn hm, fillParts, hf, under_slice, Nat.add_assoc, Nat.add_lt_add_iff_left, Nat.lt_irrefl, decide_false, clean_minEsc, clean_none, Nat.le_add_right, Nat.le_refl, decide_true, go_sem, entry, joinEsc, if_pos, reduceIte, Nat.reduceAdd, Nat.reduceLeDiff, Nat.reduceLT, Nat.reduceEqDiff]

theorem e_s_NewConsole {q1 q2 : Nat} {c1 c2 : Option Nat} {ls : List Ld} {ss : List Sg} (h1 : cellsAt H q1 = some (encL ls)) (h2 : cellsAt H q2 = some (encS ss)) (hn : ls.length ≤ 1048576) (hm : ss.length ≤ 1048576) (a b t k : Int) (hok : (rowOk ls && (chainOk ss && restOk a b t k)) = true) :
    call T pr f_s_NewConsole [stV (slL q1 ls.length c1) a b (slS q2 ss.length c2) t k] ⟨H, e⟩ = some (.tup [csV (slL H.length ls.length none) a b (slS (H.length + 1) ss.length none) t k, .bool true], ⟨H ++ [.cells (encL ls) true, .cells (encS ss) true], e⟩) := by
  have his : ∀ G, call T pr f_s_l12Good [stV (slL q1 ls.length c1) a b (slS q2 ss.length c2) t k] ⟨H ++ G, none⟩ = some (.bool (rowOk ls && (chainOk ss && restOk a b t k)), ⟨H ++ G, none⟩) :=
    fun G => e_s_l12Good (fun X => by rw [List.append_assoc]; exact e_s_l2Row (cells_mono h1 _)) (fun X => by rw [List.append_assoc]; exact e_s_l7Stages (cells_mono h2 _) (by omega)) a b t k
  have hf : ∀ (B0 B1 : Blk) (e0 e1 : Option Nat), clean H.length e1 = true → finish 2 H.length e0 (.tup [csV (slL (H.length + 2) ls.length none) a b (slS (H.length + 3) ss.length none) t k, .bool true]) ⟨H ++ [B0, B1, .cells (encL ls) true, .cells (encS ss) true], e1⟩ = some (.tup [csV (slL H.length ls.length none) a b (slS (H.length + 1) ss.length none) t k, .bool true], ⟨H ++ [.cells (encL ls) true, .cells (encS ss) true], e0⟩) :=
    fun B0 B1 e0 e1 hc => finish_consoleB a b t k true e0 e1 hc rfl rfl (by decide) (under_encL _ _) (under_encS _ _)
  rw [call_eq t_s_NewConsole]
  simp +contextual only [a_s_NewConsole, c_s_NewConsole, his, hok, e_s_l12Own (cells_mono h1 _) (cells_mono h2 _) hn hm, fillParts, hf, under_slice, Nat.add_assoc, Nat.add_lt_add_iff_left, Nat.lt_irrefl, decide_false, clean_minEsc, clean_none, Nat.le_add_right, Nat.le_refl, decide_true, go_sem, entry, joinEsc, if_pos, reduceIte, Nat.reduceAdd, Nat.reduceLeDiff, Nat.reduceLT, Nat.reduceEqDiff]

theorem e_i_NewConsole_no {q1 q2 : Nat} {c1 c2 : Option Nat} {ls : List Ld} {ss : List Sg} (h1 : cellsAt H q1 = some (encL ls)) (h2 : cellsAt H q2 = some (encS ss)) (hm : ss.length ≤ 1048576) (a b t k : Int) (hok : (rowOk ls && (chainOk ss && restOk a b t k)) = false) :
    call T pr f_i_NewConsole [stV (slL q1 ls.length c1) a b (slS q2 ss.length c2) t k] ⟨H, e⟩ = some (.tup [csV (.slice none 0 0 none) 0 0 (.slice none 0 0 none) 0 0, .bool false], ⟨H, e⟩) := by
  have his : ∀ G, call T pr f_i_IsStand [stV (slL q1 ls.length c1) a b (slS q2 ss.length c2) t k] ⟨H ++ G, none⟩ = some (.bool (rowOk ls && (chainOk ss && restOk a b t k)), ⟨H ++ G, none⟩) :=
    fun G => e_i_IsStand (fun X => by rw [List.append_assoc]; exact e_i_IsRow (cells_mono h1 _)) (fun X => by rw [List.append_assoc]; exact e_i_isChain (cells_mono h2 _) (by omega)) a b t k
  rw [call_eq t_i_NewConsole]
  simp +contextual only [a_i_NewConsole, c_i_NewConsole, his, hok, fillParts, finish_consoleN, under_sliceN, clean_none, go_sem, entry, joinEsc, if_pos, reduceIte, Nat.reduceAdd, Nat.reduceLeDiff, Nat.reduceLT, Nat.reduceEqDiff]

theorem e_s_NewConsole_no {q1 q2 : Nat} {c1 c2 : Option Nat} {ls : List Ld} {ss : List Sg} (h1 : cellsAt H q1 = some (encL ls)) (h2 : cellsAt H q2 = some (encS ss)) (hm : ss.length ≤ 1048576) (a b t k : Int) (hok : (rowOk ls && (chainOk ss && restOk a b t k)) = false) :
    call T pr f_s_NewConsole [stV (slL q1 ls.length c1) a b (slS q2 ss.length c2) t k] ⟨H, e⟩ = some (.tup [csV (.slice none 0 0 none) 0 0 (.slice none 0 0 none) 0 0, .bool false], ⟨H, e⟩) := by
  have his : ∀ G, call T pr f_s_l12Good [stV (slL q1 ls.length c1) a b (slS q2 ss.length c2) t k] ⟨H ++ G, none⟩ = some (.bool (rowOk ls && (chainOk ss && restOk a b t k)), ⟨H ++ G, none⟩) :=
    fun G => e_s_l12Good (fun X => by rw [List.append_assoc]; exact e_s_l2Row (cells_mono h1 _)) (fun X => by rw [List.append_assoc]; exact e_s_l7Stages (cells_mono h2 _) (by omega)) a b t k
  rw [call_eq t_s_NewConsole]
  simp +contextual only [a_s_NewConsole, c_s_NewConsole, his, hok, fillParts, finish_consoleN, under_sliceN, clean_none, go_sem, entry, joinEsc, if_pos, reduceIte, Nat.reduceAdd, Nat.reduceLeDiff, Nat.reduceLT, Nat.reduceEqDiff]

theorem e_l_eqConsole {r1 r2 c1 c2 : AV} (h1 : ∀ G, call T pr f_l_eqLoadS [r1, r2] ⟨H ++ G, none⟩ = some (.bool true, ⟨H ++ G, none⟩)) (h2 : ∀ G, call T pr f_l_eqStageS [c1, c2] ⟨H ++ G, none⟩ = some (.bool true, ⟨H ++ G, none⟩)) (a b t k : Int) :
    call T pr f_l_eqConsole [csV r1 a b c1 t k, csV r2 a b c2 t k] ⟨H, e⟩ = some (.bool true, ⟨H, e⟩) := by
  have hs : ∀ G, call T pr f_l_eqStand [stV r1 a b c1 t k, stV r2 a b c2 t k] ⟨H ++ G, none⟩ = some (.bool true, ⟨H ++ G, none⟩) :=
    fun G => e_l_eqStand (fun X => by rw [List.append_assoc]; exact h1 _) (fun X => by rw [List.append_assoc]; exact h2 _) a b t k
  have hl : ∀ L, call T pr f_l_eqLog [.agg [.str ⟨#[]⟩, .str ⟨#[]⟩, .int .i64 0], .agg [.str ⟨#[]⟩, .str ⟨#[]⟩, .int .i64 0]] ⟨L, none⟩ = some (.bool true, ⟨L, none⟩) := by
    intro L
    rw [call_eq t_l_eqLog]
    simp +contextual only [a_l_eqLog, c_l_eqLog, decide_true, go_sem, entry, joinEsc, if_pos, reduceIte, Nat.reduceAdd, Nat.reduceLeDiff, Nat.reduceLT, Nat.reduceEqDiff]
  rw [call_eq t_l_eqConsole]
  simp +contextual only [a_l_eqConsole, c_l_eqConsole, hs, hl, go_sem, entry, joinEsc, if_pos, reduceIte, Nat.reduceAdd, Nat.reduceLeDiff, Nat.reduceLT, Nat.reduceEqDiff]

theorem e_l_markConsole_none {p1 p2 : Option (Nat × Nat)} {s1 s2 : Nat} {c1 c2 : Option Nat} (a b t k x : Int) : call T pr f_l_markConsole [csV (.slice p1 s1 0 c1) a b (.slice p2 s2 0 c2) t k, .int .i64 x] ⟨H, e⟩ = some (.int .i64 x, ⟨H, e⟩) := by
  rw [call_eq t_l_markConsole]
  simp +contextual only [a_l_markConsole, c_l_markConsole, e_l_markStand_none, go_sem, entry, joinEsc, if_pos, reduceIte, Nat.reduceAdd, Nat.reduceLeDiff, Nat.reduceLT, Nat.reduceEqDiff]

theorem e_l_heldConsole_none {p1 p2 : Option (Nat × Nat)} {s1 s2 : Nat} {c1 c2 : Option Nat} (a b t k x : Int) (hx : 0 ≤ x) : call T pr f_l_heldConsole [csV (.slice p1 s1 0 c1) a b (.slice p2 s2 0 c2) t k, .int .i64 x] ⟨H, e⟩ = some (.int .i64 x, ⟨H, e⟩) := by
  have h : ¬ (x < 0) := by omega
  rw [call_eq t_l_heldConsole]
  simp +contextual only [a_l_heldConsole, c_l_heldConsole, e_l_heldStand_none _ _ _ _ _ hx, h, decide_false, go_sem, entry, joinEsc, if_pos, reduceIte, Nat.reduceAdd, Nat.reduceLeDiff, Nat.reduceLT, Nat.reduceEqDiff]

theorem markMem_app {L X : List Blk} {q1 q2 n m x : Nat} (h1 : q1 < L.length) (h2 : q2 < L.length) : markMem (L ++ X) q1 q2 n m x = markMem L q1 q2 n m x ++ X := by
  unfold markMem
  rw [set_left h1, set_left (by rw [List.length_set]; exact h2)]

theorem markMem_length (L : List Blk) (q1 q2 n m x : Nat) : (markMem L q1 q2 n m x).length = L.length := by unfold markMem; simp

theorem e_l_markConsole {L : List Blk} {q1 q2 : Nat} {c1 c2 : Option Nat} {ls : List Ld} {ss : List Sg} (h1 : L[q1]? = some (.cells (encL ls) true)) (h2 : L[q2]? = some (.cells (encS ss) true)) (hne : q1 ≠ q2) (hn : ls.length ≤ 1048576) (hm : ss.length ≤ 1048576) (a b t k : Int) (x : Nat) (hx : x ≤ 4194304) :
    call T pr f_l_markConsole [csV (slL q1 ls.length c1) a b (slS q2 ss.length c2) t k, .int .i64 x] ⟨L, e⟩ = some (.int .i64 ((x + ls.length * 2 + ss.length * 3 : Nat) : Int), ⟨markMem L q1 q2 ls.length ss.length x, e⟩) := by
  have l1 := (List.getElem?_eq_some_iff.mp h1).1
  have l2 := (List.getElem?_eq_some_iff.mp h2).1
  have hM : ∀ X, call T pr f_l_markStand [stV (slL q1 ls.length c1) a b (slS q2 ss.length c2) t k, .int .i64 x] ⟨L ++ X, none⟩ = some (.int .i64 ((x + ls.length * 2 + ss.length * 3 : Nat) : Int), ⟨markMem L q1 q2 ls.length ss.length x ++ X, none⟩) := fun X => by
    rw [← markMem_app l1 l2]
    exact e_l_markStand (by rw [List.getElem?_append_left l1]; exact h1) (by rw [List.getElem?_append_left l2]; exact h2) hne hn hm a b t k x hx
  rw [call_eq t_l_markConsole]
  simp +contextual only [a_l_markConsole, c_l_markConsole, hM, finish_one_len _ _ (markMem_length L q1 q2 ls.length ss.length x), go_sem, entry, joinEsc, if_pos, reduceIte, Nat.reduceAdd, Nat.reduceLeDiff, Nat.reduceLT, Nat.reduceEqDiff]

theorem e_l_heldConsole {L : List Blk} {q1 q2 n m : Nat} {c1 c2 : Option Nat} {x : Nat} (h1 : cellsAt L q1 = some (encL (markedL x n))) (h2 : cellsAt L q2 = some (encS (markedS (x + n * 2) m))) (hn : n ≤ 1048576) (hm : m ≤ 1048576) (a b t k : Int) (hx : x ≤ 4194304) :
    call T pr f_l_heldConsole [csV (slL q1 n c1) a b (slS q2 m c2) t k, .int .i64 x] ⟨L, e⟩ = some (.int .i64 ((x + n * 2 + m * 3 : Nat) : Int), ⟨L, e⟩) := by
  have hs := fun X => e_l_heldStand (pr := pr) (e := none) (c1 := c1) (c2 := c2) (cells_mono h1 X) (cells_mono h2 X) hn hm a b t k hx
  have h4 : ¬ (((x + n * 2 + m * 3 : Nat) : Int) < 0) := by omega
  rw [call_eq t_l_heldConsole]
  simp +contextual only [a_l_heldConsole, c_l_heldConsole, hs, h4, decide_false, go_sem, entry, joinEsc, if_pos, reduceIte, Nat.reduceAdd, Nat.reduceLeDiff, Nat.reduceLT, Nat.reduceEqDiff]

theorem markMem_new {l : List Blk} {k1 k2 n m x : Nat} : markMem (H ++ l) (H.length + k1) (H.length + k2) n m x = H ++ (l.set k1 (.cells (encL (markedL x n)) true)).set k2 (.cells (encS (markedS (x + n * 2) m)) true) := by
  unfold markMem
  rw [set_newk, set_newk]

theorem law_NewConsole {row chain : AV} {ls : List Ld} {ss : List Sg} (ha : ArgL H row ls) (hs : ArgS H chain ss) (a b t k : Int) : ∃ m', call T pr f_l_FnExactNewConsole [stV row a b chain t k] ⟨H, none⟩ = some (.bool true, m') := by
  refine ⟨⟨H, none⟩, ?_⟩
  have hsz : ∀ G e', call T pr f_l_szStand [stV row a b chain t k, .int .i64 1048576] ⟨G, e'⟩ = some (.int .i64 (if ls.length + ss.length ≤ 1048576 then 1048576 - ((ls.length + ss.length : Nat) : Int) else -1), ⟨G, e'⟩) := by
    obtain ⟨p, sz, c, rfl, h2, h3⟩ := ha
    obtain ⟨p', sz', c', rfl, h2', h3'⟩ := hs
    exact fun G e' => e_l_szStand h2 h2' a b t k
  rw [call_eq t_l_FnExactNewConsole]
  by_cases hn : ls.length + ss.length ≤ 1048576
  · have hneg : ¬ (1048576 - ((ls.length + ss.length : Nat) : Int) < 0) := by omega
    have hto := fun G => e_l_toStand (pr := pr) (e := none) (ha.more G) (hs.more G) (by omega) (by omega) a b t k
    have hn1 : ls.length ≤ 1048576 := by omega
    have hm1 : ss.length ≤ 1048576 := by omega
    have heq : ∀ L q1 q2 k1 k2 q3 q4 k3 k4, cellsAt L q1 = some (encL ls) → cellsAt L q2 = some (encL ls) → cellsAt L q3 = some (encS ss) → cellsAt L q4 = some (encS ss) → call T pr f_l_eqStand [stV (slL q1 ls.length k1) a b (slS q3 ss.length k3) t k, stV (slL q2 ls.length k2) a b (slS q4 ss.length k4) t k] ⟨L, none⟩ = some (.bool true, ⟨L, none⟩) :=
      fun L q1 q2 k1 k2 q3 q4 k3 k4 h1 h2 h3 h4 => e_l_eqStand (fun G => e_l_eqLoadS (cells_mono h1 G) (cells_mono h2 G) (by omega)) (fun G => e_l_eqStageS (cells_mono h3 G) (cells_mono h4 G) (by omega)) a b t k
    have hmark : ∀ L q1 q2 c1 c2, q1 ≠ q2 → L[q1]? = some (.cells (encL ls) true) → L[q2]? = some (.cells (encS ss) true) → call T pr f_l_markStand [stV (slL q1 ls.length c1) a b (slS q2 ss.length c2) t k, .int .i64 1] ⟨L, none⟩ = some (.int .i64 ((1 + ls.length * 2 + ss.length * 3 : Nat) : Int), ⟨markMem L q1 q2 ls.length ss.length 1, none⟩) :=
      fun L q1 q2 c1 c2 hne h1 h2 => e_l_markStand h1 h2 hne hn1 hm1 a b t k 1 (by omega)
    have hk0 : ¬ (((1 + ls.length * 2 + ss.length * 3 : Nat) : Int) < 0) := by omega
    have hk0' : ¬ (((1 + (ls.length * 2 + ss.length * 3) : Nat) : Int) < 0) := by omega
    have h10 : ¬ ((1 : Int) < 0) := by omega
    have hne1 : ∀ k1 k2 : Nat, k1 ≠ k2 → H.length + k1 ≠ H.length + k2 := fun k1 k2 h h' => h (by omega)
    cases hok : (rowOk ls && (chainOk ss && restOk a b t k)) with
    | false =>
      have hsi := fun L q q' c c' h1 h2 => e_s_NewConsole_no (pr := pr) (H := L) (e := none) (q1 := q) (q2 := q') (c1 := c) (c2 := c') (ls := ls) (ss := ss) h1 h2 hm1 a b t k hok
      have hii := fun L q q' c c' h1 h2 => e_i_NewConsole_no (pr := pr) (H := L) (e := none) (q1 := q) (q2 := q') (c1 := c) (c2 := c') (ls := ls) (ss := ss) h1 h2 hm1 a b t k hok
      have heqc := fun L p1 p2 p3 p4 s1 s2 s3 s4 k1 k2 k3 k4 x y z w => e_l_eqConsole (pr := pr) (H := L) (e := none) (r1 := .slice p1 s1 0 k1) (r2 := .slice p2 s2 0 k2) (c1 := .slice p3 s3 0 k3) (c2 := .slice p4 s4 0 k4) (fun G => e_l_eqLoadS_none) (fun G => e_l_eqStageS_none) x y z w
      have hheld := fun L p1 p2 s1 s2 c1 c2 x y z w => e_l_heldConsole_none (pr := pr) (H := L) (e := none) (p1 := p1) (p2 := p2) (s1 := s1) (s2 := s2) (c1 := c1) (c2 := c2) x y z w 1 (by omega)
      simp +contextual only [a_l_FnExactNewConsole, c_l_FnExactNewConsole, hsz, hn, hneg, hto, hsi, hii, heq, heqc, hheld, e_l_markConsole_none, hmark, hk0, hk0', h10, markMem_new, ne_eq, Nat.add_right_inj, Nat.add_left_cancel_iff, Nat.reduceEqDiff, not_false_eq_true, under_slice, under_sliceN, Nat.add_assoc, Nat.add_lt_add_iff_left, Nat.lt_add_right_iff_pos, decide_true, decide_false, beq_self_eq_true, go_sem, entry, joinEsc, if_pos, reduceIte, Nat.reduceAdd, Nat.reduceLeDiff, Nat.reduceLT, Nat.reduceEqDiff]
    | true =>
      have hsi := fun L q q' c c' h1 h2 => e_s_NewConsole (pr := pr) (H := L) (e := none) (q1 := q) (q2 := q') (c1 := c) (c2 := c') (ls := ls) (ss := ss) h1 h2 hn1 hm1 a b t k hok
      have hii := fun L q q' c c' h1 h2 => e_i_NewConsole (pr := pr) (H := L) (e := none) (q1 := q) (q2 := q') (c1 := c) (c2 := c') (ls := ls) (ss := ss) h1 h2 hn1 hm1 a b t k hok
      have heqc : ∀ L q1 q2 k1 k2 q3 q4 k3 k4, cellsAt L q1 = some (encL ls) → cellsAt L q2 = some (encL ls) → cellsAt L q3 = some (encS ss) → cellsAt L q4 = some (encS ss) → call T pr f_l_eqConsole [csV (slL q1 ls.length k1) a b (slS q3 ss.length k3) t k, csV (slL q2 ls.length k2) a b (slS q4 ss.length k4) t k] ⟨L, none⟩ = some (.bool true, ⟨L, none⟩) :=
        fun L q1 q2 k1 k2 q3 q4 k3 k4 h1 h2 h3 h4 => e_l_eqConsole (fun G => e_l_eqLoadS (cells_mono h1 G) (cells_mono h2 G) (by omega)) (fun G => e_l_eqStageS (cells_mono h3 G) (cells_mono h4 G) (by omega)) a b t k
      have hmarkc : ∀ L q1 q2 c1 c2, q1 ≠ q2 → L[q1]? = some (.cells (encL ls) true) → L[q2]? = some (.cells (encS ss) true) → call T pr f_l_markConsole [csV (slL q1 ls.length c1) a b (slS q2 ss.length c2) t k, .int .i64 1] ⟨L, none⟩ = some (.int .i64 ((1 + ls.length * 2 + ss.length * 3 : Nat) : Int), ⟨markMem L q1 q2 ls.length ss.length 1, none⟩) :=
        fun L q1 q2 c1 c2 hne h1 h2 => e_l_markConsole h1 h2 hne hn1 hm1 a b t k 1 (by omega)
      have hheld : ∀ L q1 q2 c1 c2, cellsAt L q1 = some (encL (markedL 1 ls.length)) → cellsAt L q2 = some (encS (markedS (1 + ls.length * 2) ss.length)) → call T pr f_l_heldConsole [csV (slL q1 ls.length c1) a b (slS q2 ss.length c2) t k, .int .i64 1] ⟨L, none⟩ = some (.int .i64 ((1 + ls.length * 2 + ss.length * 3 : Nat) : Int), ⟨L, none⟩) :=
        fun L q1 q2 c1 c2 h1 h2 => e_l_heldConsole (x := 1) h1 h2 hn1 hm1 a b t k (by omega)
      simp +contextual only [a_l_FnExactNewConsole, c_l_FnExactNewConsole, hsz, hn, hneg, hto, hsi, hii, heq, heqc, hheld, hmarkc, hmark, hk0, hk0', h10, markMem_new, ne_eq, Nat.add_right_inj, Nat.add_left_cancel_iff, Nat.reduceEqDiff, not_false_eq_true, under_slice, under_sliceN, Nat.add_assoc, Nat.add_lt_add_iff_left, Nat.lt_add_right_iff_pos, decide_true, decide_false, beq_self_eq_true, go_sem, entry, joinEsc, if_pos, reduceIte, Nat.reduceAdd, Nat.reduceLeDiff, Nat.reduceLT, Nat.reduceEqDiff]
  · simp +contextual only [a_l_FnExactNewConsole, c_l_FnExactNewConsole, hsz, hn, decide_true, show ((-1 : Int) < 0) by omega, go_sem, entry, joinEsc, if_pos, reduceIte, Nat.reduceAdd, Nat.reduceLeDiff, Nat.reduceLT, Nat.reduceEqDiff]

end Go.Proofs.Ytlocjmbfcdfjfaa.Slim
