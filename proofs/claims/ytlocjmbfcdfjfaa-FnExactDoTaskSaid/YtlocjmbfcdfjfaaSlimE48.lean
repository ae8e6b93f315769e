/- Tasks of a stand: DoTask. -/
import Derived.Test.YtlocjmbfcdfjfaaSlimE47
namespace Go.Proofs.Ytlocjmbfcdfjfaa.Slim

open Go

set_option linter.unusedSimpArgs false

set_option linter.unusedVariables false

variable {pr : Prims} {H : List Blk} {e : Option Nat}

def stOk (ls : List Ld) (ss : List Sg) (a b t c : Int) : Bool := rowOk ls && (chainOk ss && restOk a b t c)

theorem isStand_at {ls : List Ld} {ss : List Sg} {n m : Nat} (hn : ls.length = n) (hm : ss.length = m) (hm2 : m ≤ 1048576) (a b t c : Int) {L : List Blk} {q1 q2 : Nat} {c1 c2 : Option Nat} (h1 : cellsAt L q1 = some (encL ls)) (h2 : cellsAt L q2 = some (encS ss)) :
    call T pr f_i_IsStand [stV (slL q1 n c1) a b (slS q2 m c2) t c] ⟨L, e⟩ = some (.bool (stOk ls ss a b t c), ⟨L, e⟩) := by
  subst hn hm
  exact e_i_IsStand (fun G => e_i_IsRow (cells_mono h1 G)) (fun G => e_i_isChain (cells_mono h2 G) (by omega)) a b t c

theorem good_at {ls : List Ld} {ss : List Sg} {n m : Nat} (hn : ls.length = n) (hm : ss.length = m) (hm2 : m ≤ 1048576) (a b t c : Int) {L : List Blk} {q1 q2 : Nat} {c1 c2 : Option Nat} (h1 : cellsAt L q1 = some (encL ls)) (h2 : cellsAt L q2 = some (encS ss)) :
    call T pr f_s_l12Good [stV (slL q1 n c1) a b (slS q2 m c2) t c] ⟨L, e⟩ = some (.bool (stOk ls ss a b t c), ⟨L, e⟩) := by
  subst hn hm
  exact e_s_l12Good (fun G => e_s_l2Row (cells_mono h1 G)) (fun G => e_s_l7Stages (cells_mono h2 G) (by omega)) a b t c

theorem tipSide_at {ls : List Ld} {n : Nat} (hn : ls.length = n) (hn2 : n ≤ 1048576) (a b : Int) {L : List Blk} {q1 : Nat} {c1 : Option Nat} (h1 : cellsAt L q1 = some (encL ls)) :
    call T pr f_i_tipSide [slL q1 n c1, .int .i64 a, .int .i64 b] ⟨L, e⟩ = some (.int .i64 (sideW ls a b), ⟨L, e⟩) := by
  subst hn
  exact e_i_tipSide h1 (by omega) a b

theorem l2Side_at {ls : List Ld} {n : Nat} (hn : ls.length = n) (hn2 : n ≤ 1048576) (a b : Int) {L : List Blk} {q1 : Nat} {c1 : Option Nat} (h1 : cellsAt L q1 = some (encL ls)) :
    call T pr f_s_l2Side [slL q1 n c1, .int .i64 a, .int .i64 b] ⟨L, e⟩ = some (.int .i64 (sideW ls a b), ⟨L, e⟩) := by
  subst hn
  exact e_s_l2Side h1 (by omega) a b

abbrev noStand : AV := stV (.slice none 0 0 none) 0 0 (.slice none 0 0 none) 0 0

/-- can a task of a valid stand be made? -/
def doOk (ls : List Ld) (ss : List Sg) (a b t c k x y z : Int) : Bool := mayT ls ss k x y z && stOk (rowT ls k x y) (chainT ss k x y z) (baseA a k x) (baseA b k y) t (wr (c + 1))

/-- how often the row did not stand behind a task -/
def tipsT (ls : List Ld) (a b t k x y : Int) : Int := if decide (sideW (rowT ls k x y) (baseA a k x) (baseA b k y) = 0) = true then t else wr (t + 1)

/-- what the call of a task returns -/
def doRes (H : List Blk) (e : Option Nat) (ok : Bool) (ls : List Ld) (ss : List Sg) (a b t c : Int) : Option (AV × Mem) :=
  if ok = true then some (.tup [stV (slL H.length ls.length none) a b (slS (H.length + 1) ss.length none) t c, .bool true], ⟨H ++ [.cells (encL ls) true, .cells (encS ss) true], e⟩)
  else some (.tup [noStand, .bool false], ⟨H, e⟩)

theorem rowT_length (ls : List Ld) (k x y : Int) : (rowT ls k x y).length ≤ ls.length + 1 := by
  unfold rowT
  split
  · simp
  · split
    · have := List.length_eraseIdx_le ls x.toNat; omega
    · split
      · rw [movd_length]; omega
      · omega

theorem chainT_length (ss : List Sg) (k x y z : Int) : (chainT ss k x y z).length ≤ ss.length + 1 := by
  unfold chainT
  split
  · simp
  · split
    · have := List.length_eraseIdx_le ss x.toNat; omega
    · omega

theorem e_s_l12Do {q1 q2 : Nat} {c1 c2 : Option Nat} {ls : List Ld} {ss : List Sg} (h1 : cellsAt H q1 = some (encL ls)) (h2 : cellsAt H q2 = some (encS ss)) (hn : ls.length ≤ 1048575) (hm : ss.length ≤ 1048575) (a b t c k x y z : Int) :
    call T pr f_s_l12Do [stV (slL q1 ls.length c1) a b (slS q2 ss.length c2) t c, tkV k x y z] ⟨H, e⟩ =
      doRes H e (doOk ls ss a b t c k x y z) (rowT ls k x y) (chainT ss k x y z) (baseA a k x) (baseA b k y) (tipsT ls a b t k x y) (wr (c + 1)) := by
  have hfN : ∀ (G : List Blk) (e0 e1 : Option Nat), clean H.length e1 = true → finish 2 H.length e0 (.tup [noStand, .bool false]) ⟨H ++ G, e1⟩ = some (.tup [noStand, .bool false], ⟨H, e0⟩) :=
    fun G e0 e1 hc => finish_standN 0 0 0 0 false e0 e1 hc
  have hmay := fun G => e_s_l12May (pr := pr) (H := H ++ G) (e := none) (p1 := some (q1, 0)) (p2 := some (q2, 0)) (s1 := 2) (s2 := 3) (c1 := c1) (c2 := c2) (ls := ls) (ss := ss) (by omega) (by omega) a b t c k x y z
  rw [call_eq t_s_l12Do]
  unfold doRes doOk tipsT
  cases hk : mayT ls ss k x y z with
  | false =>
    rw [hk] at hmay
    simp +contextual only [a_s_l12Do, c_s_l12Do, fillParts, hmay, hfN, under_sliceN, clean_minEsc, clean_none, Nat.le_add_right, decide_true, go_sem, entry, joinEsc, if_pos, reduceIte, Nat.reduceAdd, Nat.reduceLeDiff, Nat.reduceLT, Nat.reduceEqDiff]
  | true =>
    rw [hk] at hmay
    have hmk := fun G => e_s_l12Make (pr := pr) (H := H ++ G) (e := none) (c1 := c1) (c2 := c2) (cells_mono h1 G) (cells_mono h2 G) hn hm a b t c k x y z hk
    have hr1 := rowT_length ls k x y
    have hc1 := chainT_length ss k x y z
    generalize rowT ls k x y = ls' at hmk hr1 ⊢
    generalize chainT ss k x y z = ss' at hmk hc1 ⊢
    generalize baseA a k x = a' at hmk ⊢
    generalize baseA b k y = b' at hmk ⊢
    have hgood := fun L q1 q2 c1 c2 h1 h2 => good_at (pr := pr) (e := none) (L := L) (q1 := q1) (q2 := q2) (c1 := c1) (c2 := c2) (ls := ls') (ss := ss') rfl rfl (by omega) a' b' t (wr (c + 1)) h1 h2
    have hside := fun L q1 c1 h1 => l2Side_at (pr := pr) (e := none) (L := L) (q1 := q1) (c1 := c1) (ls := ls') rfl (by omega) a' b' h1
    have hf : ∀ (B0 B1 B2 B5 : Blk) (t' c' : Int) (e0 e1 : Option Nat), clean H.length e1 = true → finish 2 H.length e0 (.tup [stV (slL (H.length + 3) ls'.length none) a' b' (slS (H.length + 4) ss'.length none) t' c', .bool true]) ⟨H ++ [B0, B1, B2, .cells (encL ls') true, .cells (encS ss') true, B5], e1⟩ =
        some (.tup [stV (slL H.length ls'.length none) a' b' (slS (H.length + 1) ss'.length none) t' c', .bool true], ⟨H ++ [.cells (encL ls') true, .cells (encS ss') true], e0⟩) :=
      fun B0 B1 B2 B5 t' c' e0 e1 hc => finish_standB a' b' t' c' true e0 e1 hc rfl rfl (by decide) (under_encL _ _) (under_encS _ _)
    unfold wr at *
    cases hg : stOk ls' ss' a' b' t (IntKind.i64.wrap (c + 1)) with
    | false =>
      rw [hg] at hgood
      simp +contextual only [a_s_l12Do, c_s_l12Do, fillParts, hmay, hmk, hgood, hfN, under_slice, under_sliceN, Nat.add_assoc, Nat.add_lt_add_iff_left, Nat.lt_irrefl, decide_false, clean_minEsc, clean_none, Nat.le_add_right, Nat.le_refl, decide_true, go_sem, entry, joinEsc, if_pos, reduceIte, Nat.reduceAdd, Nat.reduceLeDiff, Nat.reduceLT, Nat.reduceEqDiff]
    | true =>
      rw [hg] at hgood
      by_cases ht : sideW ls' a' b' = 0
      · rw [ht] at hside
        simp +contextual only [a_s_l12Do, c_s_l12Do, fillParts, hmay, hmk, hgood, hside, ht, hf, under_slice, under_sliceN, Nat.add_assoc, Nat.add_lt_add_iff_left, Nat.lt_irrefl, not_true_eq_false, decide_false, clean_minEsc, clean_none, Nat.le_add_right, Nat.le_refl, decide_true, go_sem, entry, joinEsc, if_pos, reduceIte, Nat.reduceAdd, Nat.reduceLeDiff, Nat.reduceLT, Nat.reduceEqDiff]
      · simp +contextual only [a_s_l12Do, c_s_l12Do, fillParts, hmay, hmk, hgood, hside, ht, hf, under_slice, under_sliceN, Nat.add_assoc, Nat.add_lt_add_iff_left, Nat.lt_irrefl, not_false_eq_true, decide_false, clean_minEsc, clean_none, Nat.le_add_right, Nat.le_refl, decide_true, go_sem, entry, joinEsc, if_pos, reduceIte, Nat.reduceAdd, Nat.reduceLeDiff, Nat.reduceLT, Nat.reduceEqDiff]

end Go.Proofs.Ytlocjmbfcdfjfaa.Slim
