/- Tasks of a stand: the functions. -/
import Derived.Test.YtlocjmbfcdfjfaaSlimE46
namespace Go.Proofs.Ytlocjmbfcdfjfaa.Slim

open Go

set_option linter.unusedSimpArgs false

set_option linter.unusedVariables false

variable {pr : Prims} {H : List Blk} {e : Option Nat}

theorem e_s_l12Make {q1 q2 : Nat} {c1 c2 : Option Nat} {ls : List Ld} {ss : List Sg} (h1 : cellsAt H q1 = some (encL ls)) (h2 : cellsAt H q2 = some (encS ss)) (hn : ls.length ≤ 1048575) (hm : ss.length ≤ 1048575) (a b t c k x y z : Int) (hk : mayT ls ss k x y z = true) :
    call T pr f_s_l12Make [stV (slL q1 ls.length c1) a b (slS q2 ss.length c2) t c, tkV k x y z] ⟨H, e⟩ =
      some (stV (slL H.length (rowT ls k x y).length none) (baseA a k x) (baseA b k y) (slS (H.length + 1) (chainT ss k x y z).length none) t c, ⟨H ++ [.cells (encL (rowT ls k x y)) true, .cells (encS (chainT ss k x y z)) true], e⟩) := by
  have hown := fun G => e_s_l12Own (pr := pr) (e := none) (c1 := c1) (c2 := c2) (cells_mono h1 G) (cells_mono h2 G) (by omega) (by omega) a b t c
  rw [call_eq t_s_l12Make]
  unfold mayT at hk
  unfold rowT chainT baseA
  by_cases k1 : k = 1
  · subst k1
    have happ := fun L b q c e' (hb : L[b]? = some (.cells (encL ls) true)) hq => append_gen (e := e') (L := L) (b := b) (q := q) (n := ls.length) (sz := 2) (bytes := 16) (c := c) (cs := encL ls) (new := [.int .i64 x, .int .i64 y]) hb hq (encL_length ls) rfl (by unfold maxBytes; omega)
    have hap2 : encL ls ++ [AV.int .i64 x, .int .i64 y] = encL (ls ++ [(x, y)]) := by rw [encL_append]; rfl
    have hf : ∀ (B0 B1 B2 B3 B5 B6 : Blk) (e0 e1 : Option Nat), clean H.length e1 = true → finish 2 H.length e0 (stV (slL (H.length + 7) (ls.length + 1) none) a b (slS (H.length + 4) ss.length none) t c) ⟨H ++ [B0, B1, B2, B3, .cells (encS ss) true, B5, B6, .cells (encL (ls ++ [(x, y)])) true], e1⟩ =
        some (stV (slL H.length (ls.length + 1) none) a b (slS (H.length + 1) ss.length none) t c, ⟨H ++ [.cells (encL (ls ++ [(x, y)])) true, .cells (encS ss) true], e0⟩) :=
      fun B0 B1 B2 B3 B5 B6 e0 e1 hc => finish_stand a b t c e0 e1 hc rfl rfl (by decide) (under_encL _ _) (under_encS _ _)
    simp +contextual only [a_s_l12Make, c_s_l12Make, fillParts, hown, happ, hap2, hf, under_slice, Nat.add_assoc, Nat.add_lt_add_iff_left, Nat.lt_irrefl, decide_true, decide_false, clean_minEsc, clean_none, Nat.le_add_right, Nat.le_refl, Int.reduceEq, go_sem, entry, joinEsc, if_pos, reduceIte, Nat.reduceAdd, Nat.reduceLeDiff, Nat.reduceLT, Nat.reduceEqDiff]
  by_cases k2 : k = 2
  · subst k2
    simp only [show ¬ ((2 : Int) = 1) by omega, show ¬ ((2 : Int) = 4) by omega, or_self, if_false, if_true, Bool.and_eq_true, decide_eq_true_eq] at hk
    obtain ⟨i, rfl⟩ : ∃ i : Nat, x = i := ⟨x.toNat, by omega⟩
    have hi : i < ls.length := by omega
    have hi1 : i ≤ ls.length := by omega
    have hi2 : i + 1 ≤ ls.length := by omega
    have happ := fun L b e' (hb : L[b]? = some (.cells (encL ls) true)) => append_del (e := e') (L := L) (b := b) (n := ls.length) (sz := 2) (bytes := 16) (i := i) (cs := encL ls) hb (encL_length ls) hi (by unfold maxBytes; omega)
    have hel : (ls.eraseIdx i).length = ls.length - 1 := by rw [List.length_eraseIdx, if_pos hi]
    have hf : ∀ (B0 B1 B2 B3 B5 : Blk) (e0 e1 : Option Nat), clean H.length e1 = true → finish 2 H.length e0 (stV (slL (H.length + 6) (ls.length - 1) none) a b (slS (H.length + 4) ss.length none) t c) ⟨H ++ [B0, B1, B2, B3, .cells (encS ss) true, B5, .cells (encL (ls.eraseIdx i)) true], e1⟩ =
        some (stV (slL H.length (ls.length - 1) none) a b (slS (H.length + 1) ss.length none) t c, ⟨H ++ [.cells (encL (ls.eraseIdx i)) true, .cells (encS ss) true], e0⟩) :=
      fun B0 B1 B2 B3 B5 e0 e1 hc => finish_stand a b t c e0 e1 hc rfl rfl (by decide) (under_encL _ _) (under_encS _ _)
    simp +contextual only [a_s_l12Make, c_s_l12Make, fillParts, aop_sliceHi, aop_sliceLo, sliceHiV_at, sliceLoV_at, hi1, hi2, hown, happ, encL_erase, hel, hf, wrap_succ (show i < 9223372036854775807 by omega), under_slice, Nat.add_assoc, Nat.add_lt_add_iff_left, Nat.lt_irrefl, decide_true, decide_false, clean_minEsc, clean_none, Nat.le_add_right, Nat.le_refl, Int.reduceEq, go_sem, entry, joinEsc, if_pos, reduceIte, Nat.reduceAdd, Nat.reduceLeDiff, Nat.reduceLT, Nat.reduceEqDiff]
  by_cases k3 : k = 3
  · subst k3
    simp only [show ¬ ((3 : Int) = 1) by omega, show ¬ ((3 : Int) = 2) by omega, show ¬ ((3 : Int) = 4) by omega, or_self, if_false, if_true, Bool.and_eq_true, decide_eq_true_eq] at hk
    obtain ⟨i, rfl⟩ : ∃ i : Nat, x = i := ⟨x.toNat, by omega⟩
    have hi : i < ls.length := by omega
    have hle : i * 2 + 1 ≤ (encL ls).length := by rw [encL_length]; omega
    have hle2 : i * 2 + 2 ≤ (encL ls).length := by rw [encL_length]; omega
    have hf : ∀ (B0 B1 B2 B5 : Blk) (e0 e1 : Option Nat), clean H.length e1 = true → finish 2 H.length e0 (stV (slL (H.length + 3) ls.length none) a b (slS (H.length + 4) ss.length none) t c) ⟨H ++ [B0, B1, B2, .cells (encL (movd ls i y)) true, .cells (encS ss) true, B5], e1⟩ =
        some (stV (slL H.length ls.length none) a b (slS (H.length + 1) ss.length none) t c, ⟨H ++ [.cells (encL (movd ls i y)) true, .cells (encS ss) true], e0⟩) :=
      fun B0 B1 B2 B5 e0 e1 hc => finish_stand a b t c e0 e1 hc rfl rfl (by decide) (under_encL _ _) (under_encS _ _)
    simp +contextual only [a_s_l12Make, c_s_l12Make, fillParts, hown, hi, hle, hle2, setRange_movd y hi, movd_length, hf, under_slice, Nat.add_assoc, Nat.add_lt_add_iff_left, Nat.lt_irrefl, decide_true, decide_false, clean_minEsc, clean_none, Nat.le_add_right, Nat.le_refl, Int.reduceEq, go_sem, entry, joinEsc, if_pos, reduceIte, Nat.reduceAdd, Nat.reduceLeDiff, Nat.reduceLT, Nat.reduceEqDiff]
  by_cases k4 : k = 4
  · subst k4
    have hf : ∀ (B0 B1 B2 B5 : Blk) (e0 e1 : Option Nat), clean H.length e1 = true → finish 2 H.length e0 (stV (slL (H.length + 3) ls.length none) x y (slS (H.length + 4) ss.length none) t c) ⟨H ++ [B0, B1, B2, .cells (encL ls) true, .cells (encS ss) true, B5], e1⟩ =
        some (stV (slL H.length ls.length none) x y (slS (H.length + 1) ss.length none) t c, ⟨H ++ [.cells (encL ls) true, .cells (encS ss) true], e0⟩) :=
      fun B0 B1 B2 B5 e0 e1 hc => finish_stand x y t c e0 e1 hc rfl rfl (by decide) (under_encL _ _) (under_encS _ _)
    simp +contextual only [a_s_l12Make, c_s_l12Make, fillParts, hown, hf, under_slice, Nat.add_assoc, Nat.add_lt_add_iff_left, Nat.lt_irrefl, decide_true, decide_false, clean_minEsc, clean_none, Nat.le_add_right, Nat.le_refl, Int.reduceEq, go_sem, entry, joinEsc, if_pos, reduceIte, Nat.reduceAdd, Nat.reduceLeDiff, Nat.reduceLT, Nat.reduceEqDiff]
  by_cases k5 : k = 5
  · subst k5
    have happ := fun L b q c e' (hb : L[b]? = some (.cells (encS ss) true)) hq => append_gen (e := e') (L := L) (b := b) (q := q) (n := ss.length) (sz := 3) (bytes := 24) (c := c) (cs := encS ss) (new := [.int .i64 x, .int .i64 y, .int .i64 z]) hb hq (encS_length ss) rfl (by unfold maxBytes; omega)
    have hap2 : encS ss ++ [AV.int .i64 x, .int .i64 y, .int .i64 z] = encS (ss ++ [(x, y, z)]) := by rw [encS_append]; rfl
    have hf : ∀ (B0 B1 B2 B4 B5 B6 : Blk) (e0 e1 : Option Nat), clean H.length e1 = true → finish 2 H.length e0 (stV (slL (H.length + 3) ls.length none) a b (slS (H.length + 7) (ss.length + 1) none) t c) ⟨H ++ [B0, B1, B2, .cells (encL ls) true, B4, B5, B6, .cells (encS (ss ++ [(x, y, z)])) true], e1⟩ =
        some (stV (slL H.length ls.length none) a b (slS (H.length + 1) (ss.length + 1) none) t c, ⟨H ++ [.cells (encL ls) true, .cells (encS (ss ++ [(x, y, z)])) true], e0⟩) :=
      fun B0 B1 B2 B4 B5 B6 e0 e1 hc => finish_stand a b t c e0 e1 hc rfl rfl (by decide) (under_encL _ _) (under_encS _ _)
    simp +contextual only [a_s_l12Make, c_s_l12Make, fillParts, hown, happ, hap2, hf, under_slice, Nat.add_assoc, Nat.add_lt_add_iff_left, Nat.lt_irrefl, decide_true, decide_false, clean_minEsc, clean_none, Nat.le_add_right, Nat.le_refl, Int.reduceEq, go_sem, entry, joinEsc, if_pos, reduceIte, Nat.reduceAdd, Nat.reduceLeDiff, Nat.reduceLT, Nat.reduceEqDiff]
  by_cases k6 : k = 6
  · subst k6
    simp only [show ¬ ((6 : Int) = 1) by omega, show ¬ ((6 : Int) = 2) by omega, show ¬ ((6 : Int) = 3) by omega, show ¬ ((6 : Int) = 4) by omega, or_self, if_false, if_true, Bool.and_eq_true, decide_eq_true_eq] at hk
    obtain ⟨i, rfl⟩ : ∃ i : Nat, x = i := ⟨x.toNat, by omega⟩
    have hi : i < ss.length := by omega
    have hi1 : i ≤ ss.length := by omega
    have hi2 : i + 1 ≤ ss.length := by omega
    have happ := fun L b e' (hb : L[b]? = some (.cells (encS ss) true)) => append_del (e := e') (L := L) (b := b) (n := ss.length) (sz := 3) (bytes := 24) (i := i) (cs := encS ss) hb (encS_length ss) hi (by unfold maxBytes; omega)
    have hel : (ss.eraseIdx i).length = ss.length - 1 := by rw [List.length_eraseIdx, if_pos hi]
    have hf : ∀ (B0 B1 B2 B4 B5 : Blk) (e0 e1 : Option Nat), clean H.length e1 = true → finish 2 H.length e0 (stV (slL (H.length + 3) ls.length none) a b (slS (H.length + 6) (ss.length - 1) none) t c) ⟨H ++ [B0, B1, B2, .cells (encL ls) true, B4, B5, .cells (encS (ss.eraseIdx i)) true], e1⟩ =
        some (stV (slL H.length ls.length none) a b (slS (H.length + 1) (ss.length - 1) none) t c, ⟨H ++ [.cells (encL ls) true, .cells (encS (ss.eraseIdx i)) true], e0⟩) :=
      fun B0 B1 B2 B4 B5 e0 e1 hc => finish_stand a b t c e0 e1 hc rfl rfl (by decide) (under_encL _ _) (under_encS _ _)
    simp +contextual only [a_s_l12Make, c_s_l12Make, fillParts, aop_sliceHi, aop_sliceLo, sliceHiV_at, sliceLoV_at, hi1, hi2, hown, happ, encS_erase, hel, hf, wrap_succ (show i < 9223372036854775807 by omega), under_slice, Nat.add_assoc, Nat.add_lt_add_iff_left, Nat.lt_irrefl, decide_true, decide_false, clean_minEsc, clean_none, Nat.le_add_right, Nat.le_refl, Int.reduceEq, go_sem, entry, joinEsc, if_pos, reduceIte, Nat.reduceAdd, Nat.reduceLeDiff, Nat.reduceLT, Nat.reduceEqDiff]
  simp [k1, k2, k3, k4, k5, k6] at hk

end Go.Proofs.Ytlocjmbfcdfjfaa.Slim
