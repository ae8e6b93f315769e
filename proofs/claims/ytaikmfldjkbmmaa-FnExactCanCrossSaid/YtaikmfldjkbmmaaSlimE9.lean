/- Convoys, told whole; crossing. -/
import Derived.Test.YtaikmfldjkbmmaaSlimE8
namespace Go.Proofs.Ytaikmfldjkbmmaa.Slim
open Go
set_option linter.unusedSimpArgs false
set_option linter.unusedVariables false

variable {pr : Prims} {H : List Blk} {e : Option Nat}

/-- a convoy -/
def convOk (ls : List Ld) : Bool := cvAll none ls && ((decide (1 ≤ ls.length) && decide (ls.length ≤ 6)) && (match ls with | [] => false | l :: _ => decide (l.1 = 0)))

theorem e_s_l6Convoy {q : Nat} {c : Option Nat} {ls : List Ld} (h : cellsAt H q = some (encL ls)) (hn : ls.length ≤ 1048576) : call T pr f_s_l6Convoy [slL q ls.length c] ⟨H, e⟩ = some (.bool (convOk ls), ⟨H, e⟩) := by
  obtain ⟨z2, z3, z4, hl⟩ := loop_s_l6Convoy (pr := pr) (e := none) (c := c) h hn ls.length 0 .undef .undef rfl
  have h0 : ((0 : Nat) : Int) = 0 := rfl
  rw [h0, List.drop_zero] at hl
  rw [call_eq t_s_l6Convoy]
  unfold convOk
  have hp : prevAt ls 0 = none := rfl
  rw [hp] at hl
  cases h1 : cvAll none ls with
  | false =>
    rw [h1] at hl
    simp +contextual only [a_s_l6Convoy, c_s_l6Convoy, hl, go_sem, entry, joinEsc, if_pos, Nat.reduceAdd, Nat.reduceLeDiff, Nat.reduceLT, Nat.reduceEqDiff, reduceIte]
  | true =>
    rw [h1] at hl
    cases ls with
    | nil =>
      have hx : ¬ (1 : Int) ≤ ((([] : List Ld).length : Nat) : Int) := by simp
      generalize ([] : List Ld).length = N at *
      simp +contextual only [a_s_l6Convoy, c_s_l6Convoy, hl, e_s_l1In, hx, decide_false, go_sem, entry, joinEsc, if_pos, Nat.reduceAdd, Nat.reduceLeDiff, Nat.reduceLT, Nat.reduceEqDiff, reduceIte]
    | cons l ls =>
      have hl0 : (l :: ls)[0]? = some l := rfl
      have g0 := part_encL0 (ls := l :: ls) (i := 0) 1 hl0
      rw [Nat.zero_mul] at g0
      have hpos : (0 : Int) < (((l :: ls).length : Nat) : Int) := by simp only [List.length_cons]; omega
      have hnn : (0 : Int) ≤ 0 := Int.le_refl 0
      have htn : (0 : Int).toNat = 0 := rfl
      generalize hN : (l :: ls).length = N at *
      have e1 : decide ((1 : Int) ≤ (N : Int)) = decide (1 ≤ N) := decide_eq_decide.mpr (by omega)
      have e2 : decide ((N : Int) ≤ 6) = decide (N ≤ 6) := decide_eq_decide.mpr (by omega)
      simp +contextual only [a_s_l6Convoy, c_s_l6Convoy, hl, h, e_s_l1In, hpos, hnn, htn, Nat.zero_mul, g0, e1, e2, go_sem, entry, joinEsc, if_pos, Nat.reduceAdd, Nat.reduceLeDiff, Nat.reduceLT, Nat.reduceEqDiff, reduceIte]

def cvOkI (prev : Option Int) (l : Ld) : Bool := ((decide (0 ≤ l.1) && decide (l.1 ≤ 20)) && (decide (1 ≤ l.2) && decide (l.2 ≤ 99))) && (match prev with | none => decide (l.1 = 0) | some p => decide (p ≤ l.1))
def cvAllI (prev : Option Int) : List Ld → Bool
  | [] => true
  | l :: ls => cvOkI prev l && cvAllI (some l.1) ls

theorem cvAllI_some (p : Int) : ∀ ls, cvAllI (some p) ls = cvAll (some p) ls
  | [] => rfl
  | l :: ls => by simp only [cvAllI, cvAll, cvOkI, cvOk, cvAllI_some l.1 ls]

theorem convOk_eq (ls : List Ld) : convOk ls = (cvAllI none ls && (decide (1 ≤ ls.length) && decide (ls.length ≤ 6))) := by
  unfold convOk
  cases ls with
  | nil => simp
  | cons l ls =>
    simp only [cvAll, cvAllI, cvOk, cvOkI, cvAllI_some]
    cases decide (l.1 = 0) <;> cases (decide (0 ≤ l.1) && decide (l.1 ≤ 20)) <;> cases (decide (1 ≤ l.2) && decide (l.2 ≤ 99)) <;> simp

theorem loop_i_IsConvoy {q : Nat} {c : Option Nat} {ls : List Ld} (h : cellsAt H q = some (encL ls)) (hn : ls.length ≤ 1048576) :
    ∀ (k i : Nat) (G : List Blk) (y2 y3 y7 y8 : AV), k + i = ls.length → ∃ (G' : List Blk) (z2 z3 z6 z7 z8 : AV), run T pr (.loop w_i_IsConvoy_1) ⟨[slL q ls.length c, .bool false, y2, y3, slL q ls.length c, .int .i64 ls.length, .int .i64 i, y7, y8], ⟨H ++ G, e⟩⟩ =
      some (if cvAllI (prevAt ls i) (ls.drop i) = true then Ex.exit 0 else Ex.ret, ⟨[slL q ls.length c, .bool false, z2, z3, slL q ls.length c, .int .i64 ls.length, z6, z7, z8], ⟨H ++ G', e⟩⟩)
  | 0, i, G, y2, y3, y7, y8, hk => by
    have hi : i = ls.length := by omega
    subst hi
    refine ⟨G, y2, y3, .int .i64 ls.length, .bool false, y8, ?_⟩
    rw [run_loop]
    generalize run T pr (.loop w_i_IsConvoy_1) = R
    simp +contextual only [w_i_IsConvoy_1, Nat.lt_irrefl, decide_false, List.drop_length, cvAllI, go_sem, entry, joinEsc, if_pos, Nat.reduceAdd, Nat.reduceLeDiff, Nat.reduceLT, Nat.reduceEqDiff, reduceIte]
  | k + 1, i, G, y2, y3, y7, y8, hk => by
    have hi : i < ls.length := by omega
    have hl : ls[i]? = some ls[i] := List.getElem?_eq_getElem hi
    obtain ⟨G', z2, z3, z6, z7, z8, ih⟩ := loop_i_IsConvoy (c := c) h hn k (i + 1) (G ++ [.cells [.int .i64 ls[i].1, .int .i64 ls[i].2] true]) (.int .i64 i) (.ptr (some (H.length + G.length, 0))) (.bool true) (.bool false) (by omega)
    have hp : prevAt ls (i + 1) = some ls[i].1 := by simp [prevAt, hl]
    rw [hp] at ih
    rw [run_loop, List.drop_eq_getElem_cons hi, cvAllI]
    generalize run T pr (.loop w_i_IsConvoy_1) = R at ih ⊢
    unfold cvOkI
    cases h1 : (decide (0 ≤ ls[i].1) && decide (ls[i].1 ≤ 20)) with
    | false =>
      refine ⟨G ++ [.cells [.int .i64 ls[i].1, .int .i64 ls[i].2] true], .int .i64 i, .ptr (some (H.length + G.length, 0)), .int .i64 i, .bool true, .bool true, ?_⟩
      simp +contextual only [w_i_IsConvoy_1, cells_mono h, hi, hl, h1, part_encL hl, e_i_within, e_i_isWeight, decide_true, go_sem, entry, joinEsc, if_pos, Nat.reduceAdd, Nat.reduceLeDiff, Nat.reduceLT, Nat.reduceEqDiff, reduceIte]
    | true =>
      cases h2 : (decide (1 ≤ ls[i].2) && decide (ls[i].2 ≤ 99)) with
      | false =>
        refine ⟨G ++ [.cells [.int .i64 ls[i].1, .int .i64 ls[i].2] true], .int .i64 i, .ptr (some (H.length + G.length, 0)), .int .i64 i, .bool true, .bool true, ?_⟩
        simp +contextual only [w_i_IsConvoy_1, cells_mono h, hi, hl, h1, h2, part_encL hl, e_i_within, e_i_isWeight, decide_true, go_sem, entry, joinEsc, if_pos, Nat.reduceAdd, Nat.reduceLeDiff, Nat.reduceLT, Nat.reduceEqDiff, reduceIte]
      | true =>
        cases i with
        | zero =>
          have h00 : ¬ (0 : Int) < ((0 : Nat) : Int) := by omega
          have h01 : decide (((0 : Nat) : Int) = 0) = true := rfl
          cases h3 : decide (ls[0].1 = 0) with
          | false =>
            refine ⟨G ++ [.cells [.int .i64 ls[0].1, .int .i64 ls[0].2] true], .int .i64 (0 : Nat), .ptr (some (H.length + G.length, 0)), .int .i64 (0 : Nat), .bool true, .bool true, ?_⟩
            simp +contextual only [w_i_IsConvoy_1, cells_mono h, hi, hl, h1, h2, h3, h00, h01, prevAt, part_encL hl, e_i_within, e_i_isWeight, decide_true, decide_false, go_sem, entry, joinEsc, if_pos, Nat.reduceAdd, Nat.reduceLeDiff, Nat.reduceLT, Nat.reduceEqDiff, reduceIte]
          | true =>
            refine ⟨G', z2, z3, z6, z7, z8, ?_⟩
            simp +contextual only [w_i_IsConvoy_1, cells_mono h, hi, hl, h1, h2, h3, h00, h01, prevAt, part_encL hl, e_i_within, e_i_isWeight, wrap_succ (show 0 < 9223372036854775807 by omega), decide_true, decide_false, go_sem, entry, joinEsc, if_pos, Nat.reduceAdd, Nat.reduceLeDiff, Nat.reduceLT, Nat.reduceEqDiff, reduceIte]
            exact ih
        | succ i =>
          have hi' : i < ls.length := by omega
          have hl' : ls[i]? = some ls[i] := List.getElem?_eq_getElem hi'
          have hpos : (0 : Int) < ((i + 1 : Nat) : Int) := by omega
          have hne : ¬ (((i + 1 : Nat) : Int) = 0) := by omega
          have hp' : prevAt ls (i + 1) = some ls[i].1 := by simp [prevAt, hl']
          rw [hp']
          simp only []
          by_cases h3 : ls[i].1 ≤ ls[i + 1].1
          · refine ⟨G', z2, z3, z6, z7, z8, ?_⟩
            have h3' : ¬ ls[i + 1].1 < ls[i].1 := by omega
            simp +contextual only [w_i_IsConvoy_1, cells_mono h, hi, hi', hl, hl', h1, h2, h3, h3', hpos, hne, part_encL hl, part_encL0 _ hl', e_i_within, e_i_isWeight, wrap_pred (show i < 9223372036854775807 by omega), wrap_succ (show i + 1 < 9223372036854775807 by omega), decide_true, decide_false, go_sem, entry, joinEsc, if_pos, Nat.reduceAdd, Nat.reduceLeDiff, Nat.reduceLT, Nat.reduceEqDiff, reduceIte]
            exact ih
          · refine ⟨G ++ [.cells [.int .i64 ls[i + 1].1, .int .i64 ls[i + 1].2] true], .int .i64 (i + 1 : Nat), .ptr (some (H.length + G.length, 0)), .int .i64 (i + 1 : Nat), .bool true, .bool true, ?_⟩
            have h3' : ls[i + 1].1 < ls[i].1 := by omega
            simp +contextual only [w_i_IsConvoy_1, cells_mono h, hi, hi', hl, hl', h1, h2, h3, h3', hpos, hne, part_encL hl, part_encL0 _ hl', e_i_within, e_i_isWeight, wrap_pred (show i < 9223372036854775807 by omega), decide_true, decide_false, go_sem, entry, joinEsc, if_pos, Nat.reduceAdd, Nat.reduceLeDiff, Nat.reduceLT, Nat.reduceEqDiff, reduceIte]

theorem e_i_IsConvoy {q : Nat} {c : Option Nat} {ls : List Ld} (h : cellsAt H q = some (encL ls)) (hn : ls.length ≤ 1048576) : call T pr f_i_IsConvoy [slL q ls.length c] ⟨H, e⟩ = some (.bool (convOk ls), ⟨H, e⟩) := by
  obtain ⟨G', z2, z3, z6, z7, z8, hl⟩ := loop_i_IsConvoy (pr := pr) (e := none) (c := c) h hn ls.length 0 [] .undef .undef .undef .undef rfl
  have h0 : ((0 : Nat) : Int) = 0 := rfl
  rw [h0, List.drop_zero, List.append_nil] at hl
  rw [call_eq t_i_IsConvoy, convOk_eq]
  have hp : prevAt ls 0 = none := rfl
  rw [hp] at hl
  have e1 : decide ((1 : Int) ≤ (ls.length : Int)) = decide (1 ≤ ls.length) := decide_eq_decide.mpr (by omega)
  have e2 : decide ((ls.length : Int) ≤ 6) = decide (ls.length ≤ 6) := decide_eq_decide.mpr (by omega)
  cases h1 : cvAllI none ls <;> rw [h1] at hl <;> simp +contextual only [a_i_IsConvoy, c_i_IsConvoy, hl, e_i_within, e1, e2, go_sem, entry, joinEsc, if_pos, Nat.reduceAdd, Nat.reduceLeDiff, Nat.reduceLT, Nat.reduceEqDiff, reduceIte]

/-- all positions from a to b -/
def crossFrom (ls : List Ld) (a b : Int) : Nat → Nat → Bool
  | 0, _ => true
  | k + 1, x => decide (sideW (rowAt x ls) a b = 0) && crossFrom ls a b k (x + 1)

end Go.Proofs.Ytaikmfldjkbmmaa.Slim
