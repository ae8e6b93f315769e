/- Convoys. -/
import Derived.Test.YtaikmfldjkbmmaaSlimE7
namespace Go.Proofs.Ytaikmfldjkbmmaa.Slim
open Go
set_option linter.unusedSimpArgs false
set_option linter.unusedVariables false

variable {pr : Prims} {H : List Blk} {e : Option Nat}

theorem rowAt_cons (x : Int) (l : Ld) (ls : List Ld) : rowAt x (l :: ls) = if l.1 ≤ x then (IntKind.i64.wrap (x - l.1), l.2) :: rowAt x ls else rowAt x ls := by
  unfold rowAt
  by_cases hx : l.1 ≤ x <;> simp [hx]

theorem loop_i_convoyRow {q : Nat} {c : Option Nat} {ls : List Ld} {x : Int} {r : AV} (h : cellsAt H q = some (encL ls)) (hn : ls.length ≤ 1048576) :
    ∀ (k i : Nat) (o : List Ld) (j : Nat) (cap : Option Nat) (G : List Blk) (y4 y8 y9 : AV), k + i = ls.length → o.length ≤ i → G[j]? = some (.cells (encL o) true) → (cap = some 0 → o = []) →
      ∃ (j' : Nat) (cap' : Option Nat) (G' : List Blk) (z4 z8 z9 : AV), G'[j']? = some (.cells (encL (o ++ rowAt x (ls.drop i))) true) ∧ run T pr (.loop w_i_convoyRow_1) ⟨[slL q ls.length c, .int .i64 x, r, slL (H.length + j) o.length cap, y4, slL q ls.length c, .int .i64 ls.length, .int .i64 i, y8, y9], ⟨H ++ G, e⟩⟩ =
      some (Ex.exit 0, ⟨[slL q ls.length c, .int .i64 x, r, slL (H.length + j') (o ++ rowAt x (ls.drop i)).length cap', z4, slL q ls.length c, .int .i64 ls.length, .int .i64 ls.length, z8, z9], ⟨H ++ G', e⟩⟩)
  | 0, i, o, j, cap, G, y4, y8, y9, hk, ho, hG, hcap => by
    have hi : i = ls.length := by omega
    subst hi
    refine ⟨j, cap, G, y4, .bool false, y9, ?_, ?_⟩
    · rw [List.drop_length]; simpa [rowAt] using hG
    rw [run_loop]
    generalize run T pr (.loop w_i_convoyRow_1) = R
    have h0 : (o ++ rowAt x []) = o := by simp [rowAt]
    simp +contextual only [w_i_convoyRow_1, Nat.lt_irrefl, decide_false, List.drop_length, h0, go_sem, entry, joinEsc, if_pos, Nat.reduceAdd, Nat.reduceLeDiff, Nat.reduceLT, Nat.reduceEqDiff, reduceIte]
  | k + 1, i, o, j, cap, G, y4, y8, y9, hk, ho, hG, hcap => by
    have hi : i < ls.length := by omega
    have hl : ls[i]? = some ls[i] := List.getElem?_eq_getElem hi
    have hj : j < G.length := (List.getElem?_eq_some_iff.mp hG).1
    have hG1 : (G ++ [Blk.cells [.int .i64 ls[i].1, .int .i64 ls[i].2] true])[j]? = some (.cells (encL o) true) := by rw [List.getElem?_append_left hj]; exact hG
    rw [run_loop, List.drop_eq_getElem_cons hi]
    rw [rowAt_cons]
    by_cases hx : ls[i].1 ≤ x
    · rw [if_pos hx]
      have hmb : (o.length + 1) * 16 ≤ maxBytes := by unfold maxBytes; omega
      have hap := fun e' => append_ld (H := H) (e := e') hG1 hcap hmb (IntKind.i64.wrap (x - ls[i].1)) ls[i].2
      obtain ⟨j', cap', G', z4, z8, z9, h1, ih⟩ := loop_i_convoyRow (c := c) (x := x) (r := r) h hn k (i + 1) (o ++ [(IntKind.i64.wrap (x - ls[i].1), ls[i].2)]) (G.length + 1 + 1) none
        (killIf cap j (G ++ [.cells [.int .i64 ls[i].1, .int .i64 ls[i].2] true] ++ [.cells [.int .i64 (IntKind.i64.wrap (x - ls[i].1)), .int .i64 ls[i].2] true]) ++ [.cells (encL (o ++ [(IntKind.i64.wrap (x - ls[i].1), ls[i].2)])) true]) (.ptr (some (H.length + G.length, 0))) (.bool true) (.bool true) (by omega) (by simp; omega) (by
          rw [List.getElem?_append_right (by simp [killIf_length])]; simp [killIf_length]) (by simp)
      rw [List.append_assoc, List.singleton_append] at h1
      simp only [List.append_assoc, List.singleton_append, List.cons_append, List.nil_append, List.length_append, List.length_cons, List.length_nil, Nat.zero_add] at hap
      refine ⟨j', cap', G', z4, z8, z9, h1, ?_⟩
      generalize run T pr (.loop w_i_convoyRow_1) = R at ih ⊢
      simp only [List.append_assoc, List.singleton_append, List.cons_append, List.nil_append, List.length_append, List.length_cons, List.length_nil, Nat.zero_add, encL_append, encL] at ih
      simp +contextual only [w_i_convoyRow_1, cells_mono h, hi, hl, hx, part_encL hl, fillParts, hap, wrap_succ (show i < 9223372036854775807 by omega), decide_true, decide_false, go_sem, entry, joinEsc, if_pos, Nat.reduceAdd, Nat.reduceLeDiff, Nat.reduceLT, Nat.reduceEqDiff, reduceIte]
      exact ih
    · rw [if_neg hx]
      obtain ⟨j', cap', G', z4, z8, z9, h1, ih⟩ := loop_i_convoyRow (c := c) (x := x) (r := r) h hn k (i + 1) o j cap (G ++ [Blk.cells [.int .i64 ls[i].1, .int .i64 ls[i].2] true]) (.ptr (some (H.length + G.length, 0))) (.bool true) (.bool false) (by omega) (by omega) hG1 hcap
      refine ⟨j', cap', G', z4, z8, z9, h1, ?_⟩
      generalize run T pr (.loop w_i_convoyRow_1) = R at ih ⊢
      simp +contextual only [w_i_convoyRow_1, cells_mono h, hi, hl, hx, part_encL hl, wrap_succ (show i < 9223372036854775807 by omega), decide_true, decide_false, go_sem, entry, joinEsc, if_pos, Nat.reduceAdd, Nat.reduceLeDiff, Nat.reduceLT, Nat.reduceEqDiff, reduceIte]
      simp only [List.length_append] at ih
      exact ih

theorem e_i_convoyRow {q : Nat} {c : Option Nat} {ls : List Ld} (h : cellsAt H q = some (encL ls)) (hn : ls.length ≤ 1048576) (x : Int) : ∃ cap, call T pr f_i_convoyRow [slL q ls.length c, .int .i64 x] ⟨H, e⟩ =
    some (slL H.length (rowAt x ls).length cap, ⟨H ++ [.cells (encL (rowAt x ls)) true], e⟩) := by
  obtain ⟨j', cap', G', z4, z8, z9, h1, hl⟩ := loop_i_convoyRow (pr := pr) (e := none) (c := c) (x := x) (r := .slice none 0 0 none) h hn ls.length 0 [] 0 (some 0) [.cells [] true] .undef .undef .undef rfl (Nat.zero_le _) rfl (fun _ => rfl)
  have h0 : ((0 : Nat) : Int) = 0 := rfl
  rw [h0] at hl
  refine ⟨cap', ?_⟩
  rw [call_eq t_i_convoyRow]
  simp only [List.nil_append, List.drop_zero, Nat.add_zero, List.length_nil] at hl h1
  simp +contextual only [a_i_convoyRow, c_i_convoyRow, fillParts, hl, finish_two_at _ h1 (under_encL _ _), go_sem, entry, joinEsc, if_pos, Nat.reduceAdd, Nat.reduceLeDiff, Nat.reduceLT, Nat.reduceEqDiff, reduceIte]

/-- may it come behind a load at prev? -/
def cvOk (prev : Option Int) (l : Ld) : Bool := ((decide (0 ≤ l.1) && decide (l.1 ≤ 20)) && (decide (1 ≤ l.2) && decide (l.2 ≤ 99))) && (match prev with | none => true | some p => decide (p ≤ l.1))
def cvAll (prev : Option Int) : List Ld → Bool
  | [] => true
  | l :: ls => cvOk prev l && cvAll (some l.1) ls
/-- the load before -/
def prevAt (ls : List Ld) : Nat → Option Int
  | 0 => none
  | i + 1 => (ls[i]?).map (·.1)

theorem wrap_pred {i : Nat} (h : i < 9223372036854775807) : IntKind.i64.wrap (((i + 1 : Nat) : Int) - 1) = (i : Int) := by
  rw [wrap64 (by omega) (by omega)]; omega

theorem loop_s_l6Convoy {q : Nat} {c : Option Nat} {ls : List Ld} (h : cellsAt H q = some (encL ls)) (hn : ls.length ≤ 1048576) :
    ∀ (k i : Nat) (y3 y4 : AV), k + i = ls.length → ∃ (z2 z3 z4 : AV), run T pr (.loop w_s_l6Convoy_1) ⟨[slL q ls.length c, .bool false, .int .i64 i, y3, y4], ⟨H, e⟩⟩ =
      some (if cvAll (prevAt ls i) (ls.drop i) = true then Ex.exit 0 else Ex.ret, ⟨[slL q ls.length c, .bool false, z2, z3, z4], ⟨H, e⟩⟩)
  | 0, i, y3, y4, hk => by
    have hi : i = ls.length := by omega
    subst hi
    refine ⟨.int .i64 ls.length, .bool false, y4, ?_⟩
    rw [run_loop]
    generalize run T pr (.loop w_s_l6Convoy_1) = R
    simp +contextual only [w_s_l6Convoy_1, Nat.lt_irrefl, decide_false, List.drop_length, cvAll, go_sem, entry, joinEsc, if_pos, Nat.reduceAdd, Nat.reduceLeDiff, Nat.reduceLT, Nat.reduceEqDiff, reduceIte]
  | k + 1, i, y3, y4, hk => by
    have hi : i < ls.length := by omega
    have hl : ls[i]? = some ls[i] := List.getElem?_eq_getElem hi
    obtain ⟨z2, z3, z4, ih⟩ := loop_s_l6Convoy (c := c) h hn k (i + 1) (.bool true) (.bool false) (by omega)
    have hp : prevAt ls (i + 1) = some ls[i].1 := by simp [prevAt, hl]
    rw [hp] at ih
    rw [run_loop, List.drop_eq_getElem_cons hi, cvAll]
    generalize run T pr (.loop w_s_l6Convoy_1) = R at ih ⊢
    unfold cvOk
    cases h1 : (decide (0 ≤ ls[i].1) && decide (ls[i].1 ≤ 20)) with
    | false =>
      refine ⟨.int .i64 i, .bool true, .bool true, ?_⟩
      simp +contextual only [w_s_l6Convoy_1, h, hi, hl, h1, part_encL0 _ hl, part_encL1 _ hl, e_s_l1In, decide_true, go_sem, entry, joinEsc, if_pos, Nat.reduceAdd, Nat.reduceLeDiff, Nat.reduceLT, Nat.reduceEqDiff, reduceIte]
    | true =>
      cases h2 : (decide (1 ≤ ls[i].2) && decide (ls[i].2 ≤ 99)) with
      | false =>
        refine ⟨.int .i64 i, .bool true, .bool true, ?_⟩
        simp +contextual only [w_s_l6Convoy_1, h, hi, hl, h1, h2, part_encL0 _ hl, part_encL1 _ hl, e_s_l1In, decide_true, go_sem, entry, joinEsc, if_pos, Nat.reduceAdd, Nat.reduceLeDiff, Nat.reduceLT, Nat.reduceEqDiff, reduceIte]
      | true =>
        cases i with
        | zero =>
          refine ⟨z2, z3, z4, ?_⟩
          have h00 : ¬ (0 : Int) < ((0 : Nat) : Int) := by omega
          simp +contextual only [w_s_l6Convoy_1, h, hi, hl, h1, h2, h00, prevAt, part_encL0 _ hl, part_encL1 _ hl, e_s_l1In, wrap_succ (show 0 < 9223372036854775807 by omega), decide_true, decide_false, go_sem, entry, joinEsc, if_pos, Nat.reduceAdd, Nat.reduceLeDiff, Nat.reduceLT, Nat.reduceEqDiff, reduceIte]
          exact ih
        | succ i =>
          have hi' : i < ls.length := by omega
          have hl' : ls[i]? = some ls[i] := List.getElem?_eq_getElem hi'
          have hpos : (0 : Int) < ((i + 1 : Nat) : Int) := by omega
          have hp' : prevAt ls (i + 1) = some ls[i].1 := by simp [prevAt, hl']
          rw [hp']
          simp only []
          by_cases h3 : ls[i].1 ≤ ls[i + 1].1
          · refine ⟨z2, z3, z4, ?_⟩
            have h3' : ¬ ls[i + 1].1 < ls[i].1 := by omega
            simp +contextual only [w_s_l6Convoy_1, h, hi, hi', hl, hl', h1, h2, h3, h3', hpos, part_encL0 _ hl, part_encL1 _ hl, part_encL0 _ hl', e_s_l1In, wrap_pred (show i < 9223372036854775807 by omega), wrap_succ (show i + 1 < 9223372036854775807 by omega), decide_true, decide_false, go_sem, entry, joinEsc, if_pos, Nat.reduceAdd, Nat.reduceLeDiff, Nat.reduceLT, Nat.reduceEqDiff, reduceIte]
            exact ih
          · refine ⟨.int .i64 (i + 1 : Nat), .bool true, .bool true, ?_⟩
            have h3' : ls[i + 1].1 < ls[i].1 := by omega
            simp +contextual only [w_s_l6Convoy_1, h, hi, hi', hl, hl', h1, h2, h3, h3', hpos, part_encL0 _ hl, part_encL1 _ hl, part_encL0 _ hl', e_s_l1In, wrap_pred (show i < 9223372036854775807 by omega), decide_true, decide_false, go_sem, entry, joinEsc, if_pos, Nat.reduceAdd, Nat.reduceLeDiff, Nat.reduceLT, Nat.reduceEqDiff, reduceIte]

end Go.Proofs.Ytaikmfldjkbmmaa.Slim
