/- Beams: what rests on them. -/
import Derived.Test.YthkgpblohjpcdaaSlimE4
namespace Go.Proofs.Ythkgpblohjpcdaa.Slim
open Go
set_option linter.unusedSimpArgs false
set_option linter.unusedVariables false

variable {pr : Prims} {H : List Blk} {e : Option Nat}

def beamOk (x a b : Int) : Bool := decide (1 ≤ x ∧ x ≤ 60 ∧ 0 ≤ a ∧ a < b ∧ b ≤ x)
abbrev bmV (x a b : Int) : AV := .agg [.int .i64 x, .int .i64 a, .int .i64 b]

theorem e_i_IsBeam (x a b : Int) : call T pr f_i_IsBeam [bmV x a b] ⟨H, e⟩ = some (.bool (beamOk x a b), ⟨H, e⟩) := by
  rw [call_eq t_i_IsBeam]
  simp +contextual only [a_i_IsBeam, c_i_IsBeam, e_i_within, go_sem, entry, joinEsc, if_pos, reduceIte, Nat.reduceAdd, Nat.reduceLeDiff, Nat.reduceLT, Nat.reduceEqDiff]
  congr 3
  simp only [beamOk, Bool.decide_and, Bool.and_assoc]

theorem e_s_l6Beam (x a b : Int) : call T pr f_s_l6Beam [bmV x a b] ⟨H, e⟩ = some (.bool (beamOk x a b), ⟨H, e⟩) := by
  rw [call_eq t_s_l6Beam]
  simp +contextual only [a_s_l6Beam, c_s_l6Beam, e_s_l1In, go_sem, entry, joinEsc, if_pos, reduceIte, Nat.reduceAdd, Nat.reduceLeDiff, Nat.reduceLT, Nat.reduceEqDiff]
  congr 3
  have key : ∀ p q : Bool, p = q ↔ (p = true ↔ q = true) := fun p q => by cases p <;> cases q <;> simp
  rw [key]
  simp only [beamOk, Bool.and_eq_true, decide_eq_true_eq]
  constructor
  · rintro ⟨⟨⟨h1, h2⟩, h3, h4⟩, h5, h6⟩
    rw [wrap64 (by omega) (by omega)] at h4
    rw [wrap64 (by omega) (by omega)] at h5
    omega
  · rintro ⟨h1, h2, h3, h4, h5⟩
    rw [wrap64 (by omega) (by omega), wrap64 (by omega) (by omega)]
    omega

theorem e_i_isOn_1 {q : Nat} {x a b : Int} (h : cellsAt H q = some [.int .i64 x, .int .i64 a, .int .i64 b]) (y z : Int) : call T pr f_i_isOn_1 [.agg [.int .i64 y, .int .i64 z], .ptr (some (q, 0))] ⟨H, e⟩ = some (.bool (decide (x < y)), ⟨H, e⟩) := by
  rw [call_eq t_i_isOn_1]
  simp +contextual only [a_i_isOn_1, c_i_isOn_1, h, cells_mono h, go_sem, entry, joinEsc, if_pos, reduceIte, Nat.reduceAdd, Nat.reduceLeDiff, Nat.reduceLT, Nat.reduceEqDiff]

/-- a beam and what is on it -/
def onOk (x a b : Int) (ls : List Ld) : Bool := beamOk x a b && rowOk ls && !(ls.any fun l => decide (x < l.1))

theorem e_i_isOn {q : Nat} {c : Option Nat} {ls : List Ld} (h : cellsAt H q = some (encL ls)) (hn : ls.length ≤ 9223372036854775806) (x a b : Int) : call T pr f_i_isOn [bmV x a b, slL q ls.length c] ⟨H, e⟩ = some (.bool (onOk x a b ls), ⟨H, e⟩) := by
  rw [call_eq t_i_isOn]
  have hb : cellsAt (H ++ [Blk.cells [.int .i64 x, .int .i64 a, .int .i64 b] true]) H.length = some [.int .i64 x, .int .i64 a, .int .i64 b] := by simp [cellsAt, List.getElem?_append_right]
  have hc := e_ContainsFunc (pr := pr) (e := none) (c := c) (g := f_i_isOn_1) (first := []) (cap := [.ptr (some (H.length, 0))]) (p := fun l => decide (x < l.1)) (cells_mono h [Blk.cells [.int .i64 x, .int .i64 a, .int .i64 b] true]) hn (fun l _ => e_i_isOn_1 hb l.1 l.2)
  simp +contextual only [a_i_isOn, c_i_isOn, e_i_IsBeam, e_i_IsRow (cells_mono h _), hc, go_sem, entry, joinEsc, if_pos, reduceIte, Nat.reduceAdd, Nat.reduceLeDiff, Nat.reduceLT, Nat.reduceEqDiff]
  rfl

theorem loop_s_l6On {q : Nat} {c : Option Nat} {ls : List Ld} {bv : AV} {u : Nat} {x a b : Int} {y5 : AV} (h : cellsAt H q = some (encL ls)) (hu : cellsAt H u = some [.int .i64 x, .int .i64 a, .int .i64 b]) (hn : ls.length ≤ 9223372036854775806) :
    ∀ (k i : Nat) (y6 y7 : AV), k + i = ls.length → ∃ (z4 z6 z7 : AV), run T pr (.loop w_s_l6On_1) ⟨[bv, slL q ls.length c, .ptr (some (u, 0)), .bool false, .int .i64 i, y5, y6, y7], ⟨H, e⟩⟩ =
      some (if (ls.drop i).any (fun l => decide (x < l.1)) = true then Ex.ret else Ex.exit 0, ⟨[bv, slL q ls.length c, .ptr (some (u, 0)), .bool false, z4, y5, z6, z7], ⟨H, e⟩⟩)
  | 0, i, y6, y7, hk => by
    have hi : i = ls.length := by omega
    subst hi
    refine ⟨.int .i64 ls.length, .bool false, y7, ?_⟩
    rw [run_loop]
    generalize run T pr (.loop w_s_l6On_1) = R
    simp +contextual only [w_s_l6On_1, Nat.lt_irrefl, decide_false, List.drop_length, List.any_nil, go_sem, entry, joinEsc, if_pos, reduceIte, Nat.reduceAdd, Nat.reduceLeDiff, Nat.reduceLT, Nat.reduceEqDiff]
  | k + 1, i, y6, y7, hk => by
    have hi : i < ls.length := by omega
    have hl : ls[i]? = some ls[i] := List.getElem?_eq_getElem hi
    rw [run_loop, List.drop_eq_getElem_cons hi, List.any_cons]
    obtain ⟨z4, z6, z7, ih⟩ := loop_s_l6On (c := c) (bv := bv) (y5 := y5) h hu hn k (i + 1) (.bool true) (.bool false) (by omega)
    generalize run T pr (.loop w_s_l6On_1) = R at ih ⊢
    cases hp : decide (x < ls[i].1) with
    | true =>
      refine ⟨.int .i64 i, .bool true, .bool true, ?_⟩
      simp +contextual only [w_s_l6On_1, h, hu, hi, hl, part_encL0 _ hl, hp, decide_true, go_sem, entry, joinEsc, if_pos, reduceIte, Nat.reduceAdd, Nat.reduceLeDiff, Nat.reduceLT, Nat.reduceEqDiff]
    | false =>
      refine ⟨z4, z6, z7, ?_⟩
      simp +contextual only [w_s_l6On_1, h, hu, hi, hl, part_encL0 _ hl, hp, wrap_succ (show i < 9223372036854775807 by omega), decide_true, go_sem, entry, joinEsc, if_pos, reduceIte, Nat.reduceAdd, Nat.reduceLeDiff, Nat.reduceLT, Nat.reduceEqDiff]
      exact ih

theorem e_s_l6On {q : Nat} {c : Option Nat} {ls : List Ld} (h : cellsAt H q = some (encL ls)) (hn : ls.length ≤ 9223372036854775806) (x a b : Int) : call T pr f_s_l6On [bmV x a b, slL q ls.length c] ⟨H, e⟩ = some (.bool (onOk x a b ls), ⟨H, e⟩) := by
  rw [call_eq t_s_l6On]
  have hb : cellsAt (H ++ [Blk.cells [.int .i64 x, .int .i64 a, .int .i64 b] true]) H.length = some [.int .i64 x, .int .i64 a, .int .i64 b] := by simp [cellsAt, List.getElem?_append_right]
  unfold onOk
  cases h1 : beamOk x a b with
  | false => simp +contextual only [a_s_l6On, c_s_l6On, e_s_l6Beam, h1, go_sem, entry, joinEsc, if_pos, reduceIte, Nat.reduceAdd, Nat.reduceLeDiff, Nat.reduceLT, Nat.reduceEqDiff]
  | true =>
    cases h2 : rowOk ls with
    | false => simp +contextual only [a_s_l6On, c_s_l6On, e_s_l6Beam, e_s_l2Row (cells_mono h _), h1, h2, go_sem, entry, joinEsc, if_pos, reduceIte, Nat.reduceAdd, Nat.reduceLeDiff, Nat.reduceLT, Nat.reduceEqDiff]
    | true =>
      obtain ⟨z4, z6, z7, hl⟩ := loop_s_l6On (pr := pr) (e := none) (c := c) (bv := bmV x a b) (y5 := .bool false) (cells_mono h [Blk.cells [.int .i64 x, .int .i64 a, .int .i64 b] true]) hb hn ls.length 0 .undef .undef rfl
      have h0 : ((0 : Nat) : Int) = 0 := rfl
      rw [h0, List.drop_zero] at hl
      cases h3 : ls.any (fun l => decide (x < l.1)) <;> rw [h3] at hl <;> simp +contextual only [a_s_l6On, c_s_l6On, e_s_l6Beam, e_s_l2Row (cells_mono h _), h1, h2, hl, go_sem, entry, joinEsc, if_pos, reduceIte, Nat.reduceAdd, Nat.reduceLeDiff, Nat.reduceLT, Nat.reduceEqDiff] <;> trace_state

end Go.Proofs.Ythkgpblohjpcdaa.Slim
