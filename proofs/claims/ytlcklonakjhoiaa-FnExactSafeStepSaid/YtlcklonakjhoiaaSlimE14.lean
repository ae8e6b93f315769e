/- Rafts: safe sets. -/
import Derived.Test.YtlcklonakjhoiaaSlimE13
namespace Go.Proofs.Ytlcklonakjhoiaa.Slim

open Go

set_option linter.unusedSimpArgs false

set_option linter.unusedVariables false

variable {pr : Prims} {H : List Blk} {e : Option Nat}

def own0 (a b o : Int) : Int := wr (o * wr (b - a))

theorem e_s_l10Reserve {q : Nat} {c : Option Nat} {ls : List Ld} (h : cellsAt H q = some (encL ls)) (hn : ls.length ≤ 9223372036854775806) (a b o n : Int) : call T pr f_s_l10Reserve [rfV a b o, slL q ls.length c, .int .i64 n] ⟨H, e⟩ =
    some (.tup [.int .i64 (overBits (resL a) n 0 ls (own0 a b o)), .int .i64 (overBits (resR b) n 0 ls (own0 a b o))], ⟨H, e⟩) := by
  have hu : cellsAt (H ++ [Blk.cells [.int .i64 a, .int .i64 b, .int .i64 o] true]) H.length = some [.int .i64 a, .int .i64 b, .int .i64 o] := by simp [cellsAt, List.getElem?_append_right]
  obtain ⟨z9, z10, hl⟩ := loop_s_l10Reserve (pr := pr) (e := none) (c := c) (rv := rfV a b o) (n := n) (cells_mono h [Blk.cells [.int .i64 a, .int .i64 b, .int .i64 o] true]) hn hu (y4 := .int .i64 0) (y5 := .int .i64 0) ls.length 0 (own0 a b o) (own0 a b o) .undef .undef rfl
  have h0 : ((0 : Nat) : Int) = 0 := rfl
  rw [h0, List.drop_zero] at hl
  have ho : IntKind.i64.wrap (o * IntKind.i64.wrap (b - a)) = own0 a b o := rfl
  rw [call_eq t_s_l10Reserve]
  simp +contextual only [a_s_l10Reserve, c_s_l10Reserve, ho, hl, go_sem, entry, joinEsc, if_pos, reduceIte, Nat.reduceAdd, Nat.reduceLeDiff, Nat.reduceLT, Nat.reduceEqDiff]

def safeW (a b o : Int) (ls : List Ld) (n : Int) : Bool := decide (0 ≤ overBits (resL a) n 0 ls (own0 a b o)) && decide (0 ≤ overBits (resR b) n 0 ls (own0 a b o))

theorem e_s_l10Safe {q : Nat} {c : Option Nat} {ls : List Ld} (h : cellsAt H q = some (encL ls)) (hn : ls.length ≤ 9223372036854775806) (a b o n : Int) : call T pr f_s_l10Safe [rfV a b o, slL q ls.length c, .int .i64 n] ⟨H, e⟩ =
    some (.bool (safeW a b o ls n), ⟨H, e⟩) := by
  rw [call_eq t_s_l10Safe]
  simp +contextual only [a_s_l10Safe, c_s_l10Safe, e_s_l10Reserve (cells_mono h _) hn, go_sem, entry, joinEsc, if_pos, reduceIte, Nat.reduceAdd, Nat.reduceLeDiff, Nat.reduceLT, Nat.reduceEqDiff]
  rfl

theorem loop_i_Raft_reserve {q u : Nat} {c : Option Nat} {ls : List Ld} {rv y4 y5 : AV} {n : Int} {a b o : Int} (h : cellsAt H q = some (encL ls)) (hn : ls.length ≤ 9223372036854775806) (hu : cellsAt H u = some [.int .i64 a, .int .i64 b, .int .i64 o]) :
    ∀ (k i : Nat) (L R : Int) (G : List Blk) (y8 y9 y13 y14 : AV), k + i = ls.length → ∃ (G' : List Blk) (z8 z9 z13 z14 : AV), run T pr (.loop w_i_Raft_reserve_1) ⟨[rv, slL q ls.length c, .int .i64 n, .ptr (some (u, 0)), y4, y5, .int .i64 L, .int .i64 R, y8, y9, slL q ls.length c, .int .i64 ls.length, .int .i64 i, y13, y14], ⟨H ++ G, e⟩⟩ =
      some (Ex.exit 0, ⟨[rv, slL q ls.length c, .int .i64 n, .ptr (some (u, 0)), y4, y5, .int .i64 (overBits (resL a) n i (ls.drop i) L), .int .i64 (overBits (resR b) n i (ls.drop i) R), z8, z9, slL q ls.length c, .int .i64 ls.length, .int .i64 ls.length, z13, z14], ⟨H ++ G', e⟩⟩)
  | 0, i, L, R, G, y8, y9, y13, y14, hk => by
    have hi : i = ls.length := by omega
    subst hi
    refine ⟨G, y8, y9, .bool false, y14, ?_⟩
    rw [run_loop]
    generalize run T pr (.loop w_i_Raft_reserve_1) = R'
    simp +contextual only [w_i_Raft_reserve_1, Nat.lt_irrefl, decide_false, List.drop_length, overBits, go_sem, entry, joinEsc, if_pos, reduceIte, Nat.reduceAdd, Nat.reduceLeDiff, Nat.reduceLT, Nat.reduceEqDiff]
  | k + 1, i, L, R, G, y8, y9, y13, y14, hk => by
    have hi : i < ls.length := by omega
    have hl : ls[i]? = some ls[i] := List.getElem?_eq_getElem hi
    rw [run_loop, List.drop_eq_getElem_cons hi, overBits, overBits]
    have hb : decide (andI .i64 (shrI .i64 n i) 1 = 1) = bitW n i := rfl
    have hR := resR_eq b R ls[i]
    cases h1 : bitW n i with
    | false =>
      obtain ⟨G', z8, z9, z13, z14, ih⟩ := loop_i_Raft_reserve (c := c) (rv := rv) (n := n) (y4 := y4) (y5 := y5) h hn hu k (i + 1) L R (G ++ [.cells [.int .i64 ls[i].1, .int .i64 ls[i].2] true]) (.int .i64 i) (.ptr (some (H.length + G.length, 0))) (.bool true) (.bool false) (by omega)
      refine ⟨G', z8, z9, z13, z14, ?_⟩
      generalize run T pr (.loop w_i_Raft_reserve_1) = R' at ih ⊢
      rw [h1] at hb
      have hb' := of_decide_eq_false hb
      simp +contextual only [w_i_Raft_reserve_1, shr_nat, hb', decide_false, cells_mono h, cells_mono hu, hi, hl, part_encL hl, wrap_succ (show i < 9223372036854775807 by omega), decide_true, go_sem, entry, joinEsc, if_pos, reduceIte, Nat.reduceAdd, Nat.reduceLeDiff, Nat.reduceLT, Nat.reduceEqDiff]
      exact ih
    | true =>
      obtain ⟨G', z8, z9, z13, z14, ih⟩ := loop_i_Raft_reserve (c := c) (rv := rv) (n := n) (y4 := y4) (y5 := y5) h hn hu k (i + 1) (resL a L ls[i]) (resR b R ls[i]) (G ++ [.cells [.int .i64 ls[i].1, .int .i64 ls[i].2] true]) (.int .i64 i) (.ptr (some (H.length + G.length, 0))) (.bool true) (.bool true) (by omega)
      refine ⟨G', z8, z9, z13, z14, ?_⟩
      generalize run T pr (.loop w_i_Raft_reserve_1) = R' at ih ⊢
      rw [h1] at hb
      have hb' := of_decide_eq_true hb
      rw [← hR] at ih ⊢
      simp +contextual only [w_i_Raft_reserve_1, shr_nat, hb', cells_mono h, cells_mono hu, hi, hl, part_encL hl, wrap_succ (show i < 9223372036854775807 by omega), decide_true, go_sem, entry, joinEsc, if_pos, reduceIte, Nat.reduceAdd, Nat.reduceLeDiff, Nat.reduceLT, Nat.reduceEqDiff]
      exact ih

theorem e_i_Raft_reserve {q : Nat} {c : Option Nat} {ls : List Ld} (h : cellsAt H q = some (encL ls)) (hn : ls.length ≤ 9223372036854775806) (a b o n : Int) : call T pr f_i_Raft_reserve [rfV a b o, slL q ls.length c, .int .i64 n] ⟨H, e⟩ =
    some (.tup [.int .i64 (overBits (resL a) n 0 ls (own0 a b o)), .int .i64 (overBits (resR b) n 0 ls (own0 a b o))], ⟨H, e⟩) := by
  have hu : cellsAt (H ++ [Blk.cells [.int .i64 a, .int .i64 b, .int .i64 o] true]) H.length = some [.int .i64 a, .int .i64 b, .int .i64 o] := by simp [cellsAt, List.getElem?_append_right]
  obtain ⟨G', z8, z9, z13, z14, hl⟩ := loop_i_Raft_reserve (pr := pr) (e := none) (c := c) (rv := rfV a b o) (n := n) (y4 := .int .i64 0) (y5 := .int .i64 0) (cells_mono h [Blk.cells [.int .i64 a, .int .i64 b, .int .i64 o] true]) hn hu ls.length 0 (own0 a b o) (own0 a b o) [] .undef .undef .undef .undef rfl
  have h0 : ((0 : Nat) : Int) = 0 := rfl
  rw [h0, List.drop_zero, List.append_nil, List.append_assoc] at hl
  have ho : IntKind.i64.wrap (o * IntKind.i64.wrap (b - a)) = own0 a b o := rfl
  rw [call_eq t_i_Raft_reserve]
  simp +contextual only [a_i_Raft_reserve, c_i_Raft_reserve, ho, hl, go_sem, entry, joinEsc, if_pos, reduceIte, Nat.reduceAdd, Nat.reduceLeDiff, Nat.reduceLT, Nat.reduceEqDiff]

theorem e_i_Raft_isSafe {q : Nat} {c : Option Nat} {ls : List Ld} (h : cellsAt H q = some (encL ls)) (hn : ls.length ≤ 9223372036854775806) (a b o n : Int) : call T pr f_i_Raft_isSafe [rfV a b o, slL q ls.length c, .int .i64 n] ⟨H, e⟩ =
    some (.bool (safeW a b o ls n), ⟨H, e⟩) := by
  rw [call_eq t_i_Raft_isSafe]
  simp +contextual only [a_i_Raft_isSafe, c_i_Raft_isSafe, e_i_Raft_reserve (cells_mono h _) hn, go_sem, entry, joinEsc, if_pos, reduceIte, Nat.reduceAdd, Nat.reduceLeDiff, Nat.reduceLT, Nat.reduceEqDiff]
  rfl

end Go.Proofs.Ytlcklonakjhoiaa.Slim
