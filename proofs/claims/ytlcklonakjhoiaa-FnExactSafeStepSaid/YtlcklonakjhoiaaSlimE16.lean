/- Orders, walked; the first tip. -/
import Derived.Test.YtlcklonakjhoiaaSlimE15
namespace Go.Proofs.Ytlcklonakjhoiaa.Slim

open Go

set_option linter.unusedSimpArgs false

set_option linter.unusedVariables false

variable {pr : Prims} {H : List Blk} {e : Option Nat}

theorem shl_nat (x : Int) (i : Nat) : binop 0 .shl (.int .i64 x) (.int .i64 (i : Int)) = some (.int .i64 (shlI .i64 x i)) := by
  rw [binop_shl, if_neg (by omega)]

/-- none twice, and no other, m being those that were -/
def ordOk (n : Nat) : Nat → List Int → Bool
  | _, [] => true
  | m, x :: xs => ((decide (0 ≤ x) && decide (x ≤ (n : Int) - 1)) && !m.testBit x.toNat) && ordOk n (m + 2 ^ x.toNat) xs

theorem loop_i_isOrder {q q' : Nat} {c c' : Option Nat} {n : Nat} {os : List Int} (hn8 : n ≤ 8) (h : cellsAt H q' = some (encI os)) (hn : os.length ≤ 9223372036854775806) :
    ∀ (k i m : Nat) (y4 y8 y9 : AV), k + i = os.length → m < 256 → ∃ (z3 z4 z7 z8 z9 : AV), run T pr (.loop w_i_isOrder_1) ⟨[slL q n c, slI q' os.length c', .bool false, .int .i64 m, y4, slI q' os.length c', .int .i64 os.length, .int .i64 i, y8, y9], ⟨H, e⟩⟩ =
      some (if ordOk n m (os.drop i) = true then Ex.exit 0 else Ex.ret, ⟨[slL q n c, slI q' os.length c', .bool false, z3, z4, slI q' os.length c', .int .i64 os.length, z7, z8, z9], ⟨H, e⟩⟩)
  | 0, i, m, y4, y8, y9, hk, hm => by
    have hi : i = os.length := by omega
    subst hi
    refine ⟨.int .i64 m, y4, .int .i64 os.length, .bool false, y9, ?_⟩
    rw [run_loop]
    generalize run T pr (.loop w_i_isOrder_1) = R
    simp +contextual only [w_i_isOrder_1, Nat.lt_irrefl, decide_false, List.drop_length, ordOk, go_sem, entry, joinEsc, if_pos, reduceIte, Nat.reduceAdd, Nat.reduceLeDiff, Nat.reduceLT, Nat.reduceEqDiff]
  | k + 1, i, m, y4, y8, y9, hk, hm => by
    have hi : i < os.length := by omega
    have hl : os[i]? = some os[i] := List.getElem?_eq_getElem hi
    have hw : IntKind.i64.wrap ((n : Int) - 1) = (n : Int) - 1 := wrap64 (by omega) (by omega)
    rw [run_loop, List.drop_eq_getElem_cons hi, ordOk]
    generalize hx : os[i] = x at hl ⊢
    cases h1 : (decide (0 ≤ x) && decide (x ≤ (n : Int) - 1)) with
    | false =>
      refine ⟨.int .i64 m, .int .i64 x, .int .i64 i, .bool true, .bool true, ?_⟩
      generalize run T pr (.loop w_i_isOrder_1) = R
      simp +contextual only [w_i_isOrder_1, h, hi, hl, part_encI _ hl, hw, e_i_within, h1, decide_true, go_sem, entry, joinEsc, if_pos, reduceIte, Nat.reduceAdd, Nat.reduceLeDiff, Nat.reduceLT, Nat.reduceEqDiff]
    | true =>
      obtain ⟨y, rfl⟩ : ∃ y : Nat, x = y := ⟨x.toNat, by simp at h1; omega⟩
      have hy8 : y < 8 := by simp at h1; omega
      obtain ⟨f1, f2, f3⟩ := bits_facts m hm y hy8
      have hb : decide (andI .i64 (shrI .i64 m y) 1 = 1) = bitW m y := rfl
      rw [Int.toNat_natCast, ← f1] at *
      cases h2 : m.testBit y with
      | true =>
        rw [h2] at hb
        have hb' := of_decide_eq_true hb
        refine ⟨.int .i64 m, .int .i64 y, .int .i64 i, .bool true, .bool true, ?_⟩
        generalize run T pr (.loop w_i_isOrder_1) = R
        simp +contextual only [w_i_isOrder_1, h, hi, hl, part_encI _ hl, hw, e_i_within, h1, shr_nat, hb', decide_true, go_sem, entry, joinEsc, if_pos, reduceIte, Nat.reduceAdd, Nat.reduceLeDiff, Nat.reduceLT, Nat.reduceEqDiff]
      | false =>
        obtain ⟨g1, g2, g3, g4⟩ := f3 h2
        obtain ⟨z3, z4, z7, z8, z9, ih⟩ := loop_i_isOrder (c := c) (c' := c') (q := q) hn8 h hn k (i + 1) (m + 2 ^ y) (.int .i64 y) (.bool true) (.bool false) (by omega) g3
        refine ⟨z3, z4, z7, z8, z9, ?_⟩
        generalize run T pr (.loop w_i_isOrder_1) = R at ih ⊢
        rw [h2] at hb
        have hb' := of_decide_eq_false hb
        have h1' : decide (0 ≤ (y : Int)) = true := by simp
        have h1'' : decide ((y : Int) ≤ (n : Int) - 1) = true := by simpa using h1
        simp +contextual only [w_i_isOrder_1, h, hi, hl, part_encI _ hl, hw, e_i_within, h1', h1'', Bool.and_self, shr_nat, shl_nat, hb', g1, wrap_succ (show i < 9223372036854775807 by omega), decide_true, decide_false, go_sem, entry, joinEsc, if_pos, reduceIte, Nat.reduceAdd, Nat.reduceLeDiff, Nat.reduceLT, Nat.reduceEqDiff]
        exact ih

end Go.Proofs.Ytlcklonakjhoiaa.Slim
