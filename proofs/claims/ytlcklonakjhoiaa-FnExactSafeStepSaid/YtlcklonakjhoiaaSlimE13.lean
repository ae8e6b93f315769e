/- Rafts: the reserves. -/
import Derived.Test.YtlcklonakjhoiaaSlimE12
namespace Go.Proofs.Ytlcklonakjhoiaa.Slim

open Go

set_option linter.unusedSimpArgs false

set_option linter.unusedVariables false

variable {pr : Prims} {H : List Blk} {e : Option Nat}

abbrev wr (x : Int) : Int := IntKind.i64.wrap x

theorem wr_ex (x : Int) : ∃ k : Int, wr x = x + k * 18446744073709551616 := by
  refine ⟨if x % 18446744073709551616 ≥ 9223372036854775808 then -(x / 18446744073709551616) - 1 else -(x / 18446744073709551616), ?_⟩
  unfold wr IntKind.wrap
  simp [IntKind.signed, IntKind.bits]
  split <;> omega

theorem wr_add_mul (x k : Int) : wr (x + k * 18446744073709551616) = wr x := by
  unfold wr IntKind.wrap
  simp [IntKind.signed, IntKind.bits]

/-- is item i in the set n? -/
def bitW (n : Int) (i : Nat) : Bool := decide (andI .i64 (shrI .i64 n i) 1 = 1)

def resL (a acc : Int) (l : Ld) : Int := wr (acc + wr (wr (2 * l.2) * wr (l.1 - a)))

def resR (b acc : Int) (l : Ld) : Int := wr (acc + wr (wr (2 * l.2) * wr (b - l.1)))

theorem resR_eq (b acc : Int) (l : Ld) : wr (acc - wr (wr (2 * l.2) * wr (l.1 - b))) = resR b acc l := by
  unfold resR
  obtain ⟨k1, h1⟩ := wr_ex (l.1 - b)
  obtain ⟨k2, h2⟩ := wr_ex (b - l.1)
  generalize wr (2 * l.2) = u
  obtain ⟨k3, h3⟩ := wr_ex (u * wr (l.1 - b))
  obtain ⟨k4, h4⟩ := wr_ex (u * wr (b - l.1))
  rw [h3, h4, h1, h2]
  have : acc - (u * (l.1 - b + k1 * 18446744073709551616) + k3 * 18446744073709551616) = acc + (u * (b - l.1 + k2 * 18446744073709551616) + k4 * 18446744073709551616) + (-(u * (k1 + k2)) - k3 - k4) * 18446744073709551616 := by
    have e1 : u * (l.1 - b + k1 * 18446744073709551616) = u * (l.1 - b) + u * k1 * 18446744073709551616 := by rw [Int.mul_add, Int.mul_assoc]
    have e2 : u * (b - l.1 + k2 * 18446744073709551616) = u * (b - l.1) + u * k2 * 18446744073709551616 := by rw [Int.mul_add, Int.mul_assoc]
    have e3 : u * (b - l.1) = -(u * (l.1 - b)) := by rw [← Int.mul_neg]; congr 1; omega
    have e4 : u * (k1 + k2) = u * k1 + u * k2 := Int.mul_add _ _ _
    rw [e1, e2, e3, e4]
    omega
  rw [this, wr_add_mul]

/-- over the items of the set n, from number i on -/
def overBits (f : Int → Ld → Int) (n : Int) : Nat → List Ld → Int → Int
  | _, [], acc => acc
  | i, l :: ls, acc => overBits f n (i + 1) ls (if bitW n i = true then f acc l else acc)

theorem shr_nat (x : Int) (i : Nat) : binop 0 .shr (.int .i64 x) (.int .i64 (i : Int)) = some (.int .i64 (shrI .i64 x i)) := by
  rw [binop_shr, if_neg (by omega)]

theorem loop_s_l10Reserve {q u : Nat} {c : Option Nat} {ls : List Ld} {rv : AV} {n : Int} {a b o : Int} (h : cellsAt H q = some (encL ls)) (hn : ls.length ≤ 9223372036854775806) (hu : cellsAt H u = some [.int .i64 a, .int .i64 b, .int .i64 o]) {y4 y5 : AV} :
    ∀ (k i : Nat) (L R : Int) (y9 y10 : AV), k + i = ls.length → ∃ (z9 z10 : AV), run T pr (.loop w_s_l10Reserve_1) ⟨[rv, slL q ls.length c, .int .i64 n, .ptr (some (u, 0)), y4, y5, .int .i64 L, .int .i64 R, .int .i64 i, y9, y10], ⟨H, e⟩⟩ =
      some (Ex.exit 0, ⟨[rv, slL q ls.length c, .int .i64 n, .ptr (some (u, 0)), y4, y5, .int .i64 (overBits (resL a) n i (ls.drop i) L), .int .i64 (overBits (resR b) n i (ls.drop i) R), .int .i64 ls.length, z9, z10], ⟨H, e⟩⟩)
  | 0, i, L, R, y9, y10, hk => by
    have hi : i = ls.length := by omega
    subst hi
    refine ⟨.bool false, y10, ?_⟩
    rw [run_loop]
    generalize run T pr (.loop w_s_l10Reserve_1) = R'
    simp +contextual only [w_s_l10Reserve_1, Nat.lt_irrefl, decide_false, List.drop_length, overBits, go_sem, entry, joinEsc, if_pos, reduceIte, Nat.reduceAdd, Nat.reduceLeDiff, Nat.reduceLT, Nat.reduceEqDiff]
  | k + 1, i, L, R, y9, y10, hk => by
    have hi : i < ls.length := by omega
    have hl : ls[i]? = some ls[i] := List.getElem?_eq_getElem hi
    rw [run_loop, List.drop_eq_getElem_cons hi, overBits, overBits]
    have hb : decide (andI .i64 (shrI .i64 n i) 1 = 1) = bitW n i := rfl
    cases h1 : bitW n i with
    | false =>
      obtain ⟨z9, z10, ih⟩ := loop_s_l10Reserve (c := c) (rv := rv) (n := n) (y4 := y4) (y5 := y5) h hn hu k (i + 1) L R (.bool true) (.bool false) (by omega)
      refine ⟨z9, z10, ?_⟩
      generalize run T pr (.loop w_s_l10Reserve_1) = R' at ih ⊢
      rw [h1] at hb
      have hb' := of_decide_eq_false hb
      simp +contextual only [w_s_l10Reserve_1, shr_nat, hb', decide_false, h, hu, hi, hl, part_encL0 _ hl, part_encL1 _ hl, wrap_succ (show i < 9223372036854775807 by omega), decide_true, go_sem, entry, joinEsc, if_pos, reduceIte, Nat.reduceAdd, Nat.reduceLeDiff, Nat.reduceLT, Nat.reduceEqDiff]
      exact ih
    | true =>
      obtain ⟨z9, z10, ih⟩ := loop_s_l10Reserve (c := c) (rv := rv) (n := n) (y4 := y4) (y5 := y5) h hn hu k (i + 1) (resL a L ls[i]) (resR b R ls[i]) (.bool true) (.bool true) (by omega)
      refine ⟨z9, z10, ?_⟩
      generalize run T pr (.loop w_s_l10Reserve_1) = R' at ih ⊢
      rw [h1] at hb
      have hb' := of_decide_eq_true hb
      simp +contextual only [w_s_l10Reserve_1, shr_nat, hb', h, hu, hi, hl, part_encL0 _ hl, part_encL1 _ hl, wrap_succ (show i < 9223372036854775807 by omega), decide_true, go_sem, entry, joinEsc, if_pos, reduceIte, Nat.reduceAdd, Nat.reduceLeDiff, Nat.reduceLT, Nat.reduceEqDiff]
      exact ih

end Go.Proofs.Ytlcklonakjhoiaa.Slim
