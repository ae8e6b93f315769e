/- Rafts: sets that rise, and the next safe steps; the law. -/
import Derived.Test.YtlcklonakjhoiaaSlimE25
namespace Go.Proofs.Ytlcklonakjhoiaa.Slim

open Go

set_option linter.unusedSimpArgs false

set_option linter.unusedVariables false

variable {pr : Prims} {H : List Blk} {e : Option Nat}

/-- does a list rise, above lo and below n? -/
def rises (n : Int) : Int → List Int → Bool
  | _, [] => true
  | lo, x :: xs => (decide (lo < x) && decide (x ≤ n - 1)) && rises n x xs

def bitsF (acc : Int) : List Int → Int
  | [] => acc
  | x :: xs => bitsF (orI .i64 acc (shlI .i64 1 x)) xs

def codeN (m : Nat) : List Int → Nat
  | [] => m
  | x :: xs => codeN (m + 2 ^ x.toNat) xs

/-- what stands before place i -/
def before (os : List Int) (i : Nat) (lo : Int) : Prop := (i = 0 ∧ lo = -1) ∨ ∃ i', i = i' + 1 ∧ os[i']? = some lo ∧ 0 ≤ lo

theorem before_next {os : List Int} {i : Nat} {x : Int} (h : os[i]? = some x) (h0 : 0 ≤ x) : before os (i + 1) x := .inr ⟨i, rfl, h, h0⟩

theorem before_in {os : List Int} {i : Nat} {lo : Int} {x n : Int} (h : before os i lo) (hw : (decide (0 ≤ x) && decide (x ≤ n)) = false) : (decide (lo < x) && decide (x ≤ n)) = false := by
  have : -1 ≤ lo := by
    rcases h with ⟨_, rfl⟩ | ⟨_, _, _, h⟩ <;> omega
  simp only [Bool.and_eq_false_iff, decide_eq_false_iff_not] at *
  omega

theorem low_bits : ∀ m : Nat, m < 256 → ∀ x : Nat, x < 8 → m < 2 ^ x → (m.testBit x = false ∧ m + 2 ^ x < 2 ^ (x + 1)) := by decide +kernel

theorem pow_mono8 : ∀ n : Nat, n < 9 → ∀ x : Nat, x < n → 2 ^ (x + 1) ≤ 2 ^ n := by decide +kernel

theorem bitsF_code {n : Nat} (hn8 : n ≤ 8) : ∀ (os : List Int) (lo : Int) (m : Nat), -1 ≤ lo → lo < n → m < 2 ^ (lo + 1).toNat → rises n lo os = true → bitsF m os = (codeN m os : Nat) ∧ codeN m os < 2 ^ n
  | [], lo, m, h1, h2, h3, _ => by
    refine ⟨rfl, ?_⟩
    rw [codeN]
    have : (2 : Nat) ^ (lo + 1).toNat ≤ 2 ^ n := Nat.pow_le_pow_right (by omega) (by omega)
    omega
  | x :: xs, lo, m, h1, h2, h3, hr => by
    rw [rises, Bool.and_eq_true, Bool.and_eq_true, decide_eq_true_eq, decide_eq_true_eq] at hr
    obtain ⟨⟨r1, r2⟩, r3⟩ := hr
    obtain ⟨y, rfl⟩ : ∃ y : Nat, x = y := ⟨x.toNat, by omega⟩
    have hp : (2 : Nat) ^ (lo + 1).toNat ≤ 2 ^ y := Nat.pow_le_pow_right (by omega) (by omega)
    have hp8 : (2 : Nat) ^ y ≤ 2 ^ 8 := Nat.pow_le_pow_right (by omega) (by omega)
    have h256 : (2 : Nat) ^ 8 = 256 := by decide
    obtain ⟨l1, l2⟩ := low_bits m (by omega) y (by omega) (by omega)
    obtain ⟨_, _, f3⟩ := bits_facts m (by omega) y (by omega)
    obtain ⟨g1, _, _, _⟩ := f3 l1
    rw [bitsF, codeN, g1, Int.toNat_natCast]
    exact bitsF_code hn8 xs y (m + 2 ^ y) (by omega) (by omega) (by rw [show ((y : Int) + 1).toNat = y + 1 by omega]; exact l2) r3

theorem loop_i_bitsOf {q q' n : Nat} {c c' : Option Nat} {os : List Int} (h : cellsAt H q' = some (encI os)) (hn : os.length ≤ 9223372036854775806) (hnn : n ≤ 1048576) :
    ∀ (k i : Nat) (lo acc : Int) (y5 y6 y10 y11 : AV), k + i = os.length → before os i lo → ∃ (z4 z5 z6 z9 z10 z11 : AV), (rises n lo (os.drop i) = true → z4 = .int .i64 (bitsF acc (os.drop i))) ∧ run T pr (.loop w_i_bitsOf_1) ⟨[slL q n c, slI q' os.length c', .int .i64 0, .bool false, .int .i64 acc, y5, y6, slI q' os.length c', .int .i64 os.length, .int .i64 i, y10, y11], ⟨H, e⟩⟩ =
      some (if rises n lo (os.drop i) = true then Ex.exit 0 else Ex.ret, ⟨[slL q n c, slI q' os.length c', .int .i64 0, .bool false, z4, z5, z6, slI q' os.length c', .int .i64 os.length, z9, z10, z11], ⟨H, e⟩⟩)
  | 0, i, lo, acc, y5, y6, y10, y11, hk, hb => by
    have hi : i = os.length := by omega
    subst hi
    refine ⟨.int .i64 acc, y5, y6, .int .i64 os.length, .bool false, y11, (fun _ => by rw [List.drop_length]; rfl), ?_⟩
    rw [run_loop]
    generalize run T pr (.loop w_i_bitsOf_1) = R
    simp +contextual only [w_i_bitsOf_1, Nat.lt_irrefl, decide_false, List.drop_length, rises, go_sem, entry, joinEsc, if_pos, reduceIte, Nat.reduceAdd, Nat.reduceLeDiff, Nat.reduceLT, Nat.reduceEqDiff]
  | k + 1, i, lo, acc, y5, y6, y10, y11, hk, hb => by
    have hi : i < os.length := by omega
    have hl : os[i]? = some os[i] := List.getElem?_eq_getElem hi
    have hw : IntKind.i64.wrap ((n : Int) - 1) = (n : Int) - 1 := wrap64 (by omega) (by omega)
    rw [run_loop, List.drop_eq_getElem_cons hi, rises, bitsF]
    generalize hx : os[i] = x at hl ⊢
    cases h1 : (decide (0 ≤ x) && decide (x ≤ (n : Int) - 1)) with
    | false =>
      have h2 := before_in hb h1
      refine ⟨.int .i64 acc, .int .i64 i, .int .i64 x, .int .i64 i, .bool true, .bool true, (fun h => by rw [h2] at h; cases h), ?_⟩
      generalize run T pr (.loop w_i_bitsOf_1) = R
      simp +contextual only [w_i_bitsOf_1, h, hi, hl, part_encI _ hl, hw, e_i_within, h1, h2, decide_true, go_sem, entry, joinEsc, if_pos, reduceIte, Nat.reduceAdd, Nat.reduceLeDiff, Nat.reduceLT, Nat.reduceEqDiff]
    | true =>
      have h1a : decide (0 ≤ x) = true := (Bool.and_eq_true_iff.mp h1).1
      have h1b : decide (x ≤ (n : Int) - 1) = true := (Bool.and_eq_true_iff.mp h1).2
      have hx0 : 0 ≤ x := by simpa using h1a
      obtain ⟨y, rfl⟩ : ∃ y : Nat, x = y := ⟨x.toNat, by omega⟩
      obtain ⟨z4, z5, z6, z9, z10, z11, hz, ih⟩ := loop_i_bitsOf (q := q) (c := c) (c' := c') h hn hnn k (i + 1) y (orI .i64 acc (shlI .i64 1 y)) (.int .i64 i) (.int .i64 y) (.bool true) (.bool false) (by omega) (before_next hl hx0)
      rcases hb with ⟨rfl, rfl⟩ | ⟨i', rfl, hp, hp0⟩
      · have hm : decide ((-1 : Int) < (y : Int)) = true := by simp; omega
        rw [hm, h1b, Bool.and_self, Bool.true_and]
        refine ⟨z4, z5, z6, z9, z10, z11, hz, ?_⟩
        generalize run T pr (.loop w_i_bitsOf_1) = R at ih ⊢
        have h0 : ((0 : Nat) : Int) = 0 := rfl
        have h00 : ¬ ((0 : Int) < ((0 : Nat) : Int)) := by omega
        simp +contextual only [w_i_bitsOf_1, h, hi, hl, part_encI _ hl, hw, e_i_within, h1a, h1b, h00, shl_nat, Int.lt_irrefl, wrap_succ (show 0 < 9223372036854775807 by omega), decide_true, decide_false, go_sem, entry, joinEsc, if_pos, reduceIte, Nat.reduceAdd, Nat.reduceLeDiff, Nat.reduceLT, Nat.reduceEqDiff]
        exact ih
      · have hw' : IntKind.i64.wrap (((i' + 1 : Nat) : Int) - 1) = (i' : Int) := by rw [show ((i' + 1 : Nat) : Int) - 1 = (i' : Int) by omega]; exact wrap64 (by omega) (by omega)
        have hi' : i' < os.length := by omega
        have hpos : (0 : Int) < ((i' + 1 : Nat) : Int) := by omega
        by_cases h3 : (y : Int) ≤ lo
        · have h4 : decide (lo < (y : Int)) = false := decide_eq_false (by omega)
          rw [h4, Bool.false_and, Bool.false_and]
          refine ⟨.int .i64 acc, .int .i64 ((i' + 1 : Nat) : Int), .int .i64 y, .int .i64 ((i' + 1 : Nat) : Int), .bool true, .bool true, (fun h => by cases h), ?_⟩
          generalize run T pr (.loop w_i_bitsOf_1) = R
          simp +contextual only [w_i_bitsOf_1, h, hi, hi', hl, part_encI _ hl, part_encI _ hp, hw, hw', hpos, e_i_within, h1a, h1b, h3, shl_nat, decide_true, decide_false, go_sem, entry, joinEsc, if_pos, reduceIte, Nat.reduceAdd, Nat.reduceLeDiff, Nat.reduceLT, Nat.reduceEqDiff]
        · have h4 : decide (lo < (y : Int)) = true := decide_eq_true (by omega)
          rw [h4, h1b, Bool.and_self, Bool.true_and]
          refine ⟨z4, z5, z6, z9, z10, z11, hz, ?_⟩
          generalize run T pr (.loop w_i_bitsOf_1) = R at ih ⊢
          simp +contextual only [w_i_bitsOf_1, h, hi, hi', hl, part_encI _ hl, part_encI _ hp, hw, hw', hpos, e_i_within, h1a, h1b, h3, shl_nat, wrap_succ (show i' + 1 < 9223372036854775807 by omega), decide_true, decide_false, go_sem, entry, joinEsc, if_pos, reduceIte, Nat.reduceAdd, Nat.reduceLeDiff, Nat.reduceLT, Nat.reduceEqDiff]
          exact ih

theorem e_i_bitsOf {q q' n : Nat} {c c' : Option Nat} {os : List Int} (h : cellsAt H q' = some (encI os)) (hn : os.length ≤ 9223372036854775806) (hnn : n ≤ 1048576) :
    call T pr f_i_bitsOf [slL q n c, slI q' os.length c'] ⟨H, e⟩ = some (.tup [.int .i64 (if rises n (-1) os = true then bitsF 0 os else 0), .bool (rises n (-1) os)], ⟨H, e⟩) := by
  obtain ⟨z4, z5, z6, z9, z10, z11, hz, hl⟩ := loop_i_bitsOf (pr := pr) (e := none) (q := q) (c := c) (c' := c') h hn hnn os.length 0 (-1) 0 .undef .undef .undef .undef rfl (.inl ⟨rfl, rfl⟩)
  have h0 : ((0 : Nat) : Int) = 0 := rfl
  rw [h0, List.drop_zero] at hl
  rw [List.drop_zero] at hz
  rw [call_eq t_i_bitsOf]
  cases h1 : rises n (-1) os with
  | false => simp only [h1, Bool.false_eq_true, if_false] at hl ⊢; simp +contextual only [a_i_bitsOf, c_i_bitsOf, hl, go_sem, entry, joinEsc, if_pos, reduceIte, Nat.reduceAdd, Nat.reduceLeDiff, Nat.reduceLT, Nat.reduceEqDiff]
  | true => rw [hz h1] at hl; simp only [h1, if_true] at hl ⊢; simp +contextual only [a_i_bitsOf, c_i_bitsOf, hl, go_sem, entry, joinEsc, if_pos, reduceIte, Nat.reduceAdd, Nat.reduceLeDiff, Nat.reduceLT, Nat.reduceEqDiff]

theorem loop_s_l1Rising {q' : Nat} {n : Int} {c' : Option Nat} {os : List Int} (h : cellsAt H q' = some (encI os)) (hn : os.length ≤ 9223372036854775806) :
    ∀ (k i : Nat) (lo : Int) (y5 y6 : AV), k + i = os.length → before os i lo → ∃ (z4 z5 z6 : AV), run T pr (.loop w_s_l1Rising_1) ⟨[slI q' os.length c', .int .i64 0, .int .i64 (n - 1), .bool false, .int .i64 i, y5, y6], ⟨H, e⟩⟩ =
      some (if rises n lo (os.drop i) = true then Ex.exit 0 else Ex.ret, ⟨[slI q' os.length c', .int .i64 0, .int .i64 (n - 1), .bool false, z4, z5, z6], ⟨H, e⟩⟩)
  | 0, i, lo, y5, y6, hk, hb => by
    have hi : i = os.length := by omega
    subst hi
    refine ⟨.int .i64 os.length, .bool false, y6, ?_⟩
    rw [run_loop]
    generalize run T pr (.loop w_s_l1Rising_1) = R
    simp +contextual only [w_s_l1Rising_1, Nat.lt_irrefl, decide_false, List.drop_length, rises, go_sem, entry, joinEsc, if_pos, reduceIte, Nat.reduceAdd, Nat.reduceLeDiff, Nat.reduceLT, Nat.reduceEqDiff]
  | k + 1, i, lo, y5, y6, hk, hb => by
    have hi : i < os.length := by omega
    have hl : os[i]? = some os[i] := List.getElem?_eq_getElem hi
    rw [run_loop, List.drop_eq_getElem_cons hi, rises]
    generalize hx : os[i] = x at hl ⊢
    cases h1 : (decide (0 ≤ x) && decide (x ≤ n - 1)) with
    | false =>
      have h2 := before_in hb h1
      refine ⟨.int .i64 i, .bool true, .bool true, ?_⟩
      generalize run T pr (.loop w_s_l1Rising_1) = R
      simp +contextual only [w_s_l1Rising_1, h, hi, hl, part_encI _ hl, e_s_l1In, h1, h2, decide_true, go_sem, entry, joinEsc, if_pos, reduceIte, Nat.reduceAdd, Nat.reduceLeDiff, Nat.reduceLT, Nat.reduceEqDiff]
    | true =>
      have h1a : decide (0 ≤ x) = true := (Bool.and_eq_true_iff.mp h1).1
      have h1b : decide (x ≤ n - 1) = true := (Bool.and_eq_true_iff.mp h1).2
      have hx0 : 0 ≤ x := by simpa using h1a
      obtain ⟨z4, z5, z6, ih⟩ := loop_s_l1Rising (n := n) (c' := c') h hn k (i + 1) x (.bool true) (.bool false) (by omega) (before_next hl hx0)
      rcases hb with ⟨rfl, rfl⟩ | ⟨i', rfl, hp, hp0⟩
      · have hm : decide ((-1 : Int) < x) = true := decide_eq_true (by omega)
        rw [hm, h1b, Bool.and_self, Bool.true_and]
        refine ⟨z4, z5, z6, ?_⟩
        generalize run T pr (.loop w_s_l1Rising_1) = R at ih ⊢
        have h0 : ((0 : Nat) : Int) = 0 := rfl
        have h00 : ¬ ((0 : Int) < ((0 : Nat) : Int)) := by omega
        simp +contextual only [w_s_l1Rising_1, h, hi, hl, part_encI _ hl, e_s_l1In, h1a, h1b, h00, Int.lt_irrefl, wrap_succ (show 0 < 9223372036854775807 by omega), decide_true, decide_false, go_sem, entry, joinEsc, if_pos, reduceIte, Nat.reduceAdd, Nat.reduceLeDiff, Nat.reduceLT, Nat.reduceEqDiff]
        exact ih
      · have hw' : IntKind.i64.wrap (((i' + 1 : Nat) : Int) - 1) = (i' : Int) := by rw [show ((i' + 1 : Nat) : Int) - 1 = (i' : Int) by omega]; exact wrap64 (by omega) (by omega)
        have hi' : i' < os.length := by omega
        have hpos : (0 : Int) < ((i' + 1 : Nat) : Int) := by omega
        by_cases h3 : x ≤ lo
        · have h4 : decide (lo < x) = false := decide_eq_false (by omega)
          rw [h4, Bool.false_and, Bool.false_and]
          refine ⟨.int .i64 ((i' + 1 : Nat) : Int), .bool true, .bool true, ?_⟩
          generalize run T pr (.loop w_s_l1Rising_1) = R
          simp +contextual only [w_s_l1Rising_1, h, hi, hi', hl, part_encI _ hl, part_encI _ hp, hw', hpos, e_s_l1In, h1a, h1b, h3, decide_true, decide_false, go_sem, entry, joinEsc, if_pos, reduceIte, Nat.reduceAdd, Nat.reduceLeDiff, Nat.reduceLT, Nat.reduceEqDiff]
        · have h4 : decide (lo < x) = true := decide_eq_true (by omega)
          rw [h4, h1b, Bool.and_self, Bool.true_and]
          refine ⟨z4, z5, z6, ?_⟩
          generalize run T pr (.loop w_s_l1Rising_1) = R at ih ⊢
          simp +contextual only [w_s_l1Rising_1, h, hi, hi', hl, part_encI _ hl, part_encI _ hp, hw', hpos, e_s_l1In, h1a, h1b, h3, wrap_succ (show i' + 1 < 9223372036854775807 by omega), decide_true, decide_false, go_sem, entry, joinEsc, if_pos, reduceIte, Nat.reduceAdd, Nat.reduceLeDiff, Nat.reduceLT, Nat.reduceEqDiff]
          exact ih

theorem e_s_l1Rising {q' : Nat} {n : Int} {c' : Option Nat} {os : List Int} (h : cellsAt H q' = some (encI os)) (hn : os.length ≤ 9223372036854775806) :
    call T pr f_s_l1Rising [slI q' os.length c', .int .i64 0, .int .i64 (n - 1)] ⟨H, e⟩ = some (.bool (rises n (-1) os), ⟨H, e⟩) := by
  obtain ⟨z4, z5, z6, hl⟩ := loop_s_l1Rising (pr := pr) (e := none) (n := n) (c' := c') h hn os.length 0 (-1) .undef .undef rfl (.inl ⟨rfl, rfl⟩)
  have h0 : ((0 : Nat) : Int) = 0 := rfl
  rw [h0, List.drop_zero] at hl
  rw [call_eq t_s_l1Rising]
  cases h1 : rises n (-1) os <;> rw [h1] at hl <;> simp +contextual only [a_s_l1Rising, c_s_l1Rising, hl, go_sem, entry, joinEsc, if_pos, reduceIte, Nat.reduceAdd, Nat.reduceLeDiff, Nat.reduceLT, Nat.reduceEqDiff]

theorem loop_s_l10Code {q' n : Nat} {rv cg p y4 y5 y8 : AV} {c' : Option Nat} {os : List Int} (hn8 : n ≤ 8) (h : cellsAt H q' = some (encI os)) (hn : os.length ≤ 9223372036854775806) :
    ∀ (k i m : Nat) (lo : Int) (y9 : AV), k + i = os.length → -1 ≤ lo → lo < n → m < 2 ^ (lo + 1).toNat → rises n lo (os.drop i) = true → ∃ (z9 : AV), run T pr (.loop w_s_l10Code_1) ⟨[rv, cg, slI q' os.length c', p, y4, y5, .int .i64 m, .int .i64 i, y8, y9], ⟨H, e⟩⟩ =
      some (Ex.exit 0, ⟨[rv, cg, slI q' os.length c', p, y4, y5, .int .i64 (codeN m (os.drop i) : Nat), .int .i64 os.length, y8, z9], ⟨H, e⟩⟩)
  | 0, i, m, lo, y9, hk, h1, h2, h3, hr => by
    have hi : i = os.length := by omega
    subst hi
    refine ⟨.bool false, ?_⟩
    rw [run_loop]
    generalize run T pr (.loop w_s_l10Code_1) = R
    simp +contextual only [w_s_l10Code_1, Nat.lt_irrefl, decide_false, List.drop_length, codeN, go_sem, entry, joinEsc, if_pos, reduceIte, Nat.reduceAdd, Nat.reduceLeDiff, Nat.reduceLT, Nat.reduceEqDiff]
  | k + 1, i, m, lo, y9, hk, h1, h2, h3, hr => by
    have hi : i < os.length := by omega
    have hl : os[i]? = some os[i] := List.getElem?_eq_getElem hi
    rw [List.drop_eq_getElem_cons hi, rises, Bool.and_eq_true, Bool.and_eq_true, decide_eq_true_eq, decide_eq_true_eq] at hr
    rw [run_loop, List.drop_eq_getElem_cons hi, codeN]
    generalize hx : os[i] = x at hl hr ⊢
    obtain ⟨⟨r1, r2⟩, r3⟩ := hr
    obtain ⟨y, rfl⟩ : ∃ y : Nat, x = y := ⟨x.toNat, by omega⟩
    have hp : (2 : Nat) ^ (lo + 1).toNat ≤ 2 ^ y := Nat.pow_le_pow_right (by omega) (by omega)
    have hp8 : (2 : Nat) ^ y ≤ 2 ^ 8 := Nat.pow_le_pow_right (by omega) (by omega)
    have h256 : (2 : Nat) ^ 8 = 256 := by decide
    obtain ⟨l1, l2⟩ := low_bits m (by omega) y (by omega) (by omega)
    obtain ⟨_, _, f3⟩ := bits_facts m (by omega) y (by omega)
    obtain ⟨_, g2, _, _⟩ := f3 l1
    have g2' : IntKind.i64.wrap ((m : Int) + shlI .i64 1 (y : Int)) = ((m + 2 ^ y : Nat) : Int) := g2
    rw [Int.toNat_natCast]
    obtain ⟨z9, ih⟩ := loop_s_l10Code (rv := rv) (cg := cg) (p := p) (y4 := y4) (y5 := y5) (y8 := y8) (c' := c') hn8 h hn k (i + 1) (m + 2 ^ y) y (.bool true) (by omega) (by omega) (by omega) (by rw [show ((y : Int) + 1).toNat = y + 1 by omega]; exact l2) r3
    refine ⟨z9, ?_⟩
    generalize run T pr (.loop w_s_l10Code_1) = R at ih ⊢
    simp +contextual only [w_s_l10Code_1, h, hi, hl, part_encI _ hl, shl_nat, g2', wrap_succ (show i < 9223372036854775807 by omega), decide_true, go_sem, entry, joinEsc, if_pos, reduceIte, Nat.reduceAdd, Nat.reduceLeDiff, Nat.reduceLT, Nat.reduceEqDiff]
    exact ih

/-- a set of a cargo -/
def setOk (a b o : Int) (ls : List Ld) (os : List Int) : Bool := cargoOk a b o ls && rises ls.length (-1) os

theorem e_s_l10Code {q q' : Nat} {c c' : Option Nat} {ls : List Ld} {os : List Int} (hq : cellsAt H q = some (encL ls)) (h : cellsAt H q' = some (encI os)) (hn : os.length ≤ 9223372036854775806) (a b o : Int) :
    call T pr f_s_l10Code [rfV a b o, slL q ls.length c, slI q' os.length c'] ⟨H, e⟩ = some (.tup [.int .i64 (if setOk a b o ls os = true then ((codeN 0 os : Nat) : Int) else 0), .bool (setOk a b o ls os)], ⟨H, e⟩) := by
  rw [call_eq t_s_l10Code]
  unfold setOk
  cases h1 : cargoOk a b o ls with
  | false =>
    rw [Bool.false_and, if_neg (by simp)]
    simp +contextual only [a_s_l10Code, c_s_l10Code, e_s_l10Cargo (cells_mono hq _), h1, go_sem, entry, joinEsc, if_pos, reduceIte, Nat.reduceAdd, Nat.reduceLeDiff, Nat.reduceLT, Nat.reduceEqDiff]
  | true =>
    have hn8 := cargo_le h1
    have hw : IntKind.i64.wrap ((ls.length : Int) - 1) = (ls.length : Int) - 1 := wrap64 (by omega) (by omega)
    rw [Bool.true_and]
    cases h2 : rises ls.length (-1) os with
    | false =>
      rw [if_neg (by simp)]
      simp +contextual only [a_s_l10Code, c_s_l10Code, e_s_l10Cargo (cells_mono hq _), h1, hw, e_s_l1Rising (cells_mono h _) hn, h2, go_sem, entry, joinEsc, if_pos, reduceIte, Nat.reduceAdd, Nat.reduceLeDiff, Nat.reduceLT, Nat.reduceEqDiff]
    | true =>
      rw [if_pos rfl]
      obtain ⟨z9, hl⟩ := loop_s_l10Code (pr := pr) (e := none) (rv := rfV a b o) (cg := slL q ls.length c) (p := .ptr (some (H.length, 0))) (y4 := .int .i64 0) (y5 := .bool false) (y8 := .bool false) (c' := c') hn8 (cells_mono h [Blk.cells [.int .i64 a, .int .i64 b, .int .i64 o] true]) hn os.length 0 0 (-1) .undef rfl (by omega) (by omega) (by decide) (by simpa using h2)
      have h0 : ((0 : Nat) : Int) = 0 := rfl
      rw [h0, List.drop_zero] at hl
      simp +contextual only [a_s_l10Code, c_s_l10Code, e_s_l10Cargo (cells_mono hq _), h1, hw, e_s_l1Rising (cells_mono h _) hn, h2, hl, go_sem, entry, joinEsc, if_pos, reduceIte, Nat.reduceAdd, Nat.reduceLeDiff, Nat.reduceLT, Nat.reduceEqDiff]

theorem loop_s_SafeStep {a0 a2 a3 a4 a5 a8 y11 : AV} {q w n F C : Nat} {c cw : Option Nat} {W : List Int} (hn8 : n ≤ 8) (hF : F = 2 ^ n) (hC : C < F) (hW : W.length = F) :
    ∀ (k i : Nat) (o : List Int) (j : Nat) (cap : Option Nat) (G : List Blk) (y12 y13 : AV), cellsAt (H ++ G) w = some (encI W) → w ≠ H.length + j → k + i = n → o.length ≤ i → G[j]? = some (.cells (encI o) true) → (cap = some 0 → o = []) →
      ∃ (j' : Nat) (cap' : Option Nat) (G' : List Blk) (z12 z13 : AV), G'[j']? = some (.cells (encI (o ++ ((List.range' i k).filter (okStep W C)).map fun (i : Nat) => (i : Int))) true) ∧ run T pr (.loop w_s_SafeStep_1) ⟨[a0, slL q n c, a2, a3, a4, a5, slI (H.length + j) o.length cap, .int .i64 C, a8, slI w F cw, .int .i64 i, y11, y12, y13], ⟨H ++ G, none⟩⟩ =
      some (Ex.exit 0, ⟨[a0, slL q n c, a2, a3, a4, a5, slI (H.length + j') (o ++ ((List.range' i k).filter (okStep W C)).map fun (i : Nat) => (i : Int)).length cap', .int .i64 C, a8, slI w F cw, .int .i64 n, y11, z12, z13], ⟨H ++ G', none⟩⟩)
  | 0, i, o, j, cap, G, y12, y13, hw, hne, hk, ho, hG, hcap => by
    have hi : i = n := by omega
    subst hi
    refine ⟨j, cap, G, .bool false, y13, ?_, ?_⟩
    · simpa using hG
    rw [run_loop]
    generalize run T pr (.loop w_s_SafeStep_1) = R
    have h0 : (o ++ ((List.range' i 0).filter (okStep W C)).map fun (i : Nat) => (i : Int)) = o := by simp
    simp +contextual only [w_s_SafeStep_1, Nat.lt_irrefl, decide_false, h0, go_sem, entry, joinEsc, if_pos, reduceIte, Nat.reduceAdd, Nat.reduceLeDiff, Nat.reduceLT, Nat.reduceEqDiff]
  | k + 1, i, o, j, cap, G, y12, y13, hw, hne, hk, ho, hG, hcap => by
    have hi : i < n := by omega
    obtain ⟨p1, p2, p3⟩ := pow_facts n (by omega)
    obtain ⟨s1, s2⟩ := set_facts n (by omega) C (by omega) i hi
    obtain ⟨_, _, f3⟩ := bits_facts C (by omega) i (by omega)
    rw [run_loop, List.range'_succ, List.filter_cons]
    cases h1 : C.testBit i with
    | true =>
      have hok : okStep W C i = false := by simp [okStep, h1]
      rw [hok, if_neg (by simp)]
      obtain ⟨j', cap', G', z12, z13, h2, ih⟩ := loop_s_SafeStep (a0 := a0) (a2 := a2) (a3 := a3) (a4 := a4) (a5 := a5) (a8 := a8) (y11 := y11) (q := q) (c := c) (cw := cw) hn8 hF hC hW k (i + 1) o j cap G (.bool true) (.bool false) hw hne (by omega) (by omega) hG hcap
      refine ⟨j', cap', G', z12, z13, h2, ?_⟩
      generalize run T pr (.loop w_s_SafeStep_1) = R at ih ⊢
      have hb := bit_set (c := C) (i := i) (by omega) (by omega) h1
      simp +contextual only [w_s_SafeStep_1, hi, shr_nat, hb, show ¬ ((1 : Int) = 0) by omega, decide_false, wrap_succ (show i < 9223372036854775807 by omega), decide_true, go_sem, entry, joinEsc, if_pos, reduceIte, Nat.reduceAdd, Nat.reduceLeDiff, Nat.reduceLT, Nat.reduceEqDiff]
      simp only [List.length_append] at ih
      exact ih
    | false =>
      obtain ⟨_, g2, g3, g4⟩ := f3 h1
      have g2' : IntKind.i64.wrap ((C : Int) + shlI .i64 1 (i : Int)) = ((C + 2 ^ i : Nat) : Int) := g2
      have hlt := s1 h1
      have hb := bit_clear (c := C) (i := i) (by omega) (by omega) h1
      have hlt' : C + 2 ^ i < F := by omega
      have e2 := part_encI (ls := W) 1 (getD_get (W := W) (c := C + 2 ^ i) (by omega))
      cases h3 : decide (0 < W.getD (C + 2 ^ i) 0) with
      | false =>
        have hok : okStep W C i = false := by unfold okStep; rw [h1, h3]; rfl
        rw [hok, if_neg (by simp)]
        obtain ⟨j', cap', G', z12, z13, h2, ih⟩ := loop_s_SafeStep (a0 := a0) (a2 := a2) (a3 := a3) (a4 := a4) (a5 := a5) (a8 := a8) (y11 := y11) (q := q) (c := c) (cw := cw) hn8 hF hC hW k (i + 1) o j cap G (.bool true) (.bool false) hw hne (by omega) (by omega) hG hcap
        refine ⟨j', cap', G', z12, z13, h2, ?_⟩
        generalize run T pr (.loop w_s_SafeStep_1) = R at ih ⊢
        simp +contextual only [w_s_SafeStep_1, hw, hi, hlt', shr_nat, shl_nat, hb, g2', e2, h3, wrap_succ (show i < 9223372036854775807 by omega), decide_true, go_sem, entry, joinEsc, if_pos, reduceIte, Nat.reduceAdd, Nat.reduceLeDiff, Nat.reduceLT, Nat.reduceEqDiff]
        simp only [List.length_append] at ih
        exact ih
      | true =>
        have hok : okStep W C i = true := by unfold okStep; rw [h1, h3]; rfl
        rw [hok, if_pos rfl]
        have hmb : (o.length + 1) * 8 ≤ maxBytes := by unfold maxBytes; omega
        have hwl := cells_lt hw
        rw [List.length_append] at hwl
        obtain ⟨j', cap', G', z12, z13, h2, ih⟩ := loop_s_SafeStep (a0 := a0) (a2 := a2) (a3 := a3) (a4 := a4) (a5 := a5) (a8 := a8) (y11 := y11) (q := q) (c := c) (cw := cw) hn8 hF hC hW k (i + 1) (o ++ [(i : Int)]) (G.length + 1) none
          (killIf cap j (G ++ [.cells [.int .i64 i] true]) ++ [.cells (encI (o ++ [(i : Int)])) true]) (.bool true) (.bool true) (cells_kill hw hne) (by omega) (by omega) (by simp; omega) (by
            rw [List.getElem?_append_right (by simp [killIf_length])]; simp [killIf_length]) (by simp)
        rw [List.append_assoc, List.singleton_append, ← List.map_cons (f := fun (i : Nat) => (i : Int))] at h2 ih
        refine ⟨j', cap', G', z12, z13, h2, ?_⟩
        generalize run T pr (.loop w_s_SafeStep_1) = R at ih ⊢
        simp +contextual only [w_s_SafeStep_1, hw, hi, hlt', shr_nat, shl_nat, hb, g2', e2, h3, fillParts, append_in hG hcap hmb, wrap_succ (show i < 9223372036854775807 by omega), decide_true, go_sem, entry, joinEsc, if_pos, reduceIte, Nat.reduceAdd, Nat.reduceLeDiff, Nat.reduceLT, Nat.reduceEqDiff]
        simp only [List.length_append, List.length_cons, List.length_nil, Nat.zero_add, encI_append, List.map_cons, List.map_nil] at ih
        exact ih

/-- is the set one from which steps are told? -/
def canS (a b o : Int) (ls : List Ld) (os : List Int) : Bool := setOk a b o ls os && safeW a b o ls ((codeN 0 os : Nat) : Int)

def ssW (a b o : Int) (ls : List Ld) (os : List Int) : List Int := stepsW (waysW a b o ls) ls.length (codeN 0 os)

theorem ssW_le (a b o : Int) (ls : List Ld) (os : List Int) : (ssW a b o ls os).length ≤ ls.length := by
  unfold ssW stepsW
  rw [List.length_map]
  have := List.length_filter_le (okStep (waysW a b o ls) (codeN 0 os)) (List.range ls.length)
  simpa using this

end Go.Proofs.Ytlcklonakjhoiaa.Slim
