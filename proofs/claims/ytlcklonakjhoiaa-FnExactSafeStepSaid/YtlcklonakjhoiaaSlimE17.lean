/- Rafts: the first tip, on both sides. -/
import Derived.Test.YtlcklonakjhoiaaSlimE16
namespace Go.Proofs.Ytlcklonakjhoiaa.Slim

open Go

set_option linter.unusedSimpArgs false

set_option linter.unusedVariables false

variable {pr : Prims} {H : List Blk} {e : Option Nat}

theorem e_i_isOrder {q q' : Nat} {c c' : Option Nat} {n : Nat} {os : List Int} (hn8 : n ≤ 8) (h : cellsAt H q' = some (encI os)) (hn : os.length ≤ 9223372036854775806) :
    call T pr f_i_isOrder [slL q n c, slI q' os.length c'] ⟨H, e⟩ = some (.bool (ordOk n 0 os && decide (os.length = n)), ⟨H, e⟩) := by
  obtain ⟨z3, z4, z7, z8, z9, hl⟩ := loop_i_isOrder (pr := pr) (e := none) (c := c) (c' := c') (q := q) hn8 h hn os.length 0 0 .undef .undef .undef rfl (by omega)
  have h0 : ((0 : Nat) : Int) = 0 := rfl
  have hi : decide ((os.length : Int) = (n : Int)) = decide (os.length = n) := decide_eq_decide.mpr (by omega)
  rw [h0, List.drop_zero] at hl
  rw [call_eq t_i_isOrder]
  cases h1 : ordOk n 0 os <;> rw [h1] at hl <;> simp +contextual only [a_i_isOrder, c_i_isOrder, hl, hi, Bool.false_and, Bool.true_and, go_sem, entry, joinEsc, if_pos, reduceIte, Nat.reduceAdd, Nat.reduceLeDiff, Nat.reduceLT, Nat.reduceEqDiff]

theorem ordOk_iff {n : Nat} (hn8 : n ≤ 8) : ∀ (os : List Int) (m : Nat), m < 256 → (ordOk n m os = true ↔ os.Nodup ∧ ∀ x ∈ os, (0 ≤ x ∧ x < n) ∧ m.testBit x.toNat = false)
  | [], m, hm => by simp [ordOk]
  | x :: xs, m, hm => by
    rw [ordOk, Bool.and_eq_true, Bool.and_eq_true, Bool.and_eq_true, decide_eq_true_eq, decide_eq_true_eq, List.nodup_cons]
    constructor
    · rintro ⟨⟨⟨h1, h2⟩, h3⟩, h4⟩
      have h3' : m.testBit x.toNat = false := by simpa using h3
      obtain ⟨_, _, f3⟩ := bits_facts m hm x.toNat (by omega)
      obtain ⟨_, _, g3, g4⟩ := f3 h3'
      obtain ⟨k1, k2⟩ := (ordOk_iff hn8 xs _ g3).mp h4
      refine ⟨⟨fun hx => ?_, k1⟩, fun y hy => ?_⟩
      · have := (k2 x hx).2
        rw [g4 _ (by omega)] at this
        simp at this
      · rcases List.mem_cons.mp hy with rfl | hy
        · exact ⟨⟨h1, by omega⟩, h3'⟩
        · obtain ⟨k3, k4⟩ := k2 y hy
          rw [g4 _ (by omega)] at k4
          exact ⟨k3, (Bool.or_eq_false_iff.mp k4).1⟩
    · rintro ⟨⟨h1, h2⟩, h3⟩
      obtain ⟨h4, h5⟩ := h3 x (by simp)
      obtain ⟨_, _, f3⟩ := bits_facts m hm x.toNat (by omega)
      obtain ⟨_, _, g3, g4⟩ := f3 h5
      refine ⟨⟨⟨h4.1, by omega⟩, by simp [h5]⟩, (ordOk_iff hn8 xs _ g3).mpr ⟨h2, fun y hy => ?_⟩⟩
      obtain ⟨k3, k4⟩ := h3 y (by simp [hy])
      refine ⟨k3, ?_⟩
      rw [g4 _ (by omega), k4]
      have : ¬ x.toNat = y.toNat := fun he => h1 (by rwa [show x = y by omega])
      simp [this]

/-- has the list all of k numbers, from i on? -/
def hasAll (os : List Int) : Nat → Nat → Bool
  | _, 0 => true
  | i, k + 1 => decide ((i : Int) ∈ os) && hasAll os (i + 1) k

theorem hasAll_iff {os : List Int} : ∀ (k i : Nat), hasAll os i k = true ↔ ∀ x : Int, (i : Int) ≤ x → x < i + k → x ∈ os
  | 0, i => by simp [hasAll]; intro x h1 h2; omega
  | k + 1, i => by
    rw [hasAll, Bool.and_eq_true, decide_eq_true_eq, hasAll_iff k (i + 1)]
    constructor
    · rintro ⟨h1, h2⟩ x h3 h4
      by_cases hx : x = i
      · rw [hx]; exact h1
      · exact h2 x (by omega) (by omega)
    · intro h
      exact ⟨h _ (by omega) (by omega), fun x h1 h2 => h x (by omega) (by omega)⟩

theorem hasAll_ord {os : List Int} {n : Nat} (hn8 : n ≤ 8) (hl : os.length = n) : hasAll os 0 n = ordOk n 0 os := by
  rw [Bool.eq_iff_iff, hasAll_iff, ordOk_iff hn8 os 0 (by omega)]
  have h0 : ((0 : Nat) : Int) = 0 := rfl
  rw [h0, Int.zero_add]
  constructor
  · intro h
    obtain ⟨h1, h2⟩ := (order_iff hl).mp (fun x h3 h4 => h x h3 h4)
    exact ⟨h1, fun x hx => ⟨h2 x hx, Nat.zero_testBit _⟩⟩
  · rintro ⟨h1, h2⟩
    have := (order_iff hl).mpr ⟨h1, fun x hx => (h2 x hx).1⟩
    exact fun x h3 h4 => this x h3 h4

theorem loop_s_l10Order {q' n : Nat} {rv p : AV} {c' : Option Nat} {os : List Int} {y6 : AV} (h : cellsAt H q' = some (encI os)) (hn : os.length ≤ 9223372036854775806) {q : Nat} {c : Option Nat} (hn8 : n ≤ 8) :
    ∀ (k i : Nat) (y7 y8 : AV), k + i = n → ∃ (z5 z7 z8 : AV), run T pr (.loop w_s_l10Order_1) ⟨[rv, slL q n c, slI q' os.length c', p, .bool false, .int .i64 i, y6, y7, y8], ⟨H, e⟩⟩ =
      some (if hasAll os i k = true then Ex.exit 0 else Ex.ret, ⟨[rv, slL q n c, slI q' os.length c', p, .bool false, z5, y6, z7, z8], ⟨H, e⟩⟩)
  | 0, i, y7, y8, hk => by
    have hi : i = n := by omega
    subst hi
    refine ⟨.int .i64 i, .bool false, y8, ?_⟩
    rw [run_loop]
    generalize run T pr (.loop w_s_l10Order_1) = R
    simp +contextual only [w_s_l10Order_1, Nat.lt_irrefl, decide_false, hasAll, go_sem, entry, joinEsc, if_pos, reduceIte, Nat.reduceAdd, Nat.reduceLeDiff, Nat.reduceLT, Nat.reduceEqDiff]
  | k + 1, i, y7, y8, hk => by
    have hi : i < n := by omega
    obtain ⟨z5, z7, z8, ih⟩ := loop_s_l10Order (rv := rv) (p := p) (y6 := y6) (c' := c') (c := c) (q := q) h hn hn8 k (i + 1) (.bool true) (.bool false) (by omega)
    rw [run_loop, hasAll]
    generalize run T pr (.loop w_s_l10Order_1) = R at ih ⊢
    cases h1 : decide ((i : Int) ∈ os) with
    | false =>
      refine ⟨.int .i64 i, .bool true, .bool true, ?_⟩
      simp +contextual only [w_s_l10Order_1, hi, e_s_l1Has h hn, h1, decide_true, go_sem, entry, joinEsc, if_pos, reduceIte, Nat.reduceAdd, Nat.reduceLeDiff, Nat.reduceLT, Nat.reduceEqDiff]
    | true =>
      refine ⟨z5, z7, z8, ?_⟩
      simp +contextual only [w_s_l10Order_1, hi, e_s_l1Has h hn, h1, decide_true, Bool.true_and, wrap_succ (show i < 9223372036854775807 by omega), go_sem, entry, joinEsc, if_pos, reduceIte, Nat.reduceAdd, Nat.reduceLeDiff, Nat.reduceLT, Nat.reduceEqDiff]
      exact ih

theorem e_s_l10Order {q q' : Nat} {c c' : Option Nat} {ls : List Ld} {os : List Int} (hq : cellsAt H q = some (encL ls)) (h : cellsAt H q' = some (encI os)) (hn : os.length ≤ 9223372036854775806) (a b o : Int) :
    call T pr f_s_l10Order [rfV a b o, slL q ls.length c, slI q' os.length c'] ⟨H, e⟩ = some (.bool (cargoOk a b o ls && (ordOk ls.length 0 os && decide (os.length = ls.length))), ⟨H, e⟩) := by
  rw [call_eq t_s_l10Order]
  have hi : decide ((os.length : Int) = (ls.length : Int)) = decide (os.length = ls.length) := decide_eq_decide.mpr (by omega)
  cases h1 : cargoOk a b o ls with
  | false => simp +contextual only [a_s_l10Order, c_s_l10Order, e_s_l10Cargo (cells_mono hq _), h1, Bool.false_and, go_sem, entry, joinEsc, if_pos, reduceIte, Nat.reduceAdd, Nat.reduceLeDiff, Nat.reduceLT, Nat.reduceEqDiff]
  | true =>
    by_cases h2 : os.length = ls.length
    · have hn8 : ls.length ≤ 8 := by
        unfold cargoOk at h1
        rw [Bool.and_eq_true, decide_eq_true_eq] at h1
        exact h1.2
      rw [← hasAll_ord hn8 h2]
      obtain ⟨z5, z7, z8, hl⟩ := loop_s_l10Order (pr := pr) (e := none) (rv := rfV a b o) (p := .ptr (some (H.length, 0))) (y6 := .bool false) (c := c) (c' := c') (q := q) (cells_mono h [Blk.cells [.int .i64 a, .int .i64 b, .int .i64 o] true]) hn hn8 ls.length 0 .undef .undef rfl
      have h0 : ((0 : Nat) : Int) = 0 := rfl
      rw [h0] at hl
      have h3 : ((os.length : Nat) : Int) = (ls.length : Nat) := by omega
      have h3' : decide (((ls.length : Nat) : Int) = (ls.length : Nat)) = true := decide_eq_true rfl
      rw [h2] at hl ⊢
      cases h4 : hasAll os 0 ls.length <;> rw [h4] at hl <;> simp +contextual only [a_s_l10Order, c_s_l10Order, e_s_l10Cargo (cells_mono hq _), h1, h2, h3, h3', hl, Bool.false_and, Bool.true_and, decide_true, Bool.not_true, go_sem, entry, joinEsc, if_pos, reduceIte, Nat.reduceAdd, Nat.reduceLeDiff, Nat.reduceLT, Nat.reduceEqDiff]
    · have h3 : ¬ ((os.length : Nat) : Int) = (ls.length : Nat) := by omega
      simp +contextual only [a_s_l10Order, c_s_l10Order, e_s_l10Cargo (cells_mono hq _), h1, h2, h3, decide_false, Bool.not_false, Bool.and_false, go_sem, entry, joinEsc, if_pos, reduceIte, Nat.reduceAdd, Nat.reduceLeDiff, Nat.reduceLT, Nat.reduceEqDiff]

/-- how many are on when it tips, 0 if it does not -/
def tipFrom (a b o : Int) (ls : List Ld) : Nat → Nat → List Int → Nat
  | _, _, [] => 0
  | i, m, x :: xs => if safeW a b o ls ((m + 2 ^ x.toNat : Nat) : Int) = true then tipFrom a b o ls (i + 1) (m + 2 ^ x.toNat) xs else i + 1

theorem loop_s_l10Tip {q q' u n : Nat} {rv : AV} {c c' : Option Nat} {ls : List Ld} {os : List Int} {a b o : Int} (hn8 : n ≤ 8) (hq : cellsAt H q = some (encL ls)) (hnq : ls.length ≤ 9223372036854775806) (h : cellsAt H q' = some (encI os)) (hn : os.length ≤ 9223372036854775806) (hu : cellsAt H u = some [.int .i64 a, .int .i64 b, .int .i64 o]) :
    ∀ (k i m : Nat) (y7 y8 : AV), k + i = os.length → m < 256 → ordOk n m (os.drop i) = true → ∃ (z5 z6 z7 z8 : AV), run T pr (.loop w_s_l10Tip_1) ⟨[rv, slL q ls.length c, slI q' os.length c', .ptr (some (u, 0)), .int .i64 0, .int .i64 m, .int .i64 i, y7, y8], ⟨H, e⟩⟩ =
      some (if tipFrom a b o ls i m (os.drop i) = 0 then Ex.exit 0 else Ex.ret, ⟨[rv, slL q ls.length c, slI q' os.length c', .ptr (some (u, 0)), .int .i64 (tipFrom a b o ls i m (os.drop i)), z5, z6, z7, z8], ⟨H, e⟩⟩)
  | 0, i, m, y7, y8, hk, hm, ho => by
    have hi : i = os.length := by omega
    subst hi
    refine ⟨.int .i64 m, .int .i64 os.length, .bool false, y8, ?_⟩
    have h0 : ((0 : Nat) : Int) = 0 := rfl
    rw [run_loop, List.drop_length, tipFrom, h0]
    generalize run T pr (.loop w_s_l10Tip_1) = R
    simp +contextual only [w_s_l10Tip_1, Nat.lt_irrefl, decide_false, go_sem, entry, joinEsc, if_pos, reduceIte, Nat.reduceAdd, Nat.reduceLeDiff, Nat.reduceLT, Nat.reduceEqDiff]
  | k + 1, i, m, y7, y8, hk, hm, ho => by
    have hi : i < os.length := by omega
    have hl : os[i]? = some os[i] := List.getElem?_eq_getElem hi
    rw [run_loop, List.drop_eq_getElem_cons hi, tipFrom]
    rw [List.drop_eq_getElem_cons hi, ordOk, Bool.and_eq_true, Bool.and_eq_true, Bool.and_eq_true, decide_eq_true_eq, decide_eq_true_eq] at ho
    generalize hx : os[i] = x at hl ho ⊢
    obtain ⟨⟨⟨h1, h2⟩, h3⟩, h4⟩ := ho
    obtain ⟨y, rfl⟩ : ∃ y : Nat, x = y := ⟨x.toNat, by omega⟩
    rw [Int.toNat_natCast] at *
    obtain ⟨_, _, f3⟩ := bits_facts m hm y (by omega)
    obtain ⟨_, g2, g3, g4⟩ := f3 (by simpa using h3)
    have g2' : IntKind.i64.wrap ((m : Int) + shlI .i64 1 (y : Int)) = ((m + 2 ^ y : Nat) : Int) := g2
    obtain ⟨z5, z6, z7, z8, ih⟩ := loop_s_l10Tip (rv := rv) (c := c) (c' := c') hn8 hq hnq h hn hu k (i + 1) (m + 2 ^ y) (.bool true) (.bool false) (by omega) g3 h4
    generalize run T pr (.loop w_s_l10Tip_1) = R at ih ⊢
    cases h5 : safeW a b o ls ((m + 2 ^ y : Nat) : Int) with
    | false =>
      refine ⟨.int .i64 ((m + 2 ^ y : Nat) : Int), .int .i64 i, .bool true, .bool true, ?_⟩
      simp +contextual only [w_s_l10Tip_1, h, hu, hi, hl, part_encI _ hl, shl_nat, g2', e_s_l10Safe hq hnq, h5, wrap_succ (show i < 9223372036854775807 by omega), decide_true, Nat.add_eq_zero_iff, Nat.succ_ne_zero, Nat.one_ne_zero, and_false, go_sem, entry, joinEsc, if_pos, reduceIte, Nat.reduceAdd, Nat.reduceLeDiff, Nat.reduceLT, Nat.reduceEqDiff]
    | true =>
      refine ⟨z5, z6, z7, z8, ?_⟩
      simp +contextual only [w_s_l10Tip_1, h, hu, hi, hl, part_encI _ hl, shl_nat, g2', e_s_l10Safe hq hnq, h5, wrap_succ (show i < 9223372036854775807 by omega), decide_true, go_sem, entry, joinEsc, if_pos, reduceIte, Nat.reduceAdd, Nat.reduceLeDiff, Nat.reduceLT, Nat.reduceEqDiff]
      exact ih

theorem e_s_l10Tip {q q' n : Nat} {c c' : Option Nat} {ls : List Ld} {os : List Int} (hn8 : n ≤ 8) (hq : cellsAt H q = some (encL ls)) (hnq : ls.length ≤ 9223372036854775806) (h : cellsAt H q' = some (encI os)) (hn : os.length ≤ 9223372036854775806) (ho : ordOk n 0 os = true) (a b o : Int) :
    call T pr f_s_l10Tip [rfV a b o, slL q ls.length c, slI q' os.length c'] ⟨H, e⟩ = some (.int .i64 (if tipFrom a b o ls 0 0 os = 0 then -1 else tipFrom a b o ls 0 0 os), ⟨H, e⟩) := by
  have hu : cellsAt (H ++ [Blk.cells [.int .i64 a, .int .i64 b, .int .i64 o] true]) H.length = some [.int .i64 a, .int .i64 b, .int .i64 o] := by simp [cellsAt, List.getElem?_append_right]
  obtain ⟨z5, z6, z7, z8, hl⟩ := loop_s_l10Tip (pr := pr) (e := none) (rv := rfV a b o) (c := c) (c' := c') hn8 (cells_mono hq [Blk.cells [.int .i64 a, .int .i64 b, .int .i64 o] true]) hnq (cells_mono h _) hn hu os.length 0 0 .undef .undef rfl (by omega) (by simpa using ho)
  have h0 : ((0 : Nat) : Int) = 0 := rfl
  rw [h0, List.drop_zero] at hl
  rw [call_eq t_s_l10Tip]
  by_cases h1 : tipFrom a b o ls 0 0 os = 0 <;> simp only [h1, if_true, if_false] at hl ⊢ <;> simp +contextual only [a_s_l10Tip, c_s_l10Tip, hl, go_sem, entry, joinEsc, if_pos, reduceIte, Nat.reduceAdd, Nat.reduceLeDiff, Nat.reduceLT, Nat.reduceEqDiff]

theorem loop_i_Raft_firstTip {q q' u n : Nat} {rv : AV} {c c' : Option Nat} {ls : List Ld} {os : List Int} {a b o : Int} (hn8 : n ≤ 8) (hq : cellsAt H q = some (encL ls)) (hnq : ls.length ≤ 9223372036854775806) (h : cellsAt H q' = some (encI os)) (hn : os.length ≤ 9223372036854775806) (hu : cellsAt H u = some [.int .i64 a, .int .i64 b, .int .i64 o]) :
    ∀ (k i m : Nat) (y6 y7 y11 y12 : AV), k + i = os.length → m < 256 → ordOk n m (os.drop i) = true → ∃ (z5 z6 z7 z10 z11 z12 : AV), run T pr (.loop w_i_Raft_firstTip_1) ⟨[rv, slL q ls.length c, slI q' os.length c', .ptr (some (u, 0)), .int .i64 0, .int .i64 m, y6, y7, slI q' os.length c', .int .i64 os.length, .int .i64 i, y11, y12], ⟨H, e⟩⟩ =
      some (if tipFrom a b o ls i m (os.drop i) = 0 then Ex.exit 0 else Ex.ret, ⟨[rv, slL q ls.length c, slI q' os.length c', .ptr (some (u, 0)), .int .i64 (tipFrom a b o ls i m (os.drop i)), z5, z6, z7, slI q' os.length c', .int .i64 os.length, z10, z11, z12], ⟨H, e⟩⟩)
  | 0, i, m, y6, y7, y11, y12, hk, hm, ho => by
    have hi : i = os.length := by omega
    subst hi
    refine ⟨.int .i64 m, y6, y7, .int .i64 os.length, .bool false, y12, ?_⟩
    have h0 : ((0 : Nat) : Int) = 0 := rfl
    rw [run_loop, List.drop_length, tipFrom, h0]
    generalize run T pr (.loop w_i_Raft_firstTip_1) = R
    simp +contextual only [w_i_Raft_firstTip_1, Nat.lt_irrefl, decide_false, go_sem, entry, joinEsc, if_pos, reduceIte, Nat.reduceAdd, Nat.reduceLeDiff, Nat.reduceLT, Nat.reduceEqDiff]
  | k + 1, i, m, y6, y7, y11, y12, hk, hm, ho => by
    have hi : i < os.length := by omega
    have hl : os[i]? = some os[i] := List.getElem?_eq_getElem hi
    rw [run_loop, List.drop_eq_getElem_cons hi, tipFrom]
    rw [List.drop_eq_getElem_cons hi, ordOk, Bool.and_eq_true, Bool.and_eq_true, Bool.and_eq_true, decide_eq_true_eq, decide_eq_true_eq] at ho
    generalize hx : os[i] = x at hl ho ⊢
    obtain ⟨⟨⟨h1, h2⟩, h3⟩, h4⟩ := ho
    obtain ⟨y, rfl⟩ : ∃ y : Nat, x = y := ⟨x.toNat, by omega⟩
    rw [Int.toNat_natCast] at *
    obtain ⟨_, _, f3⟩ := bits_facts m hm y (by omega)
    obtain ⟨g1, _, g3, g4⟩ := f3 (by simpa using h3)
    obtain ⟨z5, z6, z7, z10, z11, z12, ih⟩ := loop_i_Raft_firstTip (rv := rv) (c := c) (c' := c') hn8 hq hnq h hn hu k (i + 1) (m + 2 ^ y) (.int .i64 i) (.int .i64 y) (.bool true) (.bool false) (by omega) g3 h4
    generalize run T pr (.loop w_i_Raft_firstTip_1) = R at ih ⊢
    cases h5 : safeW a b o ls ((m + 2 ^ y : Nat) : Int) with
    | false =>
      refine ⟨.int .i64 ((m + 2 ^ y : Nat) : Int), .int .i64 i, .int .i64 y, .int .i64 i, .bool true, .bool true, ?_⟩
      simp +contextual only [w_i_Raft_firstTip_1, h, hu, hi, hl, part_encI _ hl, shl_nat, g1, e_i_Raft_isSafe hq hnq, h5, wrap_succ (show i < 9223372036854775807 by omega), decide_true, Nat.add_eq_zero_iff, Nat.succ_ne_zero, Nat.one_ne_zero, and_false, go_sem, entry, joinEsc, if_pos, reduceIte, Nat.reduceAdd, Nat.reduceLeDiff, Nat.reduceLT, Nat.reduceEqDiff]
    | true =>
      refine ⟨z5, z6, z7, z10, z11, z12, ?_⟩
      simp +contextual only [w_i_Raft_firstTip_1, h, hu, hi, hl, part_encI _ hl, shl_nat, g1, e_i_Raft_isSafe hq hnq, h5, wrap_succ (show i < 9223372036854775807 by omega), decide_true, go_sem, entry, joinEsc, if_pos, reduceIte, Nat.reduceAdd, Nat.reduceLeDiff, Nat.reduceLT, Nat.reduceEqDiff]
      exact ih

theorem e_i_Raft_firstTip {q q' n : Nat} {c c' : Option Nat} {ls : List Ld} {os : List Int} (hn8 : n ≤ 8) (hq : cellsAt H q = some (encL ls)) (hnq : ls.length ≤ 9223372036854775806) (h : cellsAt H q' = some (encI os)) (hn : os.length ≤ 9223372036854775806) (ho : ordOk n 0 os = true) (a b o : Int) :
    call T pr f_i_Raft_firstTip [rfV a b o, slL q ls.length c, slI q' os.length c'] ⟨H, e⟩ = some (.int .i64 (tipFrom a b o ls 0 0 os), ⟨H, e⟩) := by
  have hu : cellsAt (H ++ [Blk.cells [.int .i64 a, .int .i64 b, .int .i64 o] true]) H.length = some [.int .i64 a, .int .i64 b, .int .i64 o] := by simp [cellsAt, List.getElem?_append_right]
  obtain ⟨z5, z6, z7, z10, z11, z12, hl⟩ := loop_i_Raft_firstTip (pr := pr) (e := none) (rv := rfV a b o) (c := c) (c' := c') hn8 (cells_mono hq [Blk.cells [.int .i64 a, .int .i64 b, .int .i64 o] true]) hnq (cells_mono h _) hn hu os.length 0 0 .undef .undef .undef .undef rfl (by omega) (by simpa using ho)
  have h0 : ((0 : Nat) : Int) = 0 := rfl
  rw [h0, List.drop_zero] at hl
  rw [call_eq t_i_Raft_firstTip]
  by_cases h1 : tipFrom a b o ls 0 0 os = 0 <;> simp only [h1, if_true, if_false] at hl ⊢ <;> simp +contextual only [a_i_Raft_firstTip, c_i_Raft_firstTip, hl, h0, go_sem, entry, joinEsc, if_pos, reduceIte, Nat.reduceAdd, Nat.reduceLeDiff, Nat.reduceLT, Nat.reduceEqDiff]

/-- what FirstTip returns -/
def tipW (a b o : Int) (ls : List Ld) (os : List Int) : Nat := if (cargoOk a b o ls && (ordOk ls.length 0 os && decide (os.length = ls.length))) = true then tipFrom a b o ls 0 0 os else 0

theorem e_i_FirstTip {q q' : Nat} {c c' : Option Nat} {ls : List Ld} {os : List Int} (hq : cellsAt H q = some (encL ls)) (h : cellsAt H q' = some (encI os)) (hn : os.length ≤ 9223372036854775806) (a b o : Int) :
    call T pr f_i_FirstTip [rfV a b o, slL q ls.length c, slI q' os.length c'] ⟨H, e⟩ = some (.tup [.int .i64 (tipW a b o ls os), .bool (decide (0 < tipW a b o ls os))], ⟨H, e⟩) := by
  rw [call_eq t_i_FirstTip]
  unfold tipW
  cases h1 : cargoOk a b o ls with
  | false => simp +contextual only [a_i_FirstTip, c_i_FirstTip, e_i_areCargo (cells_mono hq _), h1, Bool.false_and, Bool.false_eq_true, if_false, Nat.lt_irrefl, decide_false, go_sem, entry, joinEsc, if_pos, reduceIte, Nat.reduceAdd, Nat.reduceLeDiff, Nat.reduceLT, Nat.reduceEqDiff]; rfl
  | true =>
    have hn8 : ls.length ≤ 8 := by
      unfold cargoOk at h1
      rw [Bool.and_eq_true, decide_eq_true_eq] at h1
      exact h1.2
    cases h2 : (ordOk ls.length 0 os && decide (os.length = ls.length)) with
    | false => simp +contextual only [a_i_FirstTip, c_i_FirstTip, e_i_areCargo (cells_mono hq _), e_i_isOrder hn8 (cells_mono h _) hn, h1, h2, Bool.and_false, Bool.false_eq_true, if_false, Nat.lt_irrefl, decide_false, go_sem, entry, joinEsc, if_pos, reduceIte, Nat.reduceAdd, Nat.reduceLeDiff, Nat.reduceLT, Nat.reduceEqDiff]; rfl
    | true =>
      have ho := (Bool.and_eq_true_iff.mp h2).1
      have hp : decide ((tipFrom a b o ls 0 0 os : Int) > 0) = decide (0 < tipFrom a b o ls 0 0 os) := decide_eq_decide.mpr (by omega)
      have hp' : decide ((0 : Int) < (tipFrom a b o ls 0 0 os : Int)) = decide (0 < tipFrom a b o ls 0 0 os) := decide_eq_decide.mpr (by omega)
      simp +contextual only [a_i_FirstTip, c_i_FirstTip, e_i_areCargo (cells_mono hq _), e_i_isOrder hn8 (cells_mono h _) hn, e_i_Raft_firstTip hn8 (cells_mono hq _) (show ls.length ≤ 9223372036854775806 by omega) (cells_mono h _) hn ho, h1, h2, hp, hp', Bool.and_true, go_sem, entry, joinEsc, if_pos, reduceIte, Nat.reduceAdd, Nat.reduceLeDiff, Nat.reduceLT, Nat.reduceEqDiff]

theorem e_s_FirstTip {q q' : Nat} {c c' : Option Nat} {ls : List Ld} {os : List Int} (hq : cellsAt H q = some (encL ls)) (h : cellsAt H q' = some (encI os)) (hn : os.length ≤ 9223372036854775806) (a b o : Int) :
    call T pr f_s_FirstTip [rfV a b o, slL q ls.length c, slI q' os.length c'] ⟨H, e⟩ = some (.tup [.int .i64 (tipW a b o ls os), .bool (decide (0 < tipW a b o ls os))], ⟨H, e⟩) := by
  rw [call_eq t_s_FirstTip]
  unfold tipW
  cases h1 : (cargoOk a b o ls && (ordOk ls.length 0 os && decide (os.length = ls.length))) with
  | false => simp +contextual only [a_s_FirstTip, c_s_FirstTip, e_s_l10Order (cells_mono hq _) (cells_mono h _) hn, h1, Bool.false_eq_true, if_false, Nat.lt_irrefl, decide_false, go_sem, entry, joinEsc, if_pos, reduceIte, Nat.reduceAdd, Nat.reduceLeDiff, Nat.reduceLT, Nat.reduceEqDiff]; rfl
  | true =>
    have hc := (Bool.and_eq_true_iff.mp h1).1
    have hn8 : ls.length ≤ 8 := by
      unfold cargoOk at hc
      rw [Bool.and_eq_true, decide_eq_true_eq] at hc
      exact hc.2
    have ho := (Bool.and_eq_true_iff.mp (Bool.and_eq_true_iff.mp h1).2).1
    have ht := fun G => e_s_l10Tip (pr := pr) (e := none) (c := c) (c' := c') hn8 (cells_mono hq G) (show ls.length ≤ 9223372036854775806 by omega) (cells_mono h G) hn ho a b o
    rw [if_pos rfl]
    by_cases h2 : tipFrom a b o ls 0 0 os = 0
    · simp only [h2, if_true] at ht ⊢
      simp +contextual only [a_s_FirstTip, c_s_FirstTip, e_s_l10Order (cells_mono hq _) (cells_mono h _) hn, ht, h1, Nat.lt_irrefl, decide_false, show ((-1 : Int) < 0) by omega, decide_true, go_sem, entry, joinEsc, if_pos, reduceIte, Nat.reduceAdd, Nat.reduceLeDiff, Nat.reduceLT, Nat.reduceEqDiff]; rfl
    · simp only [h2, if_false] at ht
      have h3 : ¬ ((tipFrom a b o ls 0 0 os : Int) < 0) := by omega
      have h4 : 0 < tipFrom a b o ls 0 0 os := by omega
      simp +contextual only [a_s_FirstTip, c_s_FirstTip, e_s_l10Order (cells_mono hq _) (cells_mono h _) hn, ht, h1, h3, h4, decide_false, decide_true, go_sem, entry, joinEsc, if_pos, reduceIte, Nat.reduceAdd, Nat.reduceLeDiff, Nat.reduceLT, Nat.reduceEqDiff]

theorem law_FirstTip {av av' : AV} {ls : List Ld} {os : List Int} (ha : ArgL H av ls) (hb : ArgI H av' os) (a b o : Int) : ∃ m', call T pr f_l_FnExactFirstTip [rfV a b o, av, av'] ⟨H, none⟩ = some (.bool true, m') := by
  refine ⟨⟨H, none⟩, ?_⟩
  have hsz : ∀ G e', call T pr f_l_szLoadS [av, .int .i64 1048576] ⟨G, e'⟩ = some (.int .i64 (if ls.length ≤ 1048576 then 1048576 - ls.length else -1), ⟨G, e'⟩) := by
    obtain ⟨p, sz, c, rfl, h2, h3⟩ := ha
    exact fun G e' => e_l_szLoadS ls.length p sz c h2
  have hlen : ∃ p sz c, av' = .slice p sz os.length c := by
    obtain ⟨p, sz, c, h1, _⟩ := hb
    exact ⟨p, sz, c, h1⟩
  rw [call_eq t_l_FnExactFirstTip]
  by_cases hm : os.length ≤ 1048576
  · have hm' : os.length ≤ 9223372036854775806 := by omega
    have hgt : decide ((os.length : Int) > 1048576) = false := decide_eq_false (by omega)
    have hgt' : decide ((1048576 : Int) < (os.length : Int)) = false := decide_eq_false (by omega)
    have hcopyI := fun G => e_l_toIntS (pr := pr) (e := none) (hb.more G) hm
    obtain ⟨p, sz, c, rfl⟩ := hlen
    by_cases hn : ls.length ≤ 1048576
    · have hn' : ls.length ≤ 9223372036854775806 := by omega
      have hneg : ¬ (1048576 - (ls.length : Int) < 0) := by omega
      have hcopy := fun G => e_l_toLoadS (pr := pr) (e := none) (ha.more G) hn
      simp +contextual only [a_l_FnExactFirstTip, c_l_FnExactFirstTip, hsz, hn, hm, hgt, hgt', hneg, decide_false, decide_true, e_l_toRaft, hcopy, hcopyI, e_s_FirstTip, e_i_FirstTip, e_l_eqLoadS, e_l_eqIntS, hn', hm', beq_self_eq_true, go_sem, entry, joinEsc, if_pos, reduceIte, Nat.reduceAdd, Nat.reduceLeDiff, Nat.reduceLT, Nat.reduceEqDiff]
    · simp +contextual only [a_l_FnExactFirstTip, c_l_FnExactFirstTip, hsz, hn, hgt, hgt', decide_true, show ((-1 : Int) < 0) by omega, go_sem, entry, joinEsc, if_pos, reduceIte, Nat.reduceAdd, Nat.reduceLeDiff, Nat.reduceLT, Nat.reduceEqDiff]
  · have hgt : decide ((os.length : Int) > 1048576) = true := decide_eq_true (by omega)
    have hgt' : decide ((1048576 : Int) < (os.length : Int)) = true := decide_eq_true (by omega)
    obtain ⟨p, sz, c, rfl⟩ := hlen
    simp +contextual only [a_l_FnExactFirstTip, c_l_FnExactFirstTip, hgt, hgt', go_sem, entry, joinEsc, if_pos, reduceIte, Nat.reduceAdd, Nat.reduceLeDiff, Nat.reduceLT, Nat.reduceEqDiff]

end Go.Proofs.Ytlcklonakjhoiaa.Slim
