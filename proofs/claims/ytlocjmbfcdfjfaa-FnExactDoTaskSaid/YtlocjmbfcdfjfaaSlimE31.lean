/- Fractions, the gain of a chain, and the pull of a row; the law. -/
import Derived.Test.YtlocjmbfcdfjfaaSlimE30
namespace Go.Proofs.Ytlocjmbfcdfjfaa.Slim

open Go

set_option linter.unusedSimpArgs false

set_option linter.unusedVariables false

variable {pr : Prims} {H : List Blk} {e : Option Nat}

theorem wrapN {x : Nat} (h : x ≤ 9223372036854775807) : IntKind.i64.wrap (x : Int) = (x : Int) := wrap64 (by omega) (by omega)

theorem loop_i_divisor {r : AV} : ∀ (k b a : Nat) (y : AV), b ≤ k → ∃ z, run T pr (.loop w_i_divisor_1) ⟨[.int .i64 a, .int .i64 b, r, y], ⟨H, e⟩⟩ = some (Ex.exit 0, ⟨[.int .i64 (Nat.gcd b a : Nat), .int .i64 0, r, z], ⟨H, e⟩⟩)
  | k, 0, a, y, hk => by
    refine ⟨.bool false, ?_⟩
    have h0 : ((0 : Nat) : Int) = 0 := rfl
    rw [run_loop, Nat.gcd_zero_left, h0]
    generalize run T pr (.loop w_i_divisor_1) = R
    simp +contextual only [w_i_divisor_1, Int.lt_irrefl, decide_false, go_sem, entry, joinEsc, if_pos, reduceIte, Nat.reduceAdd, Nat.reduceLeDiff, Nat.reduceLT, Nat.reduceEqDiff]
  | 0, b + 1, a, y, hk => by omega
  | k + 1, b + 1, a, y, hk => by
    have hm : a % (b + 1) < b + 1 := Nat.mod_lt _ (by omega)
    obtain ⟨z, ih⟩ := loop_i_divisor (r := r) k (a % (b + 1)) (b + 1) (.bool true) (by omega)
    refine ⟨z, ?_⟩
    have hg : Nat.gcd (b + 1) a = Nat.gcd (a % (b + 1)) (b + 1) := Nat.gcd_rec _ _
    have ht : Int.tmod (a : Int) ((b + 1 : Nat) : Int) = ((a % (b + 1) : Nat) : Int) := rfl
    have hp : (0 : Int) < ((b + 1 : Nat) : Int) := by omega
    have hne : ¬ ((b + 1 : Nat) : Int) = 0 := by omega
    rw [run_loop, hg]
    generalize run T pr (.loop w_i_divisor_1) = R at ih ⊢
    simp +contextual only [w_i_divisor_1, hp, hne, ht, decide_true, go_sem, entry, joinEsc, if_pos, reduceIte, Nat.reduceAdd, Nat.reduceLeDiff, Nat.reduceLT, Nat.reduceEqDiff]
    exact ih

theorem e_i_divisor (a b : Nat) : call T pr f_i_divisor [.int .i64 a, .int .i64 b] ⟨H, e⟩ = some (.int .i64 (Nat.gcd b a : Nat), ⟨H, e⟩) := by
  obtain ⟨z, hl⟩ := loop_i_divisor (pr := pr) (H := H) (e := none) (r := .int .i64 0) b b a .undef (Nat.le_refl _)
  rw [call_eq t_i_divisor]
  simp +contextual only [a_i_divisor, c_i_divisor, hl, go_sem, entry, joinEsc, if_pos, reduceIte, Nat.reduceAdd, Nat.reduceLeDiff, Nat.reduceLT, Nat.reduceEqDiff]

theorem loop_s_l2Gcd {r : AV} : ∀ (k b a : Nat) (y : AV), b ≤ k → ∃ z, run T pr (.loop w_s_l2Gcd_1) ⟨[.int .i64 a, .int .i64 b, r, y], ⟨H, e⟩⟩ = some (Ex.exit 0, ⟨[.int .i64 (Nat.gcd b a : Nat), .int .i64 0, r, z], ⟨H, e⟩⟩)
  | k, 0, a, y, hk => by
    refine ⟨.bool false, ?_⟩
    have h0 : ((0 : Nat) : Int) = 0 := rfl
    rw [run_loop, Nat.gcd_zero_left, h0]
    generalize run T pr (.loop w_s_l2Gcd_1) = R
    simp +contextual only [w_s_l2Gcd_1, Int.lt_irrefl, decide_false, go_sem, entry, joinEsc, if_pos, reduceIte, Nat.reduceAdd, Nat.reduceLeDiff, Nat.reduceLT, Nat.reduceEqDiff]
  | 0, b + 1, a, y, hk => by omega
  | k + 1, b + 1, a, y, hk => by
    have hm : a % (b + 1) < b + 1 := Nat.mod_lt _ (by omega)
    obtain ⟨z, ih⟩ := loop_s_l2Gcd (r := r) k (a % (b + 1)) (b + 1) (.bool true) (by omega)
    refine ⟨z, ?_⟩
    have hg : Nat.gcd (b + 1) a = Nat.gcd (a % (b + 1)) (b + 1) := Nat.gcd_rec _ _
    have ht : Int.tmod (a : Int) ((b + 1 : Nat) : Int) = ((a % (b + 1) : Nat) : Int) := rfl
    have hp : (0 : Int) < ((b + 1 : Nat) : Int) := by omega
    have hne : ¬ ((b + 1 : Nat) : Int) = 0 := by omega
    rw [run_loop, hg]
    generalize run T pr (.loop w_s_l2Gcd_1) = R at ih ⊢
    simp +contextual only [w_s_l2Gcd_1, hp, hne, ht, decide_true, go_sem, entry, joinEsc, if_pos, reduceIte, Nat.reduceAdd, Nat.reduceLeDiff, Nat.reduceLT, Nat.reduceEqDiff]
    exact ih

theorem e_s_l2Gcd (a b : Nat) : call T pr f_s_l2Gcd [.int .i64 a, .int .i64 b] ⟨H, e⟩ = some (.int .i64 (Nat.gcd b a : Nat), ⟨H, e⟩) := by
  obtain ⟨z, hl⟩ := loop_s_l2Gcd (pr := pr) (H := H) (e := none) (r := .int .i64 0) b b a .undef (Nat.le_refl _)
  rw [call_eq t_s_l2Gcd]
  simp +contextual only [a_s_l2Gcd, c_s_l2Gcd, hl, go_sem, entry, joinEsc, if_pos, reduceIte, Nat.reduceAdd, Nat.reduceLeDiff, Nat.reduceLT, Nat.reduceEqDiff]

theorem e_s_l1Most (a b : Int) : call T pr f_s_l1Most [.int .i64 a, .int .i64 b] ⟨H, e⟩ = some (.int .i64 (if b < a then a else b), ⟨H, e⟩) := by
  rw [call_eq t_s_l1Most]
  by_cases h : b < a <;> simp +contextual only [a_s_l1Most, c_s_l1Most, h, decide_true, decide_false, go_sem, entry, joinEsc, if_pos, reduceIte, Nat.reduceAdd, Nat.reduceLeDiff, Nat.reduceLT, Nat.reduceEqDiff]

/-- a fraction in lowest terms -/
def fracA (x y : Nat) : Nat := x / Nat.gcd y x
def fracB (x y : Nat) : Nat := y / Nat.gcd y x

abbrev fvV (x y : Nat) : AV := .agg [.int .i64 x, .int .i64 y]

theorem frac_facts {x y : Nat} (hy : 0 < y) (hx1 : x ≤ 4611686018427387904) (hy1 : y ≤ 4611686018427387904) :
    ¬ ((Nat.gcd y x : Nat) : Int) = 0 ∧ IntKind.i64.wrap (Int.tdiv (x : Int) (Nat.gcd y x : Nat)) = (fracA x y : Int) ∧ IntKind.i64.wrap (Int.tdiv (y : Int) (Nat.gcd y x : Nat)) = (fracB x y : Int) := by
  have hg : 0 < Nat.gcd y x := Nat.gcd_pos_of_pos_left _ hy
  have h1 : fracA x y ≤ x := Nat.div_le_self _ _
  have h2 : fracB x y ≤ y := Nat.div_le_self _ _
  refine ⟨by omega, ?_, ?_⟩
  · have : Int.tdiv (x : Int) (Nat.gcd y x : Nat) = (fracA x y : Int) := rfl
    rw [this]; exact wrapN (by omega)
  · have : Int.tdiv (y : Int) (Nat.gcd y x : Nat) = (fracB x y : Int) := rfl
    rw [this]; exact wrapN (by omega)

theorem e_i_fraction {x y : Nat} (hy : 0 < y) (hx1 : x ≤ 4611686018427387904) (hy1 : y ≤ 4611686018427387904) : call T pr f_i_fraction [.int .i64 x, .int .i64 y] ⟨H, e⟩ = some (fvV (fracA x y) (fracB x y), ⟨H, e⟩) := by
  obtain ⟨h1, h2, h3⟩ := frac_facts hy hx1 hy1
  have hw : IntKind.i64.wrap (0 - (x : Int)) = 0 - (x : Int) := wrap64 (by omega) (by omega)
  have hm : ¬ (0 - (x : Int) > (x : Int)) := by omega
  have hm' : ¬ ((x : Int) < 0 - (x : Int)) := by omega
  rw [call_eq t_i_fraction]
  simp +contextual only [a_i_fraction, c_i_fraction, hw, hm, hm', e_i_divisor, fillParts, h1, h2, h3, go_sem, entry, joinEsc, if_pos, reduceIte, Nat.reduceAdd, Nat.reduceLeDiff, Nat.reduceLT, Nat.reduceEqDiff]

theorem e_s_l2Cut {x y : Nat} (hy : 0 < y) (hx1 : x ≤ 4611686018427387904) (hy1 : y ≤ 4611686018427387904) : call T pr f_s_l2Cut [.int .i64 x, .int .i64 y] ⟨H, e⟩ = some (fvV (fracA x y) (fracB x y), ⟨H, e⟩) := by
  obtain ⟨h1, h2, h3⟩ := frac_facts hy hx1 hy1
  have hw : IntKind.i64.wrap (0 - (x : Int)) = 0 - (x : Int) := wrap64 (by omega) (by omega)
  have hm : (if 0 - (x : Int) < (x : Int) then (x : Int) else 0 - (x : Int)) = (x : Int) := by
    split
    · rfl
    · omega
  rw [call_eq t_s_l2Cut]
  simp +contextual only [a_s_l2Cut, c_s_l2Cut, hw, e_s_l1Most, hm, e_s_l2Gcd, fillParts, h1, h2, h3, go_sem, entry, joinEsc, if_pos, reduceIte, Nat.reduceAdd, Nat.reduceLeDiff, Nat.reduceLT, Nat.reduceEqDiff]

theorem frac_pos {x y : Nat} (hx : 0 < x) (hy : 0 < y) : 0 < fracA x y ∧ 0 < fracB x y ∧ fracA x y ≤ x ∧ fracB x y ≤ y := by
  have hg : 0 < Nat.gcd y x := Nat.gcd_pos_of_pos_left _ hy
  refine ⟨Nat.div_pos (Nat.le_of_dvd hx (Nat.gcd_dvd_right _ _)) hg, Nat.div_pos (Nat.le_of_dvd hy (Nat.gcd_dvd_left _ _)) hg, Nat.div_le_self _ _, Nat.div_le_self _ _⟩

/-- the gain of a valid stage -/
def gainA (s : Sg) : Nat := if s.1 = 2 then s.2.1.toNat else if s.1 = 5 then fracA (2 * s.2.1.toNat) (s.2.1.toNat - s.2.2.toNat) else fracA s.2.1.toNat s.2.2.toNat
def gainB (s : Sg) : Nat := if s.1 = 2 then 1 else if s.1 = 5 then fracB (2 * s.2.1.toNat) (s.2.1.toNat - s.2.2.toNat) else fracB s.2.1.toNat s.2.2.toNat

theorem stage_cases {s : Sg} (h : stageOk s = true) : (1 ≤ s.2.1 ∧ s.2.1 ≤ 24) ∧ (s.1 ≠ 2 → 1 ≤ s.2.2 ∧ s.2.2 ≤ 24) ∧ (s.1 = 5 → s.2.2 < s.2.1) := by
  unfold stageOk ratioOk at h
  by_cases h1 : s.1 = 1
  · rw [if_pos h1] at h
    simp at h
    exact ⟨h.1, fun _ => h.2, fun h5 => by omega⟩
  rw [if_neg h1] at h
  by_cases h3 : s.1 = 3
  · rw [if_pos h3] at h
    simp at h
    exact ⟨h.1, fun _ => h.2, fun h5 => by omega⟩
  rw [if_neg h3] at h
  by_cases h2 : s.1 = 2
  · rw [if_pos h2] at h
    simp at h
    exact ⟨h.1, fun hn => absurd h2 hn, fun h5 => by omega⟩
  rw [if_neg h2] at h
  by_cases h4 : s.1 = 4
  · rw [if_pos h4] at h
    simp at h
    exact ⟨h.1.1, fun _ => h.1.2, fun h5 => by omega⟩
  rw [if_neg h4] at h
  by_cases h5 : s.1 = 5
  · rw [if_pos h5] at h
    simp at h
    exact ⟨h.1.1, fun _ => h.1.2, fun _ => h.2⟩
  rw [if_neg h5] at h
  cases h

theorem gain_bounds {s : Sg} (h : stageOk s = true) : 0 < gainA s ∧ gainA s ≤ 48 ∧ 0 < gainB s ∧ gainB s ≤ 24 := by
  obtain ⟨h1, h2, h3⟩ := stage_cases h
  unfold gainA gainB
  by_cases k2 : s.1 = 2
  · simp only [if_pos k2]; omega
  · simp only [if_neg k2]
    have := h2 k2
    by_cases k5 : s.1 = 5
    · simp only [if_pos k5]
      have := h3 k5
      obtain ⟨f1, f2, f3, f4⟩ := frac_pos (x := 2 * s.2.1.toNat) (y := s.2.1.toNat - s.2.2.toNat) (by omega) (by omega)
      omega
    · simp only [if_neg k5]
      obtain ⟨f1, f2, f3, f4⟩ := frac_pos (x := s.2.1.toNat) (y := s.2.2.toNat) (by omega) (by omega)
      omega

theorem e_i_stageGain (s : Sg) (h : stageOk s = true) : call T pr f_i_stageGain [.agg [.int .i64 s.1, .int .i64 s.2.1, .int .i64 s.2.2]] ⟨H, e⟩ = some (fvV (gainA s) (gainB s), ⟨H, e⟩) := by
  obtain ⟨h1, h2, h3⟩ := stage_cases h
  obtain ⟨k, a, b⟩ := s
  simp only at h1 h2 h3 ⊢
  obtain ⟨a, rfl⟩ : ∃ n : Nat, a = n := ⟨a.toNat, by omega⟩
  rw [call_eq t_i_stageGain]
  unfold gainA gainB
  simp only [Int.toNat_natCast]
  by_cases k2 : k = 2
  · subst k2
    simp +contextual only [a_i_stageGain, c_i_stageGain, fillParts, decide_true, go_sem, entry, joinEsc, if_pos, reduceIte, Nat.reduceAdd, Nat.reduceLeDiff, Nat.reduceLT, Nat.reduceEqDiff]
    rfl
  · have hb := h2 k2
    obtain ⟨b, rfl⟩ : ∃ n : Nat, b = n := ⟨b.toNat, by omega⟩
    simp only [Int.toNat_natCast]
    by_cases k5 : k = 5
    · subst k5
      have hlt := h3 rfl
      have hw1 : IntKind.i64.wrap (2 * (a : Int)) = ((2 * a : Nat) : Int) := by rw [show (2 * (a : Int)) = ((2 * a : Nat) : Int) by omega]; exact wrapN (by omega)
      have hw2 : IntKind.i64.wrap ((a : Int) - (b : Int)) = ((a - b : Nat) : Int) := by rw [show ((a : Int) - (b : Int)) = ((a - b : Nat) : Int) by omega]; exact wrapN (by omega)
      have hf := fun L e' => e_i_fraction (pr := pr) (H := L) (e := e') (x := 2 * a) (y := a - b) (by omega) (by omega) (by omega)
      simp +contextual only [a_i_stageGain, c_i_stageGain, fillParts, show ¬ ((5 : Int) = 2) by omega, hw1, hw2, hf, decide_true, decide_false, go_sem, entry, joinEsc, if_pos, reduceIte, Nat.reduceAdd, Nat.reduceLeDiff, Nat.reduceLT, Nat.reduceEqDiff]
    · have hf := fun L e' => e_i_fraction (pr := pr) (H := L) (e := e') (x := a) (y := b) (by omega) (by omega) (by omega)
      simp +contextual only [a_i_stageGain, c_i_stageGain, fillParts, k2, k5, hf, decide_true, decide_false, go_sem, entry, joinEsc, if_pos, reduceIte, Nat.reduceAdd, Nat.reduceLeDiff, Nat.reduceLT, Nat.reduceEqDiff]

theorem e_s_l7Gain (s : Sg) (h : stageOk s = true) : call T pr f_s_l7Gain [.agg [.int .i64 s.1, .int .i64 s.2.1, .int .i64 s.2.2]] ⟨H, e⟩ = some (fvV (gainA s) (gainB s), ⟨H, e⟩) := by
  obtain ⟨h1, h2, h3⟩ := stage_cases h
  obtain ⟨k, a, b⟩ := s
  simp only at h1 h2 h3 ⊢
  obtain ⟨a, rfl⟩ : ∃ n : Nat, a = n := ⟨a.toNat, by omega⟩
  rw [call_eq t_s_l7Gain]
  unfold gainA gainB
  simp only [Int.toNat_natCast]
  by_cases k2 : k = 2
  · subst k2
    simp +contextual only [a_s_l7Gain, c_s_l7Gain, fillParts, decide_true, go_sem, entry, joinEsc, if_pos, reduceIte, Nat.reduceAdd, Nat.reduceLeDiff, Nat.reduceLT, Nat.reduceEqDiff]
    rfl
  · have hb := h2 k2
    obtain ⟨b, rfl⟩ : ∃ n : Nat, b = n := ⟨b.toNat, by omega⟩
    simp only [Int.toNat_natCast]
    by_cases k5 : k = 5
    · subst k5
      have hlt := h3 rfl
      have hw1 : IntKind.i64.wrap (2 * (a : Int)) = ((2 * a : Nat) : Int) := by rw [show (2 * (a : Int)) = ((2 * a : Nat) : Int) by omega]; exact wrapN (by omega)
      have hw2 : IntKind.i64.wrap ((a : Int) - (b : Int)) = ((a - b : Nat) : Int) := by rw [show ((a : Int) - (b : Int)) = ((a - b : Nat) : Int) by omega]; exact wrapN (by omega)
      have hf := fun L e' => e_s_l2Cut (pr := pr) (H := L) (e := e') (x := 2 * a) (y := a - b) (by omega) (by omega) (by omega)
      simp +contextual only [a_s_l7Gain, c_s_l7Gain, fillParts, show ¬ ((5 : Int) = 2) by omega, hw1, hw2, hf, decide_true, decide_false, go_sem, entry, joinEsc, if_pos, reduceIte, Nat.reduceAdd, Nat.reduceLeDiff, Nat.reduceLT, Nat.reduceEqDiff]
    · have hf := fun L e' => e_s_l2Cut (pr := pr) (H := L) (e := e') (x := a) (y := b) (by omega) (by omega) (by omega)
      simp +contextual only [a_s_l7Gain, c_s_l7Gain, fillParts, k2, k5, hf, decide_true, decide_false, go_sem, entry, joinEsc, if_pos, reduceIte, Nat.reduceAdd, Nat.reduceLeDiff, Nat.reduceLT, Nat.reduceEqDiff]

/-- the gain of stages, from some gain on -/
def chainA : Nat → Nat → List Sg → Nat
  | P, _, [] => P
  | P, Q, s :: ss => chainA (fracA (P * gainA s) (Q * gainB s)) (fracB (P * gainA s) (Q * gainB s)) ss
def chainB : Nat → Nat → List Sg → Nat
  | _, Q, [] => Q
  | P, Q, s :: ss => chainB (fracA (P * gainA s) (Q * gainB s)) (fracB (P * gainA s) (Q * gainB s)) ss

theorem gain_step {s : Sg} {P Q i : Nat} (h : stageOk s = true) (hP : 0 < P ∧ P ≤ 48 ^ i) (hQ : 0 < Q ∧ Q ≤ 24 ^ i) (hi : i < 5) :
    (0 < P * gainA s ∧ P * gainA s ≤ 48 ^ (i + 1)) ∧ (0 < Q * gainB s ∧ Q * gainB s ≤ 24 ^ (i + 1)) ∧ 48 ^ (i + 1) ≤ 254803968 ∧ 24 ^ (i + 1) ≤ 254803968 := by
  obtain ⟨g1, g2, g3, g4⟩ := gain_bounds h
  refine ⟨⟨Nat.mul_pos hP.1 g1, ?_⟩, ⟨Nat.mul_pos hQ.1 g3, ?_⟩, ?_, ?_⟩
  · rw [Nat.pow_succ]; exact Nat.mul_le_mul hP.2 g2
  · rw [Nat.pow_succ]; exact Nat.mul_le_mul hQ.2 g4
  · have : 48 ^ (i + 1) ≤ 48 ^ 5 := Nat.pow_le_pow_right (by omega) (by omega)
    have h2 : (48 : Nat) ^ 5 = 254803968 := by decide
    omega
  · have : 24 ^ (i + 1) ≤ 24 ^ 5 := Nat.pow_le_pow_right (by omega) (by omega)
    have h2 : (24 : Nat) ^ 5 = 7962624 := by decide
    omega

theorem chain_bounds : ∀ (ss : List Sg) (i P Q : Nat), ss.all stageOk = true → ss.length + i ≤ 5 → (0 < P ∧ P ≤ 48 ^ i) → (0 < Q ∧ Q ≤ 24 ^ i) → 0 < chainA P Q ss ∧ chainA P Q ss ≤ 254803968 ∧ 0 < chainB P Q ss ∧ chainB P Q ss ≤ 254803968
  | [], i, P, Q, _, hi, hP, hQ => by
    have h1 : 48 ^ i ≤ 48 ^ 5 := Nat.pow_le_pow_right (by omega) (by simpa using hi)
    have h2 : (48 : Nat) ^ 5 = 254803968 := by decide
    have h3 : 24 ^ i ≤ 24 ^ 5 := Nat.pow_le_pow_right (by omega) (by simpa using hi)
    have h4 : (24 : Nat) ^ 5 = 7962624 := by decide
    rw [chainA, chainB]
    omega
  | s :: ss, i, P, Q, ha, hi, hP, hQ => by
    rw [List.all_cons, Bool.and_eq_true] at ha
    rw [List.length_cons] at hi
    obtain ⟨⟨g1, g2⟩, ⟨g3, g4⟩, _, _⟩ := gain_step ha.1 hP hQ (by omega)
    obtain ⟨f1, f2, f3, f4⟩ := frac_pos g1 g3
    rw [chainA, chainB]
    exact chain_bounds ss (i + 1) _ _ ha.2 (by omega) ⟨f1, by omega⟩ ⟨f2, by omega⟩

theorem ix02 : (0 : Int) < ((2 : Nat) : Int) := by omega
theorem ix12 : (1 : Int) < ((2 : Nat) : Int) := by omega
theorem ix01 : (0 : Int) ≤ 1 := by omega

theorem loop_i_chainGain {q : Nat} {c : Option Nat} {ls : List Sg} {R0 : Blk} {y1 : AV} (h : cellsAt H q = some (encS ls)) (hall : ls.all stageOk = true) (hn : ls.length ≤ 5) :
    ∀ (k i P Q : Nat) (G : List Blk) (y3 y4 y8 : AV), k + i = ls.length → (0 < P ∧ P ≤ 48 ^ i) → (0 < Q ∧ Q ≤ 24 ^ i) → ∃ (G' : List Blk) (z3 z4 z8 : AV), run T pr (.loop w_i_chainGain_1) ⟨[slS q ls.length c, y1, .ptr (some (H.length + 1, 0)), y3, y4, slS q ls.length c, .int .i64 ls.length, .int .i64 i, y8], ⟨H ++ (R0 :: .cells [.int .i64 P, .int .i64 Q] true :: G), none⟩⟩ =
      some (Ex.exit 0, ⟨[slS q ls.length c, y1, .ptr (some (H.length + 1, 0)), z3, z4, slS q ls.length c, .int .i64 ls.length, .int .i64 ls.length, z8], ⟨H ++ (R0 :: .cells [.int .i64 (chainA P Q (ls.drop i)), .int .i64 (chainB P Q (ls.drop i))] true :: G'), none⟩⟩)
  | 0, i, P, Q, G, y3, y4, y8, hk, hP, hQ => by
    have hi : i = ls.length := by omega
    subst hi
    refine ⟨G, y3, y4, .bool false, ?_⟩
    rw [run_loop]
    generalize run T pr (.loop w_i_chainGain_1) = R
    simp +contextual only [w_i_chainGain_1, Nat.lt_irrefl, decide_false, List.drop_length, chainA, chainB, go_sem, entry, joinEsc, if_pos, reduceIte, Nat.reduceAdd, Nat.reduceLeDiff, Nat.reduceLT, Nat.reduceEqDiff]
  | k + 1, i, P, Q, G, y3, y4, y8, hk, hP, hQ => by
    have hi : i < ls.length := by omega
    have hl : ls[i]? = some ls[i] := List.getElem?_eq_getElem hi
    have hs : stageOk ls[i] = true := (List.all_eq_true.mp hall) _ (List.getElem_mem hi)
    rw [run_loop, List.drop_eq_getElem_cons hi, chainA, chainB]
    generalize hx : ls[i] = s at hl hs ⊢
    obtain ⟨⟨g1, g2⟩, ⟨g3, g4⟩, g5, g6⟩ := gain_step hs hP hQ (by omega)
    obtain ⟨f1, f2, f3, f4⟩ := frac_pos g1 g3
    have w1 : IntKind.i64.wrap ((P : Int) * (gainA s : Int)) = ((P * gainA s : Nat) : Int) := by rw [← Int.natCast_mul]; exact wrapN (by omega)
    have w2 : IntKind.i64.wrap ((Q : Int) * (gainB s : Int)) = ((Q * gainB s : Nat) : Int) := by rw [← Int.natCast_mul]; exact wrapN (by omega)
    have hf := fun L => e_i_fraction (pr := pr) (H := L) (e := none) (x := P * gainA s) (y := Q * gainB s) g3 (by omega) (by omega)
    obtain ⟨G', z3, z4, z8, ih⟩ := loop_i_chainGain (c := c) (R0 := R0) (y1 := y1) h hall hn k (i + 1) (fracA (P * gainA s) (Q * gainB s)) (fracB (P * gainA s) (Q * gainB s)) (G ++ [.cells [.int .i64 s.1, .int .i64 s.2.1, .int .i64 s.2.2] true, .cells [.int .i64 (gainA s : Nat), .int .i64 (gainB s : Nat)] true]) (.ptr (some (H.length + (G.length + 1 + 1), 0))) (.ptr (some (H.length + (G.length + 1 + 1 + 1), 0))) (.bool true) (by omega) ⟨f1, by omega⟩ ⟨f2, by omega⟩
    refine ⟨G', z3, z4, z8, ?_⟩
    generalize run T pr (.loop w_i_chainGain_1) = R at ih ⊢
    simp +contextual only [w_i_chainGain_1, cells_mono h, hi, hl, part_encS hl, e_i_stageGain s hs, ix02, ix12, ix01, Int.le_refl, Int.toNat_zero, Int.toNat_one, Nat.zero_mul, Nat.one_mul, w1, w2, hf, wrap_succ (show i < 9223372036854775807 by omega), decide_true, go_sem, entry, joinEsc, if_pos, reduceIte, Nat.reduceAdd, Nat.reduceLeDiff, Nat.reduceLT, Nat.reduceEqDiff]
    exact ih

theorem e_i_chainGain {q : Nat} {c : Option Nat} {ls : List Sg} (h : cellsAt H q = some (encS ls)) (hc : chainOk ls = true) : call T pr f_i_chainGain [slS q ls.length c] ⟨H, e⟩ = some (fvV (chainA 1 1 ls) (chainB 1 1 ls), ⟨H, e⟩) := by
  unfold chainOk at hc
  rw [Bool.and_eq_true, decide_eq_true_eq] at hc
  obtain ⟨G', z3, z4, z8, hl⟩ := loop_i_chainGain (pr := pr) (c := c) (R0 := .cells [.int .i64 0, .int .i64 0] true) (y1 := .ptr (some (H.length, 0))) h hc.1 hc.2 ls.length 0 1 1 [] .undef .undef .undef rfl (by decide) (by decide)
  have h0 : ((0 : Nat) : Int) = 0 := rfl
  have h1 : ((1 : Nat) : Int) = 1 := rfl
  rw [h0, h1, List.drop_zero] at hl
  rw [call_eq t_i_chainGain]
  simp +contextual only [a_i_chainGain, c_i_chainGain, fillParts, hl, go_sem, entry, joinEsc, if_pos, reduceIte, Nat.reduceAdd, Nat.reduceLeDiff, Nat.reduceLT, Nat.reduceEqDiff]

theorem loop_s_l7Chain {q : Nat} {c : Option Nat} {ls : List Sg} {R0 : Blk} {y1 : AV} (h : cellsAt H q = some (encS ls)) (hall : ls.all stageOk = true) (hn : ls.length ≤ 5) :
    ∀ (k i P Q : Nat) (G : List Blk) (y4 y5 : AV), k + i = ls.length → (0 < P ∧ P ≤ 48 ^ i) → (0 < Q ∧ Q ≤ 24 ^ i) → ∃ (G' : List Blk) (z4 z5 : AV), run T pr (.loop w_s_l7Chain_1) ⟨[slS q ls.length c, y1, .ptr (some (H.length + 1, 0)), .int .i64 i, y4, y5], ⟨H ++ (R0 :: .cells [.int .i64 P, .int .i64 Q] true :: G), none⟩⟩ =
      some (Ex.exit 0, ⟨[slS q ls.length c, y1, .ptr (some (H.length + 1, 0)), .int .i64 ls.length, z4, z5], ⟨H ++ (R0 :: .cells [.int .i64 (chainA P Q (ls.drop i)), .int .i64 (chainB P Q (ls.drop i))] true :: G'), none⟩⟩)
  | 0, i, P, Q, G, y4, y5, hk, hP, hQ => by
    have hi : i = ls.length := by omega
    subst hi
    refine ⟨G, y4, .bool false, ?_⟩
    rw [run_loop]
    generalize run T pr (.loop w_s_l7Chain_1) = R
    simp +contextual only [w_s_l7Chain_1, Nat.lt_irrefl, decide_false, List.drop_length, chainA, chainB, go_sem, entry, joinEsc, if_pos, reduceIte, Nat.reduceAdd, Nat.reduceLeDiff, Nat.reduceLT, Nat.reduceEqDiff]
  | k + 1, i, P, Q, G, y4, y5, hk, hP, hQ => by
    have hi : i < ls.length := by omega
    have hl : ls[i]? = some ls[i] := List.getElem?_eq_getElem hi
    have hs : stageOk ls[i] = true := (List.all_eq_true.mp hall) _ (List.getElem_mem hi)
    rw [run_loop, List.drop_eq_getElem_cons hi, chainA, chainB]
    generalize hx : ls[i] = s at hl hs ⊢
    obtain ⟨⟨g1, g2⟩, ⟨g3, g4⟩, g5, g6⟩ := gain_step hs hP hQ (by omega)
    obtain ⟨f1, f2, f3, f4⟩ := frac_pos g1 g3
    have w1 : IntKind.i64.wrap ((P : Int) * (gainA s : Int)) = ((P * gainA s : Nat) : Int) := by rw [← Int.natCast_mul]; exact wrapN (by omega)
    have w2 : IntKind.i64.wrap ((Q : Int) * (gainB s : Int)) = ((Q * gainB s : Nat) : Int) := by rw [← Int.natCast_mul]; exact wrapN (by omega)
    have hf := fun L => e_s_l2Cut (pr := pr) (H := L) (e := none) (x := P * gainA s) (y := Q * gainB s) g3 (by omega) (by omega)
    obtain ⟨G', z4, z5, ih⟩ := loop_s_l7Chain (c := c) (R0 := R0) (y1 := y1) h hall hn k (i + 1) (fracA (P * gainA s) (Q * gainB s)) (fracB (P * gainA s) (Q * gainB s)) (G ++ [.cells [.int .i64 (gainA s : Nat), .int .i64 (gainB s : Nat)] true]) (.ptr (some (H.length + (G.length + 1 + 1), 0))) (.bool true) (by omega) ⟨f1, by omega⟩ ⟨f2, by omega⟩
    refine ⟨G', z4, z5, ?_⟩
    generalize run T pr (.loop w_s_l7Chain_1) = R at ih ⊢
    simp +contextual only [w_s_l7Chain_1, cells_mono h, hi, hl, part_encS hl, e_s_l7Gain s hs, ix02, ix12, ix01, Int.le_refl, Int.toNat_zero, Int.toNat_one, Nat.zero_mul, Nat.one_mul, w1, w2, hf, wrap_succ (show i < 9223372036854775807 by omega), decide_true, go_sem, entry, joinEsc, if_pos, reduceIte, Nat.reduceAdd, Nat.reduceLeDiff, Nat.reduceLT, Nat.reduceEqDiff]
    exact ih

theorem e_s_l7Chain {q : Nat} {c : Option Nat} {ls : List Sg} (h : cellsAt H q = some (encS ls)) (hc : chainOk ls = true) : call T pr f_s_l7Chain [slS q ls.length c] ⟨H, e⟩ = some (fvV (chainA 1 1 ls) (chainB 1 1 ls), ⟨H, e⟩) := by
  unfold chainOk at hc
  rw [Bool.and_eq_true, decide_eq_true_eq] at hc
  obtain ⟨G', z4, z5, hl⟩ := loop_s_l7Chain (pr := pr) (c := c) (R0 := .cells [.int .i64 0, .int .i64 0] true) (y1 := .ptr (some (H.length, 0))) h hc.1 hc.2 ls.length 0 1 1 [] .undef .undef rfl (by decide) (by decide)
  have h0 : ((0 : Nat) : Int) = 0 := rfl
  have h1 : ((1 : Nat) : Int) = 1 := rfl
  rw [h0, h1, List.drop_zero] at hl
  rw [call_eq t_s_l7Chain]
  simp +contextual only [a_s_l7Chain, c_s_l7Chain, fillParts, hl, go_sem, entry, joinEsc, if_pos, reduceIte, Nat.reduceAdd, Nat.reduceLeDiff, Nat.reduceLT, Nat.reduceEqDiff]

end Go.Proofs.Ytlocjmbfcdfjfaa.Slim
