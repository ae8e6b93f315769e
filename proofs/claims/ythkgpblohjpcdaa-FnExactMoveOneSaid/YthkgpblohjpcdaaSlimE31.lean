/- Fractions, the gain of a chain, and the pull of a row; the law. -/
import Derived.Test.YthkgpblohjpcdaaSlimE29
namespace Go.Proofs.Ythkgpblohjpcdaa.Slim

open Go

set_option linter.unusedSimpArgs false

set_option linter.unusedVariables false

variable {pr : Prims} {H : List Blk} {e : Option Nat}

theorem wrapN {x : Nat} (h : x ≤ 9223372036854775807) : IntKind.i64.wrap (x : Int) = (x : Int) := wrap64 (by omega) (by omega)

theorem e_s_l1Most (a b : Int) : call T pr f_s_l1Most [.int .i64 a, .int .i64 b] ⟨H, e⟩ = some (.int .i64 (if b < a then a else b), ⟨H, e⟩) := by
  rw [call_eq t_s_l1Most]
  by_cases h : b < a <;> simp +contextual only [a_s_l1Most, c_s_l1Most, h, decide_true, decide_false, go_sem, entry, joinEsc, if_pos, reduceIte, Nat.reduceAdd, Nat.reduceLeDiff, Nat.reduceLT, Nat.reduceEqDiff]

/-- a fraction in lowest terms -/
def fracA (x y : Nat) : Nat := x / Nat.gcd y x
def fracB (x y : Nat) : Nat := y / Nat.gcd y x

abbrev fvV (x y : Nat) : AV := .agg [.int .i64 x, .int .i64 y]

theorem frac_facts {x y : Nat} (hy : 0 < y) (hx1 : x ≤ 4611686018427387904) (hy1 : y ≤ 4611686018427387904) :
    ¬ ((Nat.gcd y x : Nat) : Int) = 0 ∧ IntKind.i64.wrap (Int.tdiv (x : Int) (Nat.gcd y x : Nat)) = (fracA x y : Int) ∧ IntKind.i64.wrap (Int.tdiv (y : Int) (Nat.gcd y x : Nat)) = (fracB x y : Int) := by
  have hg : 0 < Nat.gcd y x := Nat.gcd_pos_of_pos_left _ hy
  have h1 : fracA x y ≤ x := Nat.div_le_self _ _
  have h2 : fracB x y ≤ y := Nat.div_le_self _ _
  refine ⟨by omega, ?_, ?_⟩
  · have : Int.tdiv (x : Int) (Nat.gcd y x : Nat) = (fracA x y : Int) := rfl
    rw [this]; exact wrapN (by omega)
  · have : Int.tdiv (y : Int) (Nat.gcd y x : Nat) = (fracB x y : Int) := rfl
    rw [this]; exact wrapN (by omega)

theorem frac_pos {x y : Nat} (hx : 0 < x) (hy : 0 < y) : 0 < fracA x y ∧ 0 < fracB x y ∧ fracA x y ≤ x ∧ fracB x y ≤ y := by
  have hg : 0 < Nat.gcd y x := Nat.gcd_pos_of_pos_left _ hy
  refine ⟨Nat.div_pos (Nat.le_of_dvd hx (Nat.gcd_dvd_right _ _)) hg, Nat.div_pos (Nat.le_of_dvd hy (Nat.gcd_dvd_left _ _)) hg, Nat.div_le_self _ _, Nat.div_le_self _ _⟩

/-- the gain of a valid stage -/
def gainA (s : Sg) : Nat := if s.1 = 2 then s.2.1.toNat else if s.1 = 5 then fracA (2 * s.2.1.toNat) (s.2.1.toNat - s.2.2.toNat) else fracA s.2.1.toNat s.2.2.toNat
def gainB (s : Sg) : Nat := if s.1 = 2 then 1 else if s.1 = 5 then fracB (2 * s.2.1.toNat) (s.2.1.toNat - s.2.2.toNat) else fracB s.2.1.toNat s.2.2.toNat

theorem stage_cases {s : Sg} (h : stageOk s = true) : (1 ≤ s.2.1 ∧ s.2.1 ≤ 24) ∧ (s.1 ≠ 2 → 1 ≤ s.2.2 ∧ s.2.2 ≤ 24) ∧ (s.1 = 5 → s.2.2 < s.2.1) := by
  unfold stageOk ratioOk at h
  by_cases h1 : s.1 = 1
  · rw [if_pos h1] at h
    simp at h
    exact ⟨h.1, fun _ => h.2, fun h5 => by omega⟩
  rw [if_neg h1] at h
  by_cases h3 : s.1 = 3
  · rw [if_pos h3] at h
    simp at h
    exact ⟨h.1, fun _ => h.2, fun h5 => by omega⟩
  rw [if_neg h3] at h
  by_cases h2 : s.1 = 2
  · rw [if_pos h2] at h
    simp at h
    exact ⟨h.1, fun hn => absurd h2 hn, fun h5 => by omega⟩
  rw [if_neg h2] at h
  by_cases h4 : s.1 = 4
  · rw [if_pos h4] at h
    simp at h
    exact ⟨h.1.1, fun _ => h.1.2, fun h5 => by omega⟩
  rw [if_neg h4] at h
  by_cases h5 : s.1 = 5
  · rw [if_pos h5] at h
    simp at h
    exact ⟨h.1.1, fun _ => h.1.2, fun _ => h.2⟩
  rw [if_neg h5] at h
  cases h

theorem gain_bounds {s : Sg} (h : stageOk s = true) : 0 < gainA s ∧ gainA s ≤ 48 ∧ 0 < gainB s ∧ gainB s ≤ 24 := by
  obtain ⟨h1, h2, h3⟩ := stage_cases h
  unfold gainA gainB
  by_cases k2 : s.1 = 2
  · simp only [if_pos k2]; omega
  · simp only [if_neg k2]
    have := h2 k2
    by_cases k5 : s.1 = 5
    · simp only [if_pos k5]
      have := h3 k5
      obtain ⟨f1, f2, f3, f4⟩ := frac_pos (x := 2 * s.2.1.toNat) (y := s.2.1.toNat - s.2.2.toNat) (by omega) (by omega)
      omega
    · simp only [if_neg k5]
      obtain ⟨f1, f2, f3, f4⟩ := frac_pos (x := s.2.1.toNat) (y := s.2.2.toNat) (by omega) (by omega)
      omega

/-- the gain of stages, from some gain on -/
def chainA : Nat → Nat → List Sg → Nat
  | P, _, [] => P
  | P, Q, s :: ss => chainA (fracA (P * gainA s) (Q * gainB s)) (fracB (P * gainA s) (Q * gainB s)) ss
def chainB : Nat → Nat → List Sg → Nat
  | _, Q, [] => Q
  | P, Q, s :: ss => chainB (fracA (P * gainA s) (Q * gainB s)) (fracB (P * gainA s) (Q * gainB s)) ss

theorem gain_step {s : Sg} {P Q i : Nat} (h : stageOk s = true) (hP : 0 < P ∧ P ≤ 48 ^ i) (hQ : 0 < Q ∧ Q ≤ 24 ^ i) (hi : i < 5) :
    (0 < P * gainA s ∧ P * gainA s ≤ 48 ^ (i + 1)) ∧ (0 < Q * gainB s ∧ Q * gainB s ≤ 24 ^ (i + 1)) ∧ 48 ^ (i + 1) ≤ 254803968 ∧ 24 ^ (i + 1) ≤ 254803968 := by
  obtain ⟨g1, g2, g3, g4⟩ := gain_bounds h
  refine ⟨⟨Nat.mul_pos hP.1 g1, ?_⟩, ⟨Nat.mul_pos hQ.1 g3, ?_⟩, ?_, ?_⟩
  · rw [Nat.pow_succ]; exact Nat.mul_le_mul hP.2 g2
  · rw [Nat.pow_succ]; exact Nat.mul_le_mul hQ.2 g4
  · have : 48 ^ (i + 1) ≤ 48 ^ 5 := Nat.pow_le_pow_right (by omega) (by omega)
    have h2 : (48 : Nat) ^ 5 = 254803968 := by decide
    omega
  · have : 24 ^ (i + 1) ≤ 24 ^ 5 := Nat.pow_le_pow_right (by omega) (by omega)
    have h2 : (24 : Nat) ^ 5 = 7962624 := by decide
    omega

theorem chain_bounds : ∀ (ss : List Sg) (i P Q : Nat), ss.all stageOk = true → ss.length + i ≤ 5 → (0 < P ∧ P ≤ 48 ^ i) → (0 < Q ∧ Q ≤ 24 ^ i) → 0 < chainA P Q ss ∧ chainA P Q ss ≤ 254803968 ∧ 0 < chainB P Q ss ∧ chainB P Q ss ≤ 254803968
  | [], i, P, Q, _, hi, hP, hQ => by
    have h1 : 48 ^ i ≤ 48 ^ 5 := Nat.pow_le_pow_right (by omega) (by simpa using hi)
    have h2 : (48 : Nat) ^ 5 = 254803968 := by decide
    have h3 : 24 ^ i ≤ 24 ^ 5 := Nat.pow_le_pow_right (by omega) (by simpa using hi)
    have h4 : (24 : Nat) ^ 5 = 7962624 := by decide
    rw [chainA, chainB]
    omega
  | s :: ss, i, P, Q, ha, hi, hP, hQ => by
    rw [List.all_cons, Bool.and_eq_true] at ha
    rw [List.length_cons] at hi
    obtain ⟨⟨g1, g2⟩, ⟨g3, g4⟩, _, _⟩ := gain_step ha.1 hP hQ (by omega)
    obtain ⟨f1, f2, f3, f4⟩ := frac_pos g1 g3
    rw [chainA, chainB]
    exact chain_bounds ss (i + 1) _ _ ha.2 (by omega) ⟨f1, by omega⟩ ⟨f2, by omega⟩

theorem ix02 : (0 : Int) < ((2 : Nat) : Int) := by omega
theorem ix12 : (1 : Int) < ((2 : Nat) : Int) := by omega
theorem ix01 : (0 : Int) ≤ 1 := by omega

end Go.Proofs.Ythkgpblohjpcdaa.Slim
