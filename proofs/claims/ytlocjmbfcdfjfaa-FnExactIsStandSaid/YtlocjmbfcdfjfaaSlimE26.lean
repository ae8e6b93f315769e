/- Rafts: sets that rise, and the next safe steps; the law. -/
import Derived.Test.YtlocjmbfcdfjfaaSlimE25
namespace Go.Proofs.Ytlocjmbfcdfjfaa.Slim

open Go

set_option linter.unusedSimpArgs false

set_option linter.unusedVariables false

variable {pr : Prims} {H : List Blk} {e : Option Nat}

/-- does a list rise, above lo and below n? -/
def rises (n : Int) : Int → List Int → Bool
  | _, [] => true
  | lo, x :: xs => (decide (lo < x) && decide (x ≤ n - 1)) && rises n x xs

def bitsF (acc : Int) : List Int → Int
  | [] => acc
  | x :: xs => bitsF (orI .i64 acc (shlI .i64 1 x)) xs

def codeN (m : Nat) : List Int → Nat
  | [] => m
  | x :: xs => codeN (m + 2 ^ x.toNat) xs

/-- what stands before place i -/
def before (os : List Int) (i : Nat) (lo : Int) : Prop := (i = 0 ∧ lo = -1) ∨ ∃ i', i = i' + 1 ∧ os[i']? = some lo ∧ 0 ≤ lo

theorem before_next {os : List Int} {i : Nat} {x : Int} (h : os[i]? = some x) (h0 : 0 ≤ x) : before os (i + 1) x := .inr ⟨i, rfl, h, h0⟩

theorem before_in {os : List Int} {i : Nat} {lo : Int} {x n : Int} (h : before os i lo) (hw : (decide (0 ≤ x) && decide (x ≤ n)) = false) : (decide (lo < x) && decide (x ≤ n)) = false := by
  have : -1 ≤ lo := by
    rcases h with ⟨_, rfl⟩ | ⟨_, _, _, h⟩ <;> omega
  simp only [Bool.and_eq_false_iff, decide_eq_false_iff_not] at *
  omega

theorem low_bits : ∀ m : Nat, m < 256 → ∀ x : Nat, x < 8 → m < 2 ^ x → (m.testBit x = false ∧ m + 2 ^ x < 2 ^ (x + 1)) := by decide +kernel

theorem pow_mono8 : ∀ n : Nat, n < 9 → ∀ x : Nat, x < n → 2 ^ (x + 1) ≤ 2 ^ n := by decide +kernel

theorem bitsF_code {n : Nat} (hn8 : n ≤ 8) : ∀ (os : List Int) (lo : Int) (m : Nat), -1 ≤ lo → lo < n → m < 2 ^ (lo + 1).toNat → rises n lo os = true → bitsF m os = (codeN m os : Nat) ∧ codeN m os < 2 ^ n
  | [], lo, m, h1, h2, h3, _ => by
    refine ⟨rfl, ?_⟩
    rw [codeN]
    have : (2 : Nat) ^ (lo + 1).toNat ≤ 2 ^ n := Nat.pow_le_pow_right (by omega) (by omega)
    omega
  | x :: xs, lo, m, h1, h2, h3, hr => by
    rw [rises, Bool.and_eq_true, Bool.and_eq_true, decide_eq_true_eq, decide_eq_true_eq] at hr
    obtain ⟨⟨r1, r2⟩, r3⟩ := hr
    obtain ⟨y, rfl⟩ : ∃ y : Nat, x = y := ⟨x.toNat, by omega⟩
    have hp : (2 : Nat) ^ (lo + 1).toNat ≤ 2 ^ y := Nat.pow_le_pow_right (by omega) (by omega)
    have hp8 : (2 : Nat) ^ y ≤ 2 ^ 8 := Nat.pow_le_pow_right (by omega) (by omega)
    have h256 : (2 : Nat) ^ 8 = 256 := by decide
    obtain ⟨l1, l2⟩ := low_bits m (by omega) y (by omega) (by omega)
    obtain ⟨_, _, f3⟩ := bits_facts m (by omega) y (by omega)
    obtain ⟨g1, _, _, _⟩ := f3 l1
    rw [bitsF, codeN, g1, Int.toNat_natCast]
    exact bitsF_code hn8 xs y (m + 2 ^ y) (by omega) (by omega) (by rw [show ((y : Int) + 1).toNat = y + 1 by omega]; exact l2) r3

/-- a set of a cargo -/
def setOk (a b o : Int) (ls : List Ld) (os : List Int) : Bool := cargoOk a b o ls && rises ls.length (-1) os

/-- is the set one from which steps are told? -/
def canS (a b o : Int) (ls : List Ld) (os : List Int) : Bool := setOk a b o ls os && safeW a b o ls ((codeN 0 os : Nat) : Int)

def ssW (a b o : Int) (ls : List Ld) (os : List Int) : List Int := stepsW (waysW a b o ls) ls.length (codeN 0 os)

theorem ssW_le (a b o : Int) (ls : List Ld) (os : List Int) : (ssW a b o ls os).length ≤ ls.length := by
  unfold ssW stepsW
  rw [List.length_map]
  have := List.length_filter_le (okStep (waysW a b o ls) (codeN 0 os)) (List.range ls.length)
  simpa using this

end Go.Proofs.Ytlocjmbfcdfjfaa.Slim
