/- Rafts: the first tip, on both sides. -/
import Derived.Test.YtlocjmbfcdfjfaaSlimE16
namespace Go.Proofs.Ytlocjmbfcdfjfaa.Slim

open Go

set_option linter.unusedSimpArgs false

set_option linter.unusedVariables false

variable {pr : Prims} {H : List Blk} {e : Option Nat}

theorem ordOk_iff {n : Nat} (hn8 : n ≤ 8) : ∀ (os : List Int) (m : Nat), m < 256 → (ordOk n m os = true ↔ os.Nodup ∧ ∀ x ∈ os, (0 ≤ x ∧ x < n) ∧ m.testBit x.toNat = false)
  | [], m, hm => by simp [ordOk]
  | x :: xs, m, hm => by
    rw [ordOk, Bool.and_eq_true, Bool.and_eq_true, Bool.and_eq_true, decide_eq_true_eq, decide_eq_true_eq, List.nodup_cons]
    constructor
    · rintro ⟨⟨⟨h1, h2⟩, h3⟩, h4⟩
      have h3' : m.testBit x.toNat = false := by simpa using h3
      obtain ⟨_, _, f3⟩ := bits_facts m hm x.toNat (by omega)
      obtain ⟨_, _, g3, g4⟩ := f3 h3'
      obtain ⟨k1, k2⟩ := (ordOk_iff hn8 xs _ g3).mp h4
      refine ⟨⟨fun hx => ?_, k1⟩, fun y hy => ?_⟩
      · have := (k2 x hx).2
        rw [g4 _ (by omega)] at this
        simp at this
      · rcases List.mem_cons.mp hy with rfl | hy
        · exact ⟨⟨h1, by omega⟩, h3'⟩
        · obtain ⟨k3, k4⟩ := k2 y hy
          rw [g4 _ (by omega)] at k4
          exact ⟨k3, (Bool.or_eq_false_iff.mp k4).1⟩
    · rintro ⟨⟨h1, h2⟩, h3⟩
      obtain ⟨h4, h5⟩ := h3 x (by simp)
      obtain ⟨_, _, f3⟩ := bits_facts m hm x.toNat (by omega)
      obtain ⟨_, _, g3, g4⟩ := f3 h5
      refine ⟨⟨⟨h4.1, by omega⟩, by simp [h5]⟩, (ordOk_iff hn8 xs _ g3).mpr ⟨h2, fun y hy => ?_⟩⟩
      obtain ⟨k3, k4⟩ := h3 y (by simp [hy])
      refine ⟨k3, ?_⟩
      rw [g4 _ (by omega), k4]
      have : ¬ x.toNat = y.toNat := fun he => h1 (by rwa [show x = y by omega])
      simp [this]

/-- has the list all of k numbers, from i on? -/
def hasAll (os : List Int) : Nat → Nat → Bool
  | _, 0 => true
  | i, k + 1 => decide ((i : Int) ∈ os) && hasAll os (i + 1) k

theorem hasAll_iff {os : List Int} : ∀ (k i : Nat), hasAll os i k = true ↔ ∀ x : Int, (i : Int) ≤ x → x < i + k → x ∈ os
  | 0, i => by simp [hasAll]; intro x h1 h2; omega
  | k + 1, i => by
    rw [hasAll, Bool.and_eq_true, decide_eq_true_eq, hasAll_iff k (i + 1)]
    constructor
    · rintro ⟨h1, h2⟩ x h3 h4
      by_cases hx : x = i
      · rw [hx]; exact h1
      · exact h2 x (by omega) (by omega)
    · intro h
      exact ⟨h _ (by omega) (by omega), fun x h1 h2 => h x (by omega) (by omega)⟩

theorem hasAll_ord {os : List Int} {n : Nat} (hn8 : n ≤ 8) (hl : os.length = n) : hasAll os 0 n = ordOk n 0 os := by
  rw [Bool.eq_iff_iff, hasAll_iff, ordOk_iff hn8 os 0 (by omega)]
  have h0 : ((0 : Nat) : Int) = 0 := rfl
  rw [h0, Int.zero_add]
  constructor
  · intro h
    obtain ⟨h1, h2⟩ := (order_iff hl).mp (fun x h3 h4 => h x h3 h4)
    exact ⟨h1, fun x hx => ⟨h2 x hx, Nat.zero_testBit _⟩⟩
  · rintro ⟨h1, h2⟩
    have := (order_iff hl).mpr ⟨h1, fun x hx => (h2 x hx).1⟩
    exact fun x h3 h4 => this x h3 h4

/-- how many are on when it tips, 0 if it does not -/
def tipFrom (a b o : Int) (ls : List Ld) : Nat → Nat → List Int → Nat
  | _, _, [] => 0
  | i, m, x :: xs => if safeW a b o ls ((m + 2 ^ x.toNat : Nat) : Int) = true then tipFrom a b o ls (i + 1) (m + 2 ^ x.toNat) xs else i + 1

/-- what FirstTip returns -/
def tipW (a b o : Int) (ls : List Ld) (os : List Int) : Nat := if (cargoOk a b o ls && (ordOk ls.length 0 os && decide (os.length = ls.length))) = true then tipFrom a b o ls 0 0 os else 0

end Go.Proofs.Ytlocjmbfcdfjfaa.Slim
