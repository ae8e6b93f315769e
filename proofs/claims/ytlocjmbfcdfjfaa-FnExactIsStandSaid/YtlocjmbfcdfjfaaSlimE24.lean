/- Rafts: the order in which all can be taken, on both sides; its law. -/
import Derived.Test.YtlocjmbfcdfjfaaSlimE23
namespace Go.Proofs.Ytlocjmbfcdfjfaa.Slim

open Go

set_option linter.unusedSimpArgs false

set_option linter.unusedVariables false

variable {pr : Prims} {H : List Blk} {e : Option Nat}

def firstD (W : List Bool) (n c : Nat) : Nat := ((List.range n).filter (okDown W c)).headD 0

def unloadL (W : List Bool) (n : Nat) : Nat → Nat → List Int
  | 0, _ => []
  | k + 1, c => ((firstD W n c : Nat) : Int) :: unloadL W n k (c - 2 ^ firstD W n c)

theorem unloadL_length (W : List Bool) (n : Nat) : ∀ k c, (unloadL W n k c).length = k
  | 0, _ => rfl
  | k + 1, c => by rw [unloadL, List.length_cons, unloadL_length]

theorem firstD_spec {W : List Bool} {n c : Nat} (h : ∃ i, i < n ∧ okDown W c i = true) :
    firstD W n c < n ∧ okDown W c (firstD W n c) = true ∧ (∀ i, i < firstD W n c → okDown W c i = false) := by
  obtain ⟨i, i1, i2⟩ := h
  cases hf : (List.range n).filter (okDown W c) with
  | nil =>
    have := List.filter_eq_nil_iff.mp hf i (by simpa using i1)
    exact absurd i2 this
  | cons x rest =>
    have hx : firstD W n c = x := by unfold firstD; rw [hf]; rfl
    have hfind : (List.range n).find? (okDown W c) = some x := by rw [← List.head?_filter, hf]; rfl
    rw [List.find?_range_eq_some] at hfind
    obtain ⟨k1, k2, k3⟩ := hfind
    rw [hx]
    exact ⟨by simpa using k2, k1, fun i hi => by simpa using k3 i hi⟩

end Go.Proofs.Ytlocjmbfcdfjfaa.Slim
