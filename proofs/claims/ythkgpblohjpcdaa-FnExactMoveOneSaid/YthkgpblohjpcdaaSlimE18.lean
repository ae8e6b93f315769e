/- Rafts: in how many ways the rest can be loaded, on both sides. -/
import Derived.Test.YthkgpblohjpcdaaSlimE14
namespace Go.Proofs.Ythkgpblohjpcdaa.Slim

open Go

set_option linter.unusedSimpArgs false

set_option linter.unusedVariables false

variable {pr : Prims} {H : List Blk} {e : Option Nat}

theorem pow_facts : ∀ n : Nat, n < 9 → (shlI .i64 1 (n : Int) = ((2 ^ n : Nat) : Int) ∧ 2 ^ n ≤ 256 ∧ 0 < 2 ^ n) := by decide +kernel

theorem set_facts : ∀ n : Nat, n < 9 → ∀ c : Nat, c < 2 ^ n → ∀ i : Nat, i < n → (c.testBit i = false → c + 2 ^ i < 2 ^ n) ∧ (c + 1 = 2 ^ n → c.testBit i = true) := by decide +kernel

theorem getD_get {W : List Int} {c : Nat} (h : c < W.length) : W[c]? = some (W.getD c 0) := by
  rw [List.getD_eq_getElem?_getD, List.getElem?_eq_getElem h]; rfl

/-- c's ways, grown by those of the items from i on -/
def waysIn (c : Nat) : Nat → Nat → List Int → List Int
  | 0, _, W => W
  | k + 1, i, W => waysIn c k (i + 1) (if c.testBit i = true then W else W.set c (wr (W.getD c 0 + W.getD (c + 2 ^ i) 0)))

theorem waysIn_length {c : Nat} : ∀ (k i : Nat) (W : List Int), (waysIn c k i W).length = W.length
  | 0, _, W => rfl
  | k + 1, i, W => by
    rw [waysIn, waysIn_length k]
    split <;> simp

theorem waysIn_full {c : Nat} : ∀ (k i : Nat) (W : List Int), (∀ j, i ≤ j → j < i + k → c.testBit j = true) → waysIn c k i W = W
  | 0, _, W, _ => rfl
  | k + 1, i, W, h => by
    rw [waysIn, if_pos (h i (by omega) (by omega)), waysIn_full k _ _ (fun j h1 h2 => h j (by omega) (by omega))]

def waysStep (safe : Nat → Bool) (n c : Nat) (W : List Int) : List Int := if safe c = true then (if c + 1 = 2 ^ n then W.set c 1 else waysIn c n 0 W) else W

theorem waysStep_length (safe : Nat → Bool) (n c : Nat) (W : List Int) : (waysStep safe n c W).length = W.length := by
  unfold waysStep
  split
  · split
    · simp
    · exact waysIn_length _ _ _
  · rfl

/-- the sets below c, from the last one to the first -/
def waysDown (safe : Nat → Bool) (n : Nat) : Nat → List Int → List Int
  | 0, W => W
  | c + 1, W => waysDown safe n c (waysStep safe n c W)

theorem waysDown_length (safe : Nat → Bool) (n : Nat) : ∀ (c : Nat) (W : List Int), (waysDown safe n c W).length = W.length
  | 0, W => rfl
  | c + 1, W => by rw [waysDown, waysDown_length safe n c, waysStep_length]

def waysW (a b o : Int) (ls : List Ld) : List Int := waysDown (fun c => safeW a b o ls (c : Int)) ls.length (2 ^ ls.length) (List.replicate (2 ^ ls.length) 0)

theorem waysW_length (a b o : Int) (ls : List Ld) : (waysW a b o ls).length = 2 ^ ls.length := by
  unfold waysW
  rw [waysDown_length]
  simp

theorem bit_clear {c i : Nat} (hc : c < 256) (hi : i < 8) (h : c.testBit i = false) : andI .i64 (shrI .i64 c (i : Int)) 1 = 0 := by
  have : ∀ c : Nat, c < 256 → ∀ i : Nat, i < 8 → c.testBit i = false → andI .i64 (shrI .i64 c (i : Int)) 1 = 0 := by decide +kernel
  exact this c hc i hi h

theorem bit_set {c i : Nat} (hc : c < 256) (hi : i < 8) (h : c.testBit i = true) : andI .i64 (shrI .i64 c (i : Int)) 1 = 1 := by
  have : ∀ c : Nat, c < 256 → ∀ i : Nat, i < 8 → c.testBit i = true → andI .i64 (shrI .i64 c (i : Int)) 1 = 1 := by decide +kernel
  exact this c hc i hi h

theorem fin_ways (x : Blk) (W : List Int) (n : Nat) (c : Option Nat) (e0 : Option Nat) : finish 2 H.length e0 (slI (H.length + 1) n c) ⟨H ++ [x, Blk.cells (encI W) true], none⟩ = some (slI H.length n c, ⟨H ++ [Blk.cells (encI W) true], e0⟩) :=
  finish_two_at e0 rfl (under_encI _ _)

end Go.Proofs.Ythkgpblohjpcdaa.Slim
