/- Rafts: from which sets all can be taken, on both sides. -/
import Derived.Test.YtlocjmbfcdfjfaaSlimE22
namespace Go.Proofs.Ytlocjmbfcdfjfaa.Slim

open Go

set_option linter.unusedSimpArgs false

set_option linter.unusedVariables false

variable {pr : Prims} {H : List Blk} {e : Option Nat}

theorem bits_down : ∀ m : Nat, m < 256 → ∀ x : Nat, x < 8 → m.testBit x = true → (andNotI .i64 m (shlI .i64 1 (x : Int)) = ((m - 2 ^ x : Nat) : Int) ∧ wr ((m : Int) - shlI .i64 1 (x : Int)) = ((m - 2 ^ x : Nat) : Int) ∧ 2 ^ x ≤ m) := by decide +kernel

/-- the items that are in c -/
def nu (n c : Nat) : Nat := ((List.range n).filter fun i => c.testBit i).length

theorem nu_facts : ∀ n : Nat, n < 9 → ∀ c : Nat, c < 2 ^ n → ((nu n c = 0 ↔ c = 0) ∧ (c + 1 = 2 ^ n → nu n c = n) ∧ ∀ i : Nat, i < n → c.testBit i = true → nu n c = nu n (c - 2 ^ i) + 1) := by decide +kernel

abbrev encB (ls : List Bool) : List AV := ls.map AV.bool

theorem getB {B : List Bool} {c : Nat} (h : c < B.length) : B[c]? = some (B.getD c false) := by
  rw [List.getD_eq_getElem?_getD, List.getElem?_eq_getElem h]; rfl

theorem part_encB {B : List Bool} {i : Nat} (sz : Nat) (h : i < B.length) : part false (encB B) i sz = some (.bool (B.getD i false)) := by
  rw [part_false, List.getElem?_map, getB h]; rfl

theorem under_encB (n : Nat) : ∀ ls : List Bool, ((encB ls).all fun c => c.under n) = true
  | [] => rfl
  | l :: ls => by simp [encB, AV.under]

theorem zeros_encB : ∀ n, zeros n [.bool false] = encB (List.replicate n false)
  | 0 => rfl
  | n + 1 => by
    have := zeros_encB n
    unfold zeros encB at *
    simp only [List.replicate_succ, List.flatten_cons, List.map_cons, List.cons_append, List.nil_append, this]

theorem setRange_midB (P R : List Bool) (r a : Bool) : setRange (encB (P ++ r :: R)) P.length [.bool a] = encB (P ++ a :: R) := by
  induction P with
  | nil => simp [encB, setRange]
  | cons p P ih =>
    simp only [encB, List.cons_append, List.length_cons, List.map_cons] at *
    rw [setRange_k, ih]

theorem getD_pre {P R : List Bool} {d : Nat} (h : d < P.length) : (P ++ R).getD d false = P.getD d false := by
  rw [List.getD_eq_getElem?_getD, List.getD_eq_getElem?_getD, List.getElem?_append_left h]

/-- item i can be taken from c, and the rest in some way behind it -/
def okDown (W : List Bool) (c i : Nat) : Bool := c.testBit i && W.getD (c - 2 ^ i) false

def backV (safe : Nat → Bool) (n c : Nat) (B : List Bool) : Bool := safe c && (decide (c = 0) || (List.range n).any (okDown B c))

/-- the sets below c: can all be taken from them? -/
def backL (safe : Nat → Bool) (n : Nat) : Nat → List Bool
  | 0 => []
  | c + 1 => backL safe n c ++ [backV safe n c (backL safe n c)]

theorem backL_length (safe : Nat → Bool) (n : Nat) : ∀ c, (backL safe n c).length = c
  | 0 => rfl
  | c + 1 => by rw [backL, List.length_append, backL_length]; rfl

theorem backL_getD (safe : Nat → Bool) (n : Nat) {c d : Nat} : ∀ F, c < F → d < c → (backL safe n F).getD d false = (backL safe n c).getD d false
  | 0, h, _ => by omega
  | F + 1, h, hd => by
    rw [backL]
    by_cases hc : c = F
    · subst hc; exact getD_pre (by rw [backL_length]; exact hd)
    · rw [getD_pre (by rw [backL_length]; omega)]
      exact backL_getD safe n F (by omega) hd

theorem backL_val (safe : Nat → Bool) (n : Nat) {c : Nat} : ∀ F, c < F → (backL safe n F).getD c false = backV safe n c (backL safe n c)
  | 0, h => by omega
  | F + 1, h => by
    rw [backL]
    by_cases hc : c = F
    · subst hc
      rw [List.getD_eq_getElem?_getD, List.getElem?_append_right (by rw [backL_length]; exact Nat.le_refl _), backL_length, Nat.sub_self]
      rfl
    · rw [getD_pre (by rw [backL_length]; omega)]
      exact backL_val safe n F (by omega)

theorem back_good {safe : Nat → Bool} {n F c : Nat} (hF : F = 2 ^ n) (hn8 : n ≤ 8) (hc : c < F) (h : (backL safe n F).getD c false = true) (h0 : c ≠ 0) : ∃ i, i < n ∧ okDown (backL safe n F) c i = true := by
  rw [backL_val safe n F hc] at h
  unfold backV at h
  simp only [Bool.and_eq_true, Bool.or_eq_true, decide_eq_true_eq, List.any_eq_true, List.mem_range] at h
  rcases h.2 with h | ⟨i, i1, i2⟩
  · exact absurd h h0
  · refine ⟨i, i1, ?_⟩
    unfold okDown at i2 ⊢
    rw [Bool.and_eq_true] at i2 ⊢
    have := Nat.two_pow_pos i
    rw [backL_getD safe n F hc (by omega)]
    exact i2

def backW (a b o : Int) (ls : List Ld) : List Bool := backL (fun c => safeW a b o ls (c : Int)) ls.length (2 ^ ls.length)

theorem fin_back (x : Blk) (W : List Bool) (n : Nat) (c : Option Nat) (e0 : Option Nat) : finish 2 H.length e0 (slI (H.length + 1) n c) ⟨H ++ [x, Blk.cells (encB W) true], none⟩ = some (slI H.length n c, ⟨H ++ [Blk.cells (encB W) true], e0⟩) :=
  finish_two_at e0 rfl (under_encB _ _)

end Go.Proofs.Ytlocjmbfcdfjfaa.Slim
