/- Orders of a cargo. -/
import Derived.Test.YtlocjmbfcdfjfaaSlimE14
namespace Go.Proofs.Ytlocjmbfcdfjfaa.Slim

open Go

set_option linter.unusedSimpArgs false

set_option linter.unusedVariables false

variable {pr : Prims} {H : List Blk} {e : Option Nat}

theorem length_le_of_sub {r : List Int} : ∀ {l : List Int}, r.Nodup → (∀ x ∈ r, x ∈ l) → r.length ≤ l.length := by
  induction r with
  | nil => intro l _ _; exact Nat.zero_le _
  | cons a r ih =>
    intro l hn hs
    have ha := hs a (by simp)
    obtain ⟨h1, h2⟩ := List.nodup_cons.mp hn
    have h3 := ih (l := l.erase a) h2 (fun x hx => by
      have hne : x ≠ a := fun e => h1 (e ▸ hx)
      exact (List.mem_erase_of_ne hne).mpr (hs x (by simp [hx])))
    have h4 := List.length_erase_of_mem ha
    have h5 := List.length_pos_of_mem ha
    simp only [List.length_cons]
    omega

/-- the numbers below n -/
def nums (n : Nat) : List Int := (List.range n).map fun (i : Nat) => (i : Int)

theorem nums_length (n : Nat) : (nums n).length = n := by simp [nums]

theorem mem_nums {n : Nat} {x : Int} : x ∈ nums n ↔ 0 ≤ x ∧ x < n := by
  unfold nums
  rw [List.mem_map]
  constructor
  · rintro ⟨i, hi, rfl⟩
    rw [List.mem_range] at hi
    omega
  · rintro ⟨h1, h2⟩
    exact ⟨x.toNat, by rw [List.mem_range]; omega, by omega⟩

theorem nums_nodup (n : Nat) : (nums n).Nodup := by
  unfold nums
  refine List.Pairwise.map _ ?_ List.nodup_range
  intro a b h e
  exact h (by omega)

/-- a list of n numbers has all numbers below n exactly if it has none twice, and no other -/
theorem order_iff {l : List Int} {n : Nat} (hl : l.length = n) : (∀ x : Int, 0 ≤ x → x < n → x ∈ l) ↔ (l.Nodup ∧ ∀ x ∈ l, 0 ≤ x ∧ x < n) := by
  constructor
  · intro h
    have key : ∀ (l' : List Int), (∀ x ∈ nums n, x ∈ l') → n ≤ l'.length := fun l' h' => by
      have := length_le_of_sub (nums_nodup n) h'
      rwa [nums_length] at this
    have hin : ∀ x ∈ l, 0 ≤ x ∧ x < n := by
      intro x hx
      refine Classical.byContradiction fun hc => ?_
      have := key (l.erase x) (fun y hy => by
        have hy' := mem_nums.mp hy
        have hne : y ≠ x := fun e => hc (e ▸ hy')
        exact (List.mem_erase_of_ne hne).mpr (h y hy'.1 hy'.2))
      have h4 := List.length_erase_of_mem hx
      have h5 := List.length_pos_of_mem hx
      omega
    refine ⟨?_, hin⟩
    have gen : ∀ (l : List Int), ¬ l.Nodup → ∃ x ∈ l, x ∈ l.erase x := by
      intro l
      induction l with
      | nil => intro h; exact absurd List.nodup_nil h
      | cons a l ih =>
        intro h
        by_cases ha : a ∈ l
        · exact ⟨a, by simp, by simpa using ha⟩
        · have hn : ¬ l.Nodup := fun hn => h (List.nodup_cons.mpr ⟨ha, hn⟩)
          obtain ⟨x, h1, h2⟩ := ih hn
          have hne : ¬ a = x := fun e => ha (e ▸ h1)
          refine ⟨x, by simp [h1], ?_⟩
          rw [List.erase_cons_tail (by simpa using hne)]
          simp [h2]
    refine Classical.byContradiction fun hc => ?_
    obtain ⟨x, h1, h2⟩ := gen l hc
    have := key (l.erase x) (fun y hy => by
      have hy' := mem_nums.mp hy
      by_cases e : y = x
      · rw [e]; exact h2
      · exact (List.mem_erase_of_ne e).mpr (h y hy'.1 hy'.2))
    have h4 := List.length_erase_of_mem h1
    have h5 := List.length_pos_of_mem h1
    omega
  · rintro ⟨h1, h2⟩ x hx0 hx1
    refine Classical.byContradiction fun hc => ?_
    have := length_le_of_sub (r := x :: l) (l := nums n) (List.nodup_cons.mpr ⟨hc, h1⟩) (fun y hy => by
      rcases List.mem_cons.mp hy with rfl | hy
      · exact mem_nums.mpr ⟨hx0, hx1⟩
      · exact mem_nums.mpr (h2 y hy))
    rw [nums_length] at this
    simp at this
    omega

theorem bits_facts : ∀ m : Nat, m < 256 → ∀ x : Nat, x < 8 → (m.testBit x = bitW m x ∧ shlI .i64 1 (x : Int) = ((2 ^ x : Nat) : Int) ∧ (m.testBit x = false → orI .i64 m (shlI .i64 1 (x : Int)) = ((m + 2 ^ x : Nat) : Int) ∧ wr ((m : Int) + shlI .i64 1 (x : Int)) = ((m + 2 ^ x : Nat) : Int) ∧ m + 2 ^ x < 256 ∧ ∀ y : Nat, y < 8 → (m + 2 ^ x).testBit y = (m.testBit y || decide (x = y)))) := by
  decide +kernel

end Go.Proofs.Ytlocjmbfcdfjfaa.Slim
