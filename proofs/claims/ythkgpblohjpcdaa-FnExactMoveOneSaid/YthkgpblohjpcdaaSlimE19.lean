/- Rafts: what the ways tell; the next steps. -/
import Derived.Test.YthkgpblohjpcdaaSlimE18
namespace Go.Proofs.Ythkgpblohjpcdaa.Slim

open Go

set_option linter.unusedSimpArgs false

set_option linter.unusedVariables false

variable {pr : Prims} {H : List Blk} {e : Option Nat}

/-- the items that are not in c -/
def mu (n c : Nat) : Nat := ((List.range n).filter fun i => !c.testBit i).length

theorem mu_facts : ∀ n : Nat, n < 9 → ∀ c : Nat, c < 2 ^ n → (mu n c ≤ 8 ∧ (mu n c = 0 ↔ c + 1 = 2 ^ n) ∧ ∀ i : Nat, i < n → c.testBit i = false → mu n c = mu n (c + 2 ^ i) + 1) := by decide +kernel

theorem mu_zero (n : Nat) : mu n 0 = n := by
  unfold mu
  rw [List.filter_eq_self.mpr (by simp)]
  simp

/-- item i can be added to c, and the rest in some way behind it -/
def okStep (W : List Int) (c i : Nat) : Bool := !c.testBit i && decide (0 < W.getD (c + 2 ^ i) 0)

def stepsW (W : List Int) (n c : Nat) : List Int := ((List.range n).filter (okStep W c)).map fun (i : Nat) => (i : Int)

theorem getD_set (W : List Int) (c d : Nat) (x : Int) (h : c < W.length) : (W.set c x).getD d 0 = if c = d then x else W.getD d 0 := by
  rw [List.getD_eq_getElem?_getD, List.getD_eq_getElem?_getD, List.getElem?_set]
  by_cases hd : c = d
  · subst hd; rw [if_pos rfl, if_pos rfl, if_pos h]; rfl
  · rw [if_neg hd, if_neg hd]

theorem waysIn_spec {c n b : Nat} : ∀ (k i : Nat) (W : List Int), k + i = n → c < W.length → (∀ j, j < n → c.testBit j = false → 0 ≤ W.getD (c + 2 ^ j) 0 ∧ W.getD (c + 2 ^ j) 0 ≤ b) → 0 ≤ W.getD c 0 → W.getD c 0 + k * b ≤ 9223372036854775807 →
    (∀ d, d ≠ c → (waysIn c k i W).getD d 0 = W.getD d 0) ∧ W.getD c 0 ≤ (waysIn c k i W).getD c 0 ∧ (waysIn c k i W).getD c 0 ≤ W.getD c 0 + k * b ∧ (W.getD c 0 < (waysIn c k i W).getD c 0 → ∃ j, j < n ∧ okStep W c j = true)
  | 0, i, W, hk, hc, hb, h0, hm => by
    rw [waysIn]
    refine ⟨fun d _ => rfl, Int.le_refl _, by omega, fun h => by omega⟩
  | k + 1, i, W, hk, hc, hb, h0, hm => by
    rw [waysIn]
    have hkb : ((k + 1 : Nat) : Int) * (b : Int) = (k : Int) * b + b := by
      rw [Int.natCast_add, Int.add_mul]; simp
    cases h1 : c.testBit i with
    | true =>
      rw [if_pos rfl]
      obtain ⟨r1, r2, r3, r4⟩ := waysIn_spec (n := n) (b := b) k (i + 1) W (by omega) hc hb h0 (by omega)
      exact ⟨r1, r2, by omega, r4⟩
    | false =>
      rw [if_neg (by simp)]
      obtain ⟨b1, b2⟩ := hb i (by omega) h1
      have hkb0 : (0 : Int) ≤ (k : Int) * b := Int.mul_nonneg (by omega) (by omega)
      have hwr : wr (W.getD c 0 + W.getD (c + 2 ^ i) 0) = W.getD c 0 + W.getD (c + 2 ^ i) 0 := wrap64 (by omega) (by omega)
      rw [hwr]
      generalize hx : W.getD c 0 + W.getD (c + 2 ^ i) 0 = x
      have hne : ∀ j, c + 2 ^ j ≠ c := fun j hj => by have := Nat.two_pow_pos j; omega
      have gs := fun d => getD_set W c d x hc
      obtain ⟨r1, r2, r3, r4⟩ := waysIn_spec (c := c) (n := n) (b := b) k (i + 1) (W.set c x) (by omega) (by simpa using hc)
        (fun j hj hjc => by rw [gs, if_neg (fun h => hne j h.symm)]; exact hb j hj hjc) (by rw [gs, if_pos rfl]; omega) (by rw [gs, if_pos rfl]; omega)
      rw [gs c, if_pos rfl] at r2 r3 r4
      refine ⟨fun d hd => by rw [r1 d hd, gs, if_neg (fun h => hd h.symm)], by omega, by omega, fun hlt => ?_⟩
      by_cases hz : 0 < W.getD (c + 2 ^ i) 0
      · exact ⟨i, by omega, by simp [okStep, h1]; simpa using hz⟩
      · obtain ⟨j, j1, j2⟩ := r4 (by omega)
        refine ⟨j, j1, ?_⟩
        unfold okStep at j2 ⊢
        rw [gs, if_neg (fun h => hne j h.symm)] at j2
        exact j2

/-- what is true of c's ways -/
def goodW (n : Nat) (W : List Int) (c : Nat) : Prop := 0 ≤ W.getD c 0 ∧ W.getD c 0 ≤ ((8 ^ mu n c : Nat) : Int) ∧ (0 < W.getD c 0 → mu n c ≠ 0 → ∃ i, i < n ∧ okStep W c i = true)

theorem goodW_of {n c : Nat} {W W' : List Int} (hs : ∀ d, c ≤ d → W'.getD d 0 = W.getD d 0) (h : goodW n W c) : goodW n W' c := by
  obtain ⟨h1, h2, h3⟩ := h
  refine ⟨by rw [hs c (Nat.le_refl _)]; exact h1, by rw [hs c (Nat.le_refl _)]; exact h2, fun k1 k2 => ?_⟩
  rw [hs c (Nat.le_refl _)] at k1
  obtain ⟨i, i1, i2⟩ := h3 k1 k2
  refine ⟨i, i1, ?_⟩
  unfold okStep at *
  rw [hs _ (Nat.le_add_right _ _)]
  exact i2

theorem waysDown_good {n F : Nat} (safe : Nat → Bool) (hn8 : n ≤ 8) (hF : F = 2 ^ n) : ∀ (C : Nat) (W : List Int), C ≤ F → W.length = F → (∀ c, c < C → W.getD c 0 = 0) → (∀ c, C ≤ c → c < F → goodW n W c) →
    ∀ c, c < F → goodW n (waysDown safe n C W) c
  | 0, W, _, _, _, h => fun c hc => by rw [waysDown]; exact h c (by omega) hc
  | C + 1, W, hC, hW, hz, h => by
    rw [waysDown]
    obtain ⟨m1, m2, m3⟩ := mu_facts n (by omega) C (by omega)
    have hz0 := hz C (by omega)
    have hCW : C < W.length := by omega
    have key : (∀ d, d ≠ C → (waysStep safe n C W).getD d 0 = W.getD d 0) ∧ goodW n (waysStep safe n C W) C := by
      unfold waysStep
      cases hs : safe C with
      | false =>
        rw [if_neg (by simp)]
        refine ⟨fun d _ => rfl, by omega, ?_, fun k1 => by omega⟩
        rw [hz0]; exact Int.natCast_nonneg _
      | true =>
        rw [if_pos rfl]
        by_cases hc : C + 1 = 2 ^ n
        · rw [if_pos hc]
          have gs := fun d => getD_set W C d 1 hCW
          have hm0 := m2.mpr hc
          refine ⟨fun d hd => by rw [gs, if_neg (fun h => hd h.symm)], ?_, ?_, fun _ k2 => absurd hm0 k2⟩
          · rw [gs, if_pos rfl]; omega
          · rw [gs, if_pos rfl, hm0]; simp
        · rw [if_neg hc]
          have hm0 : mu n C ≠ 0 := fun h => hc (m2.mp h)
          obtain ⟨m', hm'⟩ : ∃ m', mu n C = m' + 1 := ⟨mu n C - 1, by omega⟩
          have hp : 8 ^ m' ≤ 8 ^ 7 := Nat.pow_le_pow_right (by omega) (by omega)
          have hnb : (n : Int) * ((8 ^ m' : Nat) : Int) ≤ 8 * ((8 ^ m' : Nat) : Int) := Int.mul_le_mul_of_nonneg_right (by omega) (Int.natCast_nonneg _)
          have h87 : (8 : Nat) ^ 7 = 2097152 := by decide
          obtain ⟨r1, r2, r3, r4⟩ := waysIn_spec (c := C) (n := n) (b := 8 ^ m') n 0 W (by omega) hCW (fun j hj hjc => by
            have hlt := (set_facts n (by omega) C (by omega) j hj).1 hjc
            obtain ⟨g1, g2, _⟩ := h (C + 2 ^ j) (by have := Nat.two_pow_pos j; omega) (by omega)
            have := m3 j hj hjc
            rw [show mu n (C + 2 ^ j) = m' by omega] at g2
            exact ⟨g1, g2⟩) (by omega) (by omega)
          refine ⟨r1, by omega, ?_, fun k1 _ => ?_⟩
          · rw [hm', Nat.pow_succ]
            omega
          · obtain ⟨j, j1, j2⟩ := r4 (by omega)
            refine ⟨j, j1, ?_⟩
            unfold okStep at j2 ⊢
            rw [r1 _ (by have := Nat.two_pow_pos j; omega)]
            exact j2
    obtain ⟨k1, k2⟩ := key
    refine waysDown_good safe hn8 hF C _ (by omega) (by rw [waysStep_length]; exact hW) (fun c hc => by rw [k1 c (by omega)]; exact hz c (by omega)) ?_
    intro c hc1 hc2
    by_cases he : c = C
    · rw [he]; exact k2
    · exact goodW_of (W := W) (fun d hd => k1 d (by omega)) (h c (by omega) hc2)

theorem waysW_good {a b o : Int} {ls : List Ld} (hn8 : ls.length ≤ 8) : ∀ c, c < 2 ^ ls.length → goodW ls.length (waysW a b o ls) c :=
  waysDown_good _ hn8 rfl _ _ (Nat.le_refl _) (by simp) (fun c hc => by rw [List.getD_eq_getElem?_getD, List.getElem?_replicate, if_pos hc]; rfl) (fun c h1 h2 => absurd h1 (by omega))

theorem encI_append (a b : List Int) : encI (a ++ b) = encI a ++ encI b := by simp [encI]

/-- one number more -/
theorem append_in {G : List Blk} {j : Nat} {o : List Int} {cap : Option Nat} (hG : G[j]? = some (.cells (encI o) true)) (hcap : cap = some 0 → o = []) (hmb : (o.length + 1) * 8 ≤ maxBytes) (a : Int) :
    appendV (H ++ (G ++ [.cells [.int .i64 a] true])) e false 1 8 (slI (H.length + j) o.length cap) (.slice (some (H.length + G.length, 0)) 1 1 (some 1)) =
      some (slI (H.length + (G.length + 1)) (o.length + 1) none, ⟨H ++ (killIf cap j (G ++ [.cells [.int .i64 a] true]) ++ [.cells (encI o ++ [.int .i64 a]) true]), e⟩) := by
  have hj : j < G.length := (List.getElem?_eq_some_iff.mp hG).1
  rw [appendV_more (k := 1) (cs := encI o) (new := [.int .i64 a]) (by rw [List.getElem?_append_left hj]; exact hG)
    (srcCells_new _ 1 1 _ _ _ (by rw [cellsAt_newk, cellsAt_new0, cellsAt_cons0]) rfl) (by omega) (by simp) rfl hmb (fun h => by rw [hcap h]; rfl)]
  simp

end Go.Proofs.Ythkgpblohjpcdaa.Slim
