/- Planks: moves there and back; with the stride 1 one can go straight on (see a_s_l11Spread). -/
import Derived.Test.YthkgpblohjpcdaaSlimZ11
/- Planks: moves there and back; with the stride 1 one can go straight on (see a_s_l11Spread). -/
namespace Go.Proofs.Ythkgpblohjpcdaa.Slim

open Go

set_option linter.unusedSimpArgs false

set_option linter.unusedVariables false

def nxP (x a b s : Int) (ls : List Ld) (z : List Int) : List (List Int) := (mvs x a b s (putL ls z)).map fun m => z.set m.1.toNat m.2

structure Plk (x a b s : Int) (ls : List Ld) : Prop where
  n1 : 1 ≤ ls.length
  n3 : ls.length ≤ 3
  x1 : 1 ≤ x
  x12 : x ≤ 12
  a0 : 0 ≤ a
  ab : a < b
  bx : b ≤ x
  s1 : 1 ≤ s
  s4 : s ≤ 4
  w : ∀ l ∈ ls, 1 ≤ l.2 ∧ l.2 ≤ 99

structure Box0 (x : Int) (n : Nat) (z : List Int) : Prop where
  len : z.length = 3
  on : ∀ i, i < n → 0 ≤ z.getD i 0 ∧ z.getD i 0 ≤ x
  zero : ∀ i, n ≤ i → z.getD i 0 = 0

structure Good (x a b : Int) (ls : List Ld) (z : List Int) : Prop extends Box0 x ls.length z where
  rest : sideW (putL ls z) a b = 0

theorem plk_of {x a b s : Int} {ls : List Ld} (h : partyOk x a b ls s = true) : Plk x a b s ls := by
  unfold partyOk onOk beamOk rowOk at h
  simp only [Bool.and_eq_true, decide_eq_true_eq, List.all_eq_true] at h
  obtain ⟨⟨⟨h1, h2⟩, h3⟩, h4, ⟨h5, h6⟩, h7, h8, h9⟩ := h
  refine ⟨h5, h6, by omega, by omega, by omega, by omega, by omega, h8, h9, fun l hl => ?_⟩
  have := h2.2 l hl
  unfold okL at this
  simp only [Bool.and_eq_true, decide_eq_true_eq] at this
  omega

theorem putL_get : ∀ (ls : List Ld) (z : List Int) (i : Nat), i < ls.length → (putL ls z)[i]? = some (z.getD i 0, (ls[i]?.getD (0, 0)).2)
  | [], z, i, h => by simp at h
  | l :: ls, z, 0, h => by cases z <;> rfl
  | l :: ls, z, i + 1, h => by
    rw [putL, List.getElem?_cons_succ, putL_get ls z.tail i (by simpa using h), List.getElem?_cons_succ]
    cases z <;> simp

theorem plOf_put {ls : List Ld} {z : List Int} {i : Nat} (h : i < ls.length) : plOf (putL ls z) i = z.getD i 0 := by
  unfold plOf
  rw [putL_get ls z i h]
  rfl

theorem Box0.plB {x : Int} {ls : List Ld} {z : List Int} (h : Box0 x ls.length z) (hx : x ≤ 60) : plB (putL ls z) := by
  intro i hi
  rw [putL_length] at hi
  rw [plOf_put hi]
  have := h.on i hi
  omega

theorem zset_get (z : List Int) (i j : Nat) (p : Int) : (z.set i p).getD j 0 = if i = j ∧ j < z.length then p else z.getD j 0 := by
  simp only [List.getD_eq_getElem?_getD, List.getElem?_set]
  by_cases h : i = j
  · subst h
    by_cases h2 : i < z.length
    · simp [h2]
    · simp [h2]
  · simp [h]

theorem mem_nxP {x a b s : Int} {ls : List Ld} (K : Plk x a b s ls) {z : List Int} (B : Box0 x ls.length z) (t : List Int) :
    t ∈ nxP x a b s ls z ↔ ∃ (i : Nat) (p : Int), i < ls.length ∧ t = z.set i p ∧ 0 ≤ p ∧ p ≤ x ∧ (p = z.getD i 0 - s ∨ p = z.getD i 0 + s) ∧ sideW (putL ls (z.set i p)) a b = 0 := by
  have hn := K.n3
  have hx := K.x12
  have hs1 := K.s1
  have hs4 := K.s4
  have hm := fun m => mem_mvs (x := x) (a := a) (b := b) (B.plB (ls := ls) (by omega)) ⟨K.s1, K.s4⟩ (by omega) m
  have key : ∀ (i : Nat) (p : Int), i < ls.length → (safeMv x a b (putL ls z) s (i : Int) p = true ↔ (0 ≤ p ∧ p ≤ x) ∧ (p = z.getD i 0 - s ∨ p = z.getD i 0 + s) ∧ sideW (putL ls (z.set i p)) a b = 0) := by
    intro i p hi
    have hon := B.on i hi
    rw [putL_set ls z i p hi (by rw [B.len]; exact hn)]
    unfold safeMv
    rw [Int.toNat_natCast, plOf_put hi, putL_length]
    have w3 : wr (0 - s) = - s := by show IntKind.i64.wrap (0 - s) = - s; rw [wrap64 (by omega) (by omega)]; omega
    rw [w3]
    simp only [Bool.and_eq_true, Bool.or_eq_true, decide_eq_true_eq]
    constructor
    · rintro ⟨⟨_, h1, h2⟩, h3, h4⟩
      have w4 : wr (p - z.getD i 0) = p - z.getD i 0 := wrap64 (by omega) (by omega)
      rw [w4] at h3
      exact ⟨⟨h1, h2⟩, by omega, h4⟩
    · rintro ⟨⟨h1, h2⟩, h3, h4⟩
      have w4 : wr (p - z.getD i 0) = p - z.getD i 0 := wrap64 (by omega) (by omega)
      rw [w4]
      exact ⟨⟨⟨by omega, by omega⟩, h1, h2⟩, by omega, h4⟩
  unfold nxP
  rw [List.mem_map]
  constructor
  · rintro ⟨m, h1, rfl⟩
    have h2 : safeMv x a b (putL ls z) s m.1 m.2 = true := by rw [← hm m]; simpa using h1
    obtain ⟨r1, r2⟩ := safe_range h2
    obtain ⟨j, hj⟩ : ∃ j : Nat, m.1 = j := ⟨m.1.toNat, by omega⟩
    rw [hj, Int.toNat_natCast, putL_length] at r2
    rw [hj] at h2
    obtain ⟨⟨h3, h4⟩, h5, h6⟩ := (key j m.2 r2).mp h2
    exact ⟨j, m.2, r2, by rw [hj, Int.toNat_natCast], h3, h4, h5, h6⟩
  · rintro ⟨i, p, hi, rfl, h1, h2, h3, h4⟩
    refine ⟨((i : Int), p), ?_, by simp⟩
    have := hm ((i : Int), p)
    rw [(key i p hi).mpr ⟨⟨h1, h2⟩, h3, h4⟩] at this
    simpa using this

theorem Good.next {x a b s : Int} {ls : List Ld} (K : Plk x a b s ls) {z t : List Int} (G : Good x a b ls z) (h : t ∈ nxP x a b s ls z) : Good x a b ls t := by
  obtain ⟨i, p, hi, rfl, h1, h2, h3, h4⟩ := (mem_nxP K G.toBox0 t).mp h
  refine ⟨⟨by rw [List.length_set]; exact G.len, fun j hj => ?_, fun j hj => ?_⟩, h4⟩
  · rw [zset_get]
    split
    · exact ⟨h1, h2⟩
    · exact G.on j hj
  · rw [zset_get, if_neg (by omega)]
    exact G.zero j hj

theorem set_back (z : List Int) (i : Nat) (p : Int) (h : i < z.length) : (z.set i p).set i (z.getD i 0) = z := by
  rw [List.set_set]
  have : z.getD i 0 = z[i] := by simp [List.getD_eq_getElem?_getD, h]
  rw [this, List.set_getElem_self]

theorem Good.sym {x a b s : Int} {ls : List Ld} (K : Plk x a b s ls) {z t : List Int} (G : Good x a b ls z) (h : t ∈ nxP x a b s ls z) : z ∈ nxP x a b s ls t := by
  have Gt := G.next K h
  obtain ⟨i, p, hi, rfl, h1, h2, h3, h4⟩ := (mem_nxP K G.toBox0 t).mp h
  have hl : i < z.length := by rw [G.len]; have := K.n3; omega
  have hb := set_back z i p hl
  have hon := G.on i hi
  refine (mem_nxP K Gt.toBox0 z).mpr ⟨i, z.getD i 0, hi, hb.symm, hon.1, hon.2, ?_, by rw [hb]; exact G.rest⟩
  rw [zset_get, if_pos ⟨rfl, hl⟩]
  omega

/-! the moment of people at places -/

def momE (p : Int) : List Ld → List Int → Int
  | [], _ => 0
  | l :: ls, z => l.2 * (z.headD 0 - p) + momE p ls z.tail

theorem momE_eq (p : Int) : ∀ (ls : List Ld) (z : List Int), momZ (putL ls z) p = momE p ls z
  | [], z => rfl
  | l :: ls, z => by
    have := momE_eq p ls z.tail
    unfold momZ at this ⊢
    rw [putL, sumZ, momE, this]

def totW : List Ld → Int
  | [] => 0
  | l :: ls => l.2 + totW ls

theorem momE_diff (p q : Int) : ∀ (ls : List Ld) (z : List Int), momE p ls z - momE q ls z = totW ls * (q - p)
  | [], z => by simp [momE, totW]
  | l :: ls, z => by
    have := momE_diff p q ls z.tail
    rw [momE, momE, totW, Int.add_mul, ← this]
    have e : l.2 * (z.headD 0 - p) - l.2 * (z.headD 0 - q) = l.2 * (q - p) := by rw [← Int.mul_sub]; congr 1; omega
    omega

def wOf (ls : List Ld) (i : Nat) : Int := (ls[i]?.getD (0, 0)).2

theorem momE_set (p : Int) : ∀ (ls : List Ld) (z : List Int) (i : Nat) (q : Int), i < ls.length → i < z.length → momE p ls (z.set i q) = momE p ls z + wOf ls i * (q - z.getD i 0)
  | [], z, i, q, h, _ => by simp at h
  | l :: ls, [], i, q, _, h => by simp at h
  | l :: ls, y :: z, 0, q, h, _ => by
    show l.2 * (q - p) + momE p ls z = l.2 * (y - p) + momE p ls z + l.2 * (q - y)
    have e : l.2 * (q - p) = l.2 * (y - p) + l.2 * (q - y) := by rw [← Int.mul_add]; congr 1; omega
    omega
  | l :: ls, y :: z, i + 1, q, h, h2 => by
    have := momE_set p ls z i q (by simpa using h) (by simpa using h2)
    show l.2 * (y - p) + momE p ls (z.set i q) = l.2 * (y - p) + momE p ls z + wOf ls i * (q - z.getD i 0)
    omega

theorem wOf_pos {ls : List Ld} (hw : ∀ l ∈ ls, 1 ≤ l.2 ∧ l.2 ≤ 99) {i : Nat} (h : i < ls.length) : 1 ≤ wOf ls i := by
  unfold wOf
  rw [List.getElem?_eq_getElem h]
  exact (hw _ (List.getElem_mem h)).1

theorem totW_one : ∀ {ls : List Ld}, (∀ l ∈ ls, 1 ≤ l.2 ∧ l.2 ≤ 99) → ∀ {i : Nat}, i < ls.length → wOf ls i ≤ totW ls ∧ 0 ≤ totW ls
  | [], _, i, h => by simp at h
  | l :: ls, hw, 0, h => by
    have h1 := (hw l (by simp)).1
    have h2 : 0 ≤ totW ls := by
      have hw' : ∀ y ∈ ls, 1 ≤ y.2 ∧ y.2 ≤ 99 := fun y hy => hw y (by simp [hy])
      clear hw h
      induction ls with
      | nil => exact Int.le_refl _
      | cons y ls ih =>
        have := (hw' y (by simp)).1
        have := ih (fun u hu => hw' u (by simp [hu]))
        rw [totW]; omega
    rw [totW]
    show l.2 ≤ _ ∧ _
    omega
  | l :: ls, hw, i + 1, h => by
    have h1 := (hw l (by simp)).1
    obtain ⟨h2, h3⟩ := totW_one (ls := ls) (fun y hy => hw y (by simp [hy])) (i := i) (by simpa using h)
    have : wOf (l :: ls) (i + 1) = wOf ls i := rfl
    rw [totW, this]
    omega

theorem totW_two : ∀ {ls : List Ld}, (∀ l ∈ ls, 1 ≤ l.2 ∧ l.2 ≤ 99) → ∀ {i j : Nat}, i ≠ j → i < ls.length → j < ls.length → wOf ls i + wOf ls j ≤ totW ls
  | [], _, i, j, _, h, _ => by simp at h
  | l :: ls, hw, 0, 0, hne, _, _ => absurd rfl hne
  | l :: ls, hw, 0, j + 1, _, _, h => by
    have := (totW_one (ls := ls) (fun y hy => hw y (by simp [hy])) (i := j) (by simpa using h)).1
    have e : wOf (l :: ls) (j + 1) = wOf ls j := rfl
    have e0 : wOf (l :: ls) 0 = l.2 := rfl
    rw [totW, e, e0]
    omega
  | l :: ls, hw, i + 1, 0, _, h, _ => by
    have := (totW_one (ls := ls) (fun y hy => hw y (by simp [hy])) (i := i) (by simpa using h)).1
    have e : wOf (l :: ls) (i + 1) = wOf ls i := rfl
    have e0 : wOf (l :: ls) 0 = l.2 := rfl
    rw [totW, e, e0]
    omega
  | l :: ls, hw, i + 1, j + 1, hne, hi, hj => by
    have h1 := (hw l (by simp)).1
    have := totW_two (ls := ls) (fun y hy => hw y (by simp [hy])) (i := i) (j := j) (by omega) (by simpa using hi) (by simpa using hj)
    have e : wOf (l :: ls) (i + 1) = wOf ls i := rfl
    have e' : wOf (l :: ls) (j + 1) = wOf ls j := rfl
    rw [totW, e, e']
    omega

theorem mul_ge {w d : Int} (hw : 1 ≤ w) (hd : 1 ≤ d) : w ≤ w * d := by
  have := Int.mul_le_mul_of_nonneg_left hd (show 0 ≤ w by omega)
  omega

theorem mul_nn {w d : Int} (hw : 1 ≤ w) (hd : 0 ≤ d) : 0 ≤ w * d := Int.mul_nonneg (by omega) hd

theorem momE_le (p : Int) : ∀ (ls : List Ld) (z g : List Int), (∀ l ∈ ls, 1 ≤ l.2 ∧ l.2 ≤ 99) → (∀ i, i < ls.length → g.getD i 0 ≤ z.getD i 0) → momE p ls g ≤ momE p ls z
  | [], z, g, _, _ => Int.le_refl _
  | l :: ls, z, g, hw, h => by
    have h0 := h 0 (by simp)
    have ih := momE_le p ls z.tail g.tail (fun y hy => hw y (by simp [hy])) (fun i hi => by
      have := h (i + 1) (by simp; omega)
      cases z <;> cases g <;> first | (simp; done) | (simp at this; done) | simpa using this)
    have e1 : z.getD 0 0 = z.headD 0 := by cases z <;> rfl
    have e2 : g.getD 0 0 = g.headD 0 := by cases g <;> rfl
    rw [e1, e2] at h0
    rw [momE, momE]
    have := mul_nn (hw l (by simp)).1 (d := z.headD 0 - g.headD 0) (by omega)
    have e : l.2 * (z.headD 0 - p) = l.2 * (g.headD 0 - p) + l.2 * (z.headD 0 - g.headD 0) := by rw [← Int.mul_add]; congr 1; omega
    omega

theorem momE_lt (p : Int) : ∀ (ls : List Ld) (z g : List Int), (∀ l ∈ ls, 1 ≤ l.2 ∧ l.2 ≤ 99) → (∀ i, i < ls.length → g.getD i 0 ≤ z.getD i 0) → ∀ i, i < ls.length → g.getD i 0 < z.getD i 0 → momE p ls g + wOf ls i ≤ momE p ls z
  | [], z, g, _, _, i, hi, _ => by simp at hi
  | l :: ls, z, g, hw, h, i, hi, hlt => by
    have hw' : ∀ y ∈ ls, 1 ≤ y.2 ∧ y.2 ≤ 99 := fun y hy => hw y (by simp [hy])
    have h' : ∀ i, i < ls.length → g.tail.getD i 0 ≤ z.tail.getD i 0 := fun i hi => by
      have := h (i + 1) (by simp; omega)
      cases z <;> cases g <;> first | (simp; done) | (simp at this; done) | simpa using this
    have h0 := h 0 (by simp)
    have e1 : z.getD 0 0 = z.headD 0 := by cases z <;> rfl
    have e2 : g.getD 0 0 = g.headD 0 := by cases g <;> rfl
    rw [e1, e2] at h0
    have e : l.2 * (z.headD 0 - p) = l.2 * (g.headD 0 - p) + l.2 * (z.headD 0 - g.headD 0) := by rw [← Int.mul_add]; congr 1; omega
    rw [momE, momE]
    cases i with
    | zero =>
      rw [e1, e2] at hlt
      have := mul_ge (hw l (by simp)).1 (d := z.headD 0 - g.headD 0) (by omega)
      have := momE_le p ls z.tail g.tail hw' h'
      have e0 : wOf (l :: ls) 0 = l.2 := rfl
      omega
    | succ i =>
      have := mul_nn (hw l (by simp)).1 (d := z.headD 0 - g.headD 0) (by omega)
      have := momE_lt p ls z.tail g.tail hw' h' i (by simpa using hi) (by cases z <;> cases g <;> first | (simp at hlt; done) | simpa using hlt)
      have e0 : wOf (l :: ls) (i + 1) = wOf ls i := rfl
      omega

theorem rest_iff {x a b s : Int} {ls : List Ld} (K : Plk x a b s ls) {z : List Int} (B : Box0 x ls.length z) : sideW (putL ls z) a b = 0 ↔ 0 ≤ momE a ls z ∧ momE b ls z ≤ 0 := by
  have hx := K.x12
  have ha := K.a0
  have hab := K.ab
  have hb := K.bx
  have hn := K.n3
  have hrow : rowOk (putL ls z) = true := by
    unfold rowOk
    rw [Bool.and_eq_true, decide_eq_true_eq, List.all_eq_true, putL_length]
    refine ⟨by omega, fun l hl => ?_⟩
    obtain ⟨i, hi⟩ := List.getElem?_of_mem hl
    have hlt : i < ls.length := by
      have := (List.getElem?_eq_some_iff.mp hi).1
      rwa [putL_length] at this
    rw [putL_get ls z i hlt] at hi
    cases hi
    have h1 := B.on i hlt
    have h2 := K.w _ (List.getElem_mem hlt)
    unfold okL
    rw [List.getElem?_eq_getElem hlt]
    simp only [Option.getD_some, Bool.and_eq_true, decide_eq_true_eq]
    omega
  have e1 := (mom_at hrow (p := a) ⟨by omega, by omega⟩).1
  have e2 := (mom_at hrow (p := b) ⟨by omega, by omega⟩).1
  unfold sideW
  rw [e1, e2, momE_eq, momE_eq]
  constructor
  · intro h
    split at h
    · cases h
    · split at h
      · cases h
      · omega
  · rintro ⟨h1, h2⟩
    rw [if_neg (by omega), if_neg (by omega)]

def farE : Nat → List Int → List Int → Nat
  | 0, _, _ => 0
  | n + 1, z, g => farE n z g + (z.getD n 0 - g.getD n 0).natAbs

theorem farE_set {z g : List Int} {i : Nat} (p : Int) (hz : i < z.length) : ∀ n, farE n (z.set i p) g + (if i < n then (z.getD i 0 - g.getD i 0).natAbs else 0) = farE n z g + (if i < n then (p - g.getD i 0).natAbs else 0)
  | 0 => by simp [farE]
  | n + 1 => by
    have ih := farE_set (g := g) p hz n
    rw [farE, farE, zset_get]
    by_cases h : i = n
    · subst h
      rw [if_pos ⟨rfl, hz⟩, if_pos (by omega), if_pos (by omega)]
      rw [if_neg (by omega), if_neg (by omega)] at ih
      omega
    · rw [if_neg (by omega)]
      by_cases h2 : i < n
      · rw [if_pos (by omega), if_pos (by omega)]
        rw [if_pos h2, if_pos h2] at ih
        omega
      · rw [if_neg (by omega), if_neg (by omega)]
        rw [if_neg h2, if_neg h2] at ih
        omega

theorem farE_zero {z g : List Int} : ∀ n, farE n z g = 0 → ∀ i, i < n → z.getD i 0 = g.getD i 0
  | 0, _, i, hi => by omega
  | n + 1, h, i, hi => by
    rw [farE] at h
    by_cases h2 : i = n
    · subst h2; omega
    · exact farE_zero n (by omega) i (by omega)

theorem farE_self (z : List Int) : ∀ n, farE n z z = 0
  | 0 => rfl
  | n + 1 => by rw [farE, farE_self z n]; omega

theorem box_ext {x : Int} {n : Nat} {z g : List Int} (h1 : Box0 x n z) (h2 : Box0 x n g) (h : ∀ i, i < n → z.getD i 0 = g.getD i 0) : z = g := by
  refine List.ext_getElem? fun i => ?_
  by_cases hi : i < 3
  · have hz : i < z.length := by rw [h1.len]; exact hi
    have hg : i < g.length := by rw [h2.len]; exact hi
    have e : z.getD i 0 = g.getD i 0 := by
      by_cases hn : i < n
      · exact h i hn
      · rw [h1.zero i (by omega), h2.zero i (by omega)]
    rw [List.getElem?_eq_getElem hz, List.getElem?_eq_getElem hg]
    simp only [List.getD_eq_getElem?_getD, List.getElem?_eq_getElem hz, List.getElem?_eq_getElem hg, Option.getD_some] at e
    rw [e]
  · rw [List.getElem?_eq_none (by rw [h1.len]; omega), List.getElem?_eq_none (by rw [h2.len]; omega)]

theorem toward {x a b : Int} {ls : List Ld} (K : Plk x a b 1 ls) {z g : List Int} (Z : Good x a b ls z) (G : Good x a b ls g) (hne : z ≠ g) : ∃ t ∈ nxP x a b 1 ls z, farE ls.length t g + 1 = farE ls.length z g := by
  have hn := K.n3
  obtain ⟨z1, z2⟩ := (rest_iff K Z.toBox0).mp Z.rest
  obtain ⟨g1, g2⟩ := (rest_iff K G.toBox0).mp G.rest
  -- a move of i to p, if it rests
  have mv : ∀ (i : Nat) (p : Int), i < ls.length → 0 ≤ p → p ≤ x → (p = z.getD i 0 - 1 ∨ p = z.getD i 0 + 1) → (p - g.getD i 0).natAbs + 1 = (z.getD i 0 - g.getD i 0).natAbs → 0 ≤ momE a ls z + wOf ls i * (p - z.getD i 0) → momE b ls z + wOf ls i * (p - z.getD i 0) ≤ 0 → ∃ t ∈ nxP x a b 1 ls z, farE ls.length t g + 1 = farE ls.length z g := by
    intro i p hi h0 hx hp hd ha hb
    have hl : i < z.length := by rw [Z.len]; omega
    have Bt : Box0 x ls.length (z.set i p) := by
      refine ⟨by rw [List.length_set]; exact Z.len, fun j hj => ?_, fun j hj => ?_⟩
      · rw [zset_get]
        split
        · exact ⟨h0, hx⟩
        · exact Z.on j hj
      · rw [zset_get, if_neg (by omega)]
        exact Z.zero j hj
    refine ⟨z.set i p, (mem_nxP K Z.toBox0 _).mpr ⟨i, p, hi, rfl, h0, hx, hp, (rest_iff K Bt).mpr ?_⟩, ?_⟩
    · rw [momE_set a ls z i p hi hl, momE_set b ls z i p hi hl]
      exact ⟨ha, hb⟩
    · have := farE_set (g := g) p hl ls.length
      rw [if_pos hi, if_pos hi] at this
      omega
  by_cases hL : ∃ i, i < ls.length ∧ g.getD i 0 < z.getD i 0 ∧ wOf ls i ≤ momE a ls z
  · obtain ⟨i, hi, h1, h2⟩ := hL
    have hw := wOf_pos K.w hi
    have hon := Z.on i hi
    have hon' := G.on i hi
    have e : wOf ls i * (z.getD i 0 - 1 - z.getD i 0) = - wOf ls i := by
      rw [show z.getD i 0 - 1 - z.getD i 0 = -1 by omega]; omega
    exact mv i (z.getD i 0 - 1) hi (by omega) (by omega) (.inl rfl) (by omega) (by rw [e]; omega) (by rw [e]; omega)
  · by_cases hR : ∃ i, i < ls.length ∧ z.getD i 0 < g.getD i 0 ∧ wOf ls i ≤ - momE b ls z
    · obtain ⟨i, hi, h1, h2⟩ := hR
      have hw := wOf_pos K.w hi
      have hon := Z.on i hi
      have hon' := G.on i hi
      have e : wOf ls i * (z.getD i 0 + 1 - z.getD i 0) = wOf ls i := by
        rw [show z.getD i 0 + 1 - z.getD i 0 = 1 by omega]; omega
      exact mv i (z.getD i 0 + 1) hi (by omega) (by omega) (.inr rfl) (by omega) (by rw [e]; omega) (by rw [e]; omega)
    · exfalso
      by_cases hl : ∃ i, i < ls.length ∧ g.getD i 0 < z.getD i 0
      · obtain ⟨i, hi, h1⟩ := hl
        have hA : momE a ls z < wOf ls i := by
          refine Classical.byContradiction fun hc => hL ⟨i, hi, h1, by omega⟩
        by_cases hr : ∃ j, j < ls.length ∧ z.getD j 0 < g.getD j 0
        · obtain ⟨j, hj, h2⟩ := hr
          have hB : - momE b ls z < wOf ls j := by
            refine Classical.byContradiction fun hc => hR ⟨j, hj, h2, by omega⟩
          have hij : i ≠ j := by
            intro e
            subst e
            omega
          have h3 := totW_two K.w hij hi hj
          have h4 := momE_diff a b ls z
          have h5 := (totW_one K.w hi).2
          have hab := K.ab
          have h6 : totW ls ≤ totW ls * (b - a) := by
            have := Int.mul_le_mul_of_nonneg_left (show (1 : Int) ≤ b - a by omega) h5
            omega
          omega
        · have := momE_lt a ls z g K.w (fun j hj => by
            refine Classical.byContradiction fun hc => hr ⟨j, hj, by omega⟩) i hi h1
          omega
      · by_cases hr : ∃ j, j < ls.length ∧ z.getD j 0 < g.getD j 0
        · obtain ⟨j, hj, h2⟩ := hr
          have hB : - momE b ls z < wOf ls j := by
            refine Classical.byContradiction fun hc => hR ⟨j, hj, h2, by omega⟩
          have := momE_lt b ls g z K.w (fun i hi => by
            refine Classical.byContradiction fun hc => hl ⟨i, hi, by omega⟩) j hj h2
          omega
        · exact hne (box_ext Z.toBox0 G.toBox0 fun i hi => by
            refine Classical.byContradiction fun hc => ?_
            rcases Int.lt_or_gt_of_ne hc with h | h
            · exact hr ⟨i, hi, h⟩
            · exact hl ⟨i, hi, h⟩)

theorem straight {x a b : Int} {ls : List Ld} (K : Plk x a b 1 ls) {g : List Int} (G : Good x a b ls g) : ∀ (k : Nat) (z : List Int), Good x a b ls z → farE ls.length z g = k → Way (nxP x a b 1 ls) k z g
  | 0, z, Z, h => by
    have : z = g := box_ext Z.toBox0 G.toBox0 (farE_zero _ h)
    subst this
    exact .nil z
  | k + 1, z, Z, h => by
    have hne : z ≠ g := by
      intro e
      subst e
      rw [farE_self] at h
      omega
    obtain ⟨t, ht, hd⟩ := toward K Z G hne
    exact (straight K G k t (Z.next K ht) (by omega)).ahead ht

theorem straight_least {x a b : Int} {ls : List Ld} (K : Plk x a b 1 ls) {z g : List Int} (Z : Good x a b ls z) {k : Nat} (h : Way (nxP x a b 1 ls) k z g) : farE ls.length z g ≤ k := by
  have key : ∀ {k : Nat} {z g : List Int}, Way (nxP x a b 1 ls) k z g → Good x a b ls z → ∀ u, farE ls.length u z ≤ farE ls.length u g + k ∧ farE ls.length u g ≤ farE ls.length u z + k := by
    intro k z g h
    induction h with
    | nil => intro _ u; omega
    | @cons k s w t hw ht ih =>
      intro Z u
      have ih := ih Z u
      have W : Good x a b ls w := hw.good (P := Good x a b ls) (fun z hz t ht => hz.next K ht) Z
      obtain ⟨i, p, hi, rfl, h1, h2, h3, h4⟩ := (mem_nxP K W.toBox0 t).mp ht
      have hl : i < w.length := by rw [W.len]; have := K.n3; omega
      have hsw : ∀ (m : Nat) (y : List Int), farE m u y = farE m y u := by
        intro m y
        induction m with
        | zero => rfl
        | succ m ih => rw [farE, farE, ih]; omega
      have h5 := farE_set (g := u) p hl ls.length
      rw [if_pos hi, if_pos hi] at h5
      rw [hsw _ w] at ih
      rw [hsw _ (w.set i p)]
      omega
  have := (key h Z z).2
  rw [farE_self] at this
  omega

end Go.Proofs.Ythkgpblohjpcdaa.Slim

/- Planks: the numbers of lists of places, and how many are found (see a_s_l11Key). -/
namespace Go.Proofs.Ythkgpblohjpcdaa.Slim

open Go

set_option linter.unusedSimpArgs false

set_option linter.unusedVariables false

def keyN (d : Nat) : Nat → List Int → Nat
  | 0, _ => 0
  | n + 1, z => keyN d n z * (d + 1) + (z.getD n 0).toNat

def spotsN (d n k : Nat) : List Int := ints (digs (d + 1) n k).reverse ++ List.replicate (3 - n) 0

theorem ints_length (l : List Nat) : (ints l).length = l.length := by simp [ints]

theorem keyN_congr (d : Nat) : ∀ (n : Nat) (z z' : List Int), (∀ i, i < n → z.getD i 0 = z'.getD i 0) → keyN d n z = keyN d n z'
  | 0, _, _, _ => rfl
  | n + 1, z, z', h => by
    rw [keyN, keyN, keyN_congr d n z z' (fun i hi => h i (by omega)), h n (by omega)]

theorem getD_app_left {l r : List Int} {i : Nat} (h : i < l.length) : (l ++ r).getD i 0 = l.getD i 0 := by
  simp only [List.getD_eq_getElem?_getD, List.getElem?_append_left h]

theorem key_spots (d : Nat) : ∀ (n k : Nat) (tail : List Int), k < (d + 1) ^ n → keyN d n (ints (digs (d + 1) n k).reverse ++ tail) = k
  | 0, k, tail, h => by
    simp at h
    subst h
    rfl
  | n + 1, k, tail, h => by
    have hk : k / (d + 1) < (d + 1) ^ n := by
      rw [Nat.div_lt_iff_lt_mul (by omega)]
      rw [Nat.pow_succ] at h
      exact h
    have e : ints (digs (d + 1) (n + 1) k).reverse ++ tail = ints (digs (d + 1) n (k / (d + 1))).reverse ++ (((k % (d + 1) : Nat) : Int) :: tail) := by
      rw [digs, List.reverse_cons, ints, List.map_append]
      simp [ints]
    have hl : (ints (digs (d + 1) n (k / (d + 1))).reverse).length = n := by rw [ints_length, List.length_reverse, digs_length]
    rw [e, keyN, key_spots d n (k / (d + 1)) _ hk]
    have hg : (ints (digs (d + 1) n (k / (d + 1))).reverse ++ (((k % (d + 1) : Nat) : Int) :: tail)).getD n 0 = ((k % (d + 1) : Nat) : Int) := by
      simp only [List.getD_eq_getElem?_getD]
      rw [List.getElem?_append_right (by omega), hl, Nat.sub_self]
      rfl
    rw [hg, Int.toNat_natCast, Nat.mul_comm]
    exact Nat.div_add_mod k (d + 1)

theorem keyN_lt (d : Nat) : ∀ (n : Nat) (z : List Int), (∀ i, i < n → 0 ≤ z.getD i 0 ∧ z.getD i 0 ≤ (d : Int)) → keyN d n z < (d + 1) ^ n
  | 0, z, _ => by simp [keyN]
  | n + 1, z, h => by
    have h1 := keyN_lt d n z (fun i hi => h i (by omega))
    have h2 := h n (by omega)
    rw [keyN, Nat.pow_succ]
    have h3 : (keyN d n z + 1) * (d + 1) ≤ (d + 1) ^ n * (d + 1) := Nat.mul_le_mul_right _ h1
    rw [Nat.add_mul] at h3
    omega

theorem spots_key (d : Nat) : ∀ (n : Nat) (z : List Int), n ≤ z.length → (∀ i, i < n → 0 ≤ z.getD i 0 ∧ z.getD i 0 ≤ (d : Int)) → ints (digs (d + 1) n (keyN d n z)).reverse = z.take n
  | 0, z, _, _ => rfl
  | n + 1, z, hl, h => by
    have h2 := h n (by omega)
    have ih := spots_key d n z (by omega) (fun i hi => h i (by omega))
    have e1 : (keyN d n z * (d + 1) + (z.getD n 0).toNat) % (d + 1) = (z.getD n 0).toNat := by
      rw [Nat.mul_comm, Nat.mul_add_mod, Nat.mod_eq_of_lt (by omega)]
    have e2 : (keyN d n z * (d + 1) + (z.getD n 0).toNat) / (d + 1) = keyN d n z := by
      rw [Nat.mul_comm, Nat.mul_add_div (by omega), Nat.div_eq_of_lt (by omega), Nat.add_zero]
    rw [keyN, digs, e1, e2, List.reverse_cons, ints, List.map_append]
    rw [ints] at ih
    rw [ih]
    have e3 : z.take (n + 1) = z.take n ++ [z.getD n 0] := by
      have hlt : n < z.length := by omega
      rw [List.take_add_one, List.getElem?_eq_getElem hlt]
      simp [List.getD_eq_getElem?_getD, hlt]
    rw [e3]
    congr 1
    simp only [List.map_cons, List.map_nil]
    congr 1
    omega

theorem keyN_spotsN {d n k : Nat} (h : k < (d + 1) ^ n) : keyN d n (spotsN d n k) = k := key_spots d n k _ h

theorem spotsN_keyN {d n : Nat} (hn : n ≤ 3) {z : List Int} (B : Box0 (d : Int) n z) : spotsN d n (keyN d n z) = z := by
  unfold spotsN
  rw [spots_key d n z (by rw [B.len]; omega) (fun i hi => B.on i hi)]
  have h3 : z.drop n = List.replicate (3 - n) 0 := by
    refine List.ext_getElem? fun i => ?_
    rw [List.getElem?_drop, List.getElem?_replicate]
    by_cases h : n + i < 3
    · have hl : n + i < z.length := by rw [B.len]; exact h
      have := B.zero (n + i) (by omega)
      simp only [List.getD_eq_getElem?_getD, List.getElem?_eq_getElem hl, Option.getD_some] at this
      rw [if_pos (by omega), List.getElem?_eq_getElem hl, this]
    · rw [if_neg (by omega), List.getElem?_eq_none (by rw [B.len]; omega)]
  rw [← h3, List.take_append_drop]

theorem boxN {d n : Nat} (hn : n ≤ 3) : Box (fun z => Box0 (d : Int) n z) ((d + 1) ^ n) (keyN d n) where
  lt := fun z B => keyN_lt d n z (fun i hi => B.on i hi)
  inj := fun z z' B B' h => by rw [← spotsN_keyN hn B, h, spotsN_keyN hn B']

theorem Box.sub {P Q : List Int → Prop} {N : Nat} {key : List Int → Nat} (b : Box P N key) (h : ∀ z, Q z → P z) : Box Q N key :=
  ⟨fun z hz => b.lt z (h z hz), fun z z' hz hz' => b.inj z z' (h z hz) (h z' hz')⟩

end Go.Proofs.Ythkgpblohjpcdaa.Slim

/- Nothing is taken by contract here. -/
namespace Go.Proofs.Ythkgpblohjpcdaa.Slim
end Go.Proofs.Ythkgpblohjpcdaa.Slim

/- Tasks of a stand: what they make. -/
namespace Go.Proofs.Ythkgpblohjpcdaa.Slim

open Go

set_option linter.unusedSimpArgs false

set_option linter.unusedVariables false

variable {pr : Prims} {H : List Blk} {e : Option Nat}

section

variable {C : FuncId → List AV → Mem → Option (AV × Mem)} {g : X → AV} {m : Mem}

end

end Go.Proofs.Ythkgpblohjpcdaa.Slim

/- Tasks of a stand: DoTask. -/
namespace Go.Proofs.Ythkgpblohjpcdaa.Slim

open Go

set_option linter.unusedSimpArgs false

set_option linter.unusedVariables false

variable {pr : Prims} {H : List Blk} {e : Option Nat}

end Go.Proofs.Ythkgpblohjpcdaa.Slim

/- The slim machine: walking by what holds at the end; loops by invariants. -/
namespace Go.Proofs.Ythkgpblohjpcdaa.Slim
open Go
set_option linter.unusedVariables false
set_option linter.unusedSimpArgs false

section
variable {T : Table} {pr : Prims} {H : List Blk} {e : Option Nat}

def Wp (r : Option (Ex × St)) (Q : Ex → St → Prop) : Prop := ∃ ex st, r = some (ex, st) ∧ Q ex st
def Wc (r : Option (AV × Mem)) (Q : AV → Mem → Prop) : Prop := ∃ v m, r = some (v, m) ∧ Q v m

theorem Wp.mono {r : Option (Ex × St)} {P Q : Ex → St → Prop} (h : Wp r P) (k : ∀ ex st, P ex st → Q ex st) : Wp r Q := by
  obtain ⟨ex, st, h1, h2⟩ := h
  exact ⟨ex, st, h1, k _ _ h2⟩
theorem Wc.mono {r : Option (AV × Mem)} {P Q : AV → Mem → Prop} (h : Wc r P) (k : ∀ v m, P v m → Q v m) : Wc r Q := by
  obtain ⟨v, m, h1, h2⟩ := h
  exact ⟨v, m, h1, k _ _ h2⟩
theorem Wc.eq {r : Option (AV × Mem)} {v : AV} {m : Mem} (h : Wc r fun v' m' => v' = v ∧ m' = m) : r = some (v, m) := by
  obtain ⟨_, _, h1, rfl, rfl⟩ := h
  exact h1
theorem Wc.of_eq {r : Option (AV × Mem)} {v : AV} {m : Mem} {Q : AV → Mem → Prop} (h : r = some (v, m)) (k : Q v m) : Wc r Q := ⟨v, m, h, k⟩

@[congr] theorem Wp_congr {r r' : Option (Ex × St)} {Q : Ex → St → Prop} (h : r = r') : Wp r Q = Wp r' Q := by rw [h]
@[congr] theorem Wc_congr {r r' : Option (AV × Mem)} {Q : AV → Mem → Prop} (h : r = r') : Wc r Q = Wc r' Q := by rw [h]

theorem Wp_some (ex : Ex) (st : St) (Q : Ex → St → Prop) : Wp (some (ex, st)) Q = Q ex st := by
  apply propext
  constructor
  · rintro ⟨_, _, h1, h2⟩; cases h1; exact h2
  · exact fun h => ⟨_, _, rfl, h⟩
theorem Wp_none (Q : Ex → St → Prop) : Wp none Q = False := by
  apply propext
  constructor
  · rintro ⟨_, _, h1, _⟩; cases h1
  · exact False.elim
theorem Wp_ite (c : Prop) [Decidable c] (a b : Option (Ex × St)) (Q : Ex → St → Prop) : Wp (if c then a else b) Q = ((c → Wp a Q) ∧ (¬ c → Wp b Q)) := by
  by_cases h : c <;> simp [h]
theorem Wc_some (v : AV) (m : Mem) (Q : AV → Mem → Prop) : Wc (some (v, m)) Q = Q v m := by
  apply propext
  constructor
  · rintro ⟨_, _, h1, h2⟩; cases h1; exact h2
  · exact fun h => ⟨_, _, rfl, h⟩
theorem Wc_none (Q : AV → Mem → Prop) : Wc none Q = False := by
  apply propext
  constructor
  · rintro ⟨_, _, h1, _⟩; cases h1
  · exact False.elim
theorem Wc_ite (c : Prop) [Decidable c] (a b : Option (AV × Mem)) (Q : AV → Mem → Prop) : Wc (if c then a else b) Q = ((c → Wc a Q) ∧ (¬ c → Wc b Q)) := by
  by_cases h : c <;> simp [h]

def seqQ (f : St → Option (Ex × St)) (Q : Ex → St → Prop) : Ex → St → Prop
  | .normal, st => Wp (f st) Q
  | ex, st => Q ex st
theorem seqQ_normal (f : St → Option (Ex × St)) (Q : Ex → St → Prop) (st : St) : seqQ f Q .normal st = Wp (f st) Q := Eq.trans rfl rfl
theorem seqQ_exit (f : St → Option (Ex × St)) (Q : Ex → St → Prop) (k : Nat) (st : St) : seqQ f Q (.exit k) st = Q (.exit k) st := Eq.trans rfl rfl
theorem seqQ_ret (f : St → Option (Ex × St)) (Q : Ex → St → Prop) (st : St) : seqQ f Q .ret st = Q .ret st := Eq.trans rfl rfl
theorem Wp_thenRun (r : Option (Ex × St)) (f : St → Option (Ex × St)) (Q : Ex → St → Prop) : Wp (thenRun r f) Q = Wp r (seqQ f Q) := by
  cases r with
  | none => simp only [thenRun_none, Wp_none]
  | some p =>
    obtain ⟨ex, st⟩ := p
    cases ex <;> simp only [thenRun_normal, thenRun_ret, thenRun_exit, Wp_some, seqQ]

def blkQ (id : Nat) (Q : Ex → St → Prop) : Ex → St → Prop
  | .exit k, st => if k = id then Q .normal st else Q (.exit k) st
  | ex, st => Q ex st
theorem blkQ_normal (id : Nat) (Q : Ex → St → Prop) (st : St) : blkQ id Q .normal st = Q .normal st := Eq.trans rfl rfl
theorem blkQ_ret (id : Nat) (Q : Ex → St → Prop) (st : St) : blkQ id Q .ret st = Q .ret st := Eq.trans rfl rfl
theorem blkQ_same (id : Nat) (Q : Ex → St → Prop) (st : St) : blkQ id Q (.exit id) st = Q .normal st := by simp [blkQ]
theorem blkQ_exit (id k : Nat) (Q : Ex → St → Prop) (st : St) : blkQ id Q (.exit k) st = if k = id then Q .normal st else Q (.exit k) st := Eq.trans rfl rfl
theorem Wp_inBlock (id : Nat) (r : Option (Ex × St)) (Q : Ex → St → Prop) : Wp (inBlock id r) Q = Wp r (blkQ id Q) := by
  cases r with
  | none => simp only [inBlock_none, Wp_none]
  | some p =>
    obtain ⟨ex, st⟩ := p
    cases ex with
    | normal => simp only [inBlock_normal, Wp_some, blkQ]
    | ret => simp only [inBlock_ret, Wp_some, blkQ]
    | exit k => by_cases h : k = id <;> simp only [inBlock_exit, h, if_true, if_false, Wp_some, blkQ]

def opQ (tm : List AV) (outs : List (Nat × Nat)) (f : AV → Mem → Option (List AV × Mem)) (Q : Ex → St → Prop) : AV → Mem → Prop := fun v m => Wp (outRun tm outs (f v m)) Q
theorem opQ_at (tm : List AV) (outs : List (Nat × Nat)) (f : AV → Mem → Option (List AV × Mem)) (Q : Ex → St → Prop) (v : AV) (m : Mem) : opQ tm outs f Q v m = Wp (outRun tm outs (f v m)) Q := Eq.trans rfl rfl
theorem Wp_opThen (tm : List AV) (outs : List (Nat × Nat)) (r : Option (AV × Mem)) (f : AV → Mem → Option (List AV × Mem)) (Q : Ex → St → Prop) :
    Wp (outRun tm outs (opThen r f)) Q = Wc r (opQ tm outs f Q) := by
  cases r with
  | none => simp only [opThen_none, outRun_none, Wp_none, Wc_none]
  | some p =>
    obtain ⟨v, m⟩ := p
    simp only [opThen_some, Wc_some, opQ]

theorem Wp_guardP (tm : List AV) (outs : List (Nat × Nat)) (p : Prop) [Decidable p] (r : Option (AV × Mem)) (m : Mem) (f : AV → Mem → Option (List AV × Mem)) (Q : Ex → St → Prop) :
    Wp (outRun tm outs (guardP p r m f)) Q = ((p → Wc r (opQ tm outs f Q)) ∧ (¬ p → Wp (outRun tm outs (f (.tup []) m)) Q)) := by
  by_cases h : p
  · simp only [h, guardP_true, Wp_opThen, true_imp_iff, not_true_eq_false, false_imp_iff, and_true]
  · simp only [h, guardP_false, not_false_eq_true, true_imp_iff, false_imp_iff, true_and]

def retQ (F : AFun) (m : Mem) (Q : AV → Mem → Prop) : Ex → St → Prop
  | .exit _, _ => False
  | _, st => Wc (finRun F m st) Q
theorem retQ_normal (F : AFun) (m : Mem) (Q : AV → Mem → Prop) (st : St) : retQ F m Q .normal st = Wc (finRun F m st) Q := Eq.trans rfl rfl
theorem retQ_ret (F : AFun) (m : Mem) (Q : AV → Mem → Prop) (st : St) : retQ F m Q .ret st = Wc (finRun F m st) Q := Eq.trans rfl rfl
theorem Wc_endCall (F : AFun) (m : Mem) (r : Option (Ex × St)) (Q : AV → Mem → Prop) : Wc (endCall F m r) Q = Wp r (retQ F m Q) := by
  cases r with
  | none => simp only [endCall_none, Wc_none, Wp_none]
  | some p =>
    obtain ⟨ex, st⟩ := p
    cases ex <;> simp only [endCall_normal, endCall_ret, endCall_exit, Wc_none, Wp_some, retQ]

theorem call_wc {f : FuncId} {F : AFun} (h : T f = some F) (args : List AV) (m : Mem) (Q : AV → Mem → Prop) : Wc (call T pr f args m) Q = Wp (run T pr F.code ⟨entry F args, { m with esc := none }⟩) (retQ F m Q) := by
  rw [call_eq h, Wc_endCall]

/-! loops -/
abbrev Holds (I : St → Prop) (st : St) : Prop := I st
@[congr] theorem Holds_congr {I : St → Prop} {st st' : St} (h : st = st') : Holds I st = Holds I st' := by rw [h]
def loopQ (I : St → Prop) (Q : Ex → St → Prop) : Ex → St → Prop
  | .normal, st => Holds I st
  | ex, st => Q ex st
theorem loopQ_normal (I : St → Prop) (Q : Ex → St → Prop) (st : St) : loopQ I Q .normal st = Holds I st := Eq.trans rfl rfl
theorem loopQ_exit (I : St → Prop) (Q : Ex → St → Prop) (k : Nat) (st : St) : loopQ I Q (.exit k) st = Q (.exit k) st := Eq.trans rfl rfl
theorem loopQ_ret (I : St → Prop) (Q : Ex → St → Prop) (st : St) : loopQ I Q .ret st = Q .ret st := Eq.trans rfl rfl

theorem Wp_loop {b : ACode} {Q : Ex → St → Prop} (I : Nat → St → Prop) (hs : ∀ k st, I k st → Wp (run T pr b st) (loopQ (fun st' => ∃ j, j < k ∧ I j st') Q)) :
    ∀ (n : Nat) (st : St), I n st → Wp (run T pr (.loop b) st) Q := by
  intro n
  induction n using Nat.strongRecOn with
  | _ n ih =>
    intro st h
    rw [run_loop, Wp_thenRun]
    refine (hs n st h).mono fun ex st' h' => ?_
    cases ex with
    | normal =>
      obtain ⟨j, hj, hI⟩ := h'
      exact ih j hj st' hI
    | exit k => exact h'
    | ret => exact h'

/-! the end of a call that keeps what its result names -/
theorem roots_slice_new (sz n o k : Nat) (c : Option Nat) : AV.roots H.length (.slice (some (H.length + k, o)) sz n c) = [H.length + k] := by simp [AV.roots]
theorem roots_slice_new0 (sz n o : Nat) (c : Option Nat) : AV.roots H.length (.slice (some (H.length, o)) sz n c) = [H.length] := by simp [AV.roots]
theorem roots_slice_none (lim sz n : Nat) (c : Option Nat) : AV.roots lim (.slice none sz n c) = [] := by simp [AV.roots]
theorem roots_slice_old {lim b : Nat} (sz n o : Nat) (c : Option Nat) (h : b < lim) : AV.roots lim (.slice (some (b, o)) sz n c) = [] := by simp [AV.roots, h]
theorem roots_ptr_new (o k : Nat) : AV.roots H.length (.ptr (some (H.length + k, o))) = [H.length + k] := by simp [AV.roots]
theorem roots_ptr_new0 (o : Nat) : AV.roots H.length (.ptr (some (H.length, o))) = [H.length] := by simp [AV.roots]
theorem roots_int (lim : Nat) (k : IntKind) (x : Int) : AV.roots lim (.int k x) = [] := by simp [AV.roots]
theorem roots_bool (lim : Nat) (x : Bool) : AV.roots lim (.bool x) = [] := by simp [AV.roots]
theorem roots_str (lim : Nat) (x : ByteArray) : AV.roots lim (.str x) = [] := by simp [AV.roots]
theorem roots_agg (lim : Nat) (cs : List AV) : AV.roots lim (.agg cs) = AV.roots.go lim cs := by simp [AV.roots]
theorem roots_tup (lim : Nat) (cs : List AV) : AV.roots lim (.tup cs) = AV.roots.go lim cs := by simp [AV.roots]
theorem roots_cons (lim : Nat) (c : AV) (cs : List AV) : AV.roots.go lim (c :: cs) = AV.roots lim c ++ AV.roots.go lim cs := by simp [AV.roots.go]
theorem roots_nil (lim : Nat) : AV.roots.go lim [] = [] := by simp [AV.roots.go]
theorem rename_slice (f : Nat → Nat) (b o sz n : Nat) (c : Option Nat) : AV.rename f (.slice (some (b, o)) sz n c) = .slice (some (f b, o)) sz n c := by simp [AV.rename]
theorem rename_slice_none (f : Nat → Nat) (sz n : Nat) (c : Option Nat) : AV.rename f (.slice none sz n c) = .slice none sz n c := by simp [AV.rename]
theorem rename_ptr (f : Nat → Nat) (b o : Nat) : AV.rename f (.ptr (some (b, o))) = .ptr (some (f b, o)) := by simp [AV.rename]
theorem rename_int (f : Nat → Nat) (k : IntKind) (x : Int) : AV.rename f (.int k x) = .int k x := by simp [AV.rename]
theorem rename_bool (f : Nat → Nat) (x : Bool) : AV.rename f (.bool x) = .bool x := by simp [AV.rename]
theorem rename_str (f : Nat → Nat) (x : ByteArray) : AV.rename f (.str x) = .str x := by simp [AV.rename]
theorem rename_agg (f : Nat → Nat) (cs : List AV) : AV.rename f (.agg cs) = .agg (AV.rename.go f cs) := by simp [AV.rename]
theorem rename_tup (f : Nat → Nat) (cs : List AV) : AV.rename f (.tup cs) = .tup (AV.rename.go f cs) := by simp [AV.rename]
theorem rename_cons (f : Nat → Nat) (c : AV) (cs : List AV) : AV.rename.go f (c :: cs) = AV.rename f c :: AV.rename.go f cs := by simp [AV.rename.go]
theorem rename_nil (f : Nat → Nat) : AV.rename.go f [] = [] := by simp [AV.rename.go]

def keepBlks (L : List Blk) (rs : List Nat) : List Blk := rs.map fun b => (L[b]?).getD .dead
theorem keepBlks_nil (L : List Blk) : keepBlks L [] = [] := Eq.trans rfl rfl
theorem keepBlks_cons (L : List Blk) (b : Nat) (rs : List Nat) : keepBlks L (b :: rs) = (L[b]?).getD .dead :: keepBlks L rs := Eq.trans rfl rfl
def flatAll (lim : Nat) (L : List Blk) (rs : List Nat) : Bool := rs.all fun b => flatBlk lim L[b]?
theorem flatAll_nil (lim : Nat) (L : List Blk) : flatAll lim L [] = true := Eq.trans rfl rfl
theorem flatAll_cons (lim : Nat) (L : List Blk) (b : Nat) (rs : List Nat) : flatAll lim L (b :: rs) = (flatBlk lim L[b]? && flatAll lim L rs) := Eq.trans rfl rfl
theorem flatBlk_cells (lim : Nat) (cs : List AV) (w : Bool) : flatBlk lim (some (.cells cs w)) = cs.all fun c => c.under lim := Eq.trans rfl rfl
theorem finish_two_eq (G : List Blk) (e0 e1 : Option Nat) (v : AV) : finish 2 H.length e0 v ⟨H ++ G, e1⟩ =
    if clean H.length e1 = true ∧ flatAll H.length (H ++ G) (dedup (v.roots H.length)) = true then some (v.rename (renum H.length (dedup (v.roots H.length))), ⟨H ++ keepBlks (H ++ G) (dedup (v.roots H.length)), e0⟩) else none := by
  unfold finish keepBlks flatAll
  simp
theorem finish_two_eq0 (e0 e1 : Option Nat) (v : AV) : finish 2 H.length e0 v ⟨H, e1⟩ =
    if clean H.length e1 = true ∧ flatAll H.length H (dedup (v.roots H.length)) = true then some (v.rename (renum H.length (dedup (v.roots H.length))), ⟨H ++ keepBlks H (dedup (v.roots H.length)), e0⟩) else none := by
  unfold finish keepBlks flatAll
  simp
theorem finish_one_eq (G : List Blk) (e0 e1 : Option Nat) (v : AV) : finish 1 H.length e0 v ⟨H ++ G, e1⟩ = if v.under H.length = true ∧ clean H.length e1 = true then some (v, ⟨H, e0⟩) else none := by
  unfold finish
  simp
theorem finish_one_eq0 (e0 e1 : Option Nat) (v : AV) : finish 1 H.length e0 v ⟨H, e1⟩ = if v.under H.length = true ∧ clean H.length e1 = true then some (v, ⟨H, e0⟩) else none := by
  unfold finish
  simp
theorem dedup_nil : dedup [] = [] := Eq.trans rfl rfl
theorem dedup_one (b : Nat) : dedup [b] = [b] := Eq.trans rfl rfl
theorem dedup_two (a b : Nat) : dedup [a, b] = if a = b then [a] else [a, b] := by
  by_cases h : a = b
  · simp [dedup, h]
  · have : ¬ b = a := fun h' => h h'.symm
    simp [dedup, h, this]
theorem renum_old {lim b : Nat} (rs : List Nat) (h : b < lim) : renum lim rs b = b := by simp [renum, h]
theorem renum_one (k : Nat) : renum H.length [H.length + k] (H.length + k) = H.length := by
  have h1 : ¬ H.length + k < H.length := by omega
  simp only [renum, h1, if_false, List.idxOf_cons_self, Nat.add_zero]
theorem renum_one0 : renum H.length [H.length] H.length = H.length := by simp [renum]
theorem renum_two0 {a b : Nat} (h : H.length ≤ a) : renum H.length [a, b] a = H.length := by
  have h1 : ¬ a < H.length := by omega
  simp [renum, h1]
theorem renum_two1 {a b : Nat} (h : H.length ≤ b) (hne : a ≠ b) : renum H.length [a, b] b = H.length + 1 := by
  have h1 : ¬ b < H.length := by omega
  have h2 : (a == b) = false := by simpa using hne
  simp [renum, h1, h2, List.idxOf_cons]

theorem finV_wc (F : AFun) (m : Mem) (st : St) (Q : AV → Mem → Prop) : Wc (finRun F m st) Q = Wc (finV F m (resultList st.tm st.m.H F.results) st.m) Q := Eq.trans rfl rfl

theorem get_more {α : Type} {L : List α} {j : Nat} {b : α} (h : L[j]? = some b) (X : List α) : (L ++ X)[j]? = some b := by
  rw [List.getElem?_append_left (List.getElem?_eq_some_iff.mp h).1]; exact h
theorem cellsAt_of {L : List Blk} {j : Nat} {cs : List AV} {w : Bool} (h : L[j]? = some (.cells cs w)) : cellsAt L j = some cs := by
  unfold cellsAt; rw [h]

theorem clean_none' (n : Nat) : clean n none = true := Eq.trans rfl rfl
theorem clean_some (n k : Nat) : clean n (some k) = decide (n ≤ k) := Eq.trans rfl rfl
theorem clean_ite (c : Prop) [Decidable c] (n : Nat) (a b : Option Nat) : clean n (if c then a else b) = if c then clean n a else clean n b := by split <;> rfl
theorem minEsc_none (b : Nat) : minEsc none b = some b := Eq.trans rfl rfl
theorem minEsc_some (a b : Nat) : minEsc (some a) b = some (min a b) := Eq.trans rfl rfl
end

end Go.Proofs.Ythkgpblohjpcdaa.Slim

/- The drawing of arguments from bytes: the cursor. -/
namespace Go.Proofs.Ythkgpblohjpcdaa.Slim

open Go

set_option linter.unusedSimpArgs false

set_option linter.unusedVariables false

variable {pr : Prims} {H : List Blk} {e : Option Nat}

section

variable {C : FuncId → List AV → Mem → Option (AV × Mem)} {g : X → AV} {m : Mem}

def nilCheckV (v : AV) : Option AV := match v with
  | .ptr (some p) => some (.ptr (some p))
  | .fn f a b => some (.fn f a b)
  | _ => none

theorem aop_nilCheck (x : X) : aop C g m (.nilCheck x) = valOf m (nilCheckV (g x)) := by
  rw [aop_of_light rfl]
  simp only [light, nilCheckV]
  generalize g x = v
  cases v with
  | ptr p => cases p <;> rfl
  | _ => rfl

theorem nilCheckV_ptr (p : Nat × Nat) : nilCheckV (.ptr (some p)) = some (.ptr (some p)) := rfl

end

def CodeAt (L : List Blk) (av : AV) : Prop :=
  ∃ zs : List Int, zs.length ≤ 70000 ∧ (∀ z ∈ zs, 0 ≤ z ∧ z ≤ 255) ∧ ((av = .slice none 0 0 none ∧ zs = []) ∨ ∃ b c, av = .slice (some (b, 0)) 1 zs.length c ∧ cellsAt L b = some (zs.map (AV.int .u8)))

theorem CodeAt.more {L : List Blk} {av : AV} (h : CodeAt L av) (G : List Blk) : CodeAt (L ++ G) av := by
  obtain ⟨zs, h1, h2, h3 | ⟨b, c, h3, h4⟩⟩ := h
  · exact ⟨zs, h1, h2, .inl h3⟩
  · exact ⟨zs, h1, h2, .inr ⟨b, c, h3, cells_mono h4 G⟩⟩

abbrev curB (av : AV) (p h : Int) : Blk := .cells [av, .int .i64 p, .int .u64 h] true

def Cu (L : List Blk) (q : Nat) (av : AV) (p : Int) : Prop := (∃ h, L[q]? = some (curB av p h)) ∧ CodeAt L av ∧ 0 ≤ p

theorem Cu.lt {L : List Blk} {q : Nat} {av : AV} {p : Int} (h : Cu L q av p) : q < L.length := by
  obtain ⟨⟨_, h⟩, _⟩ := h
  exact (List.getElem?_eq_some_iff.mp h).1

theorem Cu.more {L : List Blk} {q : Nat} {av : AV} {p : Int} (h : Cu L q av p) (G : List Blk) : Cu (L ++ G) q av p := by
  have hl := h.lt
  obtain ⟨⟨z, h1⟩, h2, h3⟩ := h
  exact ⟨⟨z, by rw [List.getElem?_append_left hl, h1]⟩, h2.more G, h3⟩

theorem Cu.step {L : List Blk} {q : Nat} {av : AV} {p : Int} (h : Cu L q av p) {y : Int} (hy : 0 ≤ y) (z : Int) : Cu (L.set q (curB av y z)) q av y := by
  have hl := h.lt
  obtain ⟨⟨w, h1⟩, ⟨zs, g1, g2, g3⟩, h3⟩ := h
  refine ⟨⟨z, List.getElem?_set_self hl⟩, ⟨zs, g1, g2, ?_⟩, hy⟩
  rcases g3 with g3 | ⟨b, c, e2, e3⟩
  · exact .inl g3
  refine .inr ⟨b, c, e2, ?_⟩
  have hbq : b ≠ q := by
    rintro rfl
    unfold cellsAt at e3
    rw [h1] at e3
    simp at e3
    match zs with
    | [] => simp at e3
    | [_] => simp at e3
    | _ :: _ :: _ => simp at e3
  unfold cellsAt at e3 ⊢
  rw [List.getElem?_set_ne (fun h => hbq h.symm)]
  exact e3

theorem set_app {L : List Blk} {q : Nat} (h : q < L.length) (x : Blk) (G : List Blk) : (L ++ G).set q x = L.set q x ++ G := List.set_append_left _ _ h

theorem finish_one_setG (v : AV) (e0 e1 : Option Nat) (b : Nat) (x : Blk) (G : List Blk) : finish 1 H.length e0 v ⟨H.set b x ++ G, e1⟩ = if v.under H.length = true ∧ clean H.length e1 = true then some (v, ⟨H.set b x, e0⟩) else none := by
  unfold finish
  have : (H.set b x ++ G).take H.length = H.set b x := by
    rw [List.take_append_of_le_length (by simp), List.take_of_length_le (by simp)]
  simp [this]

theorem finish_one_set0 (v : AV) (e0 e1 : Option Nat) (b : Nat) (x : Blk) : finish 1 H.length e0 v ⟨H.set b x, e1⟩ = if v.under H.length = true ∧ clean H.length e1 = true then some (v, ⟨H.set b x, e0⟩) else none := by
  have := finish_one_setG (H := H) v e0 e1 b x []
  rwa [List.append_nil] at this

theorem cellsAt_s0 (q : Nat) (x : Blk) (l : List Blk) : cellsAt (H.set q x ++ l) H.length = cellsAt l 0 := by simp [cellsAt, List.getElem?_append_right]

theorem cellsAt_sk (q : Nat) (x : Blk) (l : List Blk) (k : Nat) : cellsAt (H.set q x ++ l) (H.length + k) = cellsAt l k := by simp [cellsAt, List.getElem?_append_right]

theorem blkAt_s0 (q : Nat) (x : Blk) (l : List Blk) : (H.set q x ++ l)[H.length]? = l[0]? := by simp [List.getElem?_append_right]

theorem blkAt_sk (q : Nat) (x : Blk) (l : List Blk) (k : Nat) : (H.set q x ++ l)[H.length + k]? = l[k]? := by simp [List.getElem?_append_right]

theorem set_s0 (q : Nat) (x : Blk) (l : List Blk) (b : Blk) : (H.set q x ++ l).set H.length b = H.set q x ++ l.set 0 b := by simp [List.set_append_right]

theorem set_sk (q : Nat) (x : Blk) (l : List Blk) (b : Blk) (k : Nat) : (H.set q x ++ l).set (H.length + k) b = H.set q x ++ l.set k b := by simp [List.set_append_right]

theorem set_sapp {q : Nat} (h : q < H.length) (x y : Blk) (l : List Blk) : (H.set q x ++ l).set q y = H.set q y ++ l := by
  rw [List.set_append_left _ _ (by simpa using h), List.set_set]

theorem Cu.new {G : List Blk} {k : Nat} {av : AV} {y z : Int} (hG : G[k]? = some (curB av y z)) (hc : CodeAt H av) (hy : 0 ≤ y) : Cu (H ++ G) (H.length + k) av y :=
  ⟨⟨z, by rw [List.getElem?_append_right (by omega), Nat.add_sub_cancel_left, hG]⟩, hc.more G, hy⟩

theorem Cu.cells {L : List Blk} {q : Nat} {av : AV} {p : Int} (h : Cu L q av p) : ∃ w, L[q]? = some (curB av p w) ∧ cellsAt L q = some [av, .int .i64 p, .int .u64 w] := by
  obtain ⟨⟨w, h1⟩, _⟩ := h
  exact ⟨w, h1, by unfold cellsAt; rw [h1]⟩

theorem cells_set {L : List Blk} {q : Nat} (h : q < L.length) (cs : List AV) (wr : Bool) : cellsAt (L.set q (.cells cs wr)) q = some cs := by
  unfold cellsAt
  rw [List.getElem?_set_self h]

theorem andI_255 (x : Int) : 0 ≤ andI .u64 x 255 ∧ andI .u64 x 255 ≤ 255 := by
  have h1 : (BitVec.ofInt 64 x &&& BitVec.ofInt 64 255).toNat ≤ 255 := by
    rw [BitVec.toNat_and]
    exact Nat.le_trans Nat.and_le_right (by decide)
  have h2 : andI .u64 x 255 = IntKind.u64.wrap ((BitVec.ofInt 64 x &&& BitVec.ofInt 64 255).toNat : Int) := rfl
  rw [h2]
  generalize (BitVec.ofInt 64 x &&& BitVec.ofInt 64 255).toNat = n at *
  have : IntKind.u64.wrap (n : Int) = n := by
    simp [IntKind.wrap, IntKind.bits, IntKind.signed]
    omega
  rw [this]
  omega

theorem wc_next {q : Nat} {av : AV} {p : Int} (h : Cu H q av p) (hp : p ≤ 1000000000000) : Wc (call T pr f_s_l1Cur_next [.ptr (some (q, 0))] ⟨H, e⟩) (fun v m => ∃ x y z : Int, v = .int .i64 x ∧ 0 ≤ x ∧ x ≤ 255 ∧ 0 ≤ y ∧ y ≤ p + 1 ∧ m = ⟨H.set q (curB av y z), e⟩) := by
  have hl := h.lt
  obtain ⟨w, h1, hcell⟩ := h.cells
  obtain ⟨_, ⟨zs, g2, g3, g4⟩, h3⟩ := h
  obtain ⟨p', sz, c, rfl⟩ : ∃ p' sz c, av = .slice p' sz zs.length c := by
    rcases g4 with ⟨rfl, rfl⟩ | ⟨b, c, rfl, _⟩
    · exact ⟨_, _, _, rfl⟩
    · exact ⟨_, _, _, rfl⟩
  obtain ⟨n, rfl⟩ : ∃ n : Nat, p = (n : Int) := ⟨p.toNat, by omega⟩
  have hw := wrap_succ (show n < 9223372036854775807 by omega)
  have hsg : ∀ (y : Blk), (H.set q y)[q]? = some y := fun y => List.getElem?_set_self hl
  have hcs := fun cs wr => cells_set (L := H) hl cs wr
  rw [call_wc t_s_l1Cur_next]
  by_cases hn : n < zs.length
  · have hne : zs ≠ [] := by intro h0; rw [h0] at hn; simp at hn
    obtain ⟨b, hq, hb⟩ : ∃ b, (p' = some (b, 0) ∧ sz = 1) ∧ cellsAt H b = some (zs.map (AV.int .u8)) := by
      rcases g4 with ⟨_, rfl⟩ | ⟨b, c', hq, hb⟩
      · exact absurd rfl hne
      · cases hq; exact ⟨b, ⟨rfl, rfl⟩, hb⟩
    obtain ⟨rfl, rfl⟩ := hq
    have hz := g3 zs[n] (List.getElem_mem _)
    have hpart : part false (zs.map (AV.int .u8)) n 1 = some (.int .u8 zs[n]) := by
      rw [part_false, List.getElem?_map, List.getElem?_eq_getElem hn]
      rfl
    have hcv : IntKind.i64.wrap zs[n] = zs[n] := wrap64 (by omega) (by omega)
    have hle : decide (((n + 1 : Nat) : Int) ≤ (zs.length : Int)) = true := decide_eq_true (by omega)
    have hle' : n + 1 ≤ zs.length := hn
    simp +contextual only [a_s_l1Cur_next, c_s_l1Cur_next, aop_nilCheck, nilCheckV_ptr, h1, hcell, hsg, hcs, hn, hb, hpart, hcv, hw, hle, hle', List.set_set, Nat.mul_one, decide_true, finish_one_set0, clean_none', Wp_some, Wp_none, Wp_ite, Wc_some, Wc_none, Wc_ite, Wp_thenRun, seqQ_normal, seqQ_exit, seqQ_ret, Wp_inBlock, blkQ_normal, blkQ_ret, blkQ_same, blkQ_exit, Wp_opThen, opQ_at, Wp_guardP, retQ_normal, retQ_ret, loopQ_normal, loopQ_exit, loopQ_ret, go_sem, entry, joinEsc, if_pos, reduceIte, Nat.reduceAdd, Nat.reduceLeDiff, Nat.reduceLT, Nat.reduceEqDiff]
    exact ⟨_, _, _, rfl, hz.1, hz.2, by omega, by omega, rfl⟩
  · have hle : decide (((n + 1 : Nat) : Int) ≤ (zs.length : Int)) = false := decide_eq_false (by omega)
    have hle' : ¬ n + 1 ≤ zs.length := by omega
    have hcv : ∀ x : Int, IntKind.i64.wrap (andI .u64 x 255) = andI .u64 x 255 := fun x => wrap64 (by have := andI_255 x; omega) (by have := andI_255 x; omega)
    simp +contextual only [a_s_l1Cur_next, c_s_l1Cur_next, aop_nilCheck, nilCheckV_ptr, h1, hcell, hsg, hcs, hn, hcv, hw, hle, hle', show ¬ ((40 : Int) < 0) by omega, List.set_set, Nat.mul_one, decide_true, decide_false, finish_one_set0, clean_none', Wp_some, Wp_none, Wp_ite, Wc_some, Wc_none, Wc_ite, Wp_thenRun, seqQ_normal, seqQ_exit, seqQ_ret, Wp_inBlock, blkQ_normal, blkQ_ret, blkQ_same, blkQ_exit, Wp_opThen, opQ_at, Wp_guardP, retQ_normal, retQ_ret, loopQ_normal, loopQ_exit, loopQ_ret, go_sem, entry, joinEsc, if_pos, reduceIte, Nat.reduceAdd, Nat.reduceLeDiff, Nat.reduceLT, Nat.reduceEqDiff]
    exact ⟨_, _, _, rfl, (andI_255 _).1, (andI_255 _).2, by omega, by omega, rfl⟩

theorem wc_pick {q : Nat} {av : AV} {p : Int} (n : Int) (h : Cu H q av p) (hp : p ≤ 100000000000) (hn : n ≤ 1000000000000) : Wc (call T pr f_s_l1Cur_pick [.ptr (some (q, 0)), .int .i64 n] ⟨H, e⟩) (fun v m => ∃ x y z : Int, v = .int .i64 x ∧ 0 ≤ x ∧ (x < n ∨ x = 0) ∧ 0 ≤ y ∧ y ≤ p + 2 ∧ m = ⟨H.set q (curB av y z), e⟩) := by
  have hl := h.lt
  rw [call_wc t_s_l1Cur_pick]
  by_cases h1 : n ≤ 1
  · obtain ⟨w, hw, _⟩ := h.cells
    have hsame : H = H.set q (curB av p w) := by
      obtain ⟨hb, he⟩ := List.getElem?_eq_some_iff.mp hw
      rw [← he, List.set_getElem_self]
    have h1' : decide (n ≤ 1) = true := decide_eq_true h1
    simp +contextual only [a_s_l1Cur_pick, c_s_l1Cur_pick, h1, h1', decide_true, Wp_some, Wp_none, Wp_ite, Wc_some, Wc_none, Wc_ite, Wp_thenRun, seqQ_normal, seqQ_exit, seqQ_ret, Wp_inBlock, blkQ_normal, blkQ_ret, blkQ_same, blkQ_exit, Wp_opThen, opQ_at, Wp_guardP, retQ_normal, retQ_ret, loopQ_normal, loopQ_exit, loopQ_ret, finish_one_eq, finish_one_eq0, finish_two_eq, finish_two_eq0, roots_slice_new, roots_slice_new0, roots_slice_none, roots_ptr_new, roots_ptr_new0, roots_int, roots_bool, roots_str, roots_agg, roots_tup, roots_cons, roots_nil, rename_slice, rename_slice_none, rename_ptr, rename_int, rename_bool, rename_str, rename_agg, rename_tup, rename_cons, rename_nil, keepBlks_nil, keepBlks_cons, flatAll_nil, flatAll_cons, flatBlk_cells, dedup_nil, dedup_one, dedup_two, renum_one, renum_one0, renum_two0, renum_two1, clean_none', clean_some, minEsc_none, minEsc_some, Nat.add_left_cancel_iff, Nat.le_add_right, Nat.le_refl, decide_true, go_sem, entry, joinEsc, if_pos, reduceIte, Nat.reduceAdd, Nat.reduceLeDiff, Nat.reduceLT, Nat.reduceEqDiff]
    exact ⟨0, p, w, rfl, Int.le_refl _, .inr rfl, h.2.2, by omega, by rw [← hsame]⟩
  · have h1' : decide (n ≤ 1) = false := decide_eq_false h1
    simp +contextual only [a_s_l1Cur_pick, c_s_l1Cur_pick, h1, h1', decide_false, Wp_some, Wp_none, Wp_ite, Wc_some, Wc_none, Wc_ite, Wp_thenRun, seqQ_normal, seqQ_exit, seqQ_ret, Wp_inBlock, blkQ_normal, blkQ_ret, blkQ_same, blkQ_exit, Wp_opThen, opQ_at, Wp_guardP, retQ_normal, retQ_ret, loopQ_normal, loopQ_exit, loopQ_ret, go_sem, entry, joinEsc, if_pos, reduceIte, Nat.reduceAdd, Nat.reduceLeDiff, Nat.reduceLT, Nat.reduceEqDiff]
    refine (wc_next h (by omega)).mono ?_
    rintro v m ⟨x, y, z, rfl, hx0, hx1, hy0, hy1, rfl⟩
    have h' := h.step hy0 z
    have hmod : ∀ u : Int, 0 ≤ u → 0 ≤ u.tmod n ∧ u.tmod n < n := fun u hu => ⟨Int.tmod_nonneg _ hu, Int.tmod_lt_of_pos _ (by omega)⟩
    have hnz : ¬ n = 0 := by omega
    by_cases h2 : 200 < n
    · have h2' : decide (200 < n) = true := decide_eq_true h2
      have hm1 : IntKind.i64.wrap (x * 256) = x * 256 := wrap64 (by omega) (by omega)
      simp +contextual only [gt_iff_lt, h2, h2', hm1, decide_true, Wp_some, Wp_none, Wp_ite, Wc_some, Wc_none, Wc_ite, Wp_thenRun, seqQ_normal, seqQ_exit, seqQ_ret, Wp_inBlock, blkQ_normal, blkQ_ret, blkQ_same, blkQ_exit, Wp_opThen, opQ_at, Wp_guardP, retQ_normal, retQ_ret, loopQ_normal, loopQ_exit, loopQ_ret, go_sem, entry, joinEsc, if_pos, reduceIte, Nat.reduceAdd, Nat.reduceLeDiff, Nat.reduceLT, Nat.reduceEqDiff]
      refine (wc_next h' (by omega)).mono ?_
      rintro v m ⟨x2, y2, z2, rfl, hx20, hx21, hy20, hy21, rfl⟩
      have hm2 : IntKind.i64.wrap (x * 256 + x2) = x * 256 + x2 := wrap64 (by omega) (by omega)
      have hm := hmod (x * 256 + x2) (by omega)
      simp +contextual only [a_s_l1Cur_pick, hm2, hnz, List.set_set, finish_one_set0, clean_none', Wp_some, Wp_none, Wp_ite, Wc_some, Wc_none, Wc_ite, Wp_thenRun, seqQ_normal, seqQ_exit, seqQ_ret, Wp_inBlock, blkQ_normal, blkQ_ret, blkQ_same, blkQ_exit, Wp_opThen, opQ_at, Wp_guardP, retQ_normal, retQ_ret, loopQ_normal, loopQ_exit, loopQ_ret, finish_one_eq, finish_one_eq0, finish_two_eq, finish_two_eq0, roots_slice_new, roots_slice_new0, roots_slice_none, roots_ptr_new, roots_ptr_new0, roots_int, roots_bool, roots_str, roots_agg, roots_tup, roots_cons, roots_nil, rename_slice, rename_slice_none, rename_ptr, rename_int, rename_bool, rename_str, rename_agg, rename_tup, rename_cons, rename_nil, keepBlks_nil, keepBlks_cons, flatAll_nil, flatAll_cons, flatBlk_cells, dedup_nil, dedup_one, dedup_two, renum_one, renum_one0, renum_two0, renum_two1, clean_none', clean_some, minEsc_none, minEsc_some, Nat.add_left_cancel_iff, Nat.le_add_right, Nat.le_refl, decide_true, go_sem, entry, joinEsc, if_pos, reduceIte, Nat.reduceAdd, Nat.reduceLeDiff, Nat.reduceLT, Nat.reduceEqDiff]
      exact ⟨_, _, _, rfl, hm.1, .inl hm.2, hy20, by omega, rfl⟩
    · have h2' : decide (200 < n) = false := decide_eq_false h2
      have hm := hmod x hx0
      simp +contextual only [a_s_l1Cur_pick, gt_iff_lt, h2, h2', hnz, List.set_set, finish_one_set0, clean_none', decide_false, Wp_some, Wp_none, Wp_ite, Wc_some, Wc_none, Wc_ite, Wp_thenRun, seqQ_normal, seqQ_exit, seqQ_ret, Wp_inBlock, blkQ_normal, blkQ_ret, blkQ_same, blkQ_exit, Wp_opThen, opQ_at, Wp_guardP, retQ_normal, retQ_ret, loopQ_normal, loopQ_exit, loopQ_ret, finish_one_eq, finish_one_eq0, finish_two_eq, finish_two_eq0, roots_slice_new, roots_slice_new0, roots_slice_none, roots_ptr_new, roots_ptr_new0, roots_int, roots_bool, roots_str, roots_agg, roots_tup, roots_cons, roots_nil, rename_slice, rename_slice_none, rename_ptr, rename_int, rename_bool, rename_str, rename_agg, rename_tup, rename_cons, rename_nil, keepBlks_nil, keepBlks_cons, flatAll_nil, flatAll_cons, flatBlk_cells, dedup_nil, dedup_one, dedup_two, renum_one, renum_one0, renum_two0, renum_two1, clean_none', clean_some, minEsc_none, minEsc_some, Nat.add_left_cancel_iff, Nat.le_add_right, Nat.le_refl, decide_true, go_sem, entry, joinEsc, if_pos, reduceIte, Nat.reduceAdd, Nat.reduceLeDiff, Nat.reduceLT, Nat.reduceEqDiff]
      exact ⟨_, _, _, rfl, hm.1, .inl hm.2, hy0, by omega, rfl⟩

theorem wc_one {q : Nat} {av : AV} {p : Int} (n : Int) (h : Cu H q av p) (hp : p ≤ 100000000000) (hn : n ≤ 1000000000000) : Wc (call T pr f_s_l1Cur_one [.ptr (some (q, 0)), .int .i64 n] ⟨H, e⟩) (fun v m => ∃ (x : Bool) (y z : Int), v = .bool x ∧ 0 ≤ y ∧ y ≤ p + 2 ∧ m = ⟨H.set q (curB av y z), e⟩) := by
  rw [call_wc t_s_l1Cur_one]
  simp +contextual only [a_s_l1Cur_one, c_s_l1Cur_one, Wp_some, Wp_none, Wp_ite, Wc_some, Wc_none, Wc_ite, Wp_thenRun, seqQ_normal, seqQ_exit, seqQ_ret, Wp_inBlock, blkQ_normal, blkQ_ret, blkQ_same, blkQ_exit, Wp_opThen, opQ_at, Wp_guardP, retQ_normal, retQ_ret, loopQ_normal, loopQ_exit, loopQ_ret, go_sem, entry, joinEsc, if_pos, reduceIte, Nat.reduceAdd, Nat.reduceLeDiff, Nat.reduceLT, Nat.reduceEqDiff]
  refine (wc_pick n h hp hn).mono ?_
  rintro v m ⟨x, y, z, rfl, hx0, hx1, hy0, hy1, rfl⟩
  simp +contextual only [a_s_l1Cur_one, List.set_set, finish_one_set0, clean_none', Wp_some, Wp_none, Wp_ite, Wc_some, Wc_none, Wc_ite, Wp_thenRun, seqQ_normal, seqQ_exit, seqQ_ret, Wp_inBlock, blkQ_normal, blkQ_ret, blkQ_same, blkQ_exit, Wp_opThen, opQ_at, Wp_guardP, retQ_normal, retQ_ret, loopQ_normal, loopQ_exit, loopQ_ret, finish_one_eq, finish_one_eq0, finish_two_eq, finish_two_eq0, roots_slice_new, roots_slice_new0, roots_slice_none, roots_ptr_new, roots_ptr_new0, roots_int, roots_bool, roots_str, roots_agg, roots_tup, roots_cons, roots_nil, rename_slice, rename_slice_none, rename_ptr, rename_int, rename_bool, rename_str, rename_agg, rename_tup, rename_cons, rename_nil, keepBlks_nil, keepBlks_cons, flatAll_nil, flatAll_cons, flatBlk_cells, dedup_nil, dedup_one, dedup_two, renum_one, renum_one0, renum_two0, renum_two1, clean_none', clean_some, minEsc_none, minEsc_some, Nat.add_left_cancel_iff, Nat.le_add_right, Nat.le_refl, decide_true, go_sem, entry, joinEsc, if_pos, reduceIte, Nat.reduceAdd, Nat.reduceLeDiff, Nat.reduceLT, Nat.reduceEqDiff]
  exact ⟨_, _, _, rfl, hy0, by omega, rfl⟩

theorem wc_among {q b : Nat} {av : AV} {p : Int} {c : Option Nat} {zs : List Int} (h : Cu H q av p) (hp : p ≤ 100000000000) (hb : cellsAt H b = some (zs.map (AV.int .i64))) (hbq : b ≠ q) (h0 : 0 < zs.length) (hn : zs.length ≤ 1000000) : Wc (call T pr f_s_l1Cur_among [.ptr (some (q, 0)), .slice (some (b, 0)) 1 zs.length c] ⟨H, e⟩) (fun v m => ∃ x y z : Int, v = .int .i64 x ∧ x ∈ zs ∧ 0 ≤ y ∧ y ≤ p + 2 ∧ m = ⟨H.set q (curB av y z), e⟩) := by
  rw [call_wc t_s_l1Cur_among]
  simp +contextual only [a_s_l1Cur_among, c_s_l1Cur_among, Wp_some, Wp_none, Wp_ite, Wc_some, Wc_none, Wc_ite, Wp_thenRun, seqQ_normal, seqQ_exit, seqQ_ret, Wp_inBlock, blkQ_normal, blkQ_ret, blkQ_same, blkQ_exit, Wp_opThen, opQ_at, Wp_guardP, retQ_normal, retQ_ret, loopQ_normal, loopQ_exit, loopQ_ret, go_sem, entry, joinEsc, if_pos, reduceIte, Nat.reduceAdd, Nat.reduceLeDiff, Nat.reduceLT, Nat.reduceEqDiff]
  refine (wc_pick (zs.length : Int) h hp (by omega)).mono ?_
  rintro v m ⟨x, y, z, rfl, hx0, hx1, hy0, hy1, rfl⟩
  obtain ⟨i, rfl⟩ : ∃ i : Nat, x = (i : Int) := ⟨x.toNat, by omega⟩
  have hi : i < zs.length := by omega
  have hcs : cellsAt (H.set q (curB av y z)) b = some (zs.map (AV.int .i64)) := by
    unfold cellsAt at hb ⊢
    rw [List.getElem?_set_ne (fun h => hbq h.symm)]
    exact hb
  have hpart : part false (zs.map (AV.int .i64)) i 1 = some (.int .i64 zs[i]) := by
    rw [part_false, List.getElem?_map, List.getElem?_eq_getElem hi]
    rfl
  simp +contextual only [a_s_l1Cur_among, hi, hcs, hpart, Nat.mul_one, List.set_set, finish_one_set0, clean_none', Wp_some, Wp_none, Wp_ite, Wc_some, Wc_none, Wc_ite, Wp_thenRun, seqQ_normal, seqQ_exit, seqQ_ret, Wp_inBlock, blkQ_normal, blkQ_ret, blkQ_same, blkQ_exit, Wp_opThen, opQ_at, Wp_guardP, retQ_normal, retQ_ret, loopQ_normal, loopQ_exit, loopQ_ret, finish_one_eq, finish_one_eq0, finish_two_eq, finish_two_eq0, roots_slice_new, roots_slice_new0, roots_slice_none, roots_ptr_new, roots_ptr_new0, roots_int, roots_bool, roots_str, roots_agg, roots_tup, roots_cons, roots_nil, rename_slice, rename_slice_none, rename_ptr, rename_int, rename_bool, rename_str, rename_agg, rename_tup, rename_cons, rename_nil, keepBlks_nil, keepBlks_cons, flatAll_nil, flatAll_cons, flatBlk_cells, dedup_nil, dedup_one, dedup_two, renum_one, renum_one0, renum_two0, renum_two1, clean_none', clean_some, minEsc_none, minEsc_some, Nat.add_left_cancel_iff, Nat.le_add_right, Nat.le_refl, decide_true, go_sem, entry, joinEsc, if_pos, reduceIte, Nat.reduceAdd, Nat.reduceLeDiff, Nat.reduceLT, Nat.reduceEqDiff]
  exact ⟨_, _, _, rfl, List.getElem_mem _, hy0, by omega, rfl⟩

end Go.Proofs.Ythkgpblohjpcdaa.Slim

/- The drawing of arguments from bytes: what is cut from the bytes. -/
namespace Go.Proofs.Ythkgpblohjpcdaa.Slim

open Go

set_option linter.unusedSimpArgs false

set_option linter.unusedVariables false

variable {pr : Prims} {H : List Blk} {e : Option Nat}

def seqHd : ACode → ACode
  | .seq a _ => a
  | c => c

def seqTl : ACode → ACode
  | .seq _ c => c
  | c => c

def slLoV (sz : Nat) (v l : AV) : Option AV := match v with
  | .slice p sz' n cap => (match natOf l with
    | some l => sliceVal sz p sz' n cap l n none
    | none => none)
  | _ => none

section

variable {C : FuncId → List AV → Mem → Option (AV × Mem)} {g : X → AV} {m : Mem}

theorem aop_slLo (sz : Nat) (x l : X) : aop C g m (.sliceSl sz x (some l) none none) = valOf m (slLoV sz (g x) (g l)) := by
  rw [aop_of_light rfl]
  simp only [light, slLoV, bound, optNat]
  generalize g x = v
  generalize natOf (g l) = o
  cases v <;> cases o <;> simp

end

theorem slLoV_c (sz b o n l : Nat) (cap : Option Nat) (hl : l ≤ n) : slLoV sz (.slice (some (b, o)) sz n cap) (.int .i64 l) = some (.slice (some (b, o + l * sz)) sz (n - l) (cap.map (· - l))) := by
  unfold slLoV natOf sliceVal
  simp [hl]

theorem src_new (L : List Blk) (n sz : Nat) (cap : Option Nat) (cs : List AV) (b : Nat) (h : cellsAt L b = some cs) (hl : cs.length = n * sz) : srcCells false L (.slice (some (b, 0)) sz n cap) = some (n, cs) := by
  unfold srcCells
  simp [h, ← hl]

theorem CodeAt.form {L : List Blk} {av : AV} (h : CodeAt L av) : ∃ p sz n c, av = .slice p sz n c := by
  obtain ⟨zs, _, _, ⟨rfl, _⟩ | ⟨b, c, rfl, _⟩⟩ := h
  · exact ⟨_, _, _, _, rfl⟩
  · exact ⟨_, _, _, _, rfl⟩

def ArgB (L : List Blk) (av : AV) (zs : List Int) : Prop :=
  (∀ z ∈ zs, 0 ≤ z ∧ z ≤ 255) ∧ ((av = .slice none 0 0 none ∧ zs = []) ∨ ∃ b c, av = .slice (some (b, 0)) 1 zs.length c ∧ cellsAt L b = some (zs.map (AV.int .u8)))

theorem bytes_of : ∀ (es : List (List Int)), (∀ e ∈ es, e.length = 1 ∧ ∀ z ∈ e, (Lit.int .u8 z).wf = true) → es.flatten.length = es.length ∧ ∀ z ∈ es.flatten, 0 ≤ z ∧ z ≤ 255
  | [], _ => by simp
  | x :: es, h => by
    obtain ⟨h1, h2⟩ := bytes_of es fun e he => h e (by simp [he])
    obtain ⟨hx1, hx2⟩ := h x (by simp)
    match x, hx1 with
    | [a], _ =>
      refine ⟨by simp [h1], fun z hz => ?_⟩
      rw [List.flatten_cons] at hz
      rcases List.mem_append.mp hz with hz | hz
      · have := hx2 z hz
        simp [Lit.wf, IntKind.min, IntKind.max, IntKind.signed, IntKind.bits] at this
        omega
      · exact h2 z hz

theorem argB_of {av : AV} {es : List (List Int)} (h : IsArg H av .u8 1 es) : ∃ zs, ArgB H av zs := by
  obtain ⟨h1, h2⟩ := h
  obtain ⟨h6, h7⟩ := bytes_of es h1
  rcases h2 with ⟨rfl, rfl⟩ | ⟨b, cap, rfl, h3, h4, h5⟩
  · exact ⟨[], by simp, .inl ⟨rfl, rfl⟩⟩
  · refine ⟨es.flatten, h7, .inr ⟨b, some cap, by rw [h6], ?_⟩⟩
    unfold cellsAt
    rw [h5]

theorem ArgB.form {L : List Blk} {av : AV} {zs : List Int} (h : ArgB L av zs) : ∃ p sz n c, av = .slice p sz n c ∧ (n ≤ 65536 → CodeAt L av) := by
  obtain ⟨h1, ⟨rfl, rfl⟩ | ⟨b, c, rfl, h2⟩⟩ := h
  · exact ⟨_, _, _, _, rfl, fun _ => ⟨[], by simp, by simp, .inl ⟨rfl, rfl⟩⟩⟩
  · exact ⟨_, _, _, _, rfl, fun hn => ⟨zs, by omega, h1, .inr ⟨b, c, rfl, h2⟩⟩⟩

theorem CodeAt.new {G : List Blk} {k : Nat} {zs : List Int} {c : Option Nat} (hG : G[k]? = some (.cells (zs.map (AV.int .u8)) true)) (h1 : zs.length ≤ 70000) (h2 : ∀ z ∈ zs, 0 ≤ z ∧ z ≤ 255) : CodeAt (H ++ G) (.slice (some (H.length + k, 0)) 1 zs.length c) := by
  refine ⟨zs, h1, h2, .inr ⟨_, _, rfl, ?_⟩⟩
  rw [cellsAt_newk]
  unfold cellsAt
  rw [hG]

section

variable {C : FuncId → List AV → Mem → Option (AV × Mem)} {g : X → AV} {m : Mem}

end

end Go.Proofs.Ythkgpblohjpcdaa.Slim

/- The drawing of arguments from bytes: growing lists. -/
namespace Go.Proofs.Ythkgpblohjpcdaa.Slim

open Go

set_option linter.unusedSimpArgs false

set_option linter.unusedVariables false

variable {pr : Prims} {H : List Blk} {e : Option Nat}

theorem amongZ {q b n : Nat} {av : AV} {p : Int} {c : Option Nat} (zs : List Int) (h : Cu H q av p) (hp : p ≤ 100000000000) (hb : cellsAt H b = some (zs.map (AV.int .i64))) (hbq : b ≠ q) (hn : zs.length = n) (h0 : 0 < n) (hn2 : n ≤ 1000000) : Wc (call T pr f_s_l1Cur_among [.ptr (some (q, 0)), .slice (some (b, 0)) 1 n c] ⟨H, e⟩) (fun v m => ∃ x y z : Int, v = .int .i64 x ∧ x ∈ zs ∧ 0 ≤ y ∧ y ≤ p + 2 ∧ m = ⟨H.set q (curB av y z), e⟩) := by
  subst hn
  exact wc_among h hp hb hbq h0 hn2

def killL (L : List Blk) (b : Nat) (keep : Bool) : List Blk := if keep = true then L else L.set b .dead

theorem killL_length (L : List Blk) (b : Nat) (k : Bool) : (killL L b k).length = L.length := by unfold killL; split <;> simp

theorem killL_get {L : List Blk} {b i : Nat} (k : Bool) (h : i ≠ b) : (killL L b k)[i]? = L[i]? := by
  unfold killL
  split
  · rfl
  · exact List.getElem?_set_ne (fun e => h e.symm)

theorem apG {L : List Blk} {b sz bytes n k : Nat} {cs new : List AV} {cap : Option Nat} {src : AV} (hb : L[b]? = some (.cells cs true)) (hs : srcCells false L src = some (k, new)) (hcs : cs.length = n * sz) (hnew : new.length = k * sz) (hm : (n + k) * bytes ≤ maxBytes) (hcap : cap = some 0 → n = 0) :
    appendV L e false sz bytes (.slice (some (b, 0)) sz n cap) src = some (.slice (some (L.length, 0)) sz (n + k) none, ⟨killL L b (decide (cap = some 0 ∧ 0 < k)) ++ [.cells (cs ++ new) true], e⟩) := by
  unfold appendV
  simp only [hb, hs]
  rw [if_pos ⟨trivial, hm, hnew, by omega⟩]
  by_cases h : cap = some 0 ∧ 0 < k
  · have hn := hcap h.1
    subst hn
    have : cs = [] := List.eq_nil_of_length_eq_zero (by omega)
    subst this
    rw [if_pos h]
    simp [killL, h]
  · rw [if_neg h, if_pos trivial, List.drop_zero, List.take_of_length_le (by omega)]
    simp [killL, h]

def Grown (H L : List Blk) : Prop := ∃ G, L = H ++ G

theorem Grown.refl (H : List Blk) : Grown H H := ⟨[], by simp⟩
theorem Grown.le {H L : List Blk} (h : Grown H L) : H.length ≤ L.length := by
  obtain ⟨G, rfl⟩ := h
  simp
theorem Grown.more {H L : List Blk} (h : Grown H L) (X : List Blk) : Grown H (L ++ X) := by
  obtain ⟨G, rfl⟩ := h
  exact ⟨G ++ X, by simp⟩
theorem Grown.put {H L : List Blk} (h : Grown H L) {b : Nat} (hb : H.length ≤ b) (x : Blk) : Grown H (L.set b x) := by
  obtain ⟨G, rfl⟩ := h
  exact ⟨G.set (b - H.length) x, List.set_append_right _ _ hb⟩
theorem Grown.kill {H L : List Blk} (h : Grown H L) {b : Nat} (hb : H.length ≤ b) (k : Bool) : Grown H (killL L b k) := by
  unfold killL
  split
  · exact h
  · exact h.put hb _
theorem Grown.cur {H L : List Blk} {q : Nat} {x : Blk} (h : Grown (H.set q x) L) (hq : q < H.length) (y : Blk) : Grown (H.set q y) (L.set q y) := by
  obtain ⟨G, rfl⟩ := h
  exact ⟨G, by rw [List.set_append_left _ _ (by simpa using hq), List.set_set]⟩
theorem Grown.get {H L : List Blk} (h : Grown H L) {i : Nat} (hi : i < H.length) : L[i]? = H[i]? := by
  obtain ⟨G, rfl⟩ := h
  exact List.getElem?_append_left hi
theorem Grown.cells {H L : List Blk} {q : Nat} {x : Blk} (h : Grown (H.set q x) L) {b : Nat} {cs : List AV} (hb : cellsAt H b = some cs) (hne : b ≠ q) : cellsAt L b = some cs := by
  have hl : b < H.length := by
    unfold cellsAt at hb
    rcases Nat.lt_or_ge b H.length with h | h
    · exact h
    · rw [List.getElem?_eq_none h] at hb; cases hb
  unfold cellsAt at hb ⊢
  rw [h.get (by simpa using hl), List.getElem?_set_ne (fun e => hne e.symm)]
  exact hb
theorem Grown.curs {H L : List Blk} {q : Nat} {av : AV} {p y z : Int} (h : Grown (H.set q (curB av y z)) L) (hc : Cu H q av p) (hy : 0 ≤ y) : Cu L q av y := by
  obtain ⟨G, rfl⟩ := h
  exact (hc.step hy z).more G

theorem wc_ap {L : List Blk} {b sz bytes n k : Nat} {cs new : List AV} {cap : Option Nat} {src : AV} {Q : AV → Mem → Prop} (hb : L[b]? = some (.cells cs true)) (hs : srcCells false L src = some (k, new)) (hcs : cs.length = n * sz) (hnew : new.length = k * sz) (hm : (n + k) * bytes ≤ maxBytes) (hcap : cap = some 0 → n = 0)
    (hQ : ∀ L' : List Blk, L'.length = L.length + 1 → (∀ i, i ≠ b → i < L.length → L'[i]? = L[i]?) → L'[L.length]? = some (.cells (cs ++ new) true) → (∀ H0, Grown H0 L → H0.length ≤ b → Grown H0 L') → Q (.slice (some (L.length, 0)) sz (n + k) none) ⟨L', e⟩) :
    Wc (appendV L e false sz bytes (.slice (some (b, 0)) sz n cap) src) Q := by
  refine Wc.of_eq (apG hb hs hcs hnew hm hcap) (hQ _ ?_ ?_ ?_ ?_)
  · rw [List.length_append, killL_length]; rfl
  · intro i h1 h2
    rw [List.getElem?_append_left (by rw [killL_length]; exact h2), killL_get _ h1]
  · have hl := killL_length L b (decide (cap = some 0 ∧ 0 < k))
    rw [List.getElem?_append_right (by omega), hl, Nat.sub_self]
    rfl
  · exact fun H0 hg hb => (hg.kill hb _).more _

theorem set_self_at {L : List Blk} {q : Nat} {x : Blk} (h : L[q]? = some x) : L.set q x = L := by
  obtain ⟨hlt, he⟩ := List.getElem?_eq_some_iff.mp h
  rw [← he, List.set_getElem_self]

theorem finish_sl {L : List Blk} {b sz n : Nat} {c : Option Nat} {cs : List AV} {w : Bool} (hL : Grown H L) (e0 e1 : Option Nat) (hc : clean H.length e1 = true) (hb : H.length ≤ b) (hG : L[b]? = some (.cells cs w)) (hu : (cs.all fun c => c.under H.length) = true) :
    finish 2 H.length e0 (.slice (some (b, 0)) sz n c) ⟨L, e1⟩ = some (.slice (some (H.length, 0)) sz n c, ⟨H ++ [.cells cs w], e0⟩) := by
  obtain ⟨G, rfl⟩ := hL
  obtain ⟨j, rfl⟩ : ∃ j, b = H.length + j := ⟨b - H.length, by omega⟩
  have hlt : ¬ H.length + j < H.length := by omega
  have hr : dedup (AV.roots H.length (.slice (some (H.length + j, 0)) sz n c)) = [H.length + j] := by simp [AV.roots, dedup, hlt]
  unfold finish
  simp only [hr]
  have h2 : ([H.length + j].all fun b => flatBlk H.length (H ++ G)[b]?) = true := by
    simp only [List.all_cons, List.all_nil, Bool.and_true, hG, flatBlk, hu]
  simp only [hc, h2, and_self, if_true]
  simp [AV.rename, renum, hlt, hG]

theorem finish_sl_set {q : Nat} {X : Blk} {L : List Blk} {b sz n : Nat} {c : Option Nat} {cs : List AV} {w : Bool} (hL : Grown (H.set q X) L) (e0 e1 : Option Nat) (hc : clean H.length e1 = true) (hb : H.length ≤ b) (hG : L[b]? = some (.cells cs w)) (hu : (cs.all fun c => c.under H.length) = true) :
    finish 2 H.length e0 (.slice (some (b, 0)) sz n c) ⟨L, e1⟩ = some (.slice (some (H.length, 0)) sz n c, ⟨H.set q X ++ [.cells cs w], e0⟩) := by
  have hl : (H.set q X).length = H.length := List.length_set
  have := finish_sl (H := H.set q X) (sz := sz) (n := n) (c := c) hL e0 e1 (by rw [hl]; exact hc) (by rw [hl]; exact hb) hG (by rw [hl]; exact hu)
  rw [hl] at this
  exact this

theorem e_l_rBig (p : Option (Nat × Nat)) (sz n : Nat) (c : Option Nat) : call T pr f_l_rBig [.slice p sz n c] ⟨H, e⟩ = some (.bool (decide ((65536 : Int) < (n : Int))), ⟨H, e⟩) := by
  rw [call_eq t_l_rBig]
  simp +contextual only [a_l_rBig, c_l_rBig, gt_iff_lt, go_sem, entry, joinEsc, if_pos, reduceIte, Nat.reduceAdd, Nat.reduceLeDiff, Nat.reduceLT, Nat.reduceEqDiff]

end Go.Proofs.Ythkgpblohjpcdaa.Slim

/- Planks: the search in the program. -/
namespace Go.Proofs.Ythkgpblohjpcdaa.Slim

open Go

set_option linter.unusedSimpArgs false

set_option linter.unusedVariables false

variable {pr : Prims} {H : List Blk} {e : Option Nat}

def encF (es : Found) : List AV := (es.map fun q => q.1.map (AV.int .i64)).flatten

theorem encF_cons (z : List Int) (v : Int) (es : Found) : encF ((z, v) :: es) = z.map (AV.int .i64) ++ encF es := rfl

theorem encF_append (a b : Found) : encF (a ++ b) = encF a ++ encF b := by simp [encF]

theorem encF_length {es : Found} (h : ∀ q ∈ es, q.1.length = 3) : (encF es).length = es.length * 3 := by
  induction es with
  | nil => rfl
  | cons q es ih =>
    have h1 := h q (by simp)
    have h2 := ih (fun x hx => h x (by simp [hx]))
    show (q.1.map (AV.int .i64) ++ encF es).length = _
    rw [List.length_append, List.length_map, h1, h2, List.length_cons]
    omega

theorem cells_more {L : List Blk} {j : Nat} {cs : List AV} {w : Bool} (h : L[j]? = some (.cells cs w)) (G : List Blk) : cellsAt (L ++ G) j = some cs := cellsAt_of (get_more h G)

theorem mapAt_more {L : List Blk} {j : Nat} {es : Found} (h : L[j]? = some (.mp es)) (G : List Blk) : mapAt (L ++ G) j = some es := mapAt_of (get_more h G)

theorem get_lt {α : Type} {L : List α} {j : Nat} {b : α} (h : L[j]? = some b) : j < L.length := (List.getElem?_eq_some_iff.mp h).1

theorem wc_apO {L : List Blk} {b o sz bytes n k : Nat} {pre cs new : List AV} {cap : Option Nat} {src : AV} {Q : AV → Mem → Prop} (hb : L[b]? = some (.cells (pre ++ cs) true)) (ho : pre.length = o) (hs : srcCells false L src = some (k, new)) (hcs : cs.length = n * sz) (hnew : new.length = k * sz) (hm : (n + k) * bytes ≤ maxBytes) (hcap : cap = some 0 → n = 0)
    (hQ : ∀ L' : List Blk, L'.length = L.length + 1 → (∀ i, i ≠ b → i < L.length → L'[i]? = L[i]?) → L'[L.length]? = some (.cells (cs ++ new) true) → (∀ H0, Grown H0 L → H0.length ≤ b → Grown H0 L') → Q (.slice (some (L.length, 0)) sz (n + k) none) ⟨L', e⟩) :
    Wc (appendV L e false sz bytes (.slice (some (b, o)) sz n cap) src) Q := by
  have key : appendV L e false sz bytes (.slice (some (b, o)) sz n cap) src = some (.slice (some (L.length, 0)) sz (n + k) none, ⟨killL L b (decide (cap = some 0 ∧ 0 < k)) ++ [.cells (cs ++ new) true], e⟩) := by
    unfold appendV
    simp only [hb, hs]
    rw [if_pos ⟨trivial, hm, hnew, by rw [List.length_append]; omega⟩]
    by_cases h : cap = some 0 ∧ 0 < k
    · have hn := hcap h.1
      subst hn
      have : cs = [] := List.eq_nil_of_length_eq_zero (by omega)
      subst this
      rw [if_pos h]
      simp [killL, h]
    · rw [if_neg h, if_pos trivial, ← ho, List.drop_left, List.take_of_length_le (by omega)]
      simp [killL, h]
  refine Wc.of_eq key (hQ _ ?_ ?_ ?_ ?_)
  · rw [List.length_append, killL_length]; rfl
  · intro i h1 h2
    rw [List.getElem?_append_left (by rw [killL_length]; exact h2), killL_get _ h1]
  · have hl := killL_length L b (decide (cap = some 0 ∧ 0 < k))
    rw [List.getElem?_append_right (by omega), hl, Nat.sub_self]
    rfl
  · exact fun H0 hg hb => (hg.kill hb _).more _

theorem finish_mp {L : List Blk} {b : Nat} {es : Found} (hL : Grown H L) (e0 : Option Nat) (hb : H.length ≤ b) (hG : L[b]? = some (.mp es)) :
    finish 2 H.length e0 (.map (some b)) ⟨L, none⟩ = some (.map (some H.length), ⟨H ++ [.mp es], e0⟩) := by
  obtain ⟨G, rfl⟩ := hL
  have hlt : ¬ b < H.length := by omega
  have hr : dedup (AV.roots H.length (.map (some b))) = [b] := by simp [AV.roots, dedup, hlt]
  unfold finish
  simp only [hr]
  have h2 : ([b].all fun b => flatBlk H.length (H ++ G)[b]?) = true := by
    simp only [List.all_cons, List.all_nil, Bool.and_true, hG, flatBlk]
  simp only [clean, h2, and_self, if_true]
  simp [AV.rename, renum, hlt, hG]

structure SF (Bs L : List Blk) (mb tb to : Nat) (tc : Option Nat) (es : Found) (n : Nat) : Prop where
  gr : Grown Bs L
  mbl : Bs.length ≤ mb
  tbl : Bs.length ≤ tb
  ne : mb ≠ tb
  mp : L[mb]? = some (.mp es)
  td : ∃ pre, pre.length = to ∧ L[tb]? = some (.cells (pre ++ encF (es.drop n)) true)
  cap : ∀ c, tc = some c → es.length ≤ n + c

theorem Good.three {x a b : Int} {ls : List Ld} {z : List Int} (G : Good x a b ls z) : ∃ z0 z1 z2, z = [z0, z1, z2] := Slim.three G.len

theorem Good.in64 {x a b s : Int} {ls : List Ld} (K : Plk x a b s ls) {z0 z1 z2 : Int} (G : Good x a b ls [z0, z1, z2]) : Slim.in64 z0 = true ∧ Slim.in64 z1 = true ∧ Slim.in64 z2 = true := by
  have hx := K.x12
  have key : ∀ i, i < 3 → 0 ≤ [z0, z1, z2].getD i 0 ∧ [z0, z1, z2].getD i 0 ≤ 12 := by
    intro i hi
    by_cases h : i < ls.length
    · have := G.on i h
      omega
    · rw [G.zero i (by omega)]
      omega
  have h0 : 0 ≤ z0 ∧ z0 ≤ 12 := key 0 (by omega)
  have h1 : 0 ≤ z1 ∧ z1 ≤ 12 := key 1 (by omega)
  have h2 : 0 ≤ z2 ∧ z2 ≤ 12 := key 2 (by omega)
  unfold Slim.in64
  simp only [Bool.and_eq_true, decide_eq_true_eq]
  omega

theorem mvs_range {x a b s : Int} {ls : List Ld} {m : Ld} (h : m ∈ mvs x a b s ls) : ∃ i : Nat, m.1 = (i : Int) ∧ i < ls.length := by
  unfold mvs at h
  obtain ⟨j, _, h2, h3⟩ := (mem_mvsFrom _ _).mp h
  exact ⟨j, (mem_selM.mp h3).1, by omega⟩

theorem Plk.box {x a b s : Int} {ls : List Ld} (K : Plk x a b s ls) : Box (Good x a b ls) ((x.toNat + 1) ^ ls.length) (keyN x.toNat ls.length) ∧ (x.toNat + 1) ^ ls.length ≤ 2197 := by
  have hx := K.x1
  have hx2 := K.x12
  have e : ((x.toNat : Nat) : Int) = x := by omega
  refine ⟨(boxN (d := x.toNat) K.n3).sub (fun z G => ?_), pow_le K.n3 (by omega)⟩
  rw [e]
  exact G.toBox0

theorem bfsIn_snoc (v : Int) (es : Found) (ts : List (List Int)) (t : List Int) : bfsIn v es (ts ++ [t]) = if (mget (bfsIn v es ts) t).isSome then bfsIn v es ts else bfsIn v es ts ++ [(t, v)] := by
  rw [bfsIn_append]
  rfl

theorem take_map_succ {α β : Type} (f : α → β) (l : List α) {j : Nat} (h : j < l.length) : (l.map f).take (j + 1) = (l.map f).take j ++ [f l[j]] := by
  rw [List.take_add_one, List.getElem?_map, List.getElem?_eq_getElem h]
  rfl

theorem sf_in {Bs L : List Blk} {x a b s z0 z1 z2 v : Int} {ls : List Ld} {w0 w1 w2 w3 w4 w8 w9 w10 w11 w15 w16 : AV} {mb nb qb tb to n : Nat} {mc tc : Option Nat} {es : Found} {M : List Ld} (hM : M = mvs x a b s (putL ls [z0, z1, z2])) (K : Plk x a b s ls) (G : Good x a b ls [z0, z1, z2]) (hP : ∀ q ∈ es, Good x a b ls q.1) (hd : (es.map (·.1)).Nodup) (hzv : mget es [z0, z1, z2] = some v) (hv0 : 0 ≤ v) (hv : v ≤ 100000)
    (S : SF Bs L mb tb to tc es n) (hn : n ≤ es.length) (hnb : L[nb]? = some (.cells [.int .i64 z0, .int .i64 z1, .int .i64 z2] true)) (hqb : L[qb]? = some (.cells (encL M) true)) (d1 : nb ≠ mb) (d2 : nb ≠ tb) (d3 : qb ≠ mb) (d4 : qb ≠ tb) :
    Wp (run T pr (.loop w_i_Party_stepsFrom_1) ⟨[w0, w1, w2, w3, w4, .map (some mb), .slice (some (tb, to)) 3 (es.length - n) tc, .ptr (some (nb, 0)), w8, w9, w10, w11, slL qb M.length mc, .int .i64 M.length, .int .i64 0, w15, w16], ⟨L, none⟩⟩)
      (fun ex st => ex = .exit 2 ∧ ∃ (L' : List Blk) (tb' to' : Nat) (tc' : Option Nat) (v8 v9 v10 v12 v13 v14 v15 v16 : AV), SF Bs L' mb tb' to' tc' (bfsIn (v + 1) es (nxP x a b s ls [z0, z1, z2])) n ∧ st = ⟨[w0, w1, w2, w3, w4, .map (some mb), .slice (some (tb', to')) 3 ((bfsIn (v + 1) es (nxP x a b s ls [z0, z1, z2])).length - n) tc', .ptr (some (nb, 0)), v8, v9, v10, w11, v12, v13, v14, v15, v16], ⟨L', none⟩⟩) := by
  have hMn : M.length ≤ 6 := by
    rw [hM]
    have h3 := K.n3
    exact Nat.le_trans (mvs_le x a b s _ _ _) (by rw [putL_length]; omega)
  obtain ⟨hbox, hN⟩ := K.box
  have hts : nxP x a b s ls [z0, z1, z2] = M.map fun m => [z0, z1, z2].set m.1.toNat m.2 := by rw [hM]; rfl
  rw [hts]
  have hgood : ∀ j (hj : j < M.length), Good x a b ls ([z0, z1, z2].set M[j].1.toNat M[j].2) := by
    intro j hj
    refine G.next K ?_
    rw [hts]
    exact List.mem_map_of_mem (List.getElem_mem hj)
  refine Wp_loop (fun k st => ∃ (j : Nat) (L' : List Blk) (tb' to' len : Nat) (tc' : Option Nat) (esj : Found) (v8 v9 v10 v15 v16 : AV), j + k = M.length ∧ esj = bfsIn (v + 1) es ((M.map fun m => [z0, z1, z2].set m.1.toNat m.2).take j) ∧ len = esj.length - n ∧ SF Bs L' mb tb' to' tc' esj n ∧ L'[nb]? = some (.cells [.int .i64 z0, .int .i64 z1, .int .i64 z2] true) ∧ L'[qb]? = some (.cells (encL M) true) ∧ nb ≠ tb' ∧ qb ≠ tb' ∧
    st = ⟨[w0, w1, w2, w3, w4, .map (some mb), .slice (some (tb', to')) 3 len tc', .ptr (some (nb, 0)), v8, v9, v10, w11, slL qb M.length mc, .int .i64 M.length, .int .i64 j, v15, v16], ⟨L', none⟩⟩) ?_ M.length _ ?_
  rotate_left
  · exact ⟨0, L, tb, to, _, tc, es, w8, w9, w10, w15, w16, by omega, rfl, rfl, S, hnb, hqb, d2, d4, rfl⟩
  rintro k _ ⟨j, L', tb', to', len, tc', esj, v8, v9, v10, v15, v16, hj, hesj, hlen, S', hnb', hqb', e2, e4, rfl⟩
  by_cases hk : k = 0
  · have he : j = M.length := by omega
    subst he
    rw [List.take_of_length_le (by simp)] at hesj
    simp (maxSteps := 2000000) +contextual only [w_i_Party_stepsFrom_1, Nat.lt_irrefl, decide_false, Wp_some, Wp_none, Wp_ite, Wc_some, Wc_none, Wc_ite, Wp_thenRun, seqQ_normal, seqQ_exit, seqQ_ret, Wp_inBlock, blkQ_normal, blkQ_ret, blkQ_same, blkQ_exit, Wp_opThen, opQ_at, Wp_guardP, retQ_normal, retQ_ret, loopQ_normal, loopQ_exit, loopQ_ret, go_sem, entry, joinEsc, if_pos, reduceIte, Nat.reduceAdd, Nat.reduceLeDiff, Nat.reduceLT, Nat.reduceEqDiff]
    subst hlen
    subst hesj
    exact ⟨_, _, _, _, _, _, _, _, _, _, _, _, S', rfl⟩
  · have hjl : j < M.length := by omega
    have hw := wrap_succ (show j < 9223372036854775807 by omega)
    have hl : M[j]? = some M[j] := List.getElem?_eq_getElem hjl
    obtain ⟨i, hi, hi2⟩ := mvs_range (x := x) (a := a) (b := b) (s := s) (ls := putL ls [z0, z1, z2]) (m := M[j]) (by rw [← hM]; exact List.getElem_mem hjl)
    rw [putL_length] at hi2
    have hi3 : i < 3 := by have := K.n3; omega
    have hit : M[j].1.toNat = i := by rw [hi]; exact Int.toNat_natCast i
    obtain ⟨t0, t1, t2, ht, hset⟩ := set3 (s0 := z0) (s1 := z1) (s2 := z2) (p := M[j].2) hi3
    have hGt := hgood j hjl
    rw [hit, ht] at hGt
    have hI := hGt.in64 K
    have hkey := keyZ_three hI.1 hI.2.1 hI.2.2
    have hIz := G.in64 K
    have hkz := keyZ_three hIz.1 hIz.2.1 hIz.2.2
    have hpart : part true (encL M) (j * 2) 2 = some (.agg [.int .i64 (i : Int), .int .i64 M[j].2]) := by
      have := part_encL hl
      rw [hi] at this
      exact this
    have hnx : (M.map fun m => [z0, z1, z2].set m.1.toNat m.2).take (j + 1) = (M.map fun m => [z0, z1, z2].set m.1.toNat m.2).take j ++ [[t0, t1, t2]] := by
      rw [take_map_succ _ _ hjl, hit, ht]
    have hsn := bfsIn_snoc (v + 1) es ((M.map fun m => [z0, z1, z2].set m.1.toNat m.2).take j) [t0, t1, t2]
    rw [← hnx] at hsn
    obtain ⟨more, m1, m2, m3, m4⟩ := bfsIn_ext (v + 1) ((M.map fun m => [z0, z1, z2].set m.1.toNat m.2).take j) es hd
    have hPj : ∀ q ∈ bfsIn (v + 1) es ((M.map fun m => [z0, z1, z2].set m.1.toNat m.2).take j), Good x a b ls q.1 := bfsIn_all _ _ _ hP (fun t ht => by
      obtain ⟨m, hm, rfl⟩ := List.mem_map.mp (List.mem_of_mem_take ht)
      obtain ⟨jj, hjj⟩ := List.getElem?_of_mem hm
      obtain ⟨hjl', rfl⟩ := List.getElem?_eq_some_iff.mp hjj
      exact hgood jj hjl')
    have hlenj := hbox.le m3 hPj
    have hnj : n ≤ (bfsIn (v + 1) es ((M.map fun m => [z0, z1, z2].set m.1.toNat m.2).take j)).length := by rw [m1, List.length_append]; omega
    have hzj : mget (bfsIn (v + 1) es ((M.map fun m => [z0, z1, z2].set m.1.toNat m.2).take j)) [z0, z1, z2] = some v := mget_of_mem m3 (by rw [m1]; exact List.mem_append_left _ (mget_mem hzv))
    rw [← hesj] at hsn m1 m3 hPj hlenj hnj hzj m4
    have hnbm := cells_more hnb'
    have hqbm := cells_more hqb'
    have hmpm := mapAt_more S'.mp
    have hnb0 := cellsAt_of hnb'
    have hqb0 := cellsAt_of hqb'
    have hmp0 := mapAt_of S'.mp
    have hmbl := get_lt S'.mp
    have hnbl := get_lt hnb'
    have hqbl := get_lt hqb'
    have hsetm : ∀ (X : List Blk) (y : Blk), (L' ++ X).set mb y = L'.set mb y ++ X := fun X y => List.set_append_left _ _ hmbl
    have hi4 : (i : Int) < 3 := by omega
    have hle1 : i + 1 ≤ 3 := by omega
    have hwv : IntKind.i64.wrap (v + 1) = v + 1 := wrap64 (by omega) (by omega)
    cases hs : mget esj [t0, t1, t2] with
    | some u =>
      simp (maxSteps := 2000000) +contextual only [w_i_Party_stepsFrom_1, fillParts, at02, at12, toNat0, toNat1, hjl, hw, hqbm, hnbm, hnb0, hqb0, hmp0, hpart, hi3, hi4, hle1, hset, hmpm, hkey, hs, Option.isSome_some, decide_true, decide_false, Wp_some, Wp_none, Wp_ite, Wc_some, Wc_none, Wc_ite, Wp_thenRun, seqQ_normal, seqQ_exit, seqQ_ret, Wp_inBlock, blkQ_normal, blkQ_ret, blkQ_same, blkQ_exit, Wp_opThen, opQ_at, Wp_guardP, retQ_normal, retQ_ret, loopQ_normal, loopQ_exit, loopQ_ret, go_sem, entry, joinEsc, if_pos, reduceIte, Nat.reduceAdd, Nat.reduceLeDiff, Nat.reduceLT, Nat.reduceEqDiff]
      rw [hs] at hsn
      simp only [Option.isSome_some, if_true] at hsn
      obtain ⟨pre, p1, p2⟩ := S'.td
      exact ⟨k - 1, by omega, j + 1, _, tb', to', len, tc', esj, _, _, _, _, _, by omega, hsn.symm, hlen, ⟨S'.gr.more _, S'.mbl, S'.tbl, S'.ne, get_more S'.mp _, ⟨pre, p1, get_more p2 _⟩, S'.cap⟩, get_more hnb' _, get_more hqb' _, e2, e4, rfl⟩
    | none =>
      simp (maxSteps := 2000000) +contextual only [w_i_Party_stepsFrom_1, fillParts, at02, at12, toNat0, toNat1, hjl, hw, hqbm, hnbm, hnb0, hqb0, hmp0, hpart, hi3, hi4, hle1, hset, hmpm, hkey, hs, hkz, hzj, hwv, hsetm, Option.isSome_none, decide_true, decide_false, Wp_some, Wp_none, Wp_ite, Wc_some, Wc_none, Wc_ite, Wp_thenRun, seqQ_normal, seqQ_exit, seqQ_ret, Wp_inBlock, blkQ_normal, blkQ_ret, blkQ_same, blkQ_exit, Wp_opThen, opQ_at, Wp_guardP, retQ_normal, retQ_ret, loopQ_normal, loopQ_exit, loopQ_ret, go_sem, entry, joinEsc, if_pos, reduceIte, Nat.reduceAdd, Nat.reduceLeDiff, Nat.reduceLT, Nat.reduceEqDiff]
      obtain ⟨L1, hL1⟩ : ∃ L1, L1 = L'.set mb (Blk.mp (mput esj [t0, t1, t2] (v + 1))) := ⟨_, rfl⟩
      have hlen1 : L1.length = L'.length := by rw [hL1]; exact List.length_set
      simp only [← hL1, ← hlen1]
      simp (maxSteps := 2000000) +contextual only [fillParts, Wp_some, Wp_none, Wp_ite, Wc_some, Wc_none, Wc_ite, Wp_thenRun, seqQ_normal, seqQ_exit, seqQ_ret, Wp_inBlock, blkQ_normal, blkQ_ret, blkQ_same, blkQ_exit, Wp_opThen, opQ_at, Wp_guardP, retQ_normal, retQ_ret, loopQ_normal, loopQ_exit, loopQ_ret, go_sem, entry, joinEsc, if_pos, reduceIte, Nat.reduceAdd, Nat.reduceLeDiff, Nat.reduceLT, Nat.reduceEqDiff]
      rw [hs] at hsn
      simp only [Option.isSome_none, Bool.false_eq_true, if_false] at hsn
      obtain ⟨pre, p1, p2⟩ := S'.td
      have htbl := get_lt p2
      have h1 : L1[tb']? = some (.cells (pre ++ encF (esj.drop n)) true) := by
        rw [hL1, List.getElem?_set_ne S'.ne]
        exact p2
      have hl3 : ∀ q ∈ esj.drop n, q.1.length = 3 := fun q hq => (hPj q (List.mem_of_mem_drop hq)).len
      refine wc_apO (k := 1) (new := [AV.int IntKind.i64 t0, AV.int IntKind.i64 t1, AV.int IntKind.i64 t2]) (get_more h1 _) p1 (src_new _ 1 3 _ _ (L1.length + 2) (by simp +contextual only [go_sem, entry, joinEsc, if_pos, reduceIte, Nat.reduceAdd, Nat.reduceLeDiff, Nat.reduceLT, Nat.reduceEqDiff]) rfl) (by rw [encF_length hl3, List.length_drop, hlen]) rfl (by unfold maxBytes; omega) (fun hh => by have := S'.cap 0 hh; omega) ?_
      intro L2 g1 g2 g3 g4
      simp (maxSteps := 2000000) +contextual only [hw, Wp_some, Wp_none, Wp_ite, Wc_some, Wc_none, Wc_ite, Wp_thenRun, seqQ_normal, seqQ_exit, seqQ_ret, Wp_inBlock, blkQ_normal, blkQ_ret, blkQ_same, blkQ_exit, Wp_opThen, opQ_at, Wp_guardP, retQ_normal, retQ_ret, loopQ_normal, loopQ_exit, loopQ_ret, go_sem, entry, joinEsc, if_pos, reduceIte, Nat.reduceAdd, Nat.reduceLeDiff, Nat.reduceLT, Nat.reduceEqDiff]
      have hb3 := S'.tbl
      have hgl := S'.gr.le
      have hmbb := S'.mbl
      have hg1 : Grown Bs L1 := by rw [hL1]; exact S'.gr.put S'.mbl _
      have hm1 : L1[mb]? = some (.mp (esj ++ [([t0, t1, t2], v + 1)])) := by rw [hL1, List.getElem?_set_self hmbl, mput_new _ hs]
      have hn1 : L1[nb]? = some (.cells [.int .i64 z0, .int .i64 z1, .int .i64 z2] true) := by rw [hL1, List.getElem?_set_ne (fun e => d1 e.symm)]; exact hnb'
      have hq1 : L1[qb]? = some (.cells (encL M) true) := by rw [hL1, List.getElem?_set_ne (fun e => d3 e.symm)]; exact hqb'
      have hX := g4 Bs (hg1.more _) hb3
      have q1 := (g2 mb S'.ne (by rw [List.length_append]; omega)).trans (get_more hm1 _)
      have q2 := (g2 nb e2 (by rw [List.length_append]; omega)).trans (get_more hn1 _)
      have q3 := (g2 qb e4 (by rw [List.length_append]; omega)).trans (get_more hq1 _)
      simp only [List.length_append, List.length_cons, List.length_nil, Nat.zero_add, Nat.reduceAdd] at g1 g3
      have henc : encF ((esj ++ [([t0, t1, t2], v + 1)]).drop n) = encF (esj.drop n) ++ [AV.int IntKind.i64 t0, AV.int IntKind.i64 t1, AV.int IntKind.i64 t2] := by
        rw [List.drop_append_of_le_length hnj, encF_append]
        rfl
      exact ⟨k - 1, by omega, j + 1, L2, L1.length + 3, 0, len + 1, none, _, _, _, _, _, _, by omega, hsn.symm, by rw [List.length_append]; simp only [List.length_cons, List.length_nil]; omega,
        ⟨hX, hmbb, by omega, by omega, q1, ⟨[], rfl, by rw [henc]; exact g3⟩, fun c h => by cases h⟩, q2, q3, by omega, by omega, rfl⟩

end Go.Proofs.Ythkgpblohjpcdaa.Slim

/- Planks: the search in the program, told whole. -/
namespace Go.Proofs.Ythkgpblohjpcdaa.Slim

open Go

set_option linter.unusedSimpArgs false

set_option linter.unusedVariables false

variable {pr : Prims} {H : List Blk} {e : Option Nat}

theorem gr_cells {X : List Blk} {L : List Blk} {q : Nat} {cs : List AV} (hq : cellsAt H q = some cs) (hg : Grown (H ++ X) L) : cellsAt L q = some cs := by
  obtain ⟨G, rfl⟩ := hg
  rw [List.append_assoc]
  exact cells_mono hq _

theorem gr_H {X : List Blk} {L : List Blk} (hg : Grown (H ++ X) L) : Grown H L := by
  obtain ⟨G, rfl⟩ := hg
  exact ⟨X ++ G, by simp⟩

theorem gr_at {X : List Blk} {L : List Blk} (k : Nat) (hk : k < X.length) (hg : Grown (H ++ X) L) : L[H.length + k]? = X[k]? := by
  obtain ⟨G, rfl⟩ := hg
  rw [List.append_assoc, List.getElem?_append_right (by omega), Nat.add_sub_cancel_left, List.getElem?_append_left hk]

theorem e_i_Party_stepsFrom {q : Nat} {c : Option Nat} {ls : List Ld} {x a b s z0 z1 z2 : Int} (h : cellsAt H q = some (encL ls)) (K : Plk x a b s ls) (G : Good x a b ls [z0, z1, z2]) : call T pr f_i_Party_stepsFrom [ptV x a b (slL q ls.length c) s, spV z0 z1 z2] ⟨H, e⟩ =
    some (.map (some H.length), ⟨H ++ [.mp (bfsAll (nxP x a b s ls) [z0, z1, z2])], e⟩) := by
  obtain ⟨hbox, hN⟩ := K.box
  have hnx : ∀ z, Good x a b ls z → ∀ t ∈ nxP x a b s ls z, Good x a b ls t := fun z hz t ht => hz.next K ht
  have hI := G.in64 K
  have hkey := keyZ_three hI.1 hI.2.1 hI.2.2
  apply Wc.eq
  rw [call_wc t_i_Party_stepsFrom]
  simp (maxSteps := 2000000) +contextual only [a_i_Party_stepsFrom, c_i_Party_stepsFrom, fillParts, hkey, Wp_some, Wp_none, Wp_ite, Wc_some, Wc_none, Wc_ite, Wp_thenRun, seqQ_normal, seqQ_exit, seqQ_ret, Wp_inBlock, blkQ_normal, blkQ_ret, blkQ_same, blkQ_exit, Wp_opThen, opQ_at, Wp_guardP, retQ_normal, retQ_ret, loopQ_normal, loopQ_exit, loopQ_ret, go_sem, entry, joinEsc, if_pos, reduceIte, Nat.reduceAdd, Nat.reduceLeDiff, Nat.reduceLT, Nat.reduceEqDiff]
  obtain ⟨A, hA⟩ : ∃ A : Blk, A = .cells [.int .i64 x, .int .i64 a, .int .i64 b, slL q ls.length c, .int .i64 s] true := ⟨_, rfl⟩
  obtain ⟨B, hB⟩ : ∃ B : Blk, B = .cells [.int .i64 z0, .int .i64 z1, .int .i64 z2] true := ⟨_, rfl⟩
  refine Wp_loop (fun k st => ∃ (n : Nat) (es : Found) (L : List Blk) (tb to len : Nat) (tc : Option Nat) (w7 w8 w9 w10 w11 w12 w13 w14 w15 w16 : AV), n + k = 2198 ∧ n ≤ es.length ∧ len = es.length - n ∧ Stage (nxP x a b s ls) [z0, z1, z2] (Good x a b ls) n es ∧ SF (H ++ [A, B]) L (H.length + 2) tb to tc es n ∧
    st = ⟨[ptV x a b (slL q ls.length c) s, spV z0 z1 z2, .ptr (some (H.length, 0)), .ptr (some (H.length + 1, 0)), .map none, .map (some (H.length + 2)), .slice (some (tb, to)) 3 len tc, w7, w8, w9, w10, w11, w12, w13, w14, w15, w16], ⟨L, none⟩⟩) ?_ 2198 _ ?_
  rotate_left
  · refine ⟨0, [([z0, z1, z2], 0)], _, H.length + 3, 0, 1, some 1, _, _, _, _, _, _, _, _, _, _, rfl, by simp, rfl, Stage.start G, ⟨⟨[.mp [([z0, z1, z2], 0)], .cells [.int .i64 z0, .int .i64 z1, .int .i64 z2] true], ?_⟩, by simp, by simp, by omega, ?_, ⟨[], rfl, ?_⟩, fun c h => by cases h; simp⟩, rfl⟩
    · rw [hA, hB]
      simp [mput]
    · rw [blkAt_newk]
      rfl
    · rw [blkAt_newk]
      rfl
  rintro k _ ⟨n, es, L, tb, to, len, tc, w7, w8, w9, w10, w11, w12, w13, w14, w15, w16, hk, hn, hlen, St, S, rfl⟩
  obtain ⟨pre, p1, p2⟩ := S.td
  have htb := S.tbl
  have hgH := gr_H S.gr
  cases hp : es[n]? with
  | none =>
    have h0 : len = 0 := by
      have := List.getElem?_eq_none_iff.mp hp
      omega
    subst h0
    have hd : decide ((0 : Int) < ((0 : Nat) : Int)) = false := by decide
    have hd' : ¬ ((0 : Int) < ((0 : Nat) : Int)) := by omega
    have hf := finish_mp hgH e (by omega) S.mp
    rw [← St.done hp] at hf
    simp (maxSteps := 2000000) +contextual only [w_i_Party_stepsFrom_2, hd, hd', hf, decide_false, Wp_some, Wp_none, Wp_ite, Wc_some, Wc_none, Wc_ite, Wp_thenRun, seqQ_normal, seqQ_exit, seqQ_ret, Wp_inBlock, blkQ_normal, blkQ_ret, blkQ_same, blkQ_exit, Wp_opThen, opQ_at, Wp_guardP, retQ_normal, retQ_ret, loopQ_normal, loopQ_exit, loopQ_ret, go_sem, entry, joinEsc, if_pos, reduceIte, Nat.reduceAdd, Nat.reduceLeDiff, Nat.reduceLT, Nat.reduceEqDiff]
  | some p =>
    obtain ⟨t, v⟩ := p
    have hnl := get_lt hp
    have hpm : (t, v) ∈ es := List.mem_of_getElem? hp
    have Gt : Good x a b ls t := St.all _ hpm
    obtain ⟨t0, t1, t2, rfl⟩ := Gt.three
    have hdr : es.drop n = ([t0, t1, t2], v) :: es.drop (n + 1) := by
      have h1 := List.drop_eq_getElem_cons hnl
      rw [List.getElem?_eq_getElem hnl] at hp
      rw [h1, Option.some.inj hp]
    rw [hdr, encF_cons] at p2
    simp only [List.map_cons, List.map_nil, List.cons_append, List.nil_append] at p2
    have hlen0 : decide ((0 : Int) < (len : Int)) = true := decide_eq_true (by omega)
    have hlen1 : (0 : Int) < (len : Int) := by omega
    have hpart : part true (pre ++ (.int .i64 t0 :: .int .i64 t1 :: .int .i64 t2 :: encF (es.drop (n + 1)))) to 3 = some (.agg [.int .i64 t0, .int .i64 t1, .int .i64 t2]) := by
      rw [part_true, ← p1, if_pos (by simp), List.drop_left]
      rfl
    have htbm := cells_more p2
    have htb0 := cellsAt_of p2
    have hA0 : ∀ G, cellsAt (L ++ G) H.length = some [.int .i64 x, .int .i64 a, .int .i64 b, slL q ls.length c, .int .i64 s] := fun G => by
      have := gr_at 0 (by simp) S.gr
      rw [Nat.add_zero] at this
      rw [hA] at this
      exact cells_more this G
    have hq0 : ∀ G, cellsAt (L ++ G) q = some (encL ls) := fun G => cells_mono (gr_cells h S.gr) G
    have hsl : slLoV 3 (.slice (some (tb, to)) 3 len tc) (.int .i64 1) = some (.slice (some (tb, to + 3)) 3 (len - 1) (tc.map (· - 1))) := by
      have := slLoV_c 3 tb to len 1 tc (by omega)
      simpa using this
    obtain ⟨cap, hmv⟩ := e_i_Party_moves (pr := pr) (e := none) (c := c) (hq0 [.cells [.int .i64 t0, .int .i64 t1, .int .i64 t2] true]) K.n3 x a b s t0 t1 t2
    simp only [List.length_append, List.append_assoc, List.cons_append, List.nil_append, List.length_cons, List.length_nil, Nat.zero_add] at hmv
    simp (maxSteps := 2000000) +contextual only [w_i_Party_stepsFrom_2, fillParts, gt_iff_lt, Int.le_refl, toNat0, Nat.zero_mul, hlen0, hlen1, htbm, htb0, hA0, hpart, aop_slLo, hsl, hmv, decide_true, Wp_some, Wp_none, Wp_ite, Wc_some, Wc_none, Wc_ite, Wp_thenRun, seqQ_normal, seqQ_exit, seqQ_ret, Wp_inBlock, blkQ_normal, blkQ_ret, blkQ_same, blkQ_exit, Wp_opThen, opQ_at, Wp_guardP, retQ_normal, retQ_ret, loopQ_normal, loopQ_exit, loopQ_ret, go_sem, entry, joinEsc, if_pos, reduceIte, Nat.reduceAdd, Nat.reduceLeDiff, Nat.reduceLT, Nat.reduceEqDiff]
    rw [show len - 1 = es.length - (n + 1) by omega]
    have hmbl := get_lt S.mp
    have htbl := get_lt p2
    have hv := St.val _ hpm
    have hle := hbox.le St.bi.nd St.all
    have hlast1 : (L ++ [Blk.cells [AV.int IntKind.i64 t0, AV.int IntKind.i64 t1, AV.int IntKind.i64 t2] true, Blk.cells (encL (mvs x a b s (putL ls [t0, t1, t2]))) true])[L.length]? = some (.cells [.int .i64 t0, .int .i64 t1, .int .i64 t2] true) := by
      rw [List.getElem?_append_right (Nat.le_refl _), Nat.sub_self]
      rfl
    have hlast2 : (L ++ [Blk.cells [AV.int IntKind.i64 t0, AV.int IntKind.i64 t1, AV.int IntKind.i64 t2] true, Blk.cells (encL (mvs x a b s (putL ls [t0, t1, t2]))) true])[L.length + 1]? = some (.cells (encL (mvs x a b s (putL ls [t0, t1, t2]))) true) := by
      rw [List.getElem?_append_right (by omega), Nat.add_sub_cancel_left]
      rfl
    refine (sf_in (Bs := H ++ [A, B]) (n := n + 1) (v := v) (es := es) (mc := cap) (L := L ++ [Blk.cells [AV.int IntKind.i64 t0, AV.int IntKind.i64 t1, AV.int IntKind.i64 t2] true, Blk.cells (encL (mvs x a b s (putL ls [t0, t1, t2]))) true]) rfl K Gt St.all St.bi.nd (mget_of_mem St.bi.nd hpm) (St.bi.par _ _ hpm).1 (by simp only at hv; omega) ⟨S.gr.more _, S.mbl, S.tbl, S.ne, get_more S.mp _, ⟨pre ++ [.int .i64 t0, .int .i64 t1, .int .i64 t2], by rw [List.length_append, p1]; rfl, by rw [List.append_assoc]; exact get_more p2 _⟩, ?_⟩ (by omega) hlast1 hlast2 (by omega) (by omega) (by omega) (by omega)).mono ?_
    · intro c hc
      obtain ⟨c', hc', rfl⟩ := Option.map_eq_some_iff.mp hc
      have := S.cap c' hc'
      omega
    rintro _ _ ⟨rfl, L', tb', to', tc', v8, v9, v10, v12, v13, v14, v15, v16, S', rfl⟩
    simp (maxSteps := 2000000) +contextual only [Wp_some, Wp_none, Wp_ite, Wc_some, Wc_none, Wc_ite, Wp_thenRun, seqQ_normal, seqQ_exit, seqQ_ret, Wp_inBlock, blkQ_normal, blkQ_ret, blkQ_same, blkQ_exit, Wp_opThen, opQ_at, Wp_guardP, retQ_normal, retQ_ret, loopQ_normal, loopQ_exit, loopQ_ret, go_sem, entry, joinEsc, if_pos, reduceIte, Nat.reduceAdd, Nat.reduceLeDiff, Nat.reduceLT, Nat.reduceEqDiff]
    have hlen' : n + 1 ≤ (bfsIn (v + 1) es (nxP x a b s ls [t0, t1, t2])).length := by
      obtain ⟨more, m1, _⟩ := bfsIn_ext (v + 1) (nxP x a b s ls [t0, t1, t2]) es St.bi.nd
      rw [m1, List.length_append]
      omega
    exact ⟨k - 1, by omega, n + 1, _, L', tb', to', _, tc', _, _, _, _, _, _, _, _, _, _, by omega, hlen', rfl, St.step hbox hN hnx hp, S', rfl⟩

end Go.Proofs.Ythkgpblohjpcdaa.Slim

/- Planks: the search in the other program. -/
namespace Go.Proofs.Ythkgpblohjpcdaa.Slim

open Go

set_option linter.unusedSimpArgs false

set_option linter.unusedVariables false

variable {pr : Prims} {H : List Blk} {e : Option Nat}

theorem keyN_le {d : Nat} (hd : d ≤ 12) {n : Nat} (hn : n ≤ 3) {z : List Int} (h : ∀ i, i < n → 0 ≤ z.getD i 0 ∧ z.getD i 0 ≤ (d : Int)) : keyN d n z ≤ 2197 := by
  have h1 := keyN_lt d n z h
  have h2 := pow_le hn hd
  omega

theorem e_s_l11Key {q d : Nat} {c : Option Nat} {ls : List Ld} (h : cellsAt H q = some (encL ls)) (hn : ls.length ≤ 3) (hd : d ≤ 12) (hpl : ∀ l ∈ ls, 0 ≤ l.1 ∧ l.1 ≤ (d : Int)) (a b s : Int) : call T pr f_s_l11Key [ptV (d : Int) a b (slL q ls.length c) s] ⟨H, e⟩ =
    some (.int .i64 ((keyN d ls.length (ls.map fun l => l.1) : Nat) : Int), ⟨H, e⟩) := by
  have hon : ∀ i, i < ls.length → 0 ≤ (ls.map fun l => l.1).getD i 0 ∧ (ls.map fun l => l.1).getD i 0 ≤ (d : Int) := by
    intro i hi
    have := hpl _ (List.getElem_mem hi)
    simpa [List.getD_eq_getElem?_getD, hi] using this
  apply Wc.eq
  rw [call_wc t_s_l11Key]
  simp (maxSteps := 2000000) +contextual only [a_s_l11Key, c_s_l11Key, fillParts, Wp_some, Wp_none, Wp_ite, Wc_some, Wc_none, Wc_ite, Wp_thenRun, seqQ_normal, seqQ_exit, seqQ_ret, Wp_inBlock, blkQ_normal, blkQ_ret, blkQ_same, blkQ_exit, Wp_opThen, opQ_at, Wp_guardP, retQ_normal, retQ_ret, loopQ_normal, loopQ_exit, loopQ_ret, go_sem, entry, joinEsc, if_pos, reduceIte, Nat.reduceAdd, Nat.reduceLeDiff, Nat.reduceLT, Nat.reduceEqDiff]
  refine Wp_loop (fun k st => ∃ (i : Nat) (w5 : AV), i + k = ls.length ∧ st = ⟨[ptV (d : Int) a b (slL q ls.length c) s, .ptr (some (H.length, 0)), .int .i64 0, .int .i64 ((keyN d i (ls.map fun l => l.1) : Nat) : Int), .int .i64 i, w5], ⟨H ++ [.cells [.int .i64 d, .int .i64 a, .int .i64 b, slL q ls.length c, .int .i64 s] true], none⟩⟩) ?_ ls.length _ ⟨0, _, by omega, rfl⟩
  rintro k _ ⟨i, w5, hi, rfl⟩
  have hq := cells_mono h [.cells [.int .i64 d, .int .i64 a, .int .i64 b, slL q ls.length c, .int .i64 s] true]
  by_cases hk : k = 0
  · have he : i = ls.length := by omega
    subst he
    simp (maxSteps := 2000000) +contextual only [w_s_l11Key_1, Nat.lt_irrefl, decide_false, Wp_some, Wp_none, Wp_ite, Wc_some, Wc_none, Wc_ite, Wp_thenRun, seqQ_normal, seqQ_exit, seqQ_ret, Wp_inBlock, blkQ_normal, blkQ_ret, blkQ_same, blkQ_exit, Wp_opThen, opQ_at, Wp_guardP, retQ_normal, retQ_ret, loopQ_normal, loopQ_exit, loopQ_ret, go_sem, entry, joinEsc, if_pos, reduceIte, Nat.reduceAdd, Nat.reduceLeDiff, Nat.reduceLT, Nat.reduceEqDiff]
  · have hil : i < ls.length := by omega
    have hl : ls[i]? = some ls[i] := List.getElem?_eq_getElem hil
    have hw := wrap_succ (show i < 9223372036854775807 by omega)
    have hwd := wrap_succ (show d < 9223372036854775807 by omega)
    have hp := hpl _ (List.getElem_mem hil)
    have hg : (ls.map fun l => l.1).getD i 0 = ls[i].1 := by simp [List.getD_eq_getElem?_getD, hil]
    have hk1 := keyN_le hd (n := i) (by omega) (z := ls.map fun l => l.1) (fun j hj => hon j (by omega))
    have hk2 := keyN_le hd (n := i + 1) (by omega) (z := ls.map fun l => l.1) (fun j hj => hon j (by omega))
    have hk3 : keyN d (i + 1) (ls.map fun l => l.1) = keyN d i (ls.map fun l => l.1) * (d + 1) + ls[i].1.toNat := by rw [keyN, hg]
    have w1 : IntKind.i64.wrap (((keyN d i (ls.map fun l => l.1) : Nat) : Int) * ((d + 1 : Nat) : Int)) = ((keyN d i (ls.map fun l => l.1) * (d + 1) : Nat) : Int) := by rw [← Int.natCast_mul]; exact wrapN (by omega)
    have w2 : IntKind.i64.wrap (((keyN d i (ls.map fun l => l.1) * (d + 1) : Nat) : Int) + ls[i].1) = ((keyN d (i + 1) (ls.map fun l => l.1) : Nat) : Int) := by
      rw [wrap64 (by omega) (by omega), hk3]
      omega
    simp (maxSteps := 2000000) +contextual only [w_s_l11Key_1, hil, hl, hq, part_encL0 _ hl, hw, hwd, w1, w2, decide_true, Wp_some, Wp_none, Wp_ite, Wc_some, Wc_none, Wc_ite, Wp_thenRun, seqQ_normal, seqQ_exit, seqQ_ret, Wp_inBlock, blkQ_normal, blkQ_ret, blkQ_same, blkQ_exit, Wp_opThen, opQ_at, Wp_guardP, retQ_normal, retQ_ret, loopQ_normal, loopQ_exit, loopQ_ret, go_sem, entry, joinEsc, if_pos, reduceIte, Nat.reduceAdd, Nat.reduceLeDiff, Nat.reduceLT, Nat.reduceEqDiff]
    exact ⟨k - 1, by omega, i + 1, _, by omega, rfl⟩

def outF (d n : Nat) (es : Found) : List Int := (List.range ((d + 1) ^ n)).map fun k => (mget es (spotsN d n k)).getD (-1)

theorem outF_len (d n : Nat) (es : Found) : (outF d n es).length = (d + 1) ^ n := by simp [outF]

theorem outF_at {d n : Nat} (es : Found) {k : Nat} (h : k < (d + 1) ^ n) : (outF d n es)[k]? = some ((mget es (spotsN d n k)).getD (-1)) := by
  unfold outF
  rw [List.getElem?_map, List.getElem?_range h]
  rfl

theorem outF_get {d n : Nat} (hn : n ≤ 3) (es : Found) {t : List Int} (B : Box0 (d : Int) n t) : (outF d n es)[keyN d n t]? = some ((mget es t).getD (-1)) := by
  rw [outF_at es ((boxN hn).lt t B), spotsN_keyN hn B]

theorem outF_set {d n : Nat} (hn : n ≤ 3) {es : Found} {t : List Int} (B : Box0 (d : Int) n t) (v : Int) (h : mget es t = none) : (outF d n es).set (keyN d n t) v = outF d n (es ++ [(t, v)]) := by
  refine List.ext_getElem? fun k => ?_
  have hb := boxN (d := d) hn
  by_cases hk : k < (d + 1) ^ n
  · rw [List.getElem?_set, outF_at _ hk, outF_at _ hk, outF_len, mget_append]
    by_cases he : keyN d n t = k
    · subst he
      rw [if_pos rfl, if_pos hk, spotsN_keyN hn B, h]
      simp
    · rw [if_neg he]
      have hne : ¬ t = spotsN d n k := fun e => he (by rw [e]; exact keyN_spotsN hk)
      cases hg : mget es (spotsN d n k) with
      | some u => rfl
      | none => simp [hne]
  · rw [List.getElem?_eq_none (by rw [List.length_set, outF_len]; omega), List.getElem?_eq_none (by rw [outF_len]; omega)]

theorem outF_nil (d n : Nat) : outF d n [] = List.replicate ((d + 1) ^ n) (-1) := by
  unfold outF
  refine List.ext_getElem? fun k => ?_
  rw [List.getElem?_map, List.getElem?_replicate]
  by_cases hk : k < (d + 1) ^ n
  · rw [List.getElem?_range hk, if_pos hk]
    rfl
  · rw [List.getElem?_eq_none (by simp; omega), if_neg hk]
    rfl

end Go.Proofs.Ythkgpblohjpcdaa.Slim

/- Planks: the search in the other program, its loops. -/
namespace Go.Proofs.Ythkgpblohjpcdaa.Slim

open Go

set_option linter.unusedSimpArgs false

set_option linter.unusedVariables false

variable {pr : Prims} {H : List Blk} {e : Option Nat}

def keyF (d n : Nat) (es : Found) : List Int := es.map fun q => ((keyN d n q.1 : Nat) : Int)

theorem keyF_append (d n : Nat) (a b : Found) : keyF d n (a ++ b) = keyF d n a ++ keyF d n b := by simp [keyF]

structure SG (Bs L : List Blk) (d n ob lb : Nat) (lc : Option Nat) (es : Found) : Prop where
  gr : Grown Bs L
  obl : Bs.length ≤ ob
  lbl : Bs.length ≤ lb
  ne : ob ≠ lb
  out : L[ob]? = some (.cells (encI (outF d n es)) true)
  lst : L[lb]? = some (.cells (encI (keyF d n es)) true)
  cap : lc ≠ some 0

theorem putL_fst {ls : List Ld} {z : List Int} {i : Nat} (h : i < ls.length) : ((putL ls z).map fun l => l.1).getD i 0 = z.getD i 0 := by
  simp only [List.getD_eq_getElem?_getD, List.getElem?_map, putL_get ls z i h, Option.map_some, Option.getD_some]

theorem putL_on {x : Int} {ls : List Ld} {z : List Int} (B : Box0 x ls.length z) : ∀ l ∈ putL ls z, 0 ≤ l.1 ∧ l.1 ≤ x := by
  intro l hl
  obtain ⟨i, hi⟩ := List.getElem?_of_mem hl
  have hlt := get_lt hi
  rw [putL_length] at hlt
  rw [putL_get ls z i hlt] at hi
  cases hi
  exact B.on i hlt

theorem key_put {d : Nat} {ls : List Ld} (z : List Int) : keyN d ls.length ((putL ls z).map fun l => l.1) = keyN d ls.length z :=
  keyN_congr d _ _ _ (fun i hi => putL_fst hi)

theorem sg_in {Bs L : List Blk} {d : Nat} {a b s v : Int} {ls : List Ld} {z : List Int} {w0 w1 w2 w4 w10 w11 w12 w13 w14 : AV} {ob lb nb qn qb n : Nat} {qc mc lc : Option Nat} {es : Found} {M : List Ld} (hM : M = mvs (d : Int) a b s (putL ls z)) (K : Plk (d : Int) a b s ls) (G : Good (d : Int) a b ls z) (hP : ∀ q ∈ es, Good (d : Int) a b ls q.1) (hd : (es.map (·.1)).Nodup) (hpos : ∀ q ∈ es, 0 ≤ q.2) (hzv : es[n]? = some (z, v)) (hv : v ≤ 100000)
    (S : SG Bs L d ls.length ob lb lc es) (hnb : L[nb]? = some (.cells [.int .i64 d, .int .i64 a, .int .i64 b, slL qn ls.length qc, .int .i64 s] true)) (hqn : L[qn]? = some (.cells (encL (putL ls z)) true)) (hqb : L[qb]? = some (.cells (encL M) true)) (d1 : nb ≠ ob) (d2 : nb ≠ lb) (d3 : qb ≠ ob) (d4 : qb ≠ lb) (d5 : qn ≠ ob) (d6 : qn ≠ lb) :
    Wp (run T pr (.loop w_s_l11Spread_2) ⟨[w0, w1, w2, .slice (some (ob, 0)) 1 ((d + 1) ^ ls.length) (some ((d + 1) ^ ls.length)), w4, slI lb es.length lc, .int .i64 n, .ptr (some (nb, 0)), slL qb M.length mc, .int .i64 0, w10, w11, w12, w13, w14], ⟨L, none⟩⟩)
      (fun ex st => ex = .exit 4 ∧ ∃ (L' : List Blk) (lb' len : Nat) (lc' : Option Nat) (v8 v9 v10 v13 v14 : AV), SG Bs L' d ls.length ob lb' lc' (bfsIn (v + 1) es (nxP (d : Int) a b s ls z)) ∧ len = (bfsIn (v + 1) es (nxP (d : Int) a b s ls z)).length ∧ st = ⟨[w0, w1, w2, .slice (some (ob, 0)) 1 ((d + 1) ^ ls.length) (some ((d + 1) ^ ls.length)), w4, slI lb' len lc', .int .i64 n, .ptr (some (nb, 0)), v8, v9, v10, w11, w12, v13, v14], ⟨L', none⟩⟩) := by
  have hn3 := K.n3
  have hd12 : d ≤ 12 := by have := K.x12; omega
  have hMn : M.length ≤ 6 := by
    rw [hM]
    exact Nat.le_trans (mvs_le (d : Int) a b s _ _ _) (by rw [putL_length]; omega)
  have hbox : Box (Good (d : Int) a b ls) ((d + 1) ^ ls.length) (keyN d ls.length) := (boxN (d := d) K.n3).sub (fun z G => G.toBox0)
  have hN := pow_le hn3 hd12
  have hts : nxP (d : Int) a b s ls z = M.map fun m => z.set m.1.toNat m.2 := by rw [hM]; rfl
  rw [hts]
  have hmem : ∀ m ∈ M, m ∈ mvs (d : Int) a b s (putL ls z) := fun m hm => hM ▸ hm
  have hgood : ∀ j (hj : j < M.length), Good (d : Int) a b ls (z.set M[j].1.toNat M[j].2) := by
    intro j hj
    refine G.next K ?_
    rw [hts]
    exact List.mem_map_of_mem (f := fun m : Ld => z.set m.1.toNat m.2) (List.getElem_mem hj)
  refine Wp_loop (fun k st => ∃ (j : Nat) (L' : List Blk) (lb' len : Nat) (lc' : Option Nat) (esj : Found) (v10 v13 v14 : AV), j + k = M.length ∧ esj = bfsIn (v + 1) es ((M.map fun m => z.set m.1.toNat m.2).take j) ∧ len = esj.length ∧ SG Bs L' d ls.length ob lb' lc' esj ∧ L'[nb]? = some (.cells [.int .i64 d, .int .i64 a, .int .i64 b, slL qn ls.length qc, .int .i64 s] true) ∧ L'[qn]? = some (.cells (encL (putL ls z)) true) ∧ L'[qb]? = some (.cells (encL M) true) ∧ nb ≠ lb' ∧ qb ≠ lb' ∧ qn ≠ lb' ∧
    st = ⟨[w0, w1, w2, .slice (some (ob, 0)) 1 ((d + 1) ^ ls.length) (some ((d + 1) ^ ls.length)), w4, slI lb' len lc', .int .i64 n, .ptr (some (nb, 0)), slL qb M.length mc, .int .i64 j, v10, w11, w12, v13, v14], ⟨L', none⟩⟩) ?_ M.length _ ?_
  rotate_left
  · exact ⟨0, L, lb, _, lc, es, w10, w13, w14, by omega, rfl, rfl, S, hnb, hqn, hqb, d2, d4, d6, rfl⟩
  rintro k _ ⟨j, L', lb', len, lc', esj, v10, v13, v14, hj, hesj, hlen, S', hnb', hqn', hqb', e2, e4, e6, rfl⟩
  by_cases hk : k = 0
  · have he : j = M.length := by omega
    subst he
    rw [List.take_of_length_le (by simp)] at hesj
    simp (maxSteps := 2000000) +contextual only [w_s_l11Spread_2, Nat.lt_irrefl, decide_false, Wp_some, Wp_none, Wp_ite, Wc_some, Wc_none, Wc_ite, Wp_thenRun, seqQ_normal, seqQ_exit, seqQ_ret, Wp_inBlock, blkQ_normal, blkQ_ret, blkQ_same, blkQ_exit, Wp_opThen, opQ_at, Wp_guardP, retQ_normal, retQ_ret, loopQ_normal, loopQ_exit, loopQ_ret, go_sem, entry, joinEsc, if_pos, reduceIte, Nat.reduceAdd, Nat.reduceLeDiff, Nat.reduceLT, Nat.reduceEqDiff]
    subst hesj
    exact ⟨_, _, _, _, _, _, _, _, _, S', hlen, rfl⟩
  · have hjl : j < M.length := by omega
    have hw := wrap_succ (show j < 9223372036854775807 by omega)
    have hl : M[j]? = some M[j] := List.getElem?_eq_getElem hjl
    obtain ⟨i, hi, hi2⟩ := mvs_range (x := (d : Int)) (a := a) (b := b) (s := s) (ls := putL ls z) (m := M[j]) (hmem _ (List.getElem_mem hjl))
    rw [putL_length] at hi2
    have hi3 : i < 3 := by omega
    have hit : M[j].1.toNat = i := by rw [hi]; exact Int.toNat_natCast i
    have hGt := hgood j hjl
    rw [hit] at hGt
    have hpart : part true (encL M) (j * 2) 2 = some (.agg [.int .i64 (i : Int), .int .i64 M[j].2]) := by
      have := part_encL hl
      rw [hi] at this
      exact this
    have hnx : (M.map fun m => z.set m.1.toNat m.2).take (j + 1) = (M.map fun m => z.set m.1.toNat m.2).take j ++ [z.set i M[j].2] := by
      rw [take_map_succ _ _ hjl, hit]
    have hsn := bfsIn_snoc (v + 1) es ((M.map fun m => z.set m.1.toNat m.2).take j) (z.set i M[j].2)
    rw [← hnx] at hsn
    obtain ⟨more, m1, m2, m3, m4⟩ := bfsIn_ext (v + 1) ((M.map fun m => z.set m.1.toNat m.2).take j) es hd
    have hPj : ∀ q ∈ bfsIn (v + 1) es ((M.map fun m => z.set m.1.toNat m.2).take j), Good (d : Int) a b ls q.1 := bfsIn_all _ _ _ hP (fun t ht => by
      obtain ⟨m, hm, rfl⟩ := List.mem_map.mp (List.mem_of_mem_take ht)
      obtain ⟨jj, hjj⟩ := List.getElem?_of_mem hm
      obtain ⟨hjl', rfl⟩ := List.getElem?_eq_some_iff.mp hjj
      exact hgood jj hjl')
    have hlenj := hbox.le m3 hPj
    have hzm : (z, v) ∈ es := List.mem_of_getElem? hzv
    have hnl := get_lt hzv
    have hv0 := hpos _ hzm
    have hposj : ∀ q ∈ bfsIn (v + 1) es ((M.map fun m => z.set m.1.toNat m.2).take j), 0 ≤ q.2 := by
      intro q hq
      rw [m1, List.mem_append] at hq
      rcases hq with hq | hq
      · exact hpos q hq
      · have := (m2 q hq).1; simp only at hv0; omega
    have hzj : mget (bfsIn (v + 1) es ((M.map fun m => z.set m.1.toNat m.2).take j)) z = some v := mget_of_mem m3 (by rw [m1]; exact List.mem_append_left _ hzm)
    have hnj : (bfsIn (v + 1) es ((M.map fun m => z.set m.1.toNat m.2).take j))[n]? = some (z, v) := by rw [m1, List.getElem?_append_left hnl]; exact hzv
    rw [← hesj] at hsn m1 m3 hPj hlenj hzj m4 hposj hnj
    have hnjl := get_lt hnj
    have hkl : n < len := by omega
    have hkat : (keyF d ls.length esj)[n]? = some ((keyN d ls.length z : Nat) : Int) := by
      unfold keyF
      rw [List.getElem?_map, hnj]
      rfl
    have ho1 := outF_get hn3 esj G.toBox0
    have ho2 := outF_get hn3 esj hGt.toBox0
    have hkz := hbox.lt z G
    have hkt := hbox.lt _ hGt
    rw [hzj] at ho1
    simp only [Option.getD_some] at ho1
    have hmvd := e_s_l11Moved (pr := pr) (H := L') (e := none) (c := qc) (ls := putL ls z) (q := qn) (cellsAt_of hqn') (by rw [putL_length]; exact hn3) (d : Int) a b s M[j].2 (i := i) (by rw [putL_length]; exact hi2)
    rw [← putL_set ls z i M[j].2 hi2 (by rw [G.len]; exact hn3)] at hmvd
    simp only [putL_length] at hmvd
    have hkey := e_s_l11Key (pr := pr) (H := L' ++ [.cells (encL (putL ls (z.set i M[j].2))) true]) (e := none) (c := none) (ls := putL ls (z.set i M[j].2)) (q := L'.length) (d := d) (by rw [cellsAt_new0]; rfl) (by rw [putL_length]; exact hn3) hd12 (putL_on hGt.toBox0) a b s
    simp only [putL_length, key_put] at hkey
    obtain ⟨kt, hkte⟩ : ∃ kt, kt = keyN d ls.length (z.set i M[j].2) := ⟨_, rfl⟩
    obtain ⟨kz, hkze⟩ : ∃ kz, kz = keyN d ls.length z := ⟨_, rfl⟩
    rw [← hkte] at hkey ho2 hkt
    rw [← hkze] at hkat ho1 hkz
    have hnbm := cells_more hnb'
    have hqbm := cells_more hqb'
    have hnb0 := cellsAt_of hnb'
    have hqb0 := cellsAt_of hqb'
    have hobm := cells_more S'.out
    have hob0 := cellsAt_of S'.out
    have hlbm := cells_more S'.lst
    have hlb0 := cellsAt_of S'.lst
    have hobl := get_lt S'.out
    have hlbl := get_lt S'.lst
    have hblk : ∀ X : List Blk, (L' ++ X)[ob]? = some (.cells (encI (outF d ls.length esj)) true) := fun X => get_more S'.out X
    have hsetm : ∀ (X : List Blk) (y : Blk), (L' ++ X).set ob y = L'.set ob y ++ X := fun X y => List.set_append_left _ _ hobl
    have hwv : IntKind.i64.wrap (v + 1) = v + 1 := wrap64 (by omega) (by omega)
    have hse := setRange_encI (X := outF d ls.length esj) (i := kt) (a := v + 1) (by rw [outF_len]; exact hkt)
    have hle : kt + 1 ≤ (encI (outF d ls.length esj)).length := by simp [encI, outF_len]; omega
    have hkt' : (kt : Int) < (((d + 1) ^ ls.length : Nat) : Int) := by omega
    have hkz' : (kz : Int) < (((d + 1) ^ ls.length : Nat) : Int) := by omega
    cases hs : mget esj (z.set i M[j].2) with
    | some u =>
      have hu : ¬ u < 0 := by
        have := hposj _ (mget_mem hs)
        simp only at this
        omega
      rw [hs] at ho2
      simp only [Option.getD_some] at ho2
      simp (maxSteps := 2000000) +contextual only [w_s_l11Spread_2, fillParts, hjl, hw, hqbm, hnbm, hnb0, hqb0, hpart, hmvd, hkey, hobm, hob0, part_encI _ ho2, hkt', hkt, hu, decide_true, decide_false, Wp_some, Wp_none, Wp_ite, Wc_some, Wc_none, Wc_ite, Wp_thenRun, seqQ_normal, seqQ_exit, seqQ_ret, Wp_inBlock, blkQ_normal, blkQ_ret, blkQ_same, blkQ_exit, Wp_opThen, opQ_at, Wp_guardP, retQ_normal, retQ_ret, loopQ_normal, loopQ_exit, loopQ_ret, go_sem, entry, joinEsc, if_pos, reduceIte, Nat.reduceAdd, Nat.reduceLeDiff, Nat.reduceLT, Nat.reduceEqDiff]
      rw [hs] at hsn
      simp only [Option.isSome_some, if_true] at hsn
      exact ⟨k - 1, by omega, j + 1, _, lb', len, lc', esj, _, _, _, by omega, hsn.symm, hlen, ⟨S'.gr.more _, S'.obl, S'.lbl, S'.ne, get_more S'.out _, get_more S'.lst _, S'.cap⟩, get_more hnb' _, get_more hqn' _, get_more hqb' _, e2, e4, e6, rfl⟩
    | none =>
      rw [hs] at ho2
      simp only [Option.getD_none] at ho2
      have hm1 : ((-1 : Int) < 0) := by omega
      simp (maxSteps := 2000000) +contextual only [w_s_l11Spread_2, fillParts, hjl, hw, hqbm, hnbm, hnb0, hqb0, hpart, hmvd, hkey, hobm, hob0, hlbm, hlb0, hblk, hsetm, hse, hle, part_encI _ ho2, part_encI _ ho1, part_encI _ hkat, hkl, hkt', hkt, hkz', hkz, hm1, hwv, decide_true, decide_false, Wp_some, Wp_none, Wp_ite, Wc_some, Wc_none, Wc_ite, Wp_thenRun, seqQ_normal, seqQ_exit, seqQ_ret, Wp_inBlock, blkQ_normal, blkQ_ret, blkQ_same, blkQ_exit, Wp_opThen, opQ_at, Wp_guardP, retQ_normal, retQ_ret, loopQ_normal, loopQ_exit, loopQ_ret, go_sem, entry, joinEsc, if_pos, reduceIte, Nat.reduceAdd, Nat.reduceLeDiff, Nat.reduceLT, Nat.reduceEqDiff]
      rw [hs] at hsn
      simp only [Option.isSome_none, Bool.false_eq_true, if_false] at hsn
      have hos := outF_set hn3 hGt.toBox0 (v + 1) hs
      rw [← hkte] at hos
      rw [hos]
      obtain ⟨L1, hL1⟩ : ∃ L1, L1 = L'.set ob (Blk.cells (encI (outF d ls.length (esj ++ [(z.set i M[j].2, v + 1)]))) true) := ⟨_, rfl⟩
      have hlen1 : L1.length = L'.length := by rw [hL1]; exact List.length_set
      simp only [← hL1]
      have h1 : L1[lb']? = some (.cells (encI (keyF d ls.length esj)) true) := by
        rw [hL1, List.getElem?_set_ne S'.ne]
        exact S'.lst
      have hkl2 : (encI (keyF d ls.length esj)).length = len * 1 := by simp [encI, keyF, hlen]
      refine wc_ap (k := 1) (new := [AV.int IntKind.i64 kt]) (get_more h1 _) (src_new _ 1 1 _ _ (L1.length + 1) (by simp +contextual only [go_sem, entry, joinEsc, if_pos, reduceIte, Nat.reduceAdd, Nat.reduceLeDiff, Nat.reduceLT, Nat.reduceEqDiff]) rfl) hkl2 rfl (by unfold maxBytes; omega) (fun hh => absurd hh S'.cap) ?_
      intro L2 g1 g2 g3 g4
      simp (maxSteps := 2000000) +contextual only [hw, Wp_some, Wp_none, Wp_ite, Wc_some, Wc_none, Wc_ite, Wp_thenRun, seqQ_normal, seqQ_exit, seqQ_ret, Wp_inBlock, blkQ_normal, blkQ_ret, blkQ_same, blkQ_exit, Wp_opThen, opQ_at, Wp_guardP, retQ_normal, retQ_ret, loopQ_normal, loopQ_exit, loopQ_ret, go_sem, entry, joinEsc, if_pos, reduceIte, Nat.reduceAdd, Nat.reduceLeDiff, Nat.reduceLT, Nat.reduceEqDiff]
      have hob3 := S'.obl
      have hlb3 := S'.lbl
      have hnbl := get_lt hnb'
      have hqnl := get_lt hqn'
      have hqbl := get_lt hqb'
      have hg1 : Grown Bs L1 := by rw [hL1]; exact S'.gr.put S'.obl _
      have ho1' : L1[ob]? = some (.cells (encI (outF d ls.length (esj ++ [(z.set i M[j].2, v + 1)]))) true) := by rw [hL1, List.getElem?_set_self hobl]
      have hn1 : L1[nb]? = some (.cells [.int .i64 d, .int .i64 a, .int .i64 b, slL qn ls.length qc, .int .i64 s] true) := by rw [hL1, List.getElem?_set_ne (fun e => d1 e.symm)]; exact hnb'
      have hqn1 : L1[qn]? = some (.cells (encL (putL ls z)) true) := by rw [hL1, List.getElem?_set_ne (fun e => d5 e.symm)]; exact hqn'
      have hq1 : L1[qb]? = some (.cells (encL M) true) := by rw [hL1, List.getElem?_set_ne (fun e => d3 e.symm)]; exact hqb'
      have hX := g4 Bs (hg1.more _) hlb3
      have q1 := (g2 ob S'.ne (by rw [List.length_append]; omega)).trans (get_more ho1' _)
      have q2 := (g2 nb e2 (by rw [List.length_append]; omega)).trans (get_more hn1 _)
      have q3 := (g2 qb e4 (by rw [List.length_append]; omega)).trans (get_more hq1 _)
      have q4 := (g2 qn e6 (by rw [List.length_append]; omega)).trans (get_more hqn1 _)
      have hgl := hX.le
      simp only [List.length_append, List.length_cons, List.length_nil, Nat.zero_add, Nat.reduceAdd] at g1 g3
      have henc : encI (keyF d ls.length (esj ++ [(z.set i M[j].2, v + 1)])) = encI (keyF d ls.length esj) ++ [AV.int IntKind.i64 kt] := by
        rw [keyF_append, encI_append]
        show _ ++ [AV.int .i64 ((keyN d ls.length (z.set i M[j].2) : Nat) : Int)] = _
        rw [← hkte]
      exact ⟨k - 1, by omega, j + 1, L2, L1.length + 2, len + 1, none, _, _, _, _, by omega, hsn.symm, by rw [List.length_append]; simp only [List.length_cons, List.length_nil]; omega,
        ⟨hX, hob3, by have := hg1.le; omega, by omega, q1, by rw [henc]; exact g3, by simp⟩, q2, q4, q3, by omega, by omega, by omega, rfl⟩

end Go.Proofs.Ythkgpblohjpcdaa.Slim

/- Planks: the search in the other program, told whole. -/
namespace Go.Proofs.Ythkgpblohjpcdaa.Slim

open Go

set_option linter.unusedSimpArgs false

set_option linter.unusedVariables false

variable {pr : Prims} {H : List Blk} {e : Option Nat}

theorem putL_putL : ∀ (ls : List Ld) (z w : List Int), putL (putL ls z) w = putL ls w
  | [], _, _ => rfl
  | l :: ls, z, w => by rw [putL, putL, putL, putL_putL ls]

theorem putL_take {ls : List Ld} {z : List Int} (h : ls.length ≤ z.length) : putL ls (z.take ls.length) = putL ls z := by
  have := putL_more ls (z.take ls.length) (z.drop ls.length) (by rw [List.length_take]; omega)
  rw [List.take_append_drop] at this
  exact this.symm

theorem zeros_int (n : Nat) : zeros n [AV.int .i64 0] = encI (List.replicate n 0) := by
  unfold zeros encI
  induction n with
  | zero => rfl
  | succ n ih => rw [List.replicate_succ, List.flatten_cons, ih, List.replicate_succ]; rfl

theorem repl_set (m k : Nat) (a b : Int) : (List.replicate m a ++ List.replicate (k + 1) b).set m a = List.replicate (m + 1) a ++ List.replicate k b := by
  rw [List.set_append_right _ _ (by simp), List.length_replicate, Nat.sub_self, List.replicate_succ, List.set_cons_zero, List.replicate_succ', List.append_assoc]
  rfl

theorem at_key {d : Nat} {a b s : Int} {ls : List Ld} (K : Plk (d : Int) a b s ls) {t : List Int} (B : Box0 (d : Int) ls.length t) (z : List Int) : putL (putL ls z) (ints (digs (d + 1) ls.length (keyN d ls.length t)).reverse) = putL ls t := by
  have h3 := K.n3
  rw [putL_putL, spots_key d _ t (by rw [B.len]; exact h3) (fun i hi => B.on i hi), putL_take (by rw [B.len]; exact h3)]

theorem e_s_l11Spread {q d : Nat} {c : Option Nat} {ls : List Ld} {a b s : Int} {z : List Int} (h : cellsAt H q = some (encL (putL ls z))) (K : Plk (d : Int) a b s ls) (G : Good (d : Int) a b ls z) : call T pr f_s_l11Spread [ptV (d : Int) a b (slL q ls.length c) s] ⟨H, e⟩ =
    some (.slice (some (H.length, 0)) 1 ((d + 1) ^ ls.length) (some ((d + 1) ^ ls.length)), ⟨H ++ [.cells (encI (outF d ls.length (bfsAll (nxP (d : Int) a b s ls) z))) true], e⟩) := by
  have hn3 := K.n3
  have hd12 : d ≤ 12 := by have := K.x12; omega
  have hbox : Box (Good (d : Int) a b ls) ((d + 1) ^ ls.length) (keyN d ls.length) := (boxN (d := d) K.n3).sub (fun z G => G.toBox0)
  have hN := pow_le hn3 hd12
  have hnx : ∀ z, Good (d : Int) a b ls z → ∀ t ∈ nxP (d : Int) a b s ls z, Good (d : Int) a b ls t := fun z hz t ht => hz.next K ht
  obtain ⟨N, hNe⟩ : ∃ N, N = (d + 1) ^ ls.length := ⟨_, rfl⟩
  obtain ⟨A, hA⟩ : ∃ A : Blk, A = .cells [.int .i64 d, .int .i64 a, .int .i64 b, slL q ls.length c, .int .i64 s] true := ⟨_, rfl⟩
  have hsz : ∀ G : List Blk, call T pr f_s_l11Size [ptV (d : Int) a b (slL q ls.length c) s] ⟨G, none⟩ = some (.int .i64 ((N : Nat) : Int), ⟨G, none⟩) := fun G => by
    rw [hNe]
    exact e_s_l11Size hn3 hd12 a b s
  have hkz0 : ∀ X : List Blk, call T pr f_s_l11Key [ptV (d : Int) a b (slL q ls.length c) s] ⟨H ++ X, none⟩ = some (.int .i64 ((keyN d ls.length z : Nat) : Int), ⟨H ++ X, none⟩) := by
    intro X
    have := e_s_l11Key (pr := pr) (H := H ++ X) (e := none) (c := c) (ls := putL ls z) (q := q) (d := d) (cells_mono h X) (by rw [putL_length]; exact hn3) hd12 (putL_on G.toBox0) a b s
    simpa only [putL_length, key_put] using this
  have hkz := hbox.lt z G
  obtain ⟨kz, hkze⟩ : ∃ kz, kz = keyN d ls.length z := ⟨_, rfl⟩
  rw [← hkze] at hkz0 hkz
  rw [← hNe] at hkz hN
  apply Wc.eq
  rw [call_wc t_s_l11Spread]
  obtain ⟨R, hR⟩ : ∃ R, R = seqTl (seqTl (seqTl c_s_l11Spread)) := ⟨_, rfl⟩
  have hc : c_s_l11Spread = .seq (seqHd c_s_l11Spread) (.seq (seqHd (seqTl c_s_l11Spread)) (.seq (seqHd (seqTl (seqTl c_s_l11Spread))) R)) := by rw [hR]; rfl
  have r : ∀ w4 w11 : AV, Wp (run T pr R ⟨[ptV (d : Int) a b (slL q ls.length c) s, .ptr (some (H.length, 0)), .slice none 0 0 none, .slice (some (H.length + 1, 0)) 1 N (some N), w4, .undef, .undef, .undef, .undef, .undef, .undef, w11, .undef, .undef, .undef], ⟨H ++ [A, .cells (encI (outF d ls.length [])) true], none⟩⟩)
      (retQ a_s_l11Spread ⟨H, e⟩ fun v' m' => v' = .slice (some (H.length, 0)) 1 ((d + 1) ^ ls.length) (some ((d + 1) ^ ls.length)) ∧ m' = ⟨H ++ [.cells (encI (outF d ls.length (bfsAll (nxP (d : Int) a b s ls) z))) true], e⟩) := by
    intro w4 w11
    have hkz' : (kz : Int) < (N : Int) := by omega
    have hse := setRange_encI (X := outF d ls.length []) (i := kz) (a := 0) (by rw [outF_len, ← hNe]; exact hkz)
    have hle : kz + 1 ≤ (encI (outF d ls.length [])).length := by simp [encI, outF_len, ← hNe]; omega
    have hos := outF_set hn3 (es := []) G.toBox0 0 rfl
    rw [← hkze, List.nil_append] at hos
    rw [hos] at hse
    have hA1 : ∀ X : List Blk, cellsAt (A :: X) 0 = some [.int .i64 d, .int .i64 a, .int .i64 b, slL q ls.length c, .int .i64 s] := fun X => by rw [hA]; rfl
    rw [hR]
    simp (maxSteps := 2000000) +contextual only [a_s_l11Spread, c_s_l11Spread, seqTl, seqHd, fillParts, hA1, hkz0, hse, hle, hkz', hkz, Wp_some, Wp_none, Wp_ite, Wc_some, Wc_none, Wc_ite, Wp_thenRun, seqQ_normal, seqQ_exit, seqQ_ret, Wp_inBlock, blkQ_normal, blkQ_ret, blkQ_same, blkQ_exit, Wp_opThen, opQ_at, Wp_guardP, retQ_normal, retQ_ret, loopQ_normal, loopQ_exit, loopQ_ret, go_sem, entry, joinEsc, if_pos, reduceIte, Nat.reduceAdd, Nat.reduceLeDiff, Nat.reduceLT, Nat.reduceEqDiff]
    refine Wp_loop (fun k st => ∃ (n : Nat) (es : Found) (L : List Blk) (lb len : Nat) (lc : Option Nat) (w7 w8 w9 w10 w12 w13 w14 : AV), n + k = 2198 ∧ n ≤ es.length ∧ len = es.length ∧ Stage (nxP (d : Int) a b s ls) z (Good (d : Int) a b ls) n es ∧ SG (H ++ [A]) L d ls.length (H.length + 1) lb lc es ∧
      st = ⟨[ptV (d : Int) a b (slL q ls.length c) s, .ptr (some (H.length, 0)), .slice none 0 0 none, .slice (some (H.length + 1, 0)) 1 N (some N), w4, slI lb len lc, .int .i64 n, w7, w8, w9, w10, w11, w12, w13, w14], ⟨L, none⟩⟩) ?_ 2198 _ ?_
    rotate_left
    · refine ⟨0, [(z, 0)], _, H.length + 2, 1, some 1, _, _, _, _, _, _, _, rfl, by simp, rfl, Stage.start G, ⟨⟨[.cells (encI (outF d ls.length [(z, 0)])) true, .cells [.int .i64 kz] true], by simp⟩, by simp, by simp, by omega, ?_, ?_, by simp⟩, rfl⟩
      · rw [blkAt_newk]
        rfl
      · rw [blkAt_newk, hkze]
        rfl
    rintro k _ ⟨n, es, L, lb, len, lc, w7, w8, w9, w10, w12, w13, w14, hk, hn, hlen, St, S, rfl⟩
    have hlb := S.lbl
    have hgH := gr_H S.gr
    cases hp : es[n]? with
    | none =>
      have h0 : n = len := by
        have := List.getElem?_eq_none_iff.mp hp
        omega
      subst h0
      have hf := finish_sl (sz := 1) (n := N) (c := some N) hgH e none rfl (by omega) S.out (under_encI _ _)
      rw [← St.done hp] at hf
      simp (maxSteps := 2000000) +contextual only [a_s_l11Spread, w_s_l11Spread_3, Nat.lt_irrefl, hf, decide_false, Wp_some, Wp_none, Wp_ite, Wc_some, Wc_none, Wc_ite, Wp_thenRun, seqQ_normal, seqQ_exit, seqQ_ret, Wp_inBlock, blkQ_normal, blkQ_ret, blkQ_same, blkQ_exit, Wp_opThen, opQ_at, Wp_guardP, retQ_normal, retQ_ret, loopQ_normal, loopQ_exit, loopQ_ret, go_sem, entry, joinEsc, if_pos, reduceIte, Nat.reduceAdd, Nat.reduceLeDiff, Nat.reduceLT, Nat.reduceEqDiff]
      rw [hNe]
    | some p =>
      obtain ⟨t, v⟩ := p
      have hnl := get_lt hp
      have hpm : (t, v) ∈ es := List.mem_of_getElem? hp
      have Gt : Good (d : Int) a b ls t := St.all _ hpm
      have hnlen : n < len := by omega
      have hw := wrap_succ (show n < 9223372036854775807 by omega)
      have hkat : (keyF d ls.length es)[n]? = some ((keyN d ls.length t : Nat) : Int) := by
        unfold keyF
        rw [List.getElem?_map, hp]
        rfl
      have hlbm := cells_more S.lst
      have hlb0 := cellsAt_of S.lst
      have hA0 : ∀ X, cellsAt (L ++ X) H.length = some [.int .i64 d, .int .i64 a, .int .i64 b, slL q ls.length c, .int .i64 s] := fun X => by
        have := gr_at 0 (by simp) S.gr
        rw [Nat.add_zero] at this
        rw [hA] at this
        exact cells_more this X
      have hAL : cellsAt L H.length = some [.int .i64 d, .int .i64 a, .int .i64 b, slL q ls.length c, .int .i64 s] := by
        have := hA0 []
        rwa [List.append_nil] at this
      have hat := e_s_l11At (pr := pr) (H := L) (e := none) (c := c) (q := q) (ls := putL ls z) (d := d) (k := keyN d ls.length t) (gr_cells h S.gr) (by rw [putL_length]; exact hn3) hd12 (by have := hbox.lt t Gt; omega) a b s
      simp only [putL_length, at_key K Gt.toBox0] at hat
      obtain ⟨cap, hmv⟩ := e_s_l11Moves (pr := pr) (H := L ++ [.cells (encL (putL ls t)) true, .cells [.int .i64 d, .int .i64 a, .int .i64 b, slL L.length ls.length none, .int .i64 s] true]) (e := none) (c := none) (q := L.length) (ls := putL ls t) (by rw [cellsAt_new0]; rfl) (by rw [putL_length]; exact hn3) (Gt.toBox0.plB (by omega)) (d : Int) a b s ⟨K.s1, K.s4⟩
      simp only [putL_length, List.length_append, List.append_assoc, List.cons_append, List.nil_append, List.length_cons, List.length_nil, Nat.zero_add, Nat.reduceAdd] at hmv
      have hu : AV.under (L.length + 1 + 1) (slL L.length ls.length none) = true := by simp [AV.under]; omega
      simp (maxSteps := 2000000) +contextual only [w_s_l11Spread_3, fillParts, hnlen, hlbm, hlb0, hA0, hAL, part_encI _ hkat, hat, hmv, hu, decide_true, Wp_some, Wp_none, Wp_ite, Wc_some, Wc_none, Wc_ite, Wp_thenRun, seqQ_normal, seqQ_exit, seqQ_ret, Wp_inBlock, blkQ_normal, blkQ_ret, blkQ_same, blkQ_exit, Wp_opThen, opQ_at, Wp_guardP, retQ_normal, retQ_ret, loopQ_normal, loopQ_exit, loopQ_ret, go_sem, entry, joinEsc, if_pos, reduceIte, Nat.reduceAdd, Nat.reduceLeDiff, Nat.reduceLT, Nat.reduceEqDiff]
      have hobl := get_lt S.out
      have hlbl := get_lt S.lst
      have hv := St.val _ hpm
      have hle := hbox.le St.bi.nd St.all
      rw [hNe, hlen]
      have hX : ∀ (B0 B1 B2 : Blk) (j : Nat), (L ++ [B0, B1, B2])[L.length + j]? = [B0, B1, B2][j]? := fun B0 B1 B2 j => by
        rw [List.getElem?_append_right (by omega), Nat.add_sub_cancel_left]
      have hX0 : ∀ (B0 B1 B2 : Blk), (L ++ [B0, B1, B2])[L.length]? = some B0 := fun B0 B1 B2 => by
        have := hX B0 B1 B2 0
        rwa [Nat.add_zero] at this
      refine (sg_in (Bs := H ++ [A]) (n := n) (v := v) (es := es) (z := t) (mc := cap) (qc := none) (nb := L.length + 1) (qn := L.length) (qb := L.length + 2) rfl K Gt St.all St.bi.nd (fun q hq => (St.bi.par q.1 q.2 hq).1) hp (by simp only at hv; omega) ⟨S.gr.more _, S.obl, S.lbl, S.ne, get_more S.out _, get_more S.lst _, S.cap⟩ (hX _ _ _ 1) (hX0 _ _ _) (hX _ _ _ 2) (by omega) (by omega) (by omega) (by omega) (by omega) (by omega)).mono ?_
      rintro _ _ ⟨rfl, L', lb', len', lc', v8, v9, v10, v13, v14, S', hlen', rfl⟩
      simp (maxSteps := 2000000) +contextual only [hw, Wp_some, Wp_none, Wp_ite, Wc_some, Wc_none, Wc_ite, Wp_thenRun, seqQ_normal, seqQ_exit, seqQ_ret, Wp_inBlock, blkQ_normal, blkQ_ret, blkQ_same, blkQ_exit, Wp_opThen, opQ_at, Wp_guardP, retQ_normal, retQ_ret, loopQ_normal, loopQ_exit, loopQ_ret, go_sem, entry, joinEsc, if_pos, reduceIte, Nat.reduceAdd, Nat.reduceLeDiff, Nat.reduceLT, Nat.reduceEqDiff]
      have hlen2 : n + 1 ≤ (bfsIn (v + 1) es (nxP (d : Int) a b s ls t)).length := by
        obtain ⟨more, m1, _⟩ := bfsIn_ext (v + 1) (nxP (d : Int) a b s ls t) es St.bi.nd
        rw [m1, List.length_append]
        omega
      exact ⟨k - 1, by omega, n + 1, _, L', lb', len', lc', _, _, _, _, _, _, _, by omega, hlen2, hlen', St.step hbox (by omega) hnx hp, S', rfl⟩
  show Wp (run T pr c_s_l11Spread _) _
  rw [hc]
  have hNb : (N : Int) * 8 ≤ (maxBytes : Int) := by unfold maxBytes; omega
  simp (maxSteps := 2000000) +contextual only [a_s_l11Spread, c_s_l11Spread, seqTl, seqHd, fillParts, hsz, Int.toNat_natCast, zeros_int, hNb, Wp_some, Wp_none, Wp_ite, Wc_some, Wc_none, Wc_ite, Wp_thenRun, seqQ_normal, seqQ_exit, seqQ_ret, Wp_inBlock, blkQ_normal, blkQ_ret, blkQ_same, blkQ_exit, Wp_opThen, opQ_at, Wp_guardP, retQ_normal, retQ_ret, loopQ_normal, loopQ_exit, loopQ_ret, go_sem, entry, joinEsc, if_pos, reduceIte, Nat.reduceAdd, Nat.reduceLeDiff, Nat.reduceLT, Nat.reduceEqDiff]
  refine ⟨fun _ => ?_, fun h => absurd (by unfold maxBytes; omega) h⟩
  rw [← hA]
  refine Wp_loop (fun k st => ∃ (i : Nat) (w11 : AV), i + k = N ∧ st = ⟨[ptV (d : Int) a b (slL q ls.length c) s, .ptr (some (H.length, 0)), .slice none 0 0 none, .slice (some (H.length + 1, 0)) 1 N (some N), .int .i64 i, .undef, .undef, .undef, .undef, .undef, .undef, w11, .undef, .undef, .undef], ⟨H ++ [A, .cells (encI (List.replicate i (-1) ++ List.replicate k 0)) true], none⟩⟩) ?_ N _ ⟨0, _, by omega, rfl⟩
  rintro k _ ⟨i, w11, hi, rfl⟩
  cases k with
  | zero =>
    have he : i = N := by omega
    subst he
    have := r (.int .i64 i) (.bool false)
    rw [outF_nil, ← hNe] at this
    simp (maxSteps := 2000000) +contextual only [w_s_l11Spread_1, Nat.lt_irrefl, List.replicate_zero, decide_false, Wp_some, Wp_none, Wp_ite, Wc_some, Wc_none, Wc_ite, Wp_thenRun, seqQ_normal, seqQ_exit, seqQ_ret, Wp_inBlock, blkQ_normal, blkQ_ret, blkQ_same, blkQ_exit, Wp_opThen, opQ_at, Wp_guardP, retQ_normal, retQ_ret, loopQ_normal, loopQ_exit, loopQ_ret, go_sem, entry, joinEsc, if_pos, reduceIte, Nat.reduceAdd, Nat.reduceLeDiff, Nat.reduceLT, Nat.reduceEqDiff]
    rw [← hNe]
    exact this
  | succ k =>
    have hil : i < N := by omega
    have hw := wrap_succ (show i < 9223372036854775807 by omega)
    have hse := setRange_encI (X := List.replicate i (-1) ++ List.replicate (k + 1) (0 : Int)) (i := i) (a := -1) (by simp)
    rw [repl_set] at hse
    have hle : i + 1 ≤ (encI (List.replicate i (-1) ++ List.replicate (k + 1) (0 : Int))).length := by simp [encI]
    simp (maxSteps := 2000000) +contextual only [w_s_l11Spread_1, hil, hw, hse, hle, decide_true, Wp_some, Wp_none, Wp_ite, Wc_some, Wc_none, Wc_ite, Wp_thenRun, seqQ_normal, seqQ_exit, seqQ_ret, Wp_inBlock, blkQ_normal, blkQ_ret, blkQ_same, blkQ_exit, Wp_opThen, opQ_at, Wp_guardP, retQ_normal, retQ_ret, loopQ_normal, loopQ_exit, loopQ_ret, go_sem, entry, joinEsc, if_pos, reduceIte, Nat.reduceAdd, Nat.reduceLeDiff, Nat.reduceLT, Nat.reduceEqDiff]
    exact ⟨k, by omega, i + 1, _, by omega, rfl⟩

end Go.Proofs.Ythkgpblohjpcdaa.Slim

/- Planks: how many lists of places can be reached; the law. -/
namespace Go.Proofs.Ythkgpblohjpcdaa.Slim

open Go

set_option linter.unusedSimpArgs false

set_option linter.unusedVariables false

variable {pr : Prims} {H : List Blk} {e : Option Nat}

theorem good_spots {x a b s : Int} {ls : List Ld} (h : partyOk x a b ls s = true) : Good x a b ls (spots ls) := by
  have K := plk_of h
  have h0 := h
  unfold partyOk onOk rowOk at h
  simp only [Bool.and_eq_true, decide_eq_true_eq, List.all_eq_true, Bool.not_eq_true', List.any_eq_false] at h
  obtain ⟨⟨⟨h1, h2⟩, h3⟩, h4, ⟨h5, h6⟩, h7, h8, h9⟩ := h
  have hget : ∀ i, i < ls.length → (spots ls).getD i 0 = (ls[i]?.getD (0, 0)).1 := by
    intro i hi
    unfold spots
    rw [getD_app_left (by simpa using hi)]
    simp [List.getD_eq_getElem?_getD, hi]
  refine ⟨⟨spots_length K.n3, fun i hi => ?_, fun i hi => ?_⟩, ?_⟩
  · rw [hget i hi, List.getElem?_eq_getElem hi]
    have hm := List.getElem_mem hi
    have g1 := h2.2 _ hm
    have g2 := h3 _ hm
    unfold okL at g1
    simp only [Bool.and_eq_true, decide_eq_true_eq] at g1
    simp only [Option.getD_some]
    omega
  · unfold spots
    simp only [List.getD_eq_getElem?_getD]
    rw [List.getElem?_append_right (by simpa using hi)]
    have : ∀ j k : Nat, (([0, 0, 0] : List Int).drop k).getD j 0 = 0 := by
      intro j k
      simp only [List.getD_eq_getElem?_getD, List.getElem?_drop]
      match k + j with
      | 0 => rfl
      | 1 => rfl
      | 2 => rfl
      | n + 3 => rfl
    have := this (i - (ls.map fun l => l.1).length) ls.length
    simpa [List.getD_eq_getElem?_getD] using this
  · have : putL ls (spots ls) = ls := putL_self ls _
    rw [this]
    exact h7

def foundP (x a b s : Int) (ls : List Ld) : Found := bfsAll (nxP x a b s ls) (spots ls)

theorem foundP_told {x a b s : Int} {ls : List Ld} (h : partyOk x a b ls s = true) : BTold (nxP x a b s ls) (spots ls) (foundP x a b s ls) ∧ ∀ q ∈ foundP x a b s ls, Good x a b ls q.1 := by
  have K := plk_of h
  obtain ⟨hb, hN⟩ := K.box
  exact bfs_told hb hN (fun z hz t ht => hz.next K ht) (good_spots h)

theorem spots_self {ls : List Ld} : putL ls (spots ls) = ls := putL_self ls _

end Go.Proofs.Ythkgpblohjpcdaa.Slim

/- Stands: what is drawn. -/
namespace Go.Proofs.Ythkgpblohjpcdaa.Slim

open Go

set_option linter.unusedSimpArgs false

set_option linter.unusedVariables false

variable {pr : Prims} {H : List Blk} {e : Option Nat}

end Go.Proofs.Ythkgpblohjpcdaa.Slim

/- Rafts: how ways are counted, told plainly. -/
namespace Go.Proofs.Ythkgpblohjpcdaa.Slim

open Go

set_option linter.unusedSimpArgs false

set_option linter.unusedVariables false

section
variable {safe : Nat → Bool} {n : Nat} {W : List Int}

end

end Go.Proofs.Ythkgpblohjpcdaa.Slim

/- Rafts: steps of one or two items, told plainly. -/
namespace Go.Proofs.Ythkgpblohjpcdaa.Slim

open Go

set_option linter.unusedSimpArgs false

set_option linter.unusedVariables false

end Go.Proofs.Ythkgpblohjpcdaa.Slim

/- Rafts: steps of one or two items, on both sides. -/
namespace Go.Proofs.Ythkgpblohjpcdaa.Slim

open Go

set_option linter.unusedSimpArgs false

set_option linter.unusedVariables false

variable {pr : Prims} {H : List Blk} {e : Option Nat}

end Go.Proofs.Ythkgpblohjpcdaa.Slim

/- Planks: a list of places in both programs; the least number of moves to it. -/
namespace Go.Proofs.Ythkgpblohjpcdaa.Slim

open Go

set_option linter.unusedSimpArgs false

set_option linter.unusedVariables false

variable {pr : Prims} {H : List Blk} {e : Option Nat}

def padT (ps : List Int) (i : Nat) : List Int := ps.take i ++ [0, 0, 0].drop i

theorem padT_set {ps : List Int} {i : Nat} (hi : i < ps.length) (hl : ps.length ≤ 3) : (padT ps i).set i (ps[i]?.getD 0) = padT ps (i + 1) := by
  match ps, i, hi, hl with
  | [], _, h, _ => simp at h
  | [a], 0, _, _ => rfl
  | [a, b], 0, _, _ => rfl
  | [a, b], 1, _, _ => rfl
  | [a, b, c], 0, _, _ => rfl
  | [a, b, c], 1, _, _ => rfl
  | [a, b, c], 2, _, _ => rfl
  | [a], i + 1, h, _ => simp at h
  | [a, b], i + 2, h, _ => simp at h; omega
  | [a, b, c], i + 3, h, _ => simp at h; omega
  | a :: b :: c :: d :: l, _, _, h => simp at h

theorem padT_length {ps : List Int} {i : Nat} (hi : i ≤ ps.length) (hl : ps.length ≤ 3) : (padT ps i).length = 3 := by
  unfold padT
  rw [List.length_append, List.length_take, List.length_drop]
  simp only [List.length_cons, List.length_nil]
  omega

def goalT (ps : List Int) : List Int := padT ps ps.length

def plcOk (x : Int) (n : Nat) (ps : List Int) : Bool := decide (ps.length = n) && ps.all fun p => decide (0 ≤ p) && decide (p ≤ x)

theorem plc_box {x : Int} {n : Nat} {ps : List Int} (hn : n ≤ 3) (h : plcOk x n ps = true) : Box0 x n (goalT ps) := by
  unfold plcOk at h
  simp only [Bool.and_eq_true, decide_eq_true_eq, List.all_eq_true] at h
  obtain ⟨h1, h2⟩ := h
  refine ⟨padT_length (Nat.le_refl _) (by omega), fun i hi => ?_, fun i hi => ?_⟩
  · have hi' : i < ps.length := by omega
    have e1 : (goalT ps).getD i 0 = ps[i] := by
      unfold goalT padT
      rw [List.take_length, getD_app_left hi']
      simp [List.getD_eq_getElem?_getD, hi']
    rw [e1]
    exact h2 _ (List.getElem_mem hi')
  · unfold goalT padT
    rw [List.take_length]
    simp only [List.getD_eq_getElem?_getD]
    rw [List.getElem?_append_right (by omega), List.getElem?_drop]
    match ps.length + (i - ps.length) with
    | 0 => rfl
    | 1 => rfl
    | 2 => rfl
    | k + 3 => rfl

theorem keyN_zero (d : Nat) : ∀ n, n ≤ 3 → keyN d n [0, 0, 0] = 0
  | 0, _ => rfl
  | n + 1, h => by
    rw [keyN, keyN_zero d n (by omega)]
    match n, h with
    | 0, _ => simp
    | 1, _ => simp
    | 2, _ => simp

theorem box_zero {d n : Nat} : Box0 (d : Int) n [0, 0, 0] := by
  have h : ∀ i, ([0, 0, 0] : List Int).getD i 0 = 0 := by
    intro i
    match i with
    | 0 => rfl
    | 1 => rfl
    | 2 => rfl
    | k + 3 => rfl
  exact ⟨rfl, fun i _ => by rw [h]; omega, fun i _ => h i⟩

theorem wc_i_spotsOf {q qp : Nat} {c cp : Option Nat} {ls : List Ld} {ps : List Int} {x a b s : Int} {V : AV} (h : cellsAt H q = some (encL ls)) (hn : ls.length ≤ 9223372036854775806) (hp : cellsAt H qp = some (encI ps))
    (hV : V = if (partyOk x a b ls s && plcOk x ls.length ps) = true then .tup [.agg ((goalT ps).map (AV.int .i64)), .bool true] else .tup [spV 0 0 0, .bool false]) : Wc (call T pr f_i_Party_spotsOf [ptV x a b (slL q ls.length c) s, slI qp ps.length cp] ⟨H, e⟩) (fun v m => v = V ∧ m = ⟨H, e⟩) := by
  rw [call_wc t_i_Party_spotsOf]
  cases h1 : partyOk x a b ls s with
  | false =>
    rw [h1] at hV
    simp only [Bool.false_and, Bool.false_eq_true, if_false] at hV
    rw [hV]
    simp +contextual only [a_i_Party_spotsOf, c_i_Party_spotsOf, fillParts, e_i_IsParty (cells_mono h _) hn, h1, Bool.false_eq_true, if_false, Wp_some, Wp_none, Wp_ite, Wc_some, Wc_none, Wc_ite, Wp_thenRun, seqQ_normal, seqQ_exit, seqQ_ret, Wp_inBlock, blkQ_normal, blkQ_ret, blkQ_same, blkQ_exit, Wp_opThen, opQ_at, Wp_guardP, retQ_normal, retQ_ret, loopQ_normal, loopQ_exit, loopQ_ret, go_sem, entry, joinEsc, if_pos, reduceIte, Nat.reduceAdd, Nat.reduceLeDiff, Nat.reduceLT, Nat.reduceEqDiff]
  | true =>
    have K := plk_of h1
    have hn3 := K.n3
    by_cases hne : ps.length = ls.length
    · have hne' : ((ps.length : Int) = (ls.length : Int)) := by omega
      simp (maxSteps := 2000000) +contextual only [a_i_Party_spotsOf, c_i_Party_spotsOf, fillParts, e_i_IsParty (cells_mono h _) hn, h1, hne, hne', decide_true, decide_false, ne_eq, not_true_eq_false, Wp_some, Wp_none, Wp_ite, Wc_some, Wc_none, Wc_ite, Wp_thenRun, seqQ_normal, seqQ_exit, seqQ_ret, Wp_inBlock, blkQ_normal, blkQ_ret, blkQ_same, blkQ_exit, Wp_opThen, opQ_at, Wp_guardP, retQ_normal, retQ_ret, loopQ_normal, loopQ_exit, loopQ_ret, go_sem, entry, joinEsc, if_pos, reduceIte, Nat.reduceAdd, Nat.reduceLeDiff, Nat.reduceLT, Nat.reduceEqDiff]
      refine Wp_loop (fun k st => ∃ (i : Nat) (w6 w7 w12 w13 : AV), i + k = ls.length ∧ (∀ j, j < i → 0 ≤ ps[j]?.getD 0 ∧ ps[j]?.getD 0 ≤ x) ∧ st = ⟨[ptV x a b (slL q ls.length c) s, slI qp ls.length cp, .ptr (some (H.length, 0)), .ptr (some (H.length + 1, 0)), .bool false, .ptr (some (H.length + 2, 0)), w6, w7, .bool false, slI qp ls.length cp, .int .i64 ls.length, .int .i64 i, w12, w13], ⟨H ++ [.cells [.int .i64 x, .int .i64 a, .int .i64 b, slL q ls.length c, .int .i64 s] true, .cells (encI [0, 0, 0]) true, .cells (encI (padT ps i)) true], none⟩⟩) ?_ ls.length _ ?_
      rotate_left
      · exact ⟨0, _, _, _, _, by omega, fun j hj => absurd hj (Nat.not_lt_zero j), rfl⟩
      rintro k _ ⟨i, w6, w7, w12, w13, hi, hall, rfl⟩
      by_cases hk : k = 0
      · have he : i = ls.length := by omega
        subst he
        have h2 : plcOk x ls.length ps = true := by
          unfold plcOk
          simp only [Bool.and_eq_true, decide_eq_true_eq, List.all_eq_true]
          refine ⟨hne, fun p hp => ?_⟩
          obtain ⟨j, hj⟩ := List.getElem?_of_mem hp
          have := hall j (by have := get_lt hj; omega)
          rw [hj] at this
          exact this
        rw [h1, h2] at hV
        simp only [Bool.and_true, if_true] at hV
        obtain ⟨g0, g1, g2, hg⟩ := Slim.three (plc_box hn3 h2).len
        rw [hg] at hV
        rw [hV]
        have hg' : padT ps ls.length = [g0, g1, g2] := by rw [← hne]; exact hg
        rw [hg']
        simp (maxSteps := 2000000) +contextual only [w_i_Party_spotsOf_1, a_i_Party_spotsOf, encI, List.map_cons, List.map_nil, fillParts, Nat.lt_irrefl, decide_false, Wp_some, Wp_none, Wp_ite, Wc_some, Wc_none, Wc_ite, Wp_thenRun, seqQ_normal, seqQ_exit, seqQ_ret, Wp_inBlock, blkQ_normal, blkQ_ret, blkQ_same, blkQ_exit, Wp_opThen, opQ_at, Wp_guardP, retQ_normal, retQ_ret, loopQ_normal, loopQ_exit, loopQ_ret, go_sem, entry, joinEsc, if_pos, reduceIte, Nat.reduceAdd, Nat.reduceLeDiff, Nat.reduceLT, Nat.reduceEqDiff]
      · have hil : i < ls.length := by omega
        have hil' : i < ps.length := by omega
        have hl : ps[i]? = some ps[i] := List.getElem?_eq_getElem hil'
        have hw := wrap_succ (show i < 9223372036854775807 by omega)
        have hi3 : i < 3 := by omega
        have hi3' : (i : Int) < 3 := by omega
        have hse := setRange_encI (X := padT ps i) (i := i) (a := ps[i]) (by rw [padT_length (by omega) (by omega)]; exact hi3)
        have hps := padT_set hil' (by omega)
        rw [hl] at hps
        simp only [Option.getD_some] at hps
        rw [hps] at hse
        have hle : i + 1 ≤ (encI (padT ps i)).length := by
          have := padT_length (ps := ps) (i := i) (by omega) (by omega)
          simp only [encI, List.length_map]
          omega
        cases hin : (decide (0 ≤ ps[i]) && decide (ps[i] ≤ x)) with
        | false =>
          have h2 : plcOk x ls.length ps = false := by
            unfold plcOk
            have : (ps.all fun p => decide (0 ≤ p) && decide (p ≤ x)) = false := by
              rw [List.all_eq_false]
              exact ⟨ps[i], List.getElem_mem hil', by rw [hin]; simp⟩
            rw [this, Bool.and_false]
          rw [h1, h2] at hV
          simp only [Bool.and_false, Bool.false_eq_true, if_false] at hV
          rw [hV]
          simp (maxSteps := 2000000) +contextual only [w_i_Party_spotsOf_1, a_i_Party_spotsOf, e_i_within, hin, cells_mono hp, part_encI _ hl, hil, hil', hi3, hi3', fillParts, decide_true, decide_false, Wp_some, Wp_none, Wp_ite, Wc_some, Wc_none, Wc_ite, Wp_thenRun, seqQ_normal, seqQ_exit, seqQ_ret, Wp_inBlock, blkQ_normal, blkQ_ret, blkQ_same, blkQ_exit, Wp_opThen, opQ_at, Wp_guardP, retQ_normal, retQ_ret, loopQ_normal, loopQ_exit, loopQ_ret, go_sem, entry, joinEsc, if_pos, reduceIte, Nat.reduceAdd, Nat.reduceLeDiff, Nat.reduceLT, Nat.reduceEqDiff]
        | true =>
          simp (maxSteps := 2000000) +contextual only [w_i_Party_spotsOf_1, a_i_Party_spotsOf, e_i_within, hin, cells_mono hp, part_encI _ hl, hil, hil', hi3, hi3', hse, hle, hw, fillParts, decide_true, decide_false, Wp_some, Wp_none, Wp_ite, Wc_some, Wc_none, Wc_ite, Wp_thenRun, seqQ_normal, seqQ_exit, seqQ_ret, Wp_inBlock, blkQ_normal, blkQ_ret, blkQ_same, blkQ_exit, Wp_opThen, opQ_at, Wp_guardP, retQ_normal, retQ_ret, loopQ_normal, loopQ_exit, loopQ_ret, go_sem, entry, joinEsc, if_pos, reduceIte, Nat.reduceAdd, Nat.reduceLeDiff, Nat.reduceLT, Nat.reduceEqDiff]
          refine ⟨k - 1, by omega, i + 1, _, _, _, _, by omega, fun j hj => ?_, rfl⟩
          by_cases hji : j = i
          · subst hji
            rw [hl]
            simpa using hin
          · exact hall j (by omega)
    · have hne' : ¬ ((ps.length : Int) = (ls.length : Int)) := by omega
      rw [h1] at hV
      have h2 : plcOk x ls.length ps = false := by unfold plcOk; rw [decide_eq_false hne]; rfl
      rw [h2] at hV
      simp only [Bool.and_false, Bool.false_eq_true, if_false] at hV
      rw [hV]
      simp (maxSteps := 2000000) +contextual only [a_i_Party_spotsOf, c_i_Party_spotsOf, fillParts, e_i_IsParty (cells_mono h _) hn, h1, hne, hne', decide_true, decide_false, ne_eq, not_false_eq_true, Wp_some, Wp_none, Wp_ite, Wc_some, Wc_none, Wc_ite, Wp_thenRun, seqQ_normal, seqQ_exit, seqQ_ret, Wp_inBlock, blkQ_normal, blkQ_ret, blkQ_same, blkQ_exit, Wp_opThen, opQ_at, Wp_guardP, retQ_normal, retQ_ret, loopQ_normal, loopQ_exit, loopQ_ret, go_sem, entry, joinEsc, if_pos, reduceIte, Nat.reduceAdd, Nat.reduceLeDiff, Nat.reduceLT, Nat.reduceEqDiff]

theorem wc_s_l11Placed {q qp d : Nat} {c cp : Option Nat} {ls : List Ld} {ps : List Int} {a b s : Int} {V : AV} {M : List Blk} (h : cellsAt H q = some (encL ls)) (K : Plk (d : Int) a b s ls) (hp : cellsAt H qp = some (encI ps)) (hpn : ps.length ≤ 9223372036854775806)
    (hV : V = if plcOk (d : Int) ls.length ps = true then .tup [ptV (d : Int) a b (slL H.length ls.length none) s, .bool true] else .tup [ptV 0 0 0 (.slice none 0 0 none) 0, .bool false])
    (hM : M = if plcOk (d : Int) ls.length ps = true then [.cells (encL (putL ls (goalT ps))) true] else []) : Wc (call T pr f_s_l11Placed [ptV (d : Int) a b (slL q ls.length c) s, slI qp ps.length cp] ⟨H, e⟩) (fun v m => v = V ∧ m = ⟨H ++ M, e⟩) := by
  rw [call_wc t_s_l11Placed]
  have hn3 := K.n3
  have hd12 : d ≤ 12 := by have := K.x12; omega
  have hfN : ∀ (G : List Blk) (e0 e1 : Option Nat) (hc : clean H.length e1 = true), finish 2 H.length e0 (.tup [.agg [.int .i64 0, .int .i64 0, .int .i64 0, .slice none 0 0 none, .int .i64 0], .bool false]) ⟨H ++ G, e1⟩ = some (.tup [ptV 0 0 0 (.slice none 0 0 none) 0, .bool false], ⟨H, e0⟩) :=
    fun G e0 e1 hc => finish_partyN (G := G) (s1 := 0) (n1 := 0) (c1 := none) 0 0 0 0 false e0 e1 hc
  have hun : ∀ k, AV.under k (.slice none 0 0 none) = true := fun _ => rfl
  by_cases hne : ps.length = ls.length
  · have hne' : ((ps.length : Int) = (ls.length : Int)) := by omega
    have hat := fun X => e_s_l11At (pr := pr) (e := none) (c := c) (q := q) (ls := ls) (d := d) (k := 0) (cells_mono h X) hn3 hd12 (by omega) a b s
    have hz := at_key K box_zero (ls.map fun l => l.1)
    have hself : putL ls (ls.map fun l => l.1) = ls := by have := putL_self ls []; rwa [List.append_nil] at this
    rw [keyN_zero d _ hn3, hself] at hz
    rw [hz] at hat
    have hz0 : ((0 : Nat) : Int) = 0 := rfl
    simp only [hz0] at hat
    have ql : q < H.length := cellsAt_lt h
    simp (maxSteps := 2000000) +contextual only [a_s_l11Placed, c_s_l11Placed, fillParts, hat, hne, hne', decide_true, decide_false, ne_eq, not_true_eq_false, under_slice, Nat.add_assoc, Nat.add_lt_add_iff_left, Nat.lt_irrefl, clean_minEsc, clean_none, Nat.le_add_right, Nat.le_refl, Wp_some, Wp_none, Wp_ite, Wc_some, Wc_none, Wc_ite, Wp_thenRun, seqQ_normal, seqQ_exit, seqQ_ret, Wp_inBlock, blkQ_normal, blkQ_ret, blkQ_same, blkQ_exit, Wp_opThen, opQ_at, Wp_guardP, retQ_normal, retQ_ret, loopQ_normal, loopQ_exit, loopQ_ret, go_sem, entry, joinEsc, if_pos, reduceIte, Nat.reduceAdd, Nat.reduceLeDiff, Nat.reduceLT, Nat.reduceEqDiff]
    obtain ⟨A, hA⟩ : ∃ A : Blk, A = .cells [.int .i64 d, .int .i64 a, .int .i64 b, slL q ls.length c, .int .i64 s] true := ⟨_, rfl⟩
    obtain ⟨B, hB⟩ : ∃ B : Blk, B = .cells [.int .i64 0, .int .i64 0, .int .i64 0, .slice none 0 0 none, .int .i64 0] true := ⟨_, rfl⟩
    obtain ⟨D, hD⟩ : ∃ D : Blk, D = .cells [.int .i64 d, .int .i64 a, .int .i64 b, slL (H.length + 2) ls.length none, .int .i64 s] true := ⟨_, rfl⟩
    have hA1 : ∀ X : List Blk, cellsAt (A :: X) 0 = some [.int .i64 d, .int .i64 a, .int .i64 b, slL q ls.length c, .int .i64 s] := fun X => by rw [hA]; rfl
    have hD1 : ∀ (B0 B1 B2 : Blk) (X : List Blk), cellsAt (B0 :: B1 :: B2 :: D :: X) 3 = some [.int .i64 d, .int .i64 a, .int .i64 b, slL (H.length + 2) ls.length none, .int .i64 s] := fun B0 B1 B2 X => by rw [hD]; rfl
    refine Wp_loop (fun k st => ∃ (i : Nat) (w7 w8 w9 : AV), i + k = ls.length ∧ (∀ j, j < i → 0 ≤ ps[j]?.getD 0 ∧ ps[j]?.getD 0 ≤ (d : Int)) ∧ st = ⟨[ptV (d : Int) a b (slL q ls.length c) s, slI qp ls.length cp, .ptr (some (H.length, 0)), .ptr (some (H.length + 1, 0)), .bool false, .ptr (some (H.length + 3, 0)), .int .i64 i, w7, w8, w9], ⟨H ++ [A, B, .cells (encL (putL ls (padT ps i))) true, D], none⟩⟩) ?_ ls.length _ ?_
    rotate_left
    · exact ⟨0, _, _, _, by omega, fun j hj => absurd hj (Nat.not_lt_zero j), by rw [hA, hB, hD]; rfl⟩
    rintro k _ ⟨i, w7, w8, w9, hi, hall, rfl⟩
    by_cases hk : k = 0
    · have he : i = ls.length := by omega
      subst he
      have h2 : plcOk (d : Int) ls.length ps = true := by
        unfold plcOk
        simp only [Bool.and_eq_true, decide_eq_true_eq, List.all_eq_true]
        refine ⟨hne, fun p hp => ?_⟩
        obtain ⟨j, hj⟩ := List.getElem?_of_mem hp
        have := hall j (by have := get_lt hj; omega)
        rw [hj] at this
        exact this
      rw [h2] at hV hM
      simp only [if_true] at hV hM
      have hgo : goalT ps = padT ps ls.length := by rw [← hne]; rfl
      rw [hgo] at hM
      rw [hV, hM]
      have hf : ∀ (B0 B1 B3 : Blk) (e0 e1 : Option Nat), clean H.length e1 = true → finish 2 H.length e0 (.tup [.agg [.int .i64 d, .int .i64 a, .int .i64 b, slL (H.length + 2) ls.length none, .int .i64 s], .bool true]) ⟨H ++ [B0, B1, .cells (encL (putL ls (padT ps ls.length))) true, B3], e1⟩ = some (.tup [ptV (d : Int) a b (slL H.length ls.length none) s, .bool true], ⟨H ++ [.cells (encL (putL ls (padT ps ls.length))) true], e0⟩) :=
        fun B0 B1 B3 e0 e1 hc => finish_partyB _ a b s true e0 e1 hc rfl (under_encL _ _)
      simp (maxSteps := 2000000) +contextual only [w_s_l11Placed_1, a_s_l11Placed, fillParts, hB, hD1, hf, Nat.lt_irrefl, decide_false, under_slice, Nat.add_assoc, Nat.add_lt_add_iff_left, clean_minEsc, clean_none, Nat.le_add_right, Nat.le_refl, Wp_some, Wp_none, Wp_ite, Wc_some, Wc_none, Wc_ite, Wp_thenRun, seqQ_normal, seqQ_exit, seqQ_ret, Wp_inBlock, blkQ_normal, blkQ_ret, blkQ_same, blkQ_exit, Wp_opThen, opQ_at, Wp_guardP, retQ_normal, retQ_ret, loopQ_normal, loopQ_exit, loopQ_ret, go_sem, entry, joinEsc, if_pos, reduceIte, Nat.reduceAdd, Nat.reduceLeDiff, Nat.reduceLT, Nat.reduceEqDiff]
    · have hil : i < ls.length := by omega
      have hil' : i < ps.length := by omega
      have hl : ps[i]? = some ps[i] := List.getElem?_eq_getElem hil'
      have hw := wrap_succ (show i < 9223372036854775807 by omega)
      have hps := padT_set hil' (by omega)
      rw [hl] at hps
      simp only [Option.getD_some] at hps
      have hse := setRange_movd (ls := putL ls (padT ps i)) (i := i) ps[i] (by rw [putL_length]; exact hil)
      rw [← putL_set ls (padT ps i) i ps[i] hil (by rw [padT_length (by omega) (by omega)]; exact hn3), hps] at hse
      have hle : i * 2 + 1 ≤ (encL (putL ls (padT ps i))).length := by rw [encL_length, putL_length]; omega
      have hle2 : i * 2 + 2 ≤ (encL (putL ls (padT ps i))).length := by rw [encL_length, putL_length]; omega
      cases hin : (decide (0 ≤ ps[i]) && decide (ps[i] ≤ (d : Int))) with
      | false =>
        have h2 : plcOk (d : Int) ls.length ps = false := by
          unfold plcOk
          have : (ps.all fun p => decide (0 ≤ p) && decide (p ≤ (d : Int))) = false := by
            rw [List.all_eq_false]
            exact ⟨ps[i], List.getElem_mem hil', by rw [hin]; simp⟩
          rw [this, Bool.and_false]
        rw [h2] at hV hM
        simp only [Bool.false_eq_true, if_false] at hV hM
        rw [hV, hM]
        simp (maxSteps := 2000000) +contextual only [w_s_l11Placed_1, a_s_l11Placed, e_s_l1In, hin, hA1, hB, hfN, hun, cells_mono hp, part_encI _ hl, hil, hil', fillParts, decide_true, decide_false, under_slice, Nat.add_assoc, Nat.add_lt_add_iff_left, clean_minEsc, clean_none, Nat.le_add_right, Nat.le_refl, Wp_some, Wp_none, Wp_ite, Wc_some, Wc_none, Wc_ite, Wp_thenRun, seqQ_normal, seqQ_exit, seqQ_ret, Wp_inBlock, blkQ_normal, blkQ_ret, blkQ_same, blkQ_exit, Wp_opThen, opQ_at, Wp_guardP, retQ_normal, retQ_ret, loopQ_normal, loopQ_exit, loopQ_ret, go_sem, entry, joinEsc, if_pos, reduceIte, Nat.reduceAdd, Nat.reduceLeDiff, Nat.reduceLT, Nat.reduceEqDiff]
      | true =>
        simp (maxSteps := 2000000) +contextual only [w_s_l11Placed_1, a_s_l11Placed, e_s_l1In, hin, hA1, hD1, cells_mono hp, part_encI _ hl, hil, hil', hse, hle, hle2, hw, fillParts, decide_true, decide_false, Wp_some, Wp_none, Wp_ite, Wc_some, Wc_none, Wc_ite, Wp_thenRun, seqQ_normal, seqQ_exit, seqQ_ret, Wp_inBlock, blkQ_normal, blkQ_ret, blkQ_same, blkQ_exit, Wp_opThen, opQ_at, Wp_guardP, retQ_normal, retQ_ret, loopQ_normal, loopQ_exit, loopQ_ret, go_sem, entry, joinEsc, if_pos, reduceIte, Nat.reduceAdd, Nat.reduceLeDiff, Nat.reduceLT, Nat.reduceEqDiff]
        refine ⟨k - 1, by omega, i + 1, _, _, _, by omega, fun j hj => ?_, rfl⟩
        by_cases hji : j = i
        · subst hji
          rw [hl]
          simpa using hin
        · exact hall j (by omega)
  · have hne' : ¬ ((ps.length : Int) = (ls.length : Int)) := by omega
    have h2 : plcOk (d : Int) ls.length ps = false := by unfold plcOk; rw [decide_eq_false hne]; rfl
    rw [h2] at hV hM
    simp only [Bool.false_eq_true, if_false] at hV hM
    rw [hV, hM]
    simp (maxSteps := 2000000) +contextual only [a_s_l11Placed, c_s_l11Placed, fillParts, hne, hne', hfN, hun, decide_true, decide_false, ne_eq, not_false_eq_true, under_slice, Nat.add_assoc, Nat.add_lt_add_iff_left, Nat.lt_irrefl, clean_minEsc, clean_none, Nat.le_add_right, Nat.le_refl, Wp_some, Wp_none, Wp_ite, Wc_some, Wc_none, Wc_ite, Wp_thenRun, seqQ_normal, seqQ_exit, seqQ_ret, Wp_inBlock, blkQ_normal, blkQ_ret, blkQ_same, blkQ_exit, Wp_opThen, opQ_at, Wp_guardP, retQ_normal, retQ_ret, loopQ_normal, loopQ_exit, loopQ_ret, go_sem, entry, joinEsc, if_pos, reduceIte, Nat.reduceAdd, Nat.reduceLeDiff, Nat.reduceLT, Nat.reduceEqDiff]

theorem box_in64 {x a b s : Int} {ls : List Ld} (K : Plk x a b s ls) {z0 z1 z2 : Int} (B : Box0 x ls.length [z0, z1, z2]) : Slim.in64 z0 = true ∧ Slim.in64 z1 = true ∧ Slim.in64 z2 = true := by
  have hx := K.x12
  have key : ∀ i, i < 3 → 0 ≤ [z0, z1, z2].getD i 0 ∧ [z0, z1, z2].getD i 0 ≤ 12 := by
    intro i hi
    by_cases h : i < ls.length
    · have := B.on i h
      omega
    · rw [B.zero i (by omega)]
      omega
  have h0 : 0 ≤ z0 ∧ z0 ≤ 12 := key 0 (by omega)
  have h1 : 0 ≤ z1 ∧ z1 ≤ 12 := key 1 (by omega)
  have h2 : 0 ≤ z2 ∧ z2 ≤ 12 := key 2 (by omega)
  unfold Slim.in64
  simp only [Bool.and_eq_true, decide_eq_true_eq]
  omega

def stpO (x a b s : Int) (ls : List Ld) (ps : List Int) : Option Int := if (partyOk x a b ls s && plcOk x ls.length ps) = true then mget (foundP x a b s ls) (goalT ps) else none

theorem e_i_StepsTo {q qp : Nat} {c cp : Option Nat} {ls : List Ld} {ps : List Int} {x a b s : Int} (h : cellsAt H q = some (encL ls)) (hn : ls.length ≤ 9223372036854775806) (hp : cellsAt H qp = some (encI ps)) : call T pr f_i_StepsTo [ptV x a b (slL q ls.length c) s, slI qp ps.length cp] ⟨H, e⟩ =
    some (.tup [.int .i64 ((stpO x a b s ls ps).getD 0), .bool (stpO x a b s ls ps).isSome], ⟨H, e⟩) := by
  have hso := fun X e' => Wc.eq (wc_i_spotsOf (pr := pr) (H := H ++ X) (e := e') (c := c) (cp := cp) (ls := ls) (ps := ps) (x := x) (a := a) (b := b) (s := s) (cells_mono h X) hn (cells_mono hp X) rfl)
  rw [call_eq t_i_StepsTo]
  unfold stpO
  cases h1 : (partyOk x a b ls s && plcOk x ls.length ps) with
  | false =>
    rw [h1] at hso
    simp +contextual only [a_i_StepsTo, c_i_StepsTo, hso, fillParts, Bool.false_eq_true, if_false, Option.getD_none, Option.isSome_none, go_sem, entry, joinEsc, if_pos, reduceIte, Nat.reduceAdd, Nat.reduceLeDiff, Nat.reduceLT, Nat.reduceEqDiff]
  | true =>
    obtain ⟨h2, h3⟩ := Bool.and_eq_true_iff.mp h1
    have K := plk_of h2
    have G := good_spots h2
    have B := plc_box K.n3 h3
    obtain ⟨g0, g1, g2, hg⟩ := Slim.three B.len
    rw [h1, hg] at hso
    rw [hg] at B ⊢
    obtain ⟨z0, z1, z2, hz⟩ := G.three
    have hI := box_in64 K B
    have hkey := keyZ_three hI.1 hI.2.1 hI.2.2
    have hsp := fun X => e_i_Party_spots (pr := pr) (e := none) (c := c) (cells_mono h X) K.n3 x a b s hz
    have hst := fun X => e_i_Party_stepsFrom (pr := pr) (e := none) (c := c) (cells_mono h X) K (hz ▸ G)
    rw [← hz] at hst
    simp (maxSteps := 2000000) +contextual only [a_i_StepsTo, c_i_StepsTo, hso, fillParts, hkey, hsp, hst, foundP, List.map_cons, List.map_nil, if_true, go_sem, entry, joinEsc, if_pos, reduceIte, Nat.reduceAdd, Nat.reduceLeDiff, Nat.reduceLT, Nat.reduceEqDiff]

theorem e_s_StepsTo {q qp : Nat} {c cp : Option Nat} {ls : List Ld} {ps : List Int} {x a b s : Int} (h : cellsAt H q = some (encL ls)) (hn : ls.length ≤ 9223372036854775806) (hp : cellsAt H qp = some (encI ps)) (hpn : ps.length ≤ 9223372036854775806) : call T pr f_s_StepsTo [ptV x a b (slL q ls.length c) s, slI qp ps.length cp] ⟨H, e⟩ =
    some (.tup [.int .i64 ((stpO x a b s ls ps).getD 0), .bool (stpO x a b s ls ps).isSome], ⟨H, e⟩) := by
  rw [call_eq t_s_StepsTo]
  unfold stpO
  have hun : ∀ k, AV.under k (.slice none 0 0 none) = true := fun _ => rfl
  cases h1 : partyOk x a b ls s with
  | false => simp +contextual only [a_s_StepsTo, c_s_StepsTo, e_s_l11Party (cells_mono h _) hn, h1, Bool.false_and, Bool.false_eq_true, if_false, Option.getD_none, Option.isSome_none, go_sem, entry, joinEsc, if_pos, reduceIte, Nat.reduceAdd, Nat.reduceLeDiff, Nat.reduceLT, Nat.reduceEqDiff]
  | true =>
    have K := plk_of h1
    obtain ⟨d, rfl⟩ : ∃ d : Nat, x = d := ⟨x.toNat, by have := K.x1; omega⟩
    have hd12 : d ≤ 12 := by have := K.x12; omega
    have hpl := fun X e' => Wc.eq (wc_s_l11Placed (pr := pr) (H := H ++ X) (e := e') (c := c) (cp := cp) (cells_mono h X) K (cells_mono hp X) hpn rfl rfl)
    cases h2 : plcOk (d : Int) ls.length ps with
    | false =>
      rw [h2] at hpl
      simp only [Bool.false_eq_true, if_false, List.append_nil] at hpl
      simp (maxSteps := 2000000) +contextual only [a_s_StepsTo, c_s_StepsTo, e_s_l11Party (cells_mono h _) hn, h1, hpl, hun, ptV, fillParts, Bool.and_false, Bool.false_eq_true, if_false, Option.getD_none, Option.isSome_none, go_sem, entry, joinEsc, if_pos, reduceIte, Nat.reduceAdd, Nat.reduceLeDiff, Nat.reduceLT, Nat.reduceEqDiff]
    | true =>
      have G := good_spots h1
      have B := plc_box K.n3 h2
      obtain ⟨T1, hP⟩ := foundP_told h1
      rw [h2] at hpl
      simp only [if_true] at hpl
      have hsp := fun X => e_s_l11Spread (pr := pr) (e := none) (c := c) (ls := ls) (z := spots ls) (cells_mono (by rw [spots_self]; exact h) X) K G
      have hkey := fun L q' c' (hq' : cellsAt L q' = some (encL (putL ls (goalT ps)))) => e_s_l11Key (pr := pr) (H := L) (e := none) (c := c') (ls := putL ls (goalT ps)) (q := q') (d := d) hq' (by rw [putL_length]; exact K.n3) hd12 (putL_on B) a b s
      simp only [putL_length, key_put] at hkey
      have hlt := (boxN (d := d) K.n3).lt _ B
      have ho := outF_get K.n3 (foundP (d : Int) a b s ls) B
      obtain ⟨es, hes⟩ : ∃ es, es = foundP (d : Int) a b s ls := ⟨_, rfl⟩
      have hes' : bfsAll (nxP (d : Int) a b s ls) (spots ls) = es := hes.symm
      rw [hes'] at hsp
      rw [← hes] at T1 ho ⊢
      obtain ⟨N, hNe⟩ : ∃ N, N = (d + 1) ^ ls.length := ⟨_, rfl⟩
      rw [← hNe] at hsp hlt
      have hlt' : (keyN d ls.length (goalT ps) : Int) < (N : Int) := by omega
      have hv : ∀ v, mget es (goalT ps) = some v → 0 ≤ v := fun v hv => (T1.par _ _ hv).1
      have hu : AV.under (H.length + 2 + 1) (slL (H.length + 1) ls.length none) = true := by simp [AV.under]
      generalize mget es (goalT ps) = ov at *
      cases ov with
      | none =>
        simp only [Option.getD_none] at ho
        have hm1 : ¬ ((0 : Int) ≤ -1) := by omega
        have hm2 : ¬ ((0 : Int) < -1) := by omega
        simp (maxSteps := 2000000) +contextual only [a_s_StepsTo, c_s_StepsTo, e_s_l11Party (cells_mono h _) hn, h1, hpl, hsp, hkey, e_s_l1Most, part_encI _ ho, hlt, hlt', hm1, hm2, hu, fillParts, Bool.and_self, if_true, Option.getD_none, Option.isSome_none, decide_false, go_sem, entry, joinEsc, if_pos, reduceIte, Nat.reduceAdd, Nat.reduceLeDiff, Nat.reduceLT, Nat.reduceEqDiff]
      | some v =>
        have hv0 := hv v rfl
        simp only [Option.getD_some] at ho
        have hm3 : (if 0 < v then v else 0) = v := by split <;> omega
        simp (maxSteps := 2000000) +contextual only [a_s_StepsTo, c_s_StepsTo, e_s_l11Party (cells_mono h _) hn, h1, hpl, hsp, hkey, e_s_l1Most, part_encI _ ho, hlt, hlt', hv0, hm3, hu, fillParts, Bool.and_self, if_true, Option.getD_some, Option.isSome_some, decide_true, go_sem, entry, joinEsc, if_pos, reduceIte, Nat.reduceAdd, Nat.reduceLeDiff, Nat.reduceLT, Nat.reduceEqDiff]

end Go.Proofs.Ythkgpblohjpcdaa.Slim

/- Planks: the least number of moves to one place. -/
namespace Go.Proofs.Ythkgpblohjpcdaa.Slim

open Go

set_option linter.unusedSimpArgs false

set_option linter.unusedVariables false

variable {pr : Prims} {H : List Blk} {e : Option Nat}

end Go.Proofs.Ythkgpblohjpcdaa.Slim

/- Planks: the farthest places to which one can come. -/
namespace Go.Proofs.Ythkgpblohjpcdaa.Slim

open Go

set_option linter.unusedSimpArgs false

set_option linter.unusedVariables false

variable {pr : Prims} {H : List Blk} {e : Option Nat}

end Go.Proofs.Ythkgpblohjpcdaa.Slim

/- Planks: the first one of the shortest walks, in the program. -/
namespace Go.Proofs.Ythkgpblohjpcdaa.Slim

open Go

set_option linter.unusedSimpArgs false

set_option linter.unusedVariables false

variable {pr : Prims} {H : List Blk} {e : Option Nat}

theorem finish_slp {L : List Blk} {b1 s1 n1 : Nat} {c1 : Option Nat} {cs1 : List AV} {w1 : Bool} (y : Bool) (hL : Grown H L) (e0 e1 : Option Nat) (hc : clean H.length e1 = true) (hb1 : H.length ≤ b1)
    (h1 : L[b1]? = some (.cells cs1 w1)) (u1 : (cs1.all fun c => c.under H.length) = true) :
    finish 2 H.length e0 (.tup [.slice (some (b1, 0)) s1 n1 c1, .bool y]) ⟨L, e1⟩ = some (.tup [.slice (some (H.length, 0)) s1 n1 c1, .bool y], ⟨H ++ [.cells cs1 w1], e0⟩) := by
  obtain ⟨G, rfl⟩ := hL
  have hlt1 : ¬ b1 < H.length := by omega
  have hr : dedup (AV.roots H.length (.tup [.slice (some (b1, 0)) s1 n1 c1, .bool y])) = [b1] := by simp [AV.roots, AV.roots.go, dedup, hlt1]
  unfold finish
  simp only [hr]
  have h2 : ([b1].all fun b => flatBlk H.length (H ++ G)[b]?) = true := by
    simp only [List.all_cons, List.all_nil, Bool.and_true, h1, flatBlk, u1]
  simp only [hc, h2, and_self, if_true]
  simp [AV.rename, AV.rename.go, renum, hlt1, h1]

def nxM (z : List Int) (m : Ld) : List Int := z.set m.1.toNat m.2

def closer (es : Found) (v : Nat) (z : List Int) (m : Ld) : Bool := decide (mget es (nxM z m) = some (v : Int))

def fw (x a b s : Int) (ls : List Ld) (es : Found) : Nat → List Int → List Ld
  | 0, _ => []
  | v + 1, z => match (mvs x a b s (putL ls z)).find? (closer es v z) with
    | some m => m :: fw x a b s ls es v (nxM z m)
    | none => []

theorem mem_nx {x a b s : Int} {ls : List Ld} {z : List Int} {m : Ld} (h : m ∈ mvs x a b s (putL ls z)) : nxM z m ∈ nxP x a b s ls z := List.mem_map_of_mem (f := fun m : Ld => z.set m.1.toNat m.2) h

theorem closer_ex {x a b s : Int} {ls : List Ld} (K : Plk x a b s ls) {g : List Int} {es : Found} (T : BTold (nxP x a b s ls) g es) (hP : ∀ q ∈ es, Good x a b ls q.1) {z : List Int} {v : Nat} (h : mget es z = some ((v + 1 : Nat) : Int)) : ∃ m, (mvs x a b s (putL ls z)).find? (closer es v z) = some m := by
  obtain ⟨_, h1⟩ := T.par _ _ h
  rcases h1 with ⟨_, h2⟩ | ⟨y, h2, h3⟩
  · omega
  have e1 : ((v + 1 : Nat) : Int) - 1 = (v : Int) := by omega
  rw [e1] at h2
  have Gy : Good x a b ls y := hP _ (mget_mem h2)
  have h4 := Gy.sym K h3
  obtain ⟨m, hm, rfl⟩ := List.mem_map.mp h4
  have : ((mvs x a b s (putL ls z)).find? (closer es v z)).isSome = true := List.find?_isSome.mpr ⟨m, hm, by unfold closer nxM; exact decide_eq_true h2⟩
  exact Option.isSome_iff_exists.mp this

theorem closer_first {x a b s : Int} {ls : List Ld} {es : Found} {z : List Int} {v : Nat} {m : Ld} (h : (mvs x a b s (putL ls z)).find? (closer es v z) = some m) : mget es (nxM z m) = some (v : Int) ∧ ∃ (i : Nat), (mvs x a b s (putL ls z))[i]? = some m ∧ ∀ (j : Nat) (m' : Ld), j < i → (mvs x a b s (putL ls z))[j]? = some m' → ¬ mget es (nxM z m') = some (v : Int) := by
  obtain ⟨h1, i, hi, h2, h3⟩ := List.find?_eq_some_iff_getElem.mp h
  refine ⟨by simpa [closer] using h1, i, by rw [List.getElem?_eq_getElem hi, h2], fun j m' hj hm => ?_⟩
  obtain ⟨hjl, rfl⟩ := List.getElem?_eq_some_iff.mp hm
  have := h3 j hj
  simpa [closer] using this

theorem fw_length {x a b s : Int} {ls : List Ld} (K : Plk x a b s ls) {g : List Int} {es : Found} (T : BTold (nxP x a b s ls) g es) (hP : ∀ q ∈ es, Good x a b ls q.1) : ∀ (v : Nat) (z : List Int), mget es z = some (v : Int) → (fw x a b s ls es v z).length = v
  | 0, z, _ => rfl
  | v + 1, z, h => by
    obtain ⟨m, hm⟩ := closer_ex K T hP h
    rw [fw, hm]
    simp only [List.length_cons]
    rw [fw_length K T hP v _ (closer_first hm).1]

structure FI (Bs L : List Blk) (mb nb ob : Nat) (oc : Option Nat) (es : Found) (z : List Int) (W : List Ld) : Prop where
  gr : Grown Bs L
  mbl : mb < Bs.length
  nbl : Bs.length ≤ nb
  obl : Bs.length ≤ ob
  ne : ob ≠ nb
  mp : Bs[mb]? = some (.mp es)
  now : L[nb]? = some (.cells (encI z) true)
  out : L[ob]? = some (.cells (encL W) true)
  cap : oc = some 0 → W.length = 0

theorem FI.mapL {Bs L : List Blk} {mb nb ob : Nat} {oc : Option Nat} {es : Found} {z : List Int} {W : List Ld} (S : FI Bs L mb nb ob oc es z W) : L[mb]? = some (.mp es) := by
  rw [S.gr.get S.mbl]
  exact S.mp

theorem fw_i_in {Bs L : List Blk} {x a b s z0 z1 z2 : Int} {ls : List Ld} {es : Found} {v : Nat} {m : Ld} {W : List Ld} {mb nb ob qb : Nat} {oc mc : Option Nat} {w0 w1 w2 w3 w4 w5 w6 w10 w12 w13 w14 w15 w16 w20 w21 : AV}
    (K : Plk x a b s ls) (G : Good x a b ls [z0, z1, z2]) (hP : ∀ q ∈ es, Good x a b ls q.1) (hf : (mvs x a b s (putL ls [z0, z1, z2])).find? (closer es v [z0, z1, z2]) = some m) (hall : ∀ m' ∈ mvs x a b s (putL ls [z0, z1, z2]), (mget es (nxM [z0, z1, z2] m')).isSome = true)
    (S : FI Bs L mb nb ob oc es [z0, z1, z2] W) (hW : W.length ≤ 100000) (hv : v ≤ 100000) (hqb : L[qb]? = some (.cells (encL (mvs x a b s (putL ls [z0, z1, z2]))) true)) (d1 : qb ≠ nb) (d2 : qb ≠ ob) :
    Wp (run T pr (.loop w_i_FirstWalkTo_1) ⟨[w0, w1, w2, w3, w4, w5, w6, .map (some mb), .ptr (some (nb, 0)), .int .i64 (v + 1 : Nat), w10, slL ob W.length oc, w12, w13, w14, w15, w16, slL qb (mvs x a b s (putL ls [z0, z1, z2])).length mc, .int .i64 (mvs x a b s (putL ls [z0, z1, z2])).length, .int .i64 0, w20, w21], ⟨L, none⟩⟩)
      (fun ex st => ex = .exit 2 ∧ ∃ (L' : List Blk) (ob' : Nat) (oc' : Option Nat) (v12 v13 v19 v20 v21 : AV), FI Bs L' mb nb ob' oc' es (nxM [z0, z1, z2] m) (W ++ [m]) ∧ st = ⟨[w0, w1, w2, w3, w4, w5, w6, .map (some mb), .ptr (some (nb, 0)), .int .i64 (v + 1 : Nat), w10, slL ob' (W ++ [m]).length oc', v12, v13, w14, w15, w16, slL qb (mvs x a b s (putL ls [z0, z1, z2])).length mc, .int .i64 (mvs x a b s (putL ls [z0, z1, z2])).length, v19, v20, v21], ⟨L', none⟩⟩) := by
  obtain ⟨hm1, i0, hi0, hno⟩ := closer_first hf
  obtain ⟨M, hM⟩ : ∃ M, M = mvs x a b s (putL ls [z0, z1, z2]) := ⟨_, rfl⟩
  rw [← hM] at hi0 hno hqb hall ⊢
  have hi0l := get_lt hi0
  have hMn : M.length ≤ 6 := by
    rw [hM]
    have h3 := K.n3
    exact Nat.le_trans (mvs_le x a b s _ _ _) (by rw [putL_length]; omega)
  refine Wp_loop (fun k st => ∃ (j : Nat) (L' : List Blk) (v12 v13 v20 v21 : AV), j + k = i0 + 1 ∧ j ≤ i0 ∧ FI Bs L' mb nb ob oc es [z0, z1, z2] W ∧ L'[qb]? = some (.cells (encL M) true) ∧
    st = ⟨[w0, w1, w2, w3, w4, w5, w6, .map (some mb), .ptr (some (nb, 0)), .int .i64 (v + 1 : Nat), w10, slL ob W.length oc, v12, v13, w14, w15, w16, slL qb M.length mc, .int .i64 M.length, .int .i64 j, v20, v21], ⟨L', none⟩⟩) ?_ (i0 + 1) _ ⟨0, L, _, _, _, _, by omega, by omega, S, hqb, rfl⟩
  rintro k _ ⟨j, L', v12, v13, v20, v21, hk, hj0, S', hqb', rfl⟩
  have hjl : j < M.length := by omega
  have hw := wrap_succ (show j < 9223372036854775807 by omega)
  have hl : M[j]? = some M[j] := List.getElem?_eq_getElem hjl
  have hjm : M[j] ∈ mvs x a b s (putL ls [z0, z1, z2]) := by rw [← hM]; exact List.getElem_mem hjl
  obtain ⟨i, hi, hi2⟩ := mvs_range hjm
  rw [putL_length] at hi2
  have hi3 : i < 3 := by have := K.n3; omega
  have hi4 : (i : Int) < 3 := by omega
  have hle1 : i + 1 ≤ 3 := by omega
  have hit : M[j].1.toNat = i := by rw [hi]; exact Int.toNat_natCast i
  obtain ⟨t0, t1, t2, ht, hset⟩ := set3 (s0 := z0) (s1 := z1) (s2 := z2) (p := M[j].2) hi3
  have hGt := G.next K (mem_nx hjm)
  have hnx : nxM [z0, z1, z2] M[j] = [t0, t1, t2] := by unfold nxM; rw [hit, ht]
  rw [hnx] at hGt
  have hI := hGt.in64 K
  have hkey := keyZ_three hI.1 hI.2.1 hI.2.2
  have hpart : part true (encL M) (j * 2) 2 = some (.agg [.int .i64 (i : Int), .int .i64 M[j].2]) := by
    have := part_encL hl
    rw [hi] at this
    exact this
  have hnb' := S'.now
  have hob' := S'.out
  have hmp' := S'.mapL
  have hnbm := cells_more hnb'
  have hqbm := cells_more hqb'
  have hmpm := mapAt_more hmp'
  have hnb0 := cellsAt_of hnb'
  have hqb0 := cellsAt_of hqb'
  have hmp0 := mapAt_of hmp'
  have hmbl := get_lt hmp'
  have hnbl := get_lt hnb'
  have hqbl := get_lt hqb'
  have hwv : IntKind.i64.wrap (((v + 1 : Nat) : Int) - 1) = (v : Int) := by
    have e1 : ((v + 1 : Nat) : Int) - 1 = (v : Int) := by omega
    rw [e1]
    exact wrapN (by omega)
  by_cases hc : mget es [t0, t1, t2] = some (v : Int)
  · simp (maxSteps := 2000000) +contextual only [w_i_FirstWalkTo_1, encI, List.map_cons, List.map_nil, fillParts, at02, at12, toNat0, toNat1, hjl, hw, hwv, hqbm, hnbm, hnb0, hqb0, hmp0, hpart, hi3, hi4, hle1, hset, hmpm, hkey, hc, Option.getD_some, decide_true, decide_false, Wp_some, Wp_none, Wp_ite, Wc_some, Wc_none, Wc_ite, Wp_thenRun, seqQ_normal, seqQ_exit, seqQ_ret, Wp_inBlock, blkQ_normal, blkQ_ret, blkQ_same, blkQ_exit, Wp_opThen, opQ_at, Wp_guardP, retQ_normal, retQ_ret, loopQ_normal, loopQ_exit, loopQ_ret, go_sem, entry, joinEsc, if_pos, reduceIte, Nat.reduceAdd, Nat.reduceLeDiff, Nat.reduceLT, Nat.reduceEqDiff]
    have hji : j = i0 := by
      rcases Nat.lt_or_ge j i0 with h | h
      · exact absurd (by rw [hnx]; exact hc) (hno j _ h hl)
      · omega
    have hmj : M[j] = m := by
      rw [← hji, hl] at hi0
      exact Option.some.inj hi0
    have hobl := get_lt hob'
    have hgle := S'.gr.le
    have hnbb := S'.nbl
    have hobb := S'.obl
    have hne' := S'.ne
    have hmbB := S'.mbl
    refine wc_ap (n := W.length) (k := 1) (new := [AV.int .i64 i, AV.int .i64 M[j].2]) (get_more hob' _) (src_new _ 1 2 _ _ (L'.length + 2) (by simp +contextual only [go_sem, entry, joinEsc, if_pos, reduceIte, Nat.reduceAdd, Nat.reduceLeDiff, Nat.reduceLT, Nat.reduceEqDiff]) rfl) (by rw [encL_length]) rfl (by unfold maxBytes; omega) S'.cap ?_
    intro L2 g1 g2 g3 g4
    have hl2 : L2.length = L'.length + 4 := by rw [g1, List.length_append]; rfl
    have r1 : L2[nb]? = some (.cells [AV.int .i64 z0, AV.int .i64 z1, AV.int .i64 z2] true) := (g2 nb (fun h => hne' h.symm) (by rw [List.length_append]; omega)).trans (get_more hnb' _)
    have r2 : L2[L'.length + 1]? = some (.cells [AV.int .i64 t0, AV.int .i64 t1, AV.int .i64 t2] true) := by
      refine (g2 (L'.length + 1) (by omega) (by rw [List.length_append]; simp)).trans ?_
      rw [List.getElem?_append_right (by omega), Nat.add_sub_cancel_left]
      rfl
    have r3 := cellsAt_of r2
    have hnbl2 := get_lt r1
    simp (maxSteps := 2000000) +contextual only [r1, r3, decide_true, Wp_some, Wp_none, Wp_ite, Wc_some, Wc_none, Wc_ite, Wp_thenRun, seqQ_normal, seqQ_exit, seqQ_ret, Wp_inBlock, blkQ_normal, blkQ_ret, blkQ_same, blkQ_exit, Wp_opThen, opQ_at, Wp_guardP, retQ_normal, retQ_ret, loopQ_normal, loopQ_exit, loopQ_ret, go_sem, entry, joinEsc, if_pos, reduceIte, Nat.reduceAdd, Nat.reduceLeDiff, Nat.reduceLT, Nat.reduceEqDiff]
    have hnm : nxM [z0, z1, z2] m = [t0, t1, t2] := by rw [← hmj]; exact hnx
    have henc : encL (W ++ [m]) = encL W ++ [AV.int .i64 (i : Int), AV.int .i64 M[j].2] := by
      rw [encL_append, ← hmj]
      show encL W ++ [AV.int .i64 M[j].1, AV.int .i64 M[j].2] = _
      rw [hi]
    have hlen3 : (L' ++ [Blk.cells [AV.int IntKind.i64 (i : Int), AV.int IntKind.i64 M[j].2] true, Blk.cells [AV.int IntKind.i64 t0, AV.int IntKind.i64 t1, AV.int IntKind.i64 t2] true, Blk.cells [AV.int IntKind.i64 (i : Int), AV.int IntKind.i64 M[j].2] true]).length = L'.length + 3 := by rw [List.length_append]; rfl
    rw [hlen3] at g3
    refine ⟨_, L'.length + 3, none, _, _, _, _, _, ⟨(g4 Bs (S'.gr.more _) hobb).put hnbb _, hmbB, hnbb, by omega, by omega, S'.mp, ?_, ?_, fun h => by cases h⟩, rfl⟩
    · rw [List.getElem?_set_self hnbl2, hnm]
      rfl
    · rw [List.getElem?_set_ne (by omega), g3, henc]
  · have hjlt : j < i0 := by
      rcases Nat.lt_or_ge j i0 with h | h
      · exact h
      · have e : j = i0 := by omega
        subst e
        rw [hl] at hi0
        cases hi0
        rw [hnx] at hm1
        exact absurd hm1 hc
    obtain ⟨u, hu⟩ := Option.isSome_iff_exists.mp (hall _ (List.getElem_mem hjl))
    rw [hnx] at hu
    have hne : ¬ u = (v : Int) := fun h => hc (by rw [hu, h])
    simp (maxSteps := 2000000) +contextual only [w_i_FirstWalkTo_1, encI, List.map_cons, List.map_nil, fillParts, at02, at12, toNat0, toNat1, hjl, hw, hwv, hqbm, hnbm, hnb0, hqb0, hmp0, hpart, hi3, hi4, hle1, hset, hmpm, hkey, hu, hne, Option.getD_some, decide_true, decide_false, Wp_some, Wp_none, Wp_ite, Wc_some, Wc_none, Wc_ite, Wp_thenRun, seqQ_normal, seqQ_exit, seqQ_ret, Wp_inBlock, blkQ_normal, blkQ_ret, blkQ_same, blkQ_exit, Wp_opThen, opQ_at, Wp_guardP, retQ_normal, retQ_ret, loopQ_normal, loopQ_exit, loopQ_ret, go_sem, entry, joinEsc, if_pos, reduceIte, Nat.reduceAdd, Nat.reduceLeDiff, Nat.reduceLT, Nat.reduceEqDiff]
    exact ⟨k - 1, by omega, j + 1, _, _, _, _, _, by omega, by omega, ⟨S'.gr.more _, S'.mbl, S'.nbl, S'.obl, S'.ne, S'.mp, get_more hnb' _, get_more hob' _, S'.cap⟩, get_more hqb' _, rfl⟩

def fwO (x a b s : Int) (ls : List Ld) (ps : List Int) : Option (List Ld) :=
  if (partyOk x a b ls s && plcOk x ls.length ps && decide (sideW (putL ls (goalT ps)) a b = 0)) = true then
    match mget (bfsAll (nxP x a b s ls) (goalT ps)) (spots ls) with
    | some v => if v ≤ 60 then some (fw x a b s ls (bfsAll (nxP x a b s ls) (goalT ps)) v.toNat (spots ls)) else none
    | none => none
  else none

def fwPost (H : List Blk) (e : Option Nat) (z : AV) (G : List Blk) : Option (List Ld) → AV → Mem → Prop
  | some W => fun v m => ∃ cap, v = .tup [slL H.length W.length cap, .bool true] ∧ m = ⟨H ++ [.cells (encL W) true], e⟩
  | none => fun v m => v = .tup [z, .bool false] ∧ m = ⟨H ++ G, e⟩

theorem goal_told {x a b s : Int} {ls : List Ld} (K : Plk x a b s ls) {g : List Int} (G : Good x a b ls g) : BTold (nxP x a b s ls) g (bfsAll (nxP x a b s ls) g) ∧ ∀ q ∈ bfsAll (nxP x a b s ls) g, Good x a b ls q.1 := by
  obtain ⟨hb, hN⟩ := K.box
  exact bfs_told hb hN (fun z hz t ht => hz.next K ht) G

theorem wc_i_FirstWalkTo {q qp : Nat} {c cp : Option Nat} {ls : List Ld} {ps : List Int} {x a b s : Int} (h : cellsAt H q = some (encL ls)) (hn : ls.length ≤ 9223372036854775806) (hp : cellsAt H qp = some (encI ps)) :
    Wc (call T pr f_i_FirstWalkTo [ptV x a b (slL q ls.length c) s, slI qp ps.length cp] ⟨H, e⟩) (fwPost H e (.slice none 0 0 none) [] (fwO x a b s ls ps)) := by
  have hso := fun X e' => Wc.eq (wc_i_spotsOf (pr := pr) (H := H ++ X) (e := e') (c := c) (cp := cp) (ls := ls) (ps := ps) (x := x) (a := a) (b := b) (s := s) (cells_mono h X) hn (cells_mono hp X) rfl)
  rw [call_wc t_i_FirstWalkTo]
  unfold fwO
  cases h1 : (partyOk x a b ls s && plcOk x ls.length ps) with
  | false =>
    rw [h1] at hso
    simp +contextual only [a_i_FirstWalkTo, c_i_FirstWalkTo, hso, fillParts, fwPost, finish_two_nb, Bool.false_and, Bool.false_eq_true, if_false, Wp_some, Wp_none, Wp_ite, Wc_some, Wc_none, Wc_ite, Wp_thenRun, seqQ_normal, seqQ_exit, seqQ_ret, Wp_inBlock, blkQ_normal, blkQ_ret, blkQ_same, blkQ_exit, Wp_opThen, opQ_at, Wp_guardP, retQ_normal, retQ_ret, loopQ_normal, loopQ_exit, loopQ_ret, go_sem, entry, joinEsc, if_pos, reduceIte, Nat.reduceAdd, Nat.reduceLeDiff, Nat.reduceLT, Nat.reduceEqDiff]
  | true =>
    obtain ⟨h2, h3⟩ := Bool.and_eq_true_iff.mp h1
    have K := plk_of h2
    have G := good_spots h2
    have B := plc_box K.n3 h3
    obtain ⟨g0, g1, g2, hg⟩ := Slim.three B.len
    rw [h1, hg] at hso
    rw [hg] at B ⊢
    have hrest := fun X => e_i_Party_rests (pr := pr) (e := none) (c := c) (cells_mono h X) K.n3 x a b s g0 g1 g2
    cases h4 : decide (sideW (putL ls [g0, g1, g2]) a b = 0) with
    | false =>
      rw [h4] at hrest
      simp +contextual only [a_i_FirstWalkTo, c_i_FirstWalkTo, hso, hrest, fillParts, fwPost, finish_two_nb, List.map_cons, List.map_nil, Bool.and_false, Bool.false_eq_true, if_false, if_true, Wp_some, Wp_none, Wp_ite, Wc_some, Wc_none, Wc_ite, Wp_thenRun, seqQ_normal, seqQ_exit, seqQ_ret, Wp_inBlock, blkQ_normal, blkQ_ret, blkQ_same, blkQ_exit, Wp_opThen, opQ_at, Wp_guardP, retQ_normal, retQ_ret, loopQ_normal, loopQ_exit, loopQ_ret, go_sem, entry, joinEsc, if_pos, reduceIte, Nat.reduceAdd, Nat.reduceLeDiff, Nat.reduceLT, Nat.reduceEqDiff]
    | true =>
      rw [h4] at hrest
      have Gg : Good x a b ls [g0, g1, g2] := ⟨B, by simpa using h4⟩
      obtain ⟨T1, hP⟩ := goal_told K Gg
      obtain ⟨z0, z1, z2, hz⟩ := G.three
      have hsp := fun X => e_i_Party_spots (pr := pr) (e := none) (c := c) (cells_mono h X) K.n3 x a b s hz
      have hst := fun X => e_i_Party_stepsFrom (pr := pr) (e := none) (c := c) (cells_mono h X) K Gg
      obtain ⟨es, hes⟩ : ∃ es, es = bfsAll (nxP x a b s ls) [g0, g1, g2] := ⟨_, rfl⟩
      rw [← hes] at hst T1 hP ⊢
      rw [hz] at G ⊢
      have hI := G.in64 K
      have hkey := keyZ_three hI.1 hI.2.1 hI.2.2
      cases hs : mget es [z0, z1, z2] with
      | none =>
        simp (maxSteps := 2000000) +contextual only [a_i_FirstWalkTo, c_i_FirstWalkTo, hso, hrest, hsp, hst, hkey, hs, fillParts, fwPost, finish_two_nb, List.map_cons, List.map_nil, Bool.and_self, Option.getD_none, Option.isSome_none, if_true, Wp_some, Wp_none, Wp_ite, Wc_some, Wc_none, Wc_ite, Wp_thenRun, seqQ_normal, seqQ_exit, seqQ_ret, Wp_inBlock, blkQ_normal, blkQ_ret, blkQ_same, blkQ_exit, Wp_opThen, opQ_at, Wp_guardP, retQ_normal, retQ_ret, loopQ_normal, loopQ_exit, loopQ_ret, go_sem, entry, joinEsc, if_pos, reduceIte, Nat.reduceAdd, Nat.reduceLeDiff, Nat.reduceLT, Nat.reduceEqDiff]
      | some v =>
        obtain ⟨n, rfl⟩ := T1.nat hs
        by_cases hv : (n : Int) ≤ 60
        · simp (maxSteps := 2000000) +contextual only [a_i_FirstWalkTo, c_i_FirstWalkTo, hso, hrest, hsp, hst, hkey, hs, hv, fillParts, fwPost, List.map_cons, List.map_nil, Bool.and_self, Option.getD_some, Option.isSome_some, if_true, show ¬ ((n : Int) > 60) by omega, decide_false, Wp_some, Wp_none, Wp_ite, Wc_some, Wc_none, Wc_ite, Wp_thenRun, seqQ_normal, seqQ_exit, seqQ_ret, Wp_inBlock, blkQ_normal, blkQ_ret, blkQ_same, blkQ_exit, Wp_opThen, opQ_at, Wp_guardP, retQ_normal, retQ_ret, loopQ_normal, loopQ_exit, loopQ_ret, go_sem, entry, joinEsc, if_pos, reduceIte, Nat.reduceAdd, Nat.reduceLeDiff, Nat.reduceLT, Nat.reduceEqDiff]
          obtain ⟨A, hA⟩ : ∃ A : Blk, A = .cells [.int .i64 x, .int .i64 a, .int .i64 b, slL q ls.length c, .int .i64 s] true := ⟨_, rfl⟩
          obtain ⟨G0, hG0⟩ : ∃ G0 : Blk, G0 = .cells [.int .i64 g0, .int .i64 g1, .int .i64 g2] true := ⟨_, rfl⟩
          obtain ⟨R, hR⟩ : ∃ R, R = fw x a b s ls es n [z0, z1, z2] := ⟨_, rfl⟩
          have hRl := fw_length K T1 hP n _ hs
          rw [← hR] at hRl
          rw [← hR, ← hA, ← hG0]
          refine Wp_loop (fun k st => ∃ (z : List Int) (W : List Ld) (L : List Blk) (ob : Nat) (oc : Option Nat) (w12 w13 w16 w17 w18 w19 w20 w21 : AV), W ++ fw x a b s ls es k z = R ∧ W.length + k = n ∧ mget es z = some (k : Int) ∧ FI (H ++ [A, G0, .mp es]) L (H.length + 2) (H.length + 3) ob oc es z W ∧
            st = ⟨[ptV x a b (slL q ls.length c) s, slI qp ps.length cp, .ptr (some (H.length, 0)), .slice none 0 0 none, .bool false, .ptr (some (H.length + 1, 0)), .bool true, .map (some (H.length + 2)), .ptr (some (H.length + 3, 0)), .int .i64 k, .bool true, slL ob W.length oc, w12, w13, .bool false, .bool false, w16, w17, w18, w19, w20, w21], ⟨L, none⟩⟩) ?_ n _ ?_
          rotate_left
          · refine ⟨[z0, z1, z2], [], _, _, _, _, _, _, _, _, _, _, _, by rw [hR]; rfl, by simp, hs, ⟨⟨[.cells [.int .i64 z0, .int .i64 z1, .int .i64 z2] true, .cells [] true], by simp⟩, by simp, by simp, ?_, ?_, ?_, ?_, ?_, fun _ => rfl⟩, rfl⟩
            · simp
            · omega
            · rw [blkAt_newk]
              rfl
            · rw [blkAt_newk]
              rfl
            · rw [blkAt_newk]
              rfl
          rintro k _ ⟨z, W, L, ob, oc, w12, w13, w16, w17, w18, w19, w20, w21, hW, hlen, hzv, S, rfl⟩
          have Gz : Good x a b ls z := hP _ (mget_mem hzv)
          have hgH := gr_H S.gr
          have hobb := S.obl
          simp only [List.length_append, List.length_cons, List.length_nil] at hobb
          cases k with
          | zero =>
            have hWR : W = R := by rw [← hW]; exact (List.append_nil W).symm
            subst hWR
            have hf := finish_slp (s1 := 2) (n1 := W.length) (c1 := oc) true hgH e none rfl (by omega) S.out (under_encL _ _)
            have h00 : ¬ (((0 : Nat) : Int) > 0) := by omega
            have h01 : ¬ ((0 : Int) < ((0 : Nat) : Int)) := by omega
            simp (maxSteps := 2000000) +contextual only [w_i_FirstWalkTo_2, a_i_FirstWalkTo, gt_iff_lt, h00, h01, hf, decide_false, Wp_some, Wp_none, Wp_ite, Wc_some, Wc_none, Wc_ite, Wp_thenRun, seqQ_normal, seqQ_exit, seqQ_ret, Wp_inBlock, blkQ_normal, blkQ_ret, blkQ_same, blkQ_exit, Wp_opThen, opQ_at, Wp_guardP, retQ_normal, retQ_ret, loopQ_normal, loopQ_exit, loopQ_ret, go_sem, entry, joinEsc, if_pos, reduceIte, Nat.reduceAdd, Nat.reduceLeDiff, Nat.reduceLT, Nat.reduceEqDiff]
            exact ⟨_, rfl⟩
          | succ k =>
            obtain ⟨m, hm⟩ := closer_ex K T1 hP hzv
            obtain ⟨y0, y1, y2, rfl⟩ := Gz.three
            have hfw : fw x a b s ls es (k + 1) [y0, y1, y2] = m :: fw x a b s ls es k (nxM [y0, y1, y2] m) := by rw [fw, hm]
            have hq := cellsAt_lt h
            have hnb0 := cellsAt_of S.now
            have hA0 : ∀ X, cellsAt (L ++ X) H.length = some [.int .i64 x, .int .i64 a, .int .i64 b, slL q ls.length c, .int .i64 s] := fun X => by
              have := gr_at 0 (by simp) S.gr
              rw [Nat.add_zero] at this
              rw [hA] at this
              exact cells_more this X
            have hA1 : cellsAt L H.length = some [.int .i64 x, .int .i64 a, .int .i64 b, slL q ls.length c, .int .i64 s] := by
              have := hA0 []
              rwa [List.append_nil] at this
            obtain ⟨cap, hmv⟩ := e_i_Party_moves (pr := pr) (e := none) (c := c) (gr_cells h S.gr) K.n3 x a b s y0 y1 y2
            have hpos : (0 : Int) < ((k + 1 : Nat) : Int) := by omega
            have hall : ∀ m' ∈ mvs x a b s (putL ls [y0, y1, y2]), (mget es (nxM [y0, y1, y2] m')).isSome = true := by
              intro m' hm'
              obtain ⟨u, hu, _⟩ := T1.out _ _ hzv _ (mem_nx hm')
              rw [hu]
              rfl
            simp (maxSteps := 2000000) +contextual only [w_i_FirstWalkTo_2, a_i_FirstWalkTo, fillParts, encI, List.map_cons, List.map_nil, gt_iff_lt, hpos, hA0, hA1, hnb0, hmv, decide_true, Wp_some, Wp_none, Wp_ite, Wc_some, Wc_none, Wc_ite, Wp_thenRun, seqQ_normal, seqQ_exit, seqQ_ret, Wp_inBlock, blkQ_normal, blkQ_ret, blkQ_same, blkQ_exit, Wp_opThen, opQ_at, Wp_guardP, retQ_normal, retQ_ret, loopQ_normal, loopQ_exit, loopQ_ret, go_sem, entry, joinEsc, if_pos, reduceIte, Nat.reduceAdd, Nat.reduceLeDiff, Nat.reduceLT, Nat.reduceEqDiff]
            have hobl := get_lt S.out
            have hnbl := get_lt S.now
            have S2 : FI (H ++ [A, G0, .mp es]) (L ++ [.cells (encL (mvs x a b s (putL ls [y0, y1, y2]))) true]) (H.length + 2) (H.length + 3) ob oc es [y0, y1, y2] W := ⟨S.gr.more _, S.mbl, S.nbl, S.obl, S.ne, S.mp, get_more S.now _, get_more S.out _, S.cap⟩
            refine (fw_i_in (pr := pr) (qb := L.length) (mc := cap) K Gz hP hm hall S2 (by omega) (by omega) (by rw [List.getElem?_append_right (Nat.le_refl _), Nat.sub_self]; rfl) (by omega) (by omega)).mono ?_
            rintro _ _ ⟨rfl, L', ob', oc', v12, v13, v19, v20, v21, S', rfl⟩
            have hwk : IntKind.i64.wrap (((k + 1 : Nat) : Int) - 1) = (k : Int) := by
              have e1 : ((k + 1 : Nat) : Int) - 1 = (k : Int) := by omega
              rw [e1]
              exact wrapN (by omega)
            simp (maxSteps := 2000000) +contextual only [hwk, Wp_some, Wp_none, Wp_ite, Wc_some, Wc_none, Wc_ite, Wp_thenRun, seqQ_normal, seqQ_exit, seqQ_ret, Wp_inBlock, blkQ_normal, blkQ_ret, blkQ_same, blkQ_exit, Wp_opThen, opQ_at, Wp_guardP, retQ_normal, retQ_ret, loopQ_normal, loopQ_exit, loopQ_ret, go_sem, entry, joinEsc, if_pos, reduceIte, Nat.reduceAdd, Nat.reduceLeDiff, Nat.reduceLT, Nat.reduceEqDiff]
            rw [show W.length + 1 = (W ++ [m]).length by rw [List.length_append]; rfl]
            exact ⟨k, by omega, _, _, _, _, _, _, _, _, _, _, _, _, _, by rw [← hW, hfw, List.append_assoc]; rfl, by rw [List.length_append]; simp only [List.length_cons, List.length_nil]; omega, (closer_first hm).1, S', rfl⟩
        · simp (maxSteps := 2000000) +contextual only [a_i_FirstWalkTo, c_i_FirstWalkTo, hso, hrest, hsp, hst, hkey, hs, hv, fillParts, fwPost, finish_two_nb, List.map_cons, List.map_nil, Bool.and_self, Option.getD_some, Option.isSome_some, if_true, if_false, show ((n : Int) > 60) by omega, decide_true, Wp_some, Wp_none, Wp_ite, Wc_some, Wc_none, Wc_ite, Wp_thenRun, seqQ_normal, seqQ_exit, seqQ_ret, Wp_inBlock, blkQ_normal, blkQ_ret, blkQ_same, blkQ_exit, Wp_opThen, opQ_at, Wp_guardP, retQ_normal, retQ_ret, loopQ_normal, loopQ_exit, loopQ_ret, go_sem, entry, joinEsc, if_pos, reduceIte, Nat.reduceAdd, Nat.reduceLeDiff, Nat.reduceLT, Nat.reduceEqDiff]

end Go.Proofs.Ythkgpblohjpcdaa.Slim

/- Planks: the first one of the shortest walks, in the other program; the law. -/
namespace Go.Proofs.Ythkgpblohjpcdaa.Slim

open Go

set_option linter.unusedSimpArgs false

set_option linter.unusedVariables false

variable {pr : Prims} {H : List Blk} {e : Option Nat}

theorem cells_same {L L' : List Blk} {q : Nat} (h : L'[q]? = L[q]?) : cellsAt L' q = cellsAt L q := by unfold cellsAt; rw [h]

structure FS (Bs L : List Blk) (d : Nat) (a b s : Int) (ls : List Ld) (sb nb nq ob : Nat) (nc oc : Option Nat) (es : Found) (z : List Int) (W : List Ld) : Prop where
  gr : Grown Bs L
  nbl : Bs.length ≤ nb
  obl : Bs.length ≤ ob
  n1 : ob ≠ sb
  n2 : ob ≠ nb
  n3 : ob ≠ nq
  n4 : nb ≠ sb
  n5 : nb ≠ nq
  sp : L[sb]? = some (.cells (encI (outF d ls.length es)) true)
  now : L[nb]? = some (.cells [.int .i64 d, .int .i64 a, .int .i64 b, slL nq ls.length nc, .int .i64 s] true)
  np : cellsAt L nq = some (encL (putL ls z))
  out : L[ob]? = some (.cells (encL W) true)
  cap : oc = some 0 → W.length = 0

theorem FS.more {Bs L : List Blk} {d : Nat} {a b s : Int} {ls : List Ld} {sb nb nq ob : Nat} {nc oc : Option Nat} {es : Found} {z : List Int} {W : List Ld} (S : FS Bs L d a b s ls sb nb nq ob nc oc es z W) (X : List Blk) : FS Bs (L ++ X) d a b s ls sb nb nq ob nc oc es z W :=
  ⟨S.gr.more _, S.nbl, S.obl, S.n1, S.n2, S.n3, S.n4, S.n5, get_more S.sp _, get_more S.now _, cells_mono S.np _, get_more S.out _, S.cap⟩

theorem fw_s_in {Bs L : List Blk} {d : Nat} {a b s : Int} {ls : List Ld} {z : List Int} {es : Found} {v : Nat} {m : Ld} {W M : List Ld} {sb nb nq ob qb i0 : Nat} {nc oc mc : Option Nat} {w0 w1 w2 w3 w4 w6 w7 w8 w13 w14 w15 : AV}
    (K : Plk (d : Int) a b s ls) (G : Good (d : Int) a b ls z) (hM : M = mvs (d : Int) a b s (putL ls z)) (hz : mget es z = some ((v + 1 : Nat) : Int)) (hv : v ≤ 100000) (hm : mget es (nxM z m) = some (v : Int)) (hi0 : M[i0]? = some m) (hno : ∀ (j : Nat) (m' : Ld), j < i0 → M[j]? = some m' → ¬ mget es (nxM z m') = some (v : Int)) (hall : ∀ m' ∈ M, (mget es (nxM z m')).isSome = true)
    (S : FS Bs L d a b s ls sb nb nq ob nc oc es z W) (hqb : L[qb]? = some (.cells (encL M) true)) :
    Wp (run T pr (.loop w_s_FirstWalkTo_1) ⟨[w0, w1, w2, w3, w4, slL ob W.length oc, w6, w7, w8, .slice (some (sb, 0)) 1 ((d + 1) ^ ls.length) (some ((d + 1) ^ ls.length)), .ptr (some (nb, 0)), slL qb M.length mc, .int .i64 0, w13, w14, w15], ⟨L, e⟩⟩)
      (fun ex st => ex = .exit 2 ∧ ∃ (L' : List Blk) (v15 : AV), FS Bs L' d a b s ls sb nb nq ob nc oc es z W ∧ L'[qb]? = some (.cells (encL M) true) ∧ st = ⟨[w0, w1, w2, w3, w4, slL ob W.length oc, w6, w7, w8, .slice (some (sb, 0)) 1 ((d + 1) ^ ls.length) (some ((d + 1) ^ ls.length)), .ptr (some (nb, 0)), slL qb M.length mc, .int .i64 i0, w13, w14, v15], ⟨L', e⟩⟩) := by
  have hi0l := get_lt hi0
  have hn3 := K.n3
  have hd12 : d ≤ 12 := by have := K.x12; omega
  have hMn : M.length ≤ 6 := by
    rw [hM]
    exact Nat.le_trans (mvs_le (d : Int) a b s _ _ _) (by rw [putL_length]; omega)
  refine Wp_loop (fun k st => ∃ (j : Nat) (L' : List Blk) (v15 : AV), j + k = i0 + 1 ∧ j ≤ i0 ∧ FS Bs L' d a b s ls sb nb nq ob nc oc es z W ∧ L'[qb]? = some (.cells (encL M) true) ∧
    st = ⟨[w0, w1, w2, w3, w4, slL ob W.length oc, w6, w7, w8, .slice (some (sb, 0)) 1 ((d + 1) ^ ls.length) (some ((d + 1) ^ ls.length)), .ptr (some (nb, 0)), slL qb M.length mc, .int .i64 j, w13, w14, v15], ⟨L', e⟩⟩) ?_ (i0 + 1) _ ⟨0, L, _, by omega, by omega, S, hqb, rfl⟩
  rintro k _ ⟨j, L', v15, hk, hj0, S', hqb', rfl⟩
  have hjl : j < M.length := by omega
  have hw := wrap_succ (show j < 9223372036854775807 by omega)
  have hl : M[j]? = some M[j] := List.getElem?_eq_getElem hjl
  have hjm : M[j] ∈ mvs (d : Int) a b s (putL ls z) := by rw [← hM]; exact List.getElem_mem hjl
  obtain ⟨i, hi, hi2⟩ := mvs_range hjm
  rw [putL_length] at hi2
  have hit : M[j].1.toNat = i := by rw [hi]; exact Int.toNat_natCast i
  have hGt := G.next K (mem_nx hjm)
  have hnx : nxM z M[j] = z.set i M[j].2 := by unfold nxM; rw [hit]
  rw [hnx] at hGt
  have hpart : part true (encL M) (j * 2) 2 = some (.agg [.int .i64 (i : Int), .int .i64 M[j].2]) := by
    have := part_encL hl
    rw [hi] at this
    exact this
  have hnbm := cells_more S'.now
  have hnb0 := cellsAt_of S'.now
  have hqb0 := cellsAt_of hqb'
  have hqbm := cells_more hqb'
  have hsbm := cells_more S'.sp
  have hmvd := e_s_l11Moved (pr := pr) (H := L') (e := e) (c := nc) (ls := putL ls z) (q := nq) S'.np (by rw [putL_length]; exact hn3) (d : Int) a b s M[j].2 (i := i) (by rw [putL_length]; exact hi2)
  rw [← putL_set ls z i M[j].2 hi2 (by rw [G.len]; exact hn3)] at hmvd
  simp only [putL_length] at hmvd
  have hkt := e_s_l11Key (pr := pr) (H := L' ++ [.cells (encL (putL ls (z.set i M[j].2))) true]) (e := e) (c := none) (ls := putL ls (z.set i M[j].2)) (q := L'.length) (d := d) (by rw [cellsAt_new0]; rfl) (by rw [putL_length]; exact hn3) hd12 (putL_on hGt.toBox0) a b s
  have hkz := e_s_l11Key (pr := pr) (H := L' ++ [.cells (encL (putL ls (z.set i M[j].2))) true]) (e := e) (c := nc) (ls := putL ls z) (q := nq) (d := d) (cells_mono S'.np _) (by rw [putL_length]; exact hn3) hd12 (putL_on G.toBox0) a b s
  simp only [putL_length, key_put] at hkt hkz
  have hb := boxN (d := d) hn3
  have hlt := hb.lt _ hGt.toBox0
  have hlz := hb.lt _ G.toBox0
  have hot := outF_get hn3 es hGt.toBox0
  have hoz := outF_get hn3 es G.toBox0
  rw [hz] at hoz
  obtain ⟨u, hu⟩ := Option.isSome_iff_exists.mp (hall _ (List.getElem_mem hjl))
  rw [hnx] at hu
  rw [hu] at hot
  simp only [Option.getD_some] at hot hoz
  obtain ⟨N, hNe⟩ : ∃ N, N = (d + 1) ^ ls.length := ⟨_, rfl⟩
  rw [← hNe] at hlt hlz ⊢
  obtain ⟨kt, hkte⟩ : ∃ kt, kt = keyN d ls.length (z.set i M[j].2) := ⟨_, rfl⟩
  obtain ⟨kz, hkze⟩ : ∃ kz, kz = keyN d ls.length z := ⟨_, rfl⟩
  rw [← hkte] at hkt hlt hot
  rw [← hkze] at hkz hlz hoz
  have hlt' : (kt : Int) < (N : Int) := by omega
  have hlz' : (kz : Int) < (N : Int) := by omega
  have hwv : IntKind.i64.wrap (((v + 1 : Nat) : Int) - 1) = (v : Int) := by
    have e1 : ((v + 1 : Nat) : Int) - 1 = (v : Int) := by omega
    rw [e1]
    exact wrapN (by omega)
  by_cases hc : u = (v : Int)
  · have hji : j = i0 := by
      rcases Nat.lt_or_ge j i0 with h | h
      · exact absurd (by rw [hnx, hu, hc]) (hno j _ h hl)
      · omega
    subst hji
    simp (maxSteps := 2000000) +contextual only [w_s_FirstWalkTo_1, hjl, hw, hwv, hqb0, hqbm, hnbm, hnb0, hsbm, hpart, hmvd, hkt, hkz, part_encI _ hot, part_encI _ hoz, hlt, hlt', hlz, hlz', hc, ne_eq, not_true_eq_false, decide_true, decide_false, Wp_some, Wp_none, Wp_ite, Wc_some, Wc_none, Wc_ite, Wp_thenRun, seqQ_normal, seqQ_exit, seqQ_ret, Wp_inBlock, blkQ_normal, blkQ_ret, blkQ_same, blkQ_exit, Wp_opThen, opQ_at, Wp_guardP, retQ_normal, retQ_ret, loopQ_normal, loopQ_exit, loopQ_ret, go_sem, entry, joinEsc, if_pos, reduceIte, Nat.reduceAdd, Nat.reduceLeDiff, Nat.reduceLT, Nat.reduceEqDiff]
    exact ⟨_, _, S'.more _, get_more hqb' _, rfl⟩
  · have hjlt : j < i0 := by
      rcases Nat.lt_or_ge j i0 with h | h
      · exact h
      · have e : j = i0 := by omega
        subst e
        rw [hl] at hi0
        cases hi0
        rw [hnx, hu] at hm
        exact absurd (Option.some.inj hm) hc
    simp (maxSteps := 2000000) +contextual only [w_s_FirstWalkTo_1, hjl, hw, hwv, hqb0, hqbm, hnbm, hnb0, hsbm, hpart, hmvd, hkt, hkz, part_encI _ hot, part_encI _ hoz, hlt, hlt', hlz, hlz', hc, ne_eq, not_false_eq_true, decide_true, decide_false, Wp_some, Wp_none, Wp_ite, Wc_some, Wc_none, Wc_ite, Wp_thenRun, seqQ_normal, seqQ_exit, seqQ_ret, Wp_inBlock, blkQ_normal, blkQ_ret, blkQ_same, blkQ_exit, Wp_opThen, opQ_at, Wp_guardP, retQ_normal, retQ_ret, loopQ_normal, loopQ_exit, loopQ_ret, go_sem, entry, joinEsc, if_pos, reduceIte, Nat.reduceAdd, Nat.reduceLeDiff, Nat.reduceLT, Nat.reduceEqDiff]
    exact ⟨k - 1, by omega, j + 1, _, _, by omega, by omega, S'.more _, get_more hqb' _, rfl⟩

theorem stp_fw {x a b s : Int} {ls : List Ld} {ps : List Int} : (∀ v, stpO x a b s ls ps = some v → ¬ v ≤ 60) → fwO x a b s ls ps = none := by
  intro h
  unfold fwO
  cases h1 : (partyOk x a b ls s && plcOk x ls.length ps && decide (sideW (putL ls (goalT ps)) a b = 0)) with
  | false => rfl
  | true =>
    simp only [Bool.and_eq_true, decide_eq_true_eq] at h1
    obtain ⟨⟨h2, h3⟩, h4⟩ := h1
    have K := plk_of h2
    have G := good_spots h2
    have Gg : Good x a b ls (goalT ps) := ⟨plc_box K.n3 h3, h4⟩
    obtain ⟨T1, hP⟩ := foundP_told h2
    obtain ⟨T2, hP2⟩ := goal_told K Gg
    have hback := told_back (fun z hz t ht => hz.next K ht) (fun z hz t ht => hz.sym K ht) T1 T2 G Gg
    rw [if_pos rfl, ← hback]
    cases hs : mget (foundP x a b s ls) (goalT ps) with
    | none => rfl
    | some v =>
      have := h v (by unfold stpO; rw [h2, h3]; exact hs)
      simp only [if_neg this]

theorem stp_fw_yes {x a b s : Int} {ls : List Ld} {ps : List Int} {v : Int} (h : stpO x a b s ls ps = some v) (hv : v ≤ 60) : partyOk x a b ls s = true ∧ plcOk x ls.length ps = true ∧ Good x a b ls (goalT ps) ∧ mget (bfsAll (nxP x a b s ls) (goalT ps)) (spots ls) = some v ∧ fwO x a b s ls ps = some (fw x a b s ls (bfsAll (nxP x a b s ls) (goalT ps)) v.toNat (spots ls)) := by
  unfold stpO at h
  split at h
  · rename_i h1
    obtain ⟨h2, h3⟩ := Bool.and_eq_true_iff.mp h1
    have K := plk_of h2
    have G := good_spots h2
    obtain ⟨T1, hP⟩ := foundP_told h2
    have Gg : Good x a b ls (goalT ps) := hP _ (mget_mem h)
    obtain ⟨T2, hP2⟩ := goal_told K Gg
    have hback := told_back (fun z hz t ht => hz.next K ht) (fun z hz t ht => hz.sym K ht) T1 T2 G Gg
    rw [h] at hback
    refine ⟨h2, h3, Gg, hback.symm, ?_⟩
    unfold fwO
    rw [h2, h3, decide_eq_true Gg.rest, ← hback]
    simp only [Bool.and_self, if_true, if_pos hv]
  · cases h

theorem wc_s_FirstWalkTo {q qp : Nat} {c cp : Option Nat} {ls : List Ld} {ps : List Int} {x a b s : Int} (h : cellsAt H q = some (encL ls)) (hn : ls.length ≤ 9223372036854775806) (hp : cellsAt H qp = some (encI ps)) (hpn : ps.length ≤ 9223372036854775806) :
    Wc (call T pr f_s_FirstWalkTo [ptV x a b (slL q ls.length c) s, slI qp ps.length cp] ⟨H, e⟩) (fwPost H e (.slice (some (H.length, 0)) 2 0 (some 0)) [.cells [] true] (fwO x a b s ls ps)) := by
  have hst := fun X e' => e_s_StepsTo (pr := pr) (H := H ++ X) (e := e') (c := c) (cp := cp) (ls := ls) (ps := ps) (x := x) (a := a) (b := b) (s := s) (cells_mono h X) hn (cells_mono hp X) hpn
  rw [call_wc t_s_FirstWalkTo]
  cases ho : stpO x a b s ls ps with
  | none =>
    rw [ho] at hst
    rw [stp_fw (fun v hv => by rw [ho] at hv; cases hv)]
    have hf : ∀ (B : Blk) (e0 : Option Nat), finish 2 H.length e0 (.tup [.slice (some (H.length + 1, 0)) 2 0 (some 0), .bool false]) ⟨H ++ [B, .cells [] true], none⟩ = some (.tup [.slice (some (H.length, 0)) 2 0 (some 0), .bool false], ⟨H ++ [.cells [] true], e0⟩) :=
      fun B e0 => finish_two_sb false e0 rfl rfl
    simp +contextual only [a_s_FirstWalkTo, c_s_FirstWalkTo, hst, hf, fillParts, fwPost, Option.getD_none, Option.isSome_none, Wp_some, Wp_none, Wp_ite, Wc_some, Wc_none, Wc_ite, Wp_thenRun, seqQ_normal, seqQ_exit, seqQ_ret, Wp_inBlock, blkQ_normal, blkQ_ret, blkQ_same, blkQ_exit, Wp_opThen, opQ_at, Wp_guardP, retQ_normal, retQ_ret, loopQ_normal, loopQ_exit, loopQ_ret, go_sem, entry, joinEsc, if_pos, reduceIte, Nat.reduceAdd, Nat.reduceLeDiff, Nat.reduceLT, Nat.reduceEqDiff]
  | some v =>
    rw [ho] at hst
    simp only [Option.getD_some, Option.isSome_some] at hst
    by_cases hv : v ≤ 60
    · obtain ⟨h2, h3, Gg, hgv, hfo⟩ := stp_fw_yes ho hv
      rw [hfo]
      have K := plk_of h2
      have G := good_spots h2
      obtain ⟨T1, hP⟩ := goal_told K Gg
      obtain ⟨n, rfl⟩ := T1.nat hgv
      rw [Int.toNat_natCast]
      obtain ⟨d, rfl⟩ : ∃ d : Nat, x = d := ⟨x.toNat, by have := K.x1; omega⟩
      have hd12 : d ≤ 12 := by have := K.x12; omega
      have hpl := fun X e' => Wc.eq (wc_s_l11Placed (pr := pr) (H := H ++ X) (e := e') (c := c) (cp := cp) (cells_mono h X) K (cells_mono hp X) hpn rfl rfl)
      rw [h3] at hpl
      simp only [if_true] at hpl
      have hsp := fun L q' c' (hq' : cellsAt L q' = some (encL (putL ls (goalT ps)))) => e_s_l11Spread (pr := pr) (e := none) (c := c') (H := L) (ls := ls) (z := goalT ps) hq' K Gg
      have hse : putL ls (spots ls) = ls := spots_self
      obtain ⟨z0, hz0⟩ : ∃ z0, z0 = spots ls := ⟨_, rfl⟩
      rw [← hz0] at hgv G hse ⊢
      obtain ⟨es, hes⟩ : ∃ es, es = bfsAll (nxP (d : Int) a b s ls) (goalT ps) := ⟨_, rfl⟩
      rw [← hes] at hsp T1 hP hgv ⊢
      have hu1 : AV.under (H.length + 3 + 1) (slL (H.length + 2) ls.length none) = true := by simp [AV.under]
      have hq := cellsAt_lt h
      have hu2 : AV.under (H.length + 5 + 1) (slL q ls.length c) = true := by simp [AV.under]; omega
      simp (maxSteps := 2000000) +contextual only [a_s_FirstWalkTo, c_s_FirstWalkTo, hst, hpl, hsp, hv, hu1, hu2, fillParts, fwPost, show ¬ ((n : Int) > 60) by omega, decide_false, Wp_some, Wp_none, Wp_ite, Wc_some, Wc_none, Wc_ite, Wp_thenRun, seqQ_normal, seqQ_exit, seqQ_ret, Wp_inBlock, blkQ_normal, blkQ_ret, blkQ_same, blkQ_exit, Wp_opThen, opQ_at, Wp_guardP, retQ_normal, retQ_ret, loopQ_normal, loopQ_exit, loopQ_ret, go_sem, entry, joinEsc, if_pos, reduceIte, Nat.reduceAdd, Nat.reduceLeDiff, Nat.reduceLT, Nat.reduceEqDiff]
      obtain ⟨A, hA⟩ : ∃ A : Blk, A = .cells [.int .i64 d, .int .i64 a, .int .i64 b, slL q ls.length c, .int .i64 s] true := ⟨_, rfl⟩
      obtain ⟨R, hR⟩ : ∃ R, R = fw (d : Int) a b s ls es n z0 := ⟨_, rfl⟩
      have hRl := fw_length K T1 hP n _ hgv
      rw [← hR] at hRl ⊢
      obtain ⟨N, hNe⟩ : ∃ N, N = (d + 1) ^ ls.length := ⟨_, rfl⟩
      rw [← hNe]
      refine Wp_loop (fun k st => ∃ (z : List Int) (W : List Ld) (L : List Blk) (nq ob : Nat) (nc oc e' : Option Nat) (w11 w12 w14 w15 : AV), clean H.length e' = true ∧ W ++ fw (d : Int) a b s ls es k z = R ∧ W.length + k = n ∧ mget es z = some (k : Int) ∧ FS (H ++ [A]) L d a b s ls (H.length + 4) (H.length + 5) nq ob nc oc es z W ∧
        st = ⟨[ptV (d : Int) a b (slL q ls.length c) s, slI qp ps.length cp, .ptr (some (H.length, 0)), .slice none 0 0 none, .bool false, slL ob W.length oc, .int .i64 n, .bool true, .ptr (some (H.length + 3, 0)), .slice (some (H.length + 4, 0)) 1 N (some N), .ptr (some (H.length + 5, 0)), w11, w12, .bool false, w14, w15], ⟨L, e'⟩⟩) ?_ n _ ?_
      rotate_left
      · refine ⟨z0, [], _, q, H.length + 1, c, some 0, none, _, _, _, _, rfl, by rw [hR]; rfl, by simp, hgv, ⟨⟨[.cells [] true, .cells (encL (putL ls (goalT ps))) true, .cells [.int .i64 d, .int .i64 a, .int .i64 b, slL (H.length + 2) ls.length none, .int .i64 s] true, .cells (encI (outF d ls.length es)) true, .cells [.int .i64 d, .int .i64 a, .int .i64 b, slL q ls.length c, .int .i64 s] true], by rw [hA]; simp⟩, by simp, by simp, by omega, by omega, by omega, by omega, by omega, ?_, ?_, ?_, ?_, fun _ => rfl⟩, rfl⟩
        · rw [blkAt_newk]
          rfl
        · rw [blkAt_newk]
          rfl
        · rw [hse]
          exact cells_mono h _
        · rw [blkAt_newk]
          rfl
      rintro k _ ⟨z, W, L, nq, ob, nc, oc, e', w11, w12, w14, w15, hce, hW, hlen, hzv, S, rfl⟩
      have Gz : Good (d : Int) a b ls z := hP _ (mget_mem hzv)
      have hgH := gr_H S.gr
      have hobb := S.obl
      simp only [List.length_append, List.length_cons, List.length_nil] at hobb
      cases k with
      | zero =>
        have hWR : W = R := by rw [← hW]; exact (List.append_nil W).symm
        subst hWR
        have hf := finish_slp (s1 := 2) (n1 := W.length) (c1 := oc) true hgH e e' hce (by omega) S.out (under_encL _ _)
        have h00 : ¬ ((W.length : Int) < (n : Int)) := by omega
        have h01 : ¬ (W.length < n) := by omega
        simp (maxSteps := 2000000) +contextual only [w_s_FirstWalkTo_2, a_s_FirstWalkTo, h00, h01, hf, decide_false, Wp_some, Wp_none, Wp_ite, Wc_some, Wc_none, Wc_ite, Wp_thenRun, seqQ_normal, seqQ_exit, seqQ_ret, Wp_inBlock, blkQ_normal, blkQ_ret, blkQ_same, blkQ_exit, Wp_opThen, opQ_at, Wp_guardP, retQ_normal, retQ_ret, loopQ_normal, loopQ_exit, loopQ_ret, go_sem, entry, joinEsc, if_pos, reduceIte, Nat.reduceAdd, Nat.reduceLeDiff, Nat.reduceLT, Nat.reduceEqDiff]
        exact ⟨_, rfl⟩
      | succ k =>
        obtain ⟨m, hm⟩ := closer_ex K T1 hP hzv
        obtain ⟨hm1, i0, hi0, hno⟩ := closer_first hm
        have hfw : fw (d : Int) a b s ls es (k + 1) z = m :: fw (d : Int) a b s ls es k (nxM z m) := by rw [fw, hm]
        have hnb0 := cellsAt_of S.now
        have h00 : ((W.length : Int) < (n : Int)) := by omega
        have h01 : (W.length < n) := by omega
        obtain ⟨cap, hmv⟩ := e_s_l11Moves (pr := pr) (H := L) (e := e') (c := nc) (q := nq) (ls := putL ls z) S.np (by rw [putL_length]; exact K.n3) (Gz.toBox0.plB (by omega)) (d : Int) a b s ⟨K.s1, K.s4⟩
        simp only [putL_length] at hmv
        obtain ⟨M, hM⟩ : ∃ M, M = mvs (d : Int) a b s (putL ls z) := ⟨_, rfl⟩
        have hall : ∀ m' ∈ M, (mget es (nxM z m')).isSome = true := by
          intro m' hm'
          rw [hM] at hm'
          obtain ⟨u, hu, _⟩ := T1.out _ _ hzv _ (mem_nx hm')
          rw [hu]
          rfl
        have hmm : m ∈ mvs (d : Int) a b s (putL ls z) := List.mem_of_getElem? hi0
        rw [← hM] at hmv hi0 hno
        simp (maxSteps := 2000000) +contextual only [w_s_FirstWalkTo_2, a_s_FirstWalkTo, fillParts, h00, h01, hnb0, hmv, decide_true, Wp_some, Wp_none, Wp_ite, Wc_some, Wc_none, Wc_ite, Wp_thenRun, seqQ_normal, seqQ_exit, seqQ_ret, Wp_inBlock, blkQ_normal, blkQ_ret, blkQ_same, blkQ_exit, Wp_opThen, opQ_at, Wp_guardP, retQ_normal, retQ_ret, loopQ_normal, loopQ_exit, loopQ_ret, go_sem, entry, joinEsc, if_pos, reduceIte, Nat.reduceAdd, Nat.reduceLeDiff, Nat.reduceLT, Nat.reduceEqDiff]
        rw [hNe]
        refine (fw_s_in (pr := pr) (qb := L.length) (mc := cap) K Gz hM hzv (by omega) hm1 hi0 hno hall (S.more _) (by rw [List.getElem?_append_right (Nat.le_refl _), Nat.sub_self]; rfl)).mono ?_
        rintro _ _ ⟨rfl, L', v15, S', hqb', rfl⟩
        rw [← hNe]
        have hi0l := get_lt hi0
        have hqb0 := cellsAt_of hqb'
        have hqbm := cells_more hqb'
        obtain ⟨i, hi, hi2⟩ := mvs_range hmm
        rw [putL_length] at hi2
        have hit : m.1.toNat = i := by rw [hi]; exact Int.toNat_natCast i
        have hnx : nxM z m = z.set i m.2 := by unfold nxM; rw [hit]
        have hpart : part true (encL M) (i0 * 2) 2 = some (.agg [.int .i64 (i : Int), .int .i64 m.2]) := by
          have := part_encL hi0
          rw [hi] at this
          exact this
        have Gt := Gz.next K (mem_nx hmm)
        simp (maxSteps := 2000000) +contextual only [fillParts, hi0l, hqb0, hqbm, hpart, Wp_some, Wp_none, Wp_ite, Wc_some, Wc_none, Wc_ite, Wp_thenRun, seqQ_normal, seqQ_exit, seqQ_ret, Wp_inBlock, blkQ_normal, blkQ_ret, blkQ_same, blkQ_exit, Wp_opThen, opQ_at, Wp_guardP, retQ_normal, retQ_ret, loopQ_normal, loopQ_exit, loopQ_ret, go_sem, entry, joinEsc, if_pos, reduceIte, Nat.reduceAdd, Nat.reduceLeDiff, Nat.reduceLT, Nat.reduceEqDiff]
        have hobl := get_lt S'.out
        have hobL := get_lt S.out
        have hqbl := get_lt hqb'
        have hnbl := get_lt S'.now
        have hnql := cellsAt_lt S'.np
        have hsbl := get_lt S'.sp
        have n1 := S'.n1
        have n2 := S'.n2
        have n3 := S'.n3
        have n4 := S'.n4
        have n5 := S'.n5
        refine wc_ap (n := W.length) (k := 1) (new := [AV.int .i64 i, AV.int .i64 m.2]) (get_more S'.out _) (src_new _ 1 2 _ _ L'.length (by simp +contextual only [go_sem, entry, joinEsc, if_pos, reduceIte, Nat.reduceAdd, Nat.reduceLeDiff, Nat.reduceLT, Nat.reduceEqDiff]) rfl) (by rw [encL_length]) rfl (by unfold maxBytes; omega) S'.cap ?_
        intro L2 g1 g2 g3 g4
        have hl2 : L2.length = L'.length + 2 := by rw [g1, List.length_append]; rfl
        have hlen3 : (L' ++ [Blk.cells [AV.int .i64 i, AV.int .i64 m.2] true]).length = L'.length + 1 := by rw [List.length_append]; rfl
        rw [hlen3] at g2 g3
        have r1 := (g2 (H.length + 5) (fun h => n2 h.symm) (by omega)).trans (get_more S'.now _)
        have r2 := (g2 (H.length + 4) (fun h => n1 h.symm) (by omega)).trans (get_more S'.sp _)
        have r3 := (g2 L.length (by omega) (by omega)).trans (get_more hqb' _)
        have r4 : cellsAt L2 nq = some (encL (putL ls z)) := by
          rw [cells_same (g2 nq (fun h => n3 h.symm) (by omega))]
          exact cells_mono S'.np _
        have hmvd := e_s_l11Moved (pr := pr) (H := L2) (e := e') (c := nc) (ls := putL ls z) (q := nq) r4 (by rw [putL_length]; exact K.n3) (d : Int) a b s m.2 (i := i) (by rw [putL_length]; exact hi2)
        rw [← putL_set ls z i m.2 hi2 (by rw [Gz.len]; exact K.n3), ← hnx] at hmvd
        simp only [putL_length] at hmvd
        have r5 := cellsAt_of r1
        have r6 := cellsAt_of r3
        have r7 := get_more r1 [.cells (encL (putL ls (nxM z m))) true]
        have hnb2 : H.length + 5 < L2.length := by omega
        have hlt : ¬ (L2.length < H.length + 5 + 1) := by omega
        simp (maxSteps := 2000000) +contextual only [fillParts, hi0l, r5, r6, r7, hpart, hmvd, under_slice, hlt, decide_false, Bool.false_eq_true, if_false, Wp_some, Wp_none, Wp_ite, Wc_some, Wc_none, Wc_ite, Wp_thenRun, seqQ_normal, seqQ_exit, seqQ_ret, Wp_inBlock, blkQ_normal, blkQ_ret, blkQ_same, blkQ_exit, Wp_opThen, opQ_at, Wp_guardP, retQ_normal, retQ_ret, loopQ_normal, loopQ_exit, loopQ_ret, go_sem, entry, joinEsc, if_pos, reduceIte, Nat.reduceAdd, Nat.reduceLeDiff, Nat.reduceLT, Nat.reduceEqDiff]
        rw [show W.length + 1 = (W ++ [m]).length by rw [List.length_append]; rfl]
        have henc : encL (W ++ [m]) = encL W ++ [AV.int .i64 (i : Int), AV.int .i64 m.2] := by
          rw [encL_append]
          show encL W ++ [AV.int .i64 m.1, AV.int .i64 m.2] = _
          rw [hi]
        have hBl : (H ++ [A]).length = H.length + 1 := by rw [List.length_append]; rfl
        have hgr := ((g4 (H ++ [A]) (S'.gr.more _) S'.obl).more [.cells (encL (putL ls (nxM z m))) true]).put (b := H.length + 5) (by omega) (.cells [.int .i64 d, .int .i64 a, .int .i64 b, slL L2.length ls.length none, .int .i64 s] true)
        have r9 : (L2 ++ [Blk.cells (encL (putL ls (nxM z m))) true])[L2.length]? = some (.cells (encL (putL ls (nxM z m))) true) := by
          rw [List.getElem?_append_right (Nat.le_refl _), Nat.sub_self]
          rfl
        refine ⟨k, by omega, nxM z m, W ++ [m], _, L2.length, L'.length + 1, none, none, _, _, _, _, _, by rw [clean_minEsc, hce]; simp, by rw [← hW, hfw, List.append_assoc]; rfl, by rw [List.length_append]; simp only [List.length_cons, List.length_nil]; omega, hm1, ⟨hgr, by omega, by omega, by omega, by omega, by omega, by omega, by omega, ?_, ?_, ?_, ?_, fun h => by cases h⟩, rfl⟩
        · rw [List.getElem?_set_ne (by omega)]
          exact get_more r2 _
        · rw [List.getElem?_set_self (by rw [List.length_append]; omega)]
        · rw [cells_same (List.getElem?_set_ne (by omega))]
          exact cellsAt_of r9
        · rw [List.getElem?_set_ne (by omega), henc]
          exact get_more g3 _
    · rw [stp_fw (fun w hw => by rw [ho] at hw; cases hw; exact hv)]
      have hf : ∀ (B : Blk) (e0 : Option Nat), finish 2 H.length e0 (.tup [.slice (some (H.length + 1, 0)) 2 0 (some 0), .bool false]) ⟨H ++ [B, .cells [] true], none⟩ = some (.tup [.slice (some (H.length, 0)) 2 0 (some 0), .bool false], ⟨H ++ [.cells [] true], e0⟩) :=
        fun B e0 => finish_two_sb false e0 rfl rfl
      simp +contextual only [a_s_FirstWalkTo, c_s_FirstWalkTo, hst, hf, fillParts, fwPost, show v > 60 by omega, decide_true, Wp_some, Wp_none, Wp_ite, Wc_some, Wc_none, Wc_ite, Wp_thenRun, seqQ_normal, seqQ_exit, seqQ_ret, Wp_inBlock, blkQ_normal, blkQ_ret, blkQ_same, blkQ_exit, Wp_opThen, opQ_at, Wp_guardP, retQ_normal, retQ_ret, loopQ_normal, loopQ_exit, loopQ_ret, go_sem, entry, joinEsc, if_pos, reduceIte, Nat.reduceAdd, Nat.reduceLeDiff, Nat.reduceLT, Nat.reduceEqDiff]

end Go.Proofs.Ythkgpblohjpcdaa.Slim

/- Beams: what is drawn. -/
namespace Go.Proofs.Ythkgpblohjpcdaa.Slim

open Go

set_option linter.unusedSimpArgs false

set_option linter.unusedVariables false

variable {pr : Prims} {H : List Blk} {e : Option Nat}

theorem leastZ (a b : Int) : call T pr f_s_l1Least [.int .i64 a, .int .i64 b] ⟨H, e⟩ = some (.int .i64 (if a < b then a else b), ⟨H, e⟩) := by
  rw [call_eq t_s_l1Least]
  by_cases h : a < b <;> simp +contextual only [a_s_l1Least, c_s_l1Least, h, decide_true, decide_false, go_sem, entry, joinEsc, if_pos, reduceIte, Nat.reduceAdd, Nat.reduceLeDiff, Nat.reduceLT, Nat.reduceEqDiff]

theorem mostZ (a b : Int) : call T pr f_s_l1Most [.int .i64 a, .int .i64 b] ⟨H, e⟩ = some (.int .i64 (if b < a then a else b), ⟨H, e⟩) := by
  rw [call_eq t_s_l1Most]
  by_cases h : b < a <;> simp +contextual only [a_s_l1Most, c_s_l1Most, gt_iff_lt, h, decide_true, decide_false, go_sem, entry, joinEsc, if_pos, reduceIte, Nat.reduceAdd, Nat.reduceLeDiff, Nat.reduceLT, Nat.reduceEqDiff]

set_option maxHeartbeats 4000000 in
theorem wc_beam {q : Nat} {av : AV} {p : Int} (h : Cu H q av p) (hp : p ≤ 10000000000) : Wc (call T pr f_s_l1Cur_beam [.ptr (some (q, 0))] ⟨H, e⟩) (fun v m => ∃ x a b y z : Int, v = bmV x a b ∧ 0 ≤ y ∧ y ≤ p + 20 ∧ m = ⟨H.set q (curB av y z), e⟩) := by
  have hl := h.lt
  rw [call_wc t_s_l1Cur_beam]
  obtain ⟨R, hR⟩ : ∃ R, R = (seqTl (seqTl (seqTl (seqTl (seqTl c_s_l1Cur_beam))))) := ⟨_, rfl⟩
  obtain ⟨R1, hR1⟩ : ∃ R, R = (seqTl (seqTl (seqTl (seqTl c_s_l1Cur_beam)))) := ⟨_, rfl⟩
  have hc1 : R1 = .seq (seqHd R1) R := by rw [hR1, hR]; rfl
  have hc : c_s_l1Cur_beam = (.seq (seqHd c_s_l1Cur_beam) (.seq (seqHd (seqTl c_s_l1Cur_beam)) (.seq (seqHd (seqTl (seqTl c_s_l1Cur_beam))) (.seq (seqHd (seqTl (seqTl (seqTl c_s_l1Cur_beam)))) R1)))) := by rw [hR1]; rfl
  have r : ∀ (x a b y z : Int) (B1 : Blk) (G : List Blk) (w2 w4 w5 w6 w7 w8 : AV), 0 ≤ y → y ≤ p + 20 →
      Wp (run T pr R ⟨[.ptr (some (q, 0)), .ptr (some (H.length, 0)), w2, .ptr (some (H.length + 2, 0)), w4, w5, w6, w7, w8], ⟨H.set q (curB av y z) ++ (.cells [.int .i64 0, .int .i64 0, .int .i64 0] true :: B1 :: .cells [.int .i64 x, .int .i64 a, .int .i64 b] true :: G), none⟩⟩) (retQ a_s_l1Cur_beam ⟨H, e⟩ fun v m => ∃ x a b y z : Int, v = bmV x a b ∧ 0 ≤ y ∧ y ≤ p + 20 ∧ m = ⟨H.set q (curB av y z), e⟩) := by
    rintro x a b y z B1 G w2 w4 w5 w6 w7 w8 hy0 hy1
    rw [hR]
    simp (maxSteps := 2000000) +contextual only [a_s_l1Cur_beam, c_s_l1Cur_beam, seqTl, seqHd, hl, cellsAt_s0, cellsAt_sk, blkAt_s0, blkAt_sk, set_s0, set_sk, set_sapp, set_app, List.set_set, List.length_set, finish_one_setG, finish_one_set0, clean_none', Nat.add_assoc, Wp_some, Wp_none, Wp_ite, Wc_some, Wc_none, Wc_ite, Wp_thenRun, seqQ_normal, seqQ_exit, seqQ_ret, Wp_inBlock, blkQ_normal, blkQ_ret, blkQ_same, blkQ_exit, Wp_opThen, opQ_at, Wp_guardP, retQ_normal, retQ_ret, loopQ_normal, loopQ_exit, loopQ_ret, finish_one_eq, finish_one_eq0, finish_two_eq, finish_two_eq0, roots_slice_new, roots_slice_new0, roots_slice_none, roots_ptr_new, roots_ptr_new0, roots_int, roots_bool, roots_str, roots_agg, roots_tup, roots_cons, roots_nil, rename_slice, rename_slice_none, rename_ptr, rename_int, rename_bool, rename_str, rename_agg, rename_tup, rename_cons, rename_nil, keepBlks_nil, keepBlks_cons, flatAll_nil, flatAll_cons, flatBlk_cells, dedup_nil, dedup_one, dedup_two, renum_one, renum_one0, renum_two0, renum_two1, clean_none', clean_some, minEsc_none, minEsc_some, Nat.add_left_cancel_iff, Nat.le_add_right, Nat.le_refl, decide_true, go_sem, entry, joinEsc, if_pos, reduceIte, Nat.reduceAdd, Nat.reduceLeDiff, Nat.reduceLT, Nat.reduceEqDiff]
    exact ⟨x, a, b, y, z, rfl, hy0, hy1, rfl⟩
  have r1 : ∀ (x a b y z : Int) (B1 : Blk) (w2 w4 w5 w6 w7 w8 : AV), 0 ≤ y → y ≤ p + 12 →
      Wp (run T pr R1 ⟨[.ptr (some (q, 0)), .ptr (some (H.length, 0)), w2, .ptr (some (H.length + 2, 0)), w4, w5, w6, w7, w8], ⟨H.set q (curB av y z) ++ [.cells [.int .i64 0, .int .i64 0, .int .i64 0] true, B1, .cells [.int .i64 x, .int .i64 a, .int .i64 b] true], none⟩⟩) (retQ a_s_l1Cur_beam ⟨H, e⟩ fun v m => ∃ x a b y z : Int, v = bmV x a b ∧ 0 ≤ y ∧ y ≤ p + 20 ∧ m = ⟨H.set q (curB av y z), e⟩) := by
    rintro x a b y z B1 w2 w4 w5 w6 w7 w8 hy0 hy1
    have h1 := h.step hy0 z
    rw [hc1]
    simp (maxSteps := 2000000) +contextual only [hR1, c_s_l1Cur_beam, seqTl, seqHd, hl, cellsAt_s0, cellsAt_sk, blkAt_s0, blkAt_sk, set_s0, set_sk, set_sapp, set_app, List.set_set, List.length_set, finish_one_setG, finish_one_set0, clean_none', Nat.add_assoc, Wp_some, Wp_none, Wp_ite, Wc_some, Wc_none, Wc_ite, Wp_thenRun, seqQ_normal, seqQ_exit, seqQ_ret, Wp_inBlock, blkQ_normal, blkQ_ret, blkQ_same, blkQ_exit, Wp_opThen, opQ_at, Wp_guardP, retQ_normal, retQ_ret, loopQ_normal, loopQ_exit, loopQ_ret, go_sem, entry, joinEsc, if_pos, reduceIte, Nat.reduceAdd, Nat.reduceLeDiff, Nat.reduceLT, Nat.reduceEqDiff]
    refine (wc_pick 50 (h1.more _) (by omega) (by omega)).mono ?_
    rintro v m ⟨x5, y5, z5, rfl, hx50, hx51, hy50, hy51, rfl⟩
    have h5 := h1.step hy50 z5
    rw [List.set_set] at h5
    by_cases c0 : x5 = 0
    · subst c0
      simp (maxSteps := 2000000) +contextual only [fillParts, hl, decide_true, cellsAt_s0, cellsAt_sk, blkAt_s0, blkAt_sk, set_s0, set_sk, set_sapp, set_app, List.set_set, List.length_set, finish_one_setG, finish_one_set0, clean_none', Nat.add_assoc, Wp_some, Wp_none, Wp_ite, Wc_some, Wc_none, Wc_ite, Wp_thenRun, seqQ_normal, seqQ_exit, seqQ_ret, Wp_inBlock, blkQ_normal, blkQ_ret, blkQ_same, blkQ_exit, Wp_opThen, opQ_at, Wp_guardP, retQ_normal, retQ_ret, loopQ_normal, loopQ_exit, loopQ_ret, go_sem, entry, joinEsc, if_pos, reduceIte, Nat.reduceAdd, Nat.reduceLeDiff, Nat.reduceLT, Nat.reduceEqDiff]
      refine (amongZ (n := 3) [0, 61, -1] (h5.more _) (by omega) (by simp +contextual only [cellsAt_s0, cellsAt_sk, blkAt_s0, blkAt_sk, set_s0, set_sk, set_sapp, set_app, List.set_set, List.length_set, finish_one_setG, finish_one_set0, clean_none', Nat.add_assoc, go_sem, entry, joinEsc, if_pos, reduceIte, Nat.reduceAdd, Nat.reduceLeDiff, Nat.reduceLT, Nat.reduceEqDiff]) (by omega) rfl (by omega) (by omega)).mono ?_
      rintro v m ⟨x6, y6, z6, rfl, hx6, hy60, hy61, rfl⟩
      simp (maxSteps := 2000000) +contextual only [fillParts, hl, decide_true, cellsAt_s0, cellsAt_sk, blkAt_s0, blkAt_sk, set_s0, set_sk, set_sapp, set_app, List.set_set, List.length_set, finish_one_setG, finish_one_set0, clean_none', Nat.add_assoc, Wp_some, Wp_none, Wp_ite, Wc_some, Wc_none, Wc_ite, Wp_thenRun, seqQ_normal, seqQ_exit, seqQ_ret, Wp_inBlock, blkQ_normal, blkQ_ret, blkQ_same, blkQ_exit, Wp_opThen, opQ_at, Wp_guardP, retQ_normal, retQ_ret, loopQ_normal, loopQ_exit, loopQ_ret, go_sem, entry, joinEsc, if_pos, reduceIte, Nat.reduceAdd, Nat.reduceLeDiff, Nat.reduceLT, Nat.reduceEqDiff]
      exact r _ _ _ _ _ _ _ _ _ _ _ _ _ hy60 (by omega)
    · have c0' : decide (x5 = 0) = false := decide_eq_false c0
      by_cases c1 : x5 = 1
      · subst c1
        simp (maxSteps := 2000000) +contextual only [fillParts, hl, c0', decide_true, cellsAt_s0, cellsAt_sk, blkAt_s0, blkAt_sk, set_s0, set_sk, set_sapp, set_app, List.set_set, List.length_set, finish_one_setG, finish_one_set0, clean_none', Nat.add_assoc, Wp_some, Wp_none, Wp_ite, Wc_some, Wc_none, Wc_ite, Wp_thenRun, seqQ_normal, seqQ_exit, seqQ_ret, Wp_inBlock, blkQ_normal, blkQ_ret, blkQ_same, blkQ_exit, Wp_opThen, opQ_at, Wp_guardP, retQ_normal, retQ_ret, loopQ_normal, loopQ_exit, loopQ_ret, go_sem, entry, joinEsc, if_pos, reduceIte, Nat.reduceAdd, Nat.reduceLeDiff, Nat.reduceLT, Nat.reduceEqDiff]
        refine (amongZ (n := 3) [-1, b, IntKind.i64.wrap (b + 1)] (h5.more _) (by omega) (by simp +contextual only [cellsAt_s0, cellsAt_sk, blkAt_s0, blkAt_sk, set_s0, set_sk, set_sapp, set_app, List.set_set, List.length_set, finish_one_setG, finish_one_set0, clean_none', Nat.add_assoc, go_sem, entry, joinEsc, if_pos, reduceIte, Nat.reduceAdd, Nat.reduceLeDiff, Nat.reduceLT, Nat.reduceEqDiff]) (by omega) rfl (by omega) (by omega)).mono ?_
        rintro v m ⟨x6, y6, z6, rfl, hx6, hy60, hy61, rfl⟩
        simp (maxSteps := 2000000) +contextual only [fillParts, hl, decide_true, cellsAt_s0, cellsAt_sk, blkAt_s0, blkAt_sk, set_s0, set_sk, set_sapp, set_app, List.set_set, List.length_set, finish_one_setG, finish_one_set0, clean_none', Nat.add_assoc, Wp_some, Wp_none, Wp_ite, Wc_some, Wc_none, Wc_ite, Wp_thenRun, seqQ_normal, seqQ_exit, seqQ_ret, Wp_inBlock, blkQ_normal, blkQ_ret, blkQ_same, blkQ_exit, Wp_opThen, opQ_at, Wp_guardP, retQ_normal, retQ_ret, loopQ_normal, loopQ_exit, loopQ_ret, go_sem, entry, joinEsc, if_pos, reduceIte, Nat.reduceAdd, Nat.reduceLeDiff, Nat.reduceLT, Nat.reduceEqDiff]
        exact r _ _ _ _ _ _ _ _ _ _ _ _ _ hy60 (by omega)
      · have c1' : decide (x5 = 1) = false := decide_eq_false c1
        by_cases c2 : x5 = 2
        · subst c2
          simp (maxSteps := 2000000) +contextual only [fillParts, hl, c0', c1', decide_true, cellsAt_s0, cellsAt_sk, blkAt_s0, blkAt_sk, set_s0, set_sk, set_sapp, set_app, List.set_set, List.length_set, finish_one_setG, finish_one_set0, clean_none', Nat.add_assoc, Wp_some, Wp_none, Wp_ite, Wc_some, Wc_none, Wc_ite, Wp_thenRun, seqQ_normal, seqQ_exit, seqQ_ret, Wp_inBlock, blkQ_normal, blkQ_ret, blkQ_same, blkQ_exit, Wp_opThen, opQ_at, Wp_guardP, retQ_normal, retQ_ret, loopQ_normal, loopQ_exit, loopQ_ret, go_sem, entry, joinEsc, if_pos, reduceIte, Nat.reduceAdd, Nat.reduceLeDiff, Nat.reduceLT, Nat.reduceEqDiff]
          refine (amongZ (n := 3) [IntKind.i64.wrap (x + 1), 0, 4611686018427387904] (h5.more _) (by omega) (by simp +contextual only [cellsAt_s0, cellsAt_sk, blkAt_s0, blkAt_sk, set_s0, set_sk, set_sapp, set_app, List.set_set, List.length_set, finish_one_setG, finish_one_set0, clean_none', Nat.add_assoc, go_sem, entry, joinEsc, if_pos, reduceIte, Nat.reduceAdd, Nat.reduceLeDiff, Nat.reduceLT, Nat.reduceEqDiff]) (by omega) rfl (by omega) (by omega)).mono ?_
          rintro v m ⟨x6, y6, z6, rfl, hx6, hy60, hy61, rfl⟩
          simp (maxSteps := 2000000) +contextual only [fillParts, hl, decide_true, cellsAt_s0, cellsAt_sk, blkAt_s0, blkAt_sk, set_s0, set_sk, set_sapp, set_app, List.set_set, List.length_set, finish_one_setG, finish_one_set0, clean_none', Nat.add_assoc, Wp_some, Wp_none, Wp_ite, Wc_some, Wc_none, Wc_ite, Wp_thenRun, seqQ_normal, seqQ_exit, seqQ_ret, Wp_inBlock, blkQ_normal, blkQ_ret, blkQ_same, blkQ_exit, Wp_opThen, opQ_at, Wp_guardP, retQ_normal, retQ_ret, loopQ_normal, loopQ_exit, loopQ_ret, go_sem, entry, joinEsc, if_pos, reduceIte, Nat.reduceAdd, Nat.reduceLeDiff, Nat.reduceLT, Nat.reduceEqDiff]
          exact r _ _ _ _ _ _ _ _ _ _ _ _ _ hy60 (by omega)
        · have c2' : decide (x5 = 2) = false := decide_eq_false c2
          simp (maxSteps := 2000000) +contextual only [hl, c0', c1', c2', cellsAt_s0, cellsAt_sk, blkAt_s0, blkAt_sk, set_s0, set_sk, set_sapp, set_app, List.set_set, List.length_set, finish_one_setG, finish_one_set0, clean_none', Nat.add_assoc, Wp_some, Wp_none, Wp_ite, Wc_some, Wc_none, Wc_ite, Wp_thenRun, seqQ_normal, seqQ_exit, seqQ_ret, Wp_inBlock, blkQ_normal, blkQ_ret, blkQ_same, blkQ_exit, Wp_opThen, opQ_at, Wp_guardP, retQ_normal, retQ_ret, loopQ_normal, loopQ_exit, loopQ_ret, go_sem, entry, joinEsc, if_pos, reduceIte, Nat.reduceAdd, Nat.reduceLeDiff, Nat.reduceLT, Nat.reduceEqDiff]
          exact r _ _ _ _ _ _ _ _ _ _ _ _ _ hy50 (by omega)
  show Wp (run T pr c_s_l1Cur_beam _) _
  rw [hc]
  simp (maxSteps := 2000000) +contextual only [a_s_l1Cur_beam, c_s_l1Cur_beam, seqTl, seqHd, fillParts, cellsAt_s0, cellsAt_sk, blkAt_s0, blkAt_sk, set_s0, set_sk, set_sapp, set_app, List.set_set, List.length_set, finish_one_setG, finish_one_set0, clean_none', Nat.add_assoc, Wp_some, Wp_none, Wp_ite, Wc_some, Wc_none, Wc_ite, Wp_thenRun, seqQ_normal, seqQ_exit, seqQ_ret, Wp_inBlock, blkQ_normal, blkQ_ret, blkQ_same, blkQ_exit, Wp_opThen, opQ_at, Wp_guardP, retQ_normal, retQ_ret, loopQ_normal, loopQ_exit, loopQ_ret, go_sem, entry, joinEsc, if_pos, reduceIte, Nat.reduceAdd, Nat.reduceLeDiff, Nat.reduceLT, Nat.reduceEqDiff]
  refine (amongZ (n := 8) [8, 10, 6, 4, 12, 1, 20, 60] (h.more _) (by omega) (by simp +contextual only [cellsAt_s0, cellsAt_sk, blkAt_s0, blkAt_sk, set_s0, set_sk, set_sapp, set_app, List.set_set, List.length_set, finish_one_setG, finish_one_set0, clean_none', Nat.add_assoc, go_sem, entry, joinEsc, if_pos, reduceIte, Nat.reduceAdd, Nat.reduceLeDiff, Nat.reduceLT, Nat.reduceEqDiff]) (by omega) rfl (by omega) (by omega)).mono ?_
  rintro v m ⟨x1, y1, z1, rfl, hx1, hy10, hy11, rfl⟩
  have h1 := h.step hy10 z1
  have hx1' : 0 ≤ x1 ∧ x1 ≤ 60 := by
    simp at hx1
    omega
  simp (maxSteps := 2000000) +contextual only [fillParts, hl, cellsAt_s0, cellsAt_sk, blkAt_s0, blkAt_sk, set_s0, set_sk, set_sapp, set_app, List.set_set, List.length_set, finish_one_setG, finish_one_set0, clean_none', Nat.add_assoc, Wp_some, Wp_none, Wp_ite, Wc_some, Wc_none, Wc_ite, Wp_thenRun, seqQ_normal, seqQ_exit, seqQ_ret, Wp_inBlock, blkQ_normal, blkQ_ret, blkQ_same, blkQ_exit, Wp_opThen, opQ_at, Wp_guardP, retQ_normal, retQ_ret, loopQ_normal, loopQ_exit, loopQ_ret, go_sem, entry, joinEsc, if_pos, reduceIte, Nat.reduceAdd, Nat.reduceLeDiff, Nat.reduceLT, Nat.reduceEqDiff]
  refine (wc_one 2 (h1.more _) (by omega) (by omega)).mono ?_
  rintro v m ⟨x2, y2, z2, rfl, hy20, hy21, rfl⟩
  have h2 := h1.step hy20 z2
  rw [List.set_set] at h2
  cases x2 with
  | false =>
    simp (maxSteps := 2000000) +contextual only [hl, cellsAt_s0, cellsAt_sk, blkAt_s0, blkAt_sk, set_s0, set_sk, set_sapp, set_app, List.set_set, List.length_set, finish_one_setG, finish_one_set0, clean_none', Nat.add_assoc, Wp_some, Wp_none, Wp_ite, Wc_some, Wc_none, Wc_ite, Wp_thenRun, seqQ_normal, seqQ_exit, seqQ_ret, Wp_inBlock, blkQ_normal, blkQ_ret, blkQ_same, blkQ_exit, Wp_opThen, opQ_at, Wp_guardP, retQ_normal, retQ_ret, loopQ_normal, loopQ_exit, loopQ_ret, go_sem, entry, joinEsc, if_pos, reduceIte, Nat.reduceAdd, Nat.reduceLeDiff, Nat.reduceLT, Nat.reduceEqDiff]
    exact r1 _ _ _ _ _ _ _ _ _ _ _ _ hy20 (by omega)
  | true =>
    simp (maxSteps := 2000000) +contextual only [hl, cellsAt_s0, cellsAt_sk, blkAt_s0, blkAt_sk, set_s0, set_sk, set_sapp, set_app, List.set_set, List.length_set, finish_one_setG, finish_one_set0, clean_none', Nat.add_assoc, Wp_some, Wp_none, Wp_ite, Wc_some, Wc_none, Wc_ite, Wp_thenRun, seqQ_normal, seqQ_exit, seqQ_ret, Wp_inBlock, blkQ_normal, blkQ_ret, blkQ_same, blkQ_exit, Wp_opThen, opQ_at, Wp_guardP, retQ_normal, retQ_ret, loopQ_normal, loopQ_exit, loopQ_ret, go_sem, entry, joinEsc, if_pos, reduceIte, Nat.reduceAdd, Nat.reduceLeDiff, Nat.reduceLT, Nat.reduceEqDiff]
    refine (wc_pick x1 (h2.more _) (by omega) (by omega)).mono ?_
    rintro v m ⟨x3, y3, z3, rfl, hx30, hx31, hy30, hy31, rfl⟩
    have h3 := h2.step hy30 z3
    rw [List.set_set] at h3
    have hw : IntKind.i64.wrap (x1 - x3) = x1 - x3 := wrap64 (by omega) (by omega)
    simp (maxSteps := 2000000) +contextual only [hl, hw, cellsAt_s0, cellsAt_sk, blkAt_s0, blkAt_sk, set_s0, set_sk, set_sapp, set_app, List.set_set, List.length_set, finish_one_setG, finish_one_set0, clean_none', Nat.add_assoc, Wp_some, Wp_none, Wp_ite, Wc_some, Wc_none, Wc_ite, Wp_thenRun, seqQ_normal, seqQ_exit, seqQ_ret, Wp_inBlock, blkQ_normal, blkQ_ret, blkQ_same, blkQ_exit, Wp_opThen, opQ_at, Wp_guardP, retQ_normal, retQ_ret, loopQ_normal, loopQ_exit, loopQ_ret, go_sem, entry, joinEsc, if_pos, reduceIte, Nat.reduceAdd, Nat.reduceLeDiff, Nat.reduceLT, Nat.reduceEqDiff]
    refine (wc_pick (x1 - x3) (h3.more _) (by omega) (by omega)).mono ?_
    rintro v m ⟨x4, y4, z4, rfl, hx40, hx41, hy40, hy41, rfl⟩
    simp (maxSteps := 2000000) +contextual only [hl, hw, cellsAt_s0, cellsAt_sk, blkAt_s0, blkAt_sk, set_s0, set_sk, set_sapp, set_app, List.set_set, List.length_set, finish_one_setG, finish_one_set0, clean_none', Nat.add_assoc, Wp_some, Wp_none, Wp_ite, Wc_some, Wc_none, Wc_ite, Wp_thenRun, seqQ_normal, seqQ_exit, seqQ_ret, Wp_inBlock, blkQ_normal, blkQ_ret, blkQ_same, blkQ_exit, Wp_opThen, opQ_at, Wp_guardP, retQ_normal, retQ_ret, loopQ_normal, loopQ_exit, loopQ_ret, go_sem, entry, joinEsc, if_pos, reduceIte, Nat.reduceAdd, Nat.reduceLeDiff, Nat.reduceLT, Nat.reduceEqDiff]
    exact r1 _ _ _ _ _ _ _ _ _ _ _ _ hy40 (by omega)

end Go.Proofs.Ythkgpblohjpcdaa.Slim

/- Planks: what is drawn. -/
namespace Go.Proofs.Ythkgpblohjpcdaa.Slim

open Go

set_option linter.unusedSimpArgs false

set_option linter.unusedVariables false

variable {pr : Prims} {H : List Blk} {e : Option Nat}

set_option maxHeartbeats 4000000 in
theorem wc_plank {q : Nat} {av : AV} {p : Int} (h : Cu H q av p) (hp : p ≤ 1000000000) : Wc (call T pr f_s_l1Cur_plank [.ptr (some (q, 0))] ⟨H, e⟩) (fun v m => ∃ x a b y z : Int, v = bmV x a b ∧ 0 ≤ y ∧ y ≤ p + 40 ∧ m = ⟨H.set q (curB av y z), e⟩) := by
  have hl := h.lt
  rw [call_wc t_s_l1Cur_plank]
  obtain ⟨R1, hR1⟩ : ∃ R, R = (seqTl (seqTl (seqTl (seqTl c_s_l1Cur_plank)))) := ⟨_, rfl⟩
  have hc : c_s_l1Cur_plank = (.seq (seqHd c_s_l1Cur_plank) (.seq (seqHd (seqTl c_s_l1Cur_plank)) (.seq (seqHd (seqTl (seqTl c_s_l1Cur_plank))) (.seq (seqHd (seqTl (seqTl (seqTl c_s_l1Cur_plank)))) R1)))) := by rw [hR1]; rfl
  have r1 : ∀ (x a b y z : Int) (B1 : Blk) (w2 w4 w5 : AV), 0 ≤ y → y ≤ p + 12 →
      Wp (run T pr R1 ⟨[.ptr (some (q, 0)), .ptr (some (H.length, 0)), w2, .ptr (some (H.length + 2, 0)), w4, w5], ⟨H.set q (curB av y z) ++ [.cells [.int .i64 0, .int .i64 0, .int .i64 0] true, B1, .cells [.int .i64 x, .int .i64 a, .int .i64 b] true], none⟩⟩) (retQ a_s_l1Cur_plank ⟨H, e⟩ fun v m => ∃ x a b y z : Int, v = bmV x a b ∧ 0 ≤ y ∧ y ≤ p + 40 ∧ m = ⟨H.set q (curB av y z), e⟩) := by
    rintro x a b y z B1 w2 w4 w5 hy0 hy1
    have h1 := h.step hy0 z
    rw [hR1]
    simp (maxSteps := 2000000) +contextual only [c_s_l1Cur_plank, seqTl, seqHd, hl, cellsAt_s0, cellsAt_sk, blkAt_s0, blkAt_sk, set_s0, set_sk, set_sapp, set_app, List.set_set, List.length_set, finish_one_setG, finish_one_set0, clean_none', Nat.add_assoc, Wp_some, Wp_none, Wp_ite, Wc_some, Wc_none, Wc_ite, Wp_thenRun, seqQ_normal, seqQ_exit, seqQ_ret, Wp_inBlock, blkQ_normal, blkQ_ret, blkQ_same, blkQ_exit, Wp_opThen, opQ_at, Wp_guardP, retQ_normal, retQ_ret, loopQ_normal, loopQ_exit, loopQ_ret, go_sem, entry, joinEsc, if_pos, reduceIte, Nat.reduceAdd, Nat.reduceLeDiff, Nat.reduceLT, Nat.reduceEqDiff]
    refine (wc_one 40 (h1.more _) (by omega) (by omega)).mono ?_
    rintro v m ⟨x5, y5, z5, rfl, hy50, hy51, rfl⟩
    have h5 := h1.step hy50 z5
    rw [List.set_set] at h5
    cases x5 with
    | true =>
      simp (maxSteps := 2000000) +contextual only [hl, cellsAt_s0, cellsAt_sk, blkAt_s0, blkAt_sk, set_s0, set_sk, set_sapp, set_app, List.set_set, List.length_set, finish_one_setG, finish_one_set0, clean_none', Nat.add_assoc, Wp_some, Wp_none, Wp_ite, Wc_some, Wc_none, Wc_ite, Wp_thenRun, seqQ_normal, seqQ_exit, seqQ_ret, Wp_inBlock, blkQ_normal, blkQ_ret, blkQ_same, blkQ_exit, Wp_opThen, opQ_at, Wp_guardP, retQ_normal, retQ_ret, loopQ_normal, loopQ_exit, loopQ_ret, go_sem, entry, joinEsc, if_pos, reduceIte, Nat.reduceAdd, Nat.reduceLeDiff, Nat.reduceLT, Nat.reduceEqDiff]
      refine (wc_beam (h5.more _) (by omega)).mono ?_
      rintro v m ⟨x6, a6, b6, y6, z6, rfl, hy60, hy61, rfl⟩
      simp (maxSteps := 2000000) +contextual only [a_s_l1Cur_plank, fillParts, hl, cellsAt_s0, cellsAt_sk, blkAt_s0, blkAt_sk, set_s0, set_sk, set_sapp, set_app, List.set_set, List.length_set, finish_one_setG, finish_one_set0, clean_none', Nat.add_assoc, Wp_some, Wp_none, Wp_ite, Wc_some, Wc_none, Wc_ite, Wp_thenRun, seqQ_normal, seqQ_exit, seqQ_ret, Wp_inBlock, blkQ_normal, blkQ_ret, blkQ_same, blkQ_exit, Wp_opThen, opQ_at, Wp_guardP, retQ_normal, retQ_ret, loopQ_normal, loopQ_exit, loopQ_ret, finish_one_eq, finish_one_eq0, finish_two_eq, finish_two_eq0, roots_slice_new, roots_slice_new0, roots_slice_none, roots_ptr_new, roots_ptr_new0, roots_int, roots_bool, roots_str, roots_agg, roots_tup, roots_cons, roots_nil, rename_slice, rename_slice_none, rename_ptr, rename_int, rename_bool, rename_str, rename_agg, rename_tup, rename_cons, rename_nil, keepBlks_nil, keepBlks_cons, flatAll_nil, flatAll_cons, flatBlk_cells, dedup_nil, dedup_one, dedup_two, renum_one, renum_one0, renum_two0, renum_two1, clean_none', clean_some, minEsc_none, minEsc_some, Nat.add_left_cancel_iff, Nat.le_add_right, Nat.le_refl, decide_true, go_sem, entry, joinEsc, if_pos, reduceIte, Nat.reduceAdd, Nat.reduceLeDiff, Nat.reduceLT, Nat.reduceEqDiff]
      exact ⟨_, _, _, y6, z6, rfl, hy60, by omega, rfl⟩
    | false =>
      simp (maxSteps := 2000000) +contextual only [a_s_l1Cur_plank, fillParts, hl, cellsAt_s0, cellsAt_sk, blkAt_s0, blkAt_sk, set_s0, set_sk, set_sapp, set_app, List.set_set, List.length_set, finish_one_setG, finish_one_set0, clean_none', Nat.add_assoc, Wp_some, Wp_none, Wp_ite, Wc_some, Wc_none, Wc_ite, Wp_thenRun, seqQ_normal, seqQ_exit, seqQ_ret, Wp_inBlock, blkQ_normal, blkQ_ret, blkQ_same, blkQ_exit, Wp_opThen, opQ_at, Wp_guardP, retQ_normal, retQ_ret, loopQ_normal, loopQ_exit, loopQ_ret, finish_one_eq, finish_one_eq0, finish_two_eq, finish_two_eq0, roots_slice_new, roots_slice_new0, roots_slice_none, roots_ptr_new, roots_ptr_new0, roots_int, roots_bool, roots_str, roots_agg, roots_tup, roots_cons, roots_nil, rename_slice, rename_slice_none, rename_ptr, rename_int, rename_bool, rename_str, rename_agg, rename_tup, rename_cons, rename_nil, keepBlks_nil, keepBlks_cons, flatAll_nil, flatAll_cons, flatBlk_cells, dedup_nil, dedup_one, dedup_two, renum_one, renum_one0, renum_two0, renum_two1, clean_none', clean_some, minEsc_none, minEsc_some, Nat.add_left_cancel_iff, Nat.le_add_right, Nat.le_refl, decide_true, go_sem, entry, joinEsc, if_pos, reduceIte, Nat.reduceAdd, Nat.reduceLeDiff, Nat.reduceLT, Nat.reduceEqDiff]
      exact ⟨_, _, _, y5, z5, rfl, hy50, by omega, rfl⟩
  show Wp (run T pr c_s_l1Cur_plank _) _
  rw [hc]
  simp (maxSteps := 2000000) +contextual only [a_s_l1Cur_plank, c_s_l1Cur_plank, seqTl, seqHd, fillParts, cellsAt_s0, cellsAt_sk, blkAt_s0, blkAt_sk, set_s0, set_sk, set_sapp, set_app, List.set_set, List.length_set, finish_one_setG, finish_one_set0, clean_none', Nat.add_assoc, Wp_some, Wp_none, Wp_ite, Wc_some, Wc_none, Wc_ite, Wp_thenRun, seqQ_normal, seqQ_exit, seqQ_ret, Wp_inBlock, blkQ_normal, blkQ_ret, blkQ_same, blkQ_exit, Wp_opThen, opQ_at, Wp_guardP, retQ_normal, retQ_ret, loopQ_normal, loopQ_exit, loopQ_ret, go_sem, entry, joinEsc, if_pos, reduceIte, Nat.reduceAdd, Nat.reduceLeDiff, Nat.reduceLT, Nat.reduceEqDiff]
  refine (amongZ (n := 8) [6, 8, 5, 4, 10, 3, 12, 1] (h.more _) (by omega) (by simp +contextual only [cellsAt_s0, cellsAt_sk, blkAt_s0, blkAt_sk, set_s0, set_sk, set_sapp, set_app, List.set_set, List.length_set, finish_one_setG, finish_one_set0, clean_none', Nat.add_assoc, go_sem, entry, joinEsc, if_pos, reduceIte, Nat.reduceAdd, Nat.reduceLeDiff, Nat.reduceLT, Nat.reduceEqDiff]) (by omega) rfl (by omega) (by omega)).mono ?_
  rintro v m ⟨x1, y1, z1, rfl, hx1, hy10, hy11, rfl⟩
  have h1 := h.step hy10 z1
  have hx1' : 1 ≤ x1 ∧ x1 ≤ 12 := by
    simp at hx1
    omega
  simp (maxSteps := 2000000) +contextual only [fillParts, hl, cellsAt_s0, cellsAt_sk, blkAt_s0, blkAt_sk, set_s0, set_sk, set_sapp, set_app, List.set_set, List.length_set, finish_one_setG, finish_one_set0, clean_none', Nat.add_assoc, Wp_some, Wp_none, Wp_ite, Wc_some, Wc_none, Wc_ite, Wp_thenRun, seqQ_normal, seqQ_exit, seqQ_ret, Wp_inBlock, blkQ_normal, blkQ_ret, blkQ_same, blkQ_exit, Wp_opThen, opQ_at, Wp_guardP, retQ_normal, retQ_ret, loopQ_normal, loopQ_exit, loopQ_ret, go_sem, entry, joinEsc, if_pos, reduceIte, Nat.reduceAdd, Nat.reduceLeDiff, Nat.reduceLT, Nat.reduceEqDiff]
  refine (wc_one 4 (h1.more _) (by omega) (by omega)).mono ?_
  rintro v m ⟨x2, y2, z2, rfl, hy20, hy21, rfl⟩
  have h2 := h1.step hy20 z2
  rw [List.set_set] at h2
  cases x2 with
  | true =>
    simp (maxSteps := 2000000) +contextual only [fillParts, hl, cellsAt_s0, cellsAt_sk, blkAt_s0, blkAt_sk, set_s0, set_sk, set_sapp, set_app, List.set_set, List.length_set, finish_one_setG, finish_one_set0, clean_none', Nat.add_assoc, Wp_some, Wp_none, Wp_ite, Wc_some, Wc_none, Wc_ite, Wp_thenRun, seqQ_normal, seqQ_exit, seqQ_ret, Wp_inBlock, blkQ_normal, blkQ_ret, blkQ_same, blkQ_exit, Wp_opThen, opQ_at, Wp_guardP, retQ_normal, retQ_ret, loopQ_normal, loopQ_exit, loopQ_ret, go_sem, entry, joinEsc, if_pos, reduceIte, Nat.reduceAdd, Nat.reduceLeDiff, Nat.reduceLT, Nat.reduceEqDiff]
    exact r1 _ _ _ _ _ _ _ _ _ hy20 (by omega)
  | false =>
    simp (maxSteps := 2000000) +contextual only [fillParts, hl, cellsAt_s0, cellsAt_sk, blkAt_s0, blkAt_sk, set_s0, set_sk, set_sapp, set_app, List.set_set, List.length_set, finish_one_setG, finish_one_set0, clean_none', Nat.add_assoc, Wp_some, Wp_none, Wp_ite, Wc_some, Wc_none, Wc_ite, Wp_thenRun, seqQ_normal, seqQ_exit, seqQ_ret, Wp_inBlock, blkQ_normal, blkQ_ret, blkQ_same, blkQ_exit, Wp_opThen, opQ_at, Wp_guardP, retQ_normal, retQ_ret, loopQ_normal, loopQ_exit, loopQ_ret, go_sem, entry, joinEsc, if_pos, reduceIte, Nat.reduceAdd, Nat.reduceLeDiff, Nat.reduceLT, Nat.reduceEqDiff]
    refine (wc_pick x1 (h2.more _) (by omega) (by omega)).mono ?_
    rintro v m ⟨x3, y3, z3, rfl, hx30, hx31, hy30, hy31, rfl⟩
    have h3 := h2.step hy30 z3
    rw [List.set_set] at h3
    have hw : IntKind.i64.wrap (x1 - x3) = x1 - x3 := wrap64 (by omega) (by omega)
    have hw1 : IntKind.i64.wrap (x3 + 1) = x3 + 1 := wrap64 (by omega) (by omega)
    simp (maxSteps := 2000000) +contextual only [hl, hw, hw1, leastZ, cellsAt_s0, cellsAt_sk, blkAt_s0, blkAt_sk, set_s0, set_sk, set_sapp, set_app, List.set_set, List.length_set, finish_one_setG, finish_one_set0, clean_none', Nat.add_assoc, Wp_some, Wp_none, Wp_ite, Wc_some, Wc_none, Wc_ite, Wp_thenRun, seqQ_normal, seqQ_exit, seqQ_ret, Wp_inBlock, blkQ_normal, blkQ_ret, blkQ_same, blkQ_exit, Wp_opThen, opQ_at, Wp_guardP, retQ_normal, retQ_ret, loopQ_normal, loopQ_exit, loopQ_ret, go_sem, entry, joinEsc, if_pos, reduceIte, Nat.reduceAdd, Nat.reduceLeDiff, Nat.reduceLT, Nat.reduceEqDiff]
    refine (wc_pick _ (h3.more _) (by omega) (by split <;> omega)).mono ?_
    rintro v m ⟨x4, y4, z4, rfl, hx40, hx41, hy40, hy41, rfl⟩
    simp (maxSteps := 2000000) +contextual only [hl, hw, hw1, cellsAt_s0, cellsAt_sk, blkAt_s0, blkAt_sk, set_s0, set_sk, set_sapp, set_app, List.set_set, List.length_set, finish_one_setG, finish_one_set0, clean_none', Nat.add_assoc, Wp_some, Wp_none, Wp_ite, Wc_some, Wc_none, Wc_ite, Wp_thenRun, seqQ_normal, seqQ_exit, seqQ_ret, Wp_inBlock, blkQ_normal, blkQ_ret, blkQ_same, blkQ_exit, Wp_opThen, opQ_at, Wp_guardP, retQ_normal, retQ_ret, loopQ_normal, loopQ_exit, loopQ_ret, go_sem, entry, joinEsc, if_pos, reduceIte, Nat.reduceAdd, Nat.reduceLeDiff, Nat.reduceLT, Nat.reduceEqDiff]
    exact r1 _ _ _ _ _ _ _ _ _ hy40 (by omega)

theorem wc_moveOf {q b0 : Nat} {c : Option Nat} {ls : List Ld} {x a b s : Int} {av : AV} {p : Int} (h : Cu H q av p) (hp : p ≤ 1000000000) (hls : cellsAt H b0 = some (encL ls)) (hn : ls.length ≤ 100000) (hbq : b0 ≠ q) : Wc (call T pr f_s_l1Cur_moveOf [.ptr (some (q, 0)), ptV x a b (slL b0 ls.length c) s] ⟨H, e⟩) (fun v m => ∃ m1 m2 y z : Int, v = .agg [.int .i64 m1, .int .i64 m2] ∧ 0 ≤ y ∧ y ≤ p + 10 ∧ m = ⟨H.set q (curB av y z), e⟩) := by
  have hl := h.lt
  rw [call_wc t_s_l1Cur_moveOf]
  obtain ⟨R, hR⟩ : ∃ R, R = seqTl (seqTl c_s_l1Cur_moveOf) := ⟨_, rfl⟩
  have hc : c_s_l1Cur_moveOf = (.seq (seqHd c_s_l1Cur_moveOf) (.seq (seqHd (seqTl c_s_l1Cur_moveOf)) R)) := by rw [hR]; rfl
  have r : ∀ (y z : Int) (B0 : Blk) (G : List Blk) (w1 w4 w5 w6 : AV), 0 ≤ y → y ≤ p + 4 →
      Wp (run T pr R ⟨[.ptr (some (q, 0)), w1, .ptr (some (H.length, 0)), .ptr (some (H.length + 1, 0)), w4, w5, w6], ⟨H.set q (curB av y z) ++ (B0 :: .cells [.int .i64 0, .int .i64 0] true :: G), none⟩⟩) (retQ a_s_l1Cur_moveOf ⟨H, e⟩ fun v m => ∃ m1 m2 y z : Int, v = .agg [.int .i64 m1, .int .i64 m2] ∧ 0 ≤ y ∧ y ≤ p + 10 ∧ m = ⟨H.set q (curB av y z), e⟩) := by
    rintro y z B0 G w1 w4 w5 w6 hy0 hy1
    have h1 := h.step hy0 z
    rw [hR]
    simp (maxSteps := 2000000) +contextual only [c_s_l1Cur_moveOf, seqTl, seqHd, hl, cellsAt_s0, cellsAt_sk, blkAt_s0, blkAt_sk, set_s0, set_sk, set_sapp, set_app, List.set_set, List.length_set, finish_one_setG, finish_one_set0, clean_none', Nat.add_assoc, Wp_some, Wp_none, Wp_ite, Wc_some, Wc_none, Wc_ite, Wp_thenRun, seqQ_normal, seqQ_exit, seqQ_ret, Wp_inBlock, blkQ_normal, blkQ_ret, blkQ_same, blkQ_exit, Wp_opThen, opQ_at, Wp_guardP, retQ_normal, retQ_ret, loopQ_normal, loopQ_exit, loopQ_ret, go_sem, entry, joinEsc, if_pos, reduceIte, Nat.reduceAdd, Nat.reduceLeDiff, Nat.reduceLT, Nat.reduceEqDiff]
    refine (wc_pick 4 (h1.more _) (by omega) (by omega)).mono ?_
    rintro v m ⟨x5, y5, z5, rfl, hx50, hx51, hy50, hy51, rfl⟩
    have h5 := h1.step hy50 z5
    rw [List.set_set] at h5
    simp (maxSteps := 2000000) +contextual only [hl, cellsAt_s0, cellsAt_sk, blkAt_s0, blkAt_sk, set_s0, set_sk, set_sapp, set_app, List.set_set, List.length_set, finish_one_setG, finish_one_set0, clean_none', Nat.add_assoc, Wp_some, Wp_none, Wp_ite, Wc_some, Wc_none, Wc_ite, Wp_thenRun, seqQ_normal, seqQ_exit, seqQ_ret, Wp_inBlock, blkQ_normal, blkQ_ret, blkQ_same, blkQ_exit, Wp_opThen, opQ_at, Wp_guardP, retQ_normal, retQ_ret, loopQ_normal, loopQ_exit, loopQ_ret, go_sem, entry, joinEsc, if_pos, reduceIte, Nat.reduceAdd, Nat.reduceLeDiff, Nat.reduceLT, Nat.reduceEqDiff]
    refine (wc_pick 24 (h5.more _) (by omega) (by omega)).mono ?_
    rintro v m ⟨x6, y6, z6, rfl, hx60, hx61, hy60, hy61, rfl⟩
    have h6 := h5.step hy60 z6
    rw [List.set_set] at h6
    simp (maxSteps := 2000000) +contextual only [hl, show ¬ ((23 : Int) = 0) by omega, decide_false, cellsAt_s0, cellsAt_sk, blkAt_s0, blkAt_sk, set_s0, set_sk, set_sapp, set_app, List.set_set, List.length_set, finish_one_setG, finish_one_set0, clean_none', Nat.add_assoc, Wp_some, Wp_none, Wp_ite, Wc_some, Wc_none, Wc_ite, Wp_thenRun, seqQ_normal, seqQ_exit, seqQ_ret, Wp_inBlock, blkQ_normal, blkQ_ret, blkQ_same, blkQ_exit, Wp_opThen, opQ_at, Wp_guardP, retQ_normal, retQ_ret, loopQ_normal, loopQ_exit, loopQ_ret, go_sem, entry, joinEsc, if_pos, reduceIte, Nat.reduceAdd, Nat.reduceLeDiff, Nat.reduceLT, Nat.reduceEqDiff]
    refine (wc_pick 13 (h6.more _) (by omega) (by omega)).mono ?_
    rintro v m ⟨x7, y7, z7, rfl, hx70, hx71, hy70, hy71, rfl⟩
    simp (maxSteps := 2000000) +contextual only [a_s_l1Cur_moveOf, fillParts, hl, cellsAt_s0, cellsAt_sk, blkAt_s0, blkAt_sk, set_s0, set_sk, set_sapp, set_app, List.set_set, List.length_set, finish_one_setG, finish_one_set0, clean_none', Nat.add_assoc, Wp_some, Wp_none, Wp_ite, Wc_some, Wc_none, Wc_ite, Wp_thenRun, seqQ_normal, seqQ_exit, seqQ_ret, Wp_inBlock, blkQ_normal, blkQ_ret, blkQ_same, blkQ_exit, Wp_opThen, opQ_at, Wp_guardP, retQ_normal, retQ_ret, loopQ_normal, loopQ_exit, loopQ_ret, finish_one_eq, finish_one_eq0, finish_two_eq, finish_two_eq0, roots_slice_new, roots_slice_new0, roots_slice_none, roots_ptr_new, roots_ptr_new0, roots_int, roots_bool, roots_str, roots_agg, roots_tup, roots_cons, roots_nil, rename_slice, rename_slice_none, rename_ptr, rename_int, rename_bool, rename_str, rename_agg, rename_tup, rename_cons, rename_nil, keepBlks_nil, keepBlks_cons, flatAll_nil, flatAll_cons, flatBlk_cells, dedup_nil, dedup_one, dedup_two, renum_one, renum_one0, renum_two0, renum_two1, clean_none', clean_some, minEsc_none, minEsc_some, Nat.add_left_cancel_iff, Nat.le_add_right, Nat.le_refl, decide_true, go_sem, entry, joinEsc, if_pos, reduceIte, Nat.reduceAdd, Nat.reduceLeDiff, Nat.reduceLT, Nat.reduceEqDiff]
    exact ⟨_, _, y7, z7, rfl, hy70, by omega, rfl⟩
  show Wp (run T pr c_s_l1Cur_moveOf _) _
  rw [hc]
  have hpa := fun X => e_s_l11Party (pr := pr) (e := none) (c := c) (cells_mono hls X) (show ls.length ≤ 9223372036854775806 by omega) x a b s
  obtain ⟨w, hw, hwc⟩ := h.cells
  have hsame : H = H.set q (curB av p w) := (set_self_at hw).symm
  cases h1 : partyOk x a b ls s with
  | false =>
    simp (maxSteps := 2000000) +contextual only [a_s_l1Cur_moveOf, c_s_l1Cur_moveOf, seqTl, seqHd, fillParts, hpa, h1, Wp_some, Wp_none, Wp_ite, Wc_some, Wc_none, Wc_ite, Wp_thenRun, seqQ_normal, seqQ_exit, seqQ_ret, Wp_inBlock, blkQ_normal, blkQ_ret, blkQ_same, blkQ_exit, Wp_opThen, opQ_at, Wp_guardP, retQ_normal, retQ_ret, loopQ_normal, loopQ_exit, loopQ_ret, go_sem, entry, joinEsc, if_pos, reduceIte, Nat.reduceAdd, Nat.reduceLeDiff, Nat.reduceLT, Nat.reduceEqDiff]
    have := r p w (.cells [.int .i64 x, .int .i64 a, .int .i64 b, slL b0 ls.length c, .int .i64 s] true) [] (ptV x a b (slL b0 ls.length c) s) .undef (.bool false) .undef h.2.2 (by omega)
    rw [← hsame] at this
    exact this
  | true =>
    simp (maxSteps := 2000000) +contextual only [a_s_l1Cur_moveOf, c_s_l1Cur_moveOf, seqTl, seqHd, fillParts, hpa, h1, Wp_some, Wp_none, Wp_ite, Wc_some, Wc_none, Wc_ite, Wp_thenRun, seqQ_normal, seqQ_exit, seqQ_ret, Wp_inBlock, blkQ_normal, blkQ_ret, blkQ_same, blkQ_exit, Wp_opThen, opQ_at, Wp_guardP, retQ_normal, retQ_ret, loopQ_normal, loopQ_exit, loopQ_ret, go_sem, entry, joinEsc, if_pos, reduceIte, Nat.reduceAdd, Nat.reduceLeDiff, Nat.reduceLT, Nat.reduceEqDiff]
    refine (wc_one 6 (h.more _) (by omega) (by omega)).mono ?_
    rintro v m ⟨x2, y2, z2, rfl, hy20, hy21, rfl⟩
    have h2 := h.step hy20 z2
    obtain ⟨f1, f2, f3⟩ := party_facts h1
    cases x2 with
    | true =>
      simp (maxSteps := 2000000) +contextual only [hl, cellsAt_s0, cellsAt_sk, blkAt_s0, blkAt_sk, set_s0, set_sk, set_sapp, set_app, List.set_set, List.length_set, finish_one_setG, finish_one_set0, clean_none', Nat.add_assoc, Wp_some, Wp_none, Wp_ite, Wc_some, Wc_none, Wc_ite, Wp_thenRun, seqQ_normal, seqQ_exit, seqQ_ret, Wp_inBlock, blkQ_normal, blkQ_ret, blkQ_same, blkQ_exit, Wp_opThen, opQ_at, Wp_guardP, retQ_normal, retQ_ret, loopQ_normal, loopQ_exit, loopQ_ret, go_sem, entry, joinEsc, if_pos, reduceIte, Nat.reduceAdd, Nat.reduceLeDiff, Nat.reduceLT, Nat.reduceEqDiff]
      exact r _ _ _ _ _ _ _ _ hy20 (by omega)
    | false =>
      have hls2 : cellsAt (H.set q (curB av y2 z2)) b0 = some (encL ls) := by
        rw [cells_same (List.getElem?_set_ne (fun e => hbq e.symm))]
        exact hls
      obtain ⟨cap, hmv⟩ := e_s_l11Moves (pr := pr) (H := H.set q (curB av y2 z2) ++ [.cells [.int .i64 x, .int .i64 a, .int .i64 b, slL b0 ls.length c, .int .i64 s] true, .cells [.int .i64 0, .int .i64 0] true]) (e := none) (c := c) (q := b0) (ls := ls) (cells_mono hls2 _) f1 f2 x a b s f3
      simp only [List.length_append, List.length_set, List.append_assoc, List.cons_append, List.nil_append, List.length_cons, List.length_nil, Nat.zero_add, Nat.reduceAdd] at hmv
      obtain ⟨M, hM⟩ : ∃ M, M = mvs x a b s ls := ⟨_, rfl⟩
      have hMn : M.length ≤ 6 := by rw [hM]; exact Nat.le_trans (mvs_le x a b s ls _ _) (by omega)
      rw [← hM] at hmv
      by_cases h0 : (0 : Int) < (M.length : Int)
      · simp (maxSteps := 2000000) +contextual only [hl, hmv, gt_iff_lt, h0, decide_true, cellsAt_s0, cellsAt_sk, blkAt_s0, blkAt_sk, set_s0, set_sk, set_sapp, set_app, List.set_set, List.length_set, finish_one_setG, finish_one_set0, clean_none', Nat.add_assoc, Wp_some, Wp_none, Wp_ite, Wc_some, Wc_none, Wc_ite, Wp_thenRun, seqQ_normal, seqQ_exit, seqQ_ret, Wp_inBlock, blkQ_normal, blkQ_ret, blkQ_same, blkQ_exit, Wp_opThen, opQ_at, Wp_guardP, retQ_normal, retQ_ret, loopQ_normal, loopQ_exit, loopQ_ret, go_sem, entry, joinEsc, if_pos, reduceIte, Nat.reduceAdd, Nat.reduceLeDiff, Nat.reduceLT, Nat.reduceEqDiff]
        refine (wc_pick (M.length : Int) (h2.more _) (by omega) (by omega)).mono ?_
        rintro v m ⟨x6, y6, z6, rfl, hx60, hx61, hy60, hy61, rfl⟩
        obtain ⟨i, rfl⟩ : ∃ i : Nat, x6 = (i : Int) := ⟨x6.toNat, by omega⟩
        have hi : i < M.length := by omega
        have hl6 : M[i]? = some M[i] := List.getElem?_eq_getElem hi
        simp (maxSteps := 2000000) +contextual only [a_s_l1Cur_moveOf, fillParts, hi, part_encL hl6, hl, cellsAt_s0, cellsAt_sk, blkAt_s0, blkAt_sk, set_s0, set_sk, set_sapp, set_app, List.set_set, List.length_set, finish_one_setG, finish_one_set0, clean_none', Nat.add_assoc, Wp_some, Wp_none, Wp_ite, Wc_some, Wc_none, Wc_ite, Wp_thenRun, seqQ_normal, seqQ_exit, seqQ_ret, Wp_inBlock, blkQ_normal, blkQ_ret, blkQ_same, blkQ_exit, Wp_opThen, opQ_at, Wp_guardP, retQ_normal, retQ_ret, loopQ_normal, loopQ_exit, loopQ_ret, finish_one_eq, finish_one_eq0, finish_two_eq, finish_two_eq0, roots_slice_new, roots_slice_new0, roots_slice_none, roots_ptr_new, roots_ptr_new0, roots_int, roots_bool, roots_str, roots_agg, roots_tup, roots_cons, roots_nil, rename_slice, rename_slice_none, rename_ptr, rename_int, rename_bool, rename_str, rename_agg, rename_tup, rename_cons, rename_nil, keepBlks_nil, keepBlks_cons, flatAll_nil, flatAll_cons, flatBlk_cells, dedup_nil, dedup_one, dedup_two, renum_one, renum_one0, renum_two0, renum_two1, clean_none', clean_some, minEsc_none, minEsc_some, Nat.add_left_cancel_iff, Nat.le_add_right, Nat.le_refl, decide_true, go_sem, entry, joinEsc, if_pos, reduceIte, Nat.reduceAdd, Nat.reduceLeDiff, Nat.reduceLT, Nat.reduceEqDiff]
        exact ⟨_, _, y6, z6, rfl, hy60, by omega, rfl⟩
      · simp (maxSteps := 2000000) +contextual only [hl, hmv, gt_iff_lt, h0, decide_false, cellsAt_s0, cellsAt_sk, blkAt_s0, blkAt_sk, set_s0, set_sk, set_sapp, set_app, List.set_set, List.length_set, finish_one_setG, finish_one_set0, clean_none', Nat.add_assoc, Wp_some, Wp_none, Wp_ite, Wc_some, Wc_none, Wc_ite, Wp_thenRun, seqQ_normal, seqQ_exit, seqQ_ret, Wp_inBlock, blkQ_normal, blkQ_ret, blkQ_same, blkQ_exit, Wp_opThen, opQ_at, Wp_guardP, retQ_normal, retQ_ret, loopQ_normal, loopQ_exit, loopQ_ret, go_sem, entry, joinEsc, if_pos, reduceIte, Nat.reduceAdd, Nat.reduceLeDiff, Nat.reduceLT, Nat.reduceEqDiff]
        exact r _ _ _ _ _ _ _ _ hy20 (by omega)

end Go.Proofs.Ythkgpblohjpcdaa.Slim

/- Rafts: the drawn arguments. -/
namespace Go.Proofs.Ythkgpblohjpcdaa.Slim

open Go

set_option linter.unusedSimpArgs false

set_option linter.unusedVariables false

variable {pr : Prims} {H : List Blk} {e : Option Nat}

theorem set_ld0 {ls : List Ld} {i : Nat} (h : i < ls.length) (a : Int) : ∃ ls' : List Ld, ls'.length = ls.length ∧ setRange (encL ls) (i * 2) [.int .i64 a] = encL ls' := by
  have hl : ls = ls.take i ++ ls[i] :: ls.drop (i + 1) := by rw [← List.drop_eq_getElem_cons h, List.take_append_drop]
  have ht : (ls.take i).length = i := by rw [List.length_take]; omega
  have := setRange_midL0 (ls.take i) (ls.drop (i + 1)) ls[i] a
  rw [← hl, ht] at this
  refine ⟨_, ?_, this⟩
  rw [List.length_append, List.length_cons, List.length_drop, ht]
  omega

end Go.Proofs.Ythkgpblohjpcdaa.Slim
