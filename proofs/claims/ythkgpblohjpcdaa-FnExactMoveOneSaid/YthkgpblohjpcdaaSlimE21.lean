/- Rafts: the first safe order, on both sides. -/
import Derived.Test.YthkgpblohjpcdaaSlimE20
namespace Go.Proofs.Ythkgpblohjpcdaa.Slim

open Go

set_option linter.unusedSimpArgs false

set_option linter.unusedVariables false

variable {pr : Prims} {H : List Blk} {e : Option Nat}

/-- a capacity that is not told -/
def capOf : Option (AV × Mem) → Option Nat
  | some (.slice _ _ _ c, _) => c
  | some (.tup (.slice _ _ _ c :: _), _) => c
  | _ => none

noncomputable def hid (pr : Prims) (f : FuncId) (args : List AV) (m : Mem) : Option Nat := capOf (call T pr f args m)

theorem hid_slice {f : FuncId} {args : List AV} {m m' : Mem} {p : Option (Nat × Nat)} {sz n : Nat} (h : ∃ cap, call T pr f args m = some (.slice p sz n cap, m')) : call T pr f args m = some (.slice p sz n (hid pr f args m), m') := by
  obtain ⟨cap, h⟩ := h
  have h2 : hid pr f args m = cap := by unfold hid; rw [h]; rfl
  rw [h2]; exact h

theorem hid_tup {f : FuncId} {args vs : List AV} {m m' : Mem} {p : Option (Nat × Nat)} {sz n : Nat} (h : ∃ cap, call T pr f args m = some (.tup (.slice p sz n cap :: vs), m')) : call T pr f args m = some (.tup (.slice p sz n (hid pr f args m) :: vs), m') := by
  obtain ⟨cap, h⟩ := h
  have h2 : hid pr f args m = cap := by unfold hid; rw [h]; rfl
  rw [h2]; exact h

/-- the first item that can be added -/
def firstW (W : List Int) (n c : Nat) : Nat := ((List.range n).filter (okStep W c)).headD 0

def orderW (W : List Int) (n : Nat) : Nat → Nat → List Int
  | 0, _ => []
  | k + 1, c => ((firstW W n c : Nat) : Int) :: orderW W n k (c + 2 ^ firstW W n c)

theorem orderW_length (W : List Int) (n : Nat) : ∀ k c, (orderW W n k c).length = k
  | 0, _ => rfl
  | k + 1, c => by rw [orderW, List.length_cons, orderW_length]

theorem first_spec {W : List Int} {n c : Nat} (h : goodW n W c) (h1 : 0 < W.getD c 0) (h2 : mu n c ≠ 0) :
    firstW W n c < n ∧ okStep W c (firstW W n c) = true ∧ (∀ i, i < firstW W n c → okStep W c i = false) ∧ ∃ rest, stepsW W n c = ((firstW W n c : Nat) : Int) :: rest := by
  obtain ⟨i, i1, i2⟩ := h.2.2 h1 h2
  cases hf : (List.range n).filter (okStep W c) with
  | nil =>
    have := List.filter_eq_nil_iff.mp hf i (by simpa using i1)
    exact absurd i2 this
  | cons x rest =>
    have hx : firstW W n c = x := by unfold firstW; rw [hf]; rfl
    have hfind : (List.range n).find? (okStep W c) = some x := by rw [← List.head?_filter, hf]; rfl
    rw [List.find?_range_eq_some] at hfind
    obtain ⟨k1, k2, k3⟩ := hfind
    rw [hx]
    refine ⟨by simpa using k2, k1, fun i hi => by simpa using k3 i hi, _, by unfold stepsW; rw [hf]; rfl⟩

theorem append_in2 {G : List Blk} {B : Blk} {j : Nat} {o : List Int} {cap : Option Nat} (hG : G[j]? = some (.cells (encI o) true)) (hcap : cap = some 0 → o = []) (hmb : (o.length + 1) * 8 ≤ maxBytes) (a : Int) :
    appendV (H ++ (G ++ [B, .cells [.int .i64 a] true])) e false 1 8 (slI (H.length + j) o.length cap) (.slice (some (H.length + (G.length + 1), 0)) 1 1 (some 1)) =
      some (slI (H.length + (G.length + 2)) (o.length + 1) none, ⟨H ++ (killIf cap j (G ++ [B, .cells [.int .i64 a] true]) ++ [.cells (encI o ++ [.int .i64 a]) true]), e⟩) := by
  have hj : j < G.length := (List.getElem?_eq_some_iff.mp hG).1
  have h := append_in (H := H) (e := e) (G := G ++ [B]) (j := j) (o := o) (cap := cap) (by rw [List.getElem?_append_left hj]; exact hG) hcap hmb a
  simpa [Nat.add_assoc] using h

theorem cells_kill {G E F : List Blk} {cap : Option Nat} {j w : Nat} {cs : List AV} (h : cellsAt (H ++ G) w = some cs) (hne : w ≠ H.length + j) : cellsAt (H ++ (killIf cap j (G ++ E) ++ F)) w = some cs := by
  have hlt : w < (H ++ G).length := by
    unfold cellsAt at h
    cases hb : (H ++ G)[w]? with
    | none => rw [hb] at h; cases h
    | some x => exact (List.getElem?_eq_some_iff.mp hb).1
  have h2 : (H ++ (killIf cap j (G ++ E) ++ F))[w]? = (H ++ G)[w]? := by
    by_cases hw : w < H.length
    · rw [List.getElem?_append_left hw, List.getElem?_append_left hw]
    · have e1 : ∀ X : List Blk, (H ++ X)[w]? = X[w - H.length]? := fun X => List.getElem?_append_right (by omega)
      have hl : w - H.length < G.length := by simp at hlt; omega
      have e2 : (killIf cap j (G ++ E) ++ F)[w - H.length]? = (killIf cap j (G ++ E))[w - H.length]? := List.getElem?_append_left (by rw [killIf_length]; simp; omega)
      rw [e1, e1, e2]
      unfold killIf
      split
      · rw [List.getElem?_append_left hl]
      · rw [List.getElem?_set_ne (by omega), List.getElem?_append_left hl]
  unfold cellsAt at *
  rw [h2]
  exact h

theorem cells_lt {L : List Blk} {w : Nat} {cs : List AV} (h : cellsAt L w = some cs) : w < L.length := by
  unfold cellsAt at h
  cases hb : L[w]? with
  | none => rw [hb] at h; cases h
  | some x => exact (List.getElem?_eq_some_iff.mp hb).1

/-- is there a safe order? -/
def canW (a b o : Int) (ls : List Ld) : Bool := cargoOk a b o ls && !decide ((waysW a b o ls).getD 0 0 = 0)

/-- the first safe order -/
def soW (a b o : Int) (ls : List Ld) : List Int := orderW (waysW a b o ls) ls.length ls.length 0

theorem cargo_le {a b o : Int} {ls : List Ld} (h : cargoOk a b o ls = true) : ls.length ≤ 8 := by
  unfold cargoOk at h
  rw [Bool.and_eq_true, decide_eq_true_eq] at h
  exact h.2

theorem ways0 {a b o : Int} {ls : List Ld} : (encI (waysW a b o ls))[0]? = some (.int .i64 ((waysW a b o ls).getD 0 0)) := by
  rw [List.getElem?_map, getD_get (by rw [waysW_length]; exact Nat.two_pow_pos _)]; rfl

end Go.Proofs.Ythkgpblohjpcdaa.Slim
