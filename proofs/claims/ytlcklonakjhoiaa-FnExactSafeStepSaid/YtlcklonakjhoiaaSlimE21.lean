/- Rafts: the first safe order, on both sides. -/
import Derived.Test.YtlcklonakjhoiaaSlimE20
namespace Go.Proofs.Ytlcklonakjhoiaa.Slim

open Go

set_option linter.unusedSimpArgs false

set_option linter.unusedVariables false

variable {pr : Prims} {H : List Blk} {e : Option Nat}

/-- a capacity that is not told -/
def capOf : Option (AV × Mem) → Option Nat
  | some (.slice _ _ _ c, _) => c
  | some (.tup (.slice _ _ _ c :: _), _) => c
  | _ => none

noncomputable def hid (pr : Prims) (f : FuncId) (args : List AV) (m : Mem) : Option Nat := capOf (call T pr f args m)

theorem hid_slice {f : FuncId} {args : List AV} {m m' : Mem} {p : Option (Nat × Nat)} {sz n : Nat} (h : ∃ cap, call T pr f args m = some (.slice p sz n cap, m')) : call T pr f args m = some (.slice p sz n (hid pr f args m), m') := by
  obtain ⟨cap, h⟩ := h
  have h2 : hid pr f args m = cap := by unfold hid; rw [h]; rfl
  rw [h2]; exact h

theorem hid_tup {f : FuncId} {args vs : List AV} {m m' : Mem} {p : Option (Nat × Nat)} {sz n : Nat} (h : ∃ cap, call T pr f args m = some (.tup (.slice p sz n cap :: vs), m')) : call T pr f args m = some (.tup (.slice p sz n (hid pr f args m) :: vs), m') := by
  obtain ⟨cap, h⟩ := h
  have h2 : hid pr f args m = cap := by unfold hid; rw [h]; rfl
  rw [h2]; exact h

/-- the first item that can be added -/
def firstW (W : List Int) (n c : Nat) : Nat := ((List.range n).filter (okStep W c)).headD 0

def orderW (W : List Int) (n : Nat) : Nat → Nat → List Int
  | 0, _ => []
  | k + 1, c => ((firstW W n c : Nat) : Int) :: orderW W n k (c + 2 ^ firstW W n c)

theorem orderW_length (W : List Int) (n : Nat) : ∀ k c, (orderW W n k c).length = k
  | 0, _ => rfl
  | k + 1, c => by rw [orderW, List.length_cons, orderW_length]

theorem first_spec {W : List Int} {n c : Nat} (h : goodW n W c) (h1 : 0 < W.getD c 0) (h2 : mu n c ≠ 0) :
    firstW W n c < n ∧ okStep W c (firstW W n c) = true ∧ (∀ i, i < firstW W n c → okStep W c i = false) ∧ ∃ rest, stepsW W n c = ((firstW W n c : Nat) : Int) :: rest := by
  obtain ⟨i, i1, i2⟩ := h.2.2 h1 h2
  cases hf : (List.range n).filter (okStep W c) with
  | nil =>
    have := List.filter_eq_nil_iff.mp hf i (by simpa using i1)
    exact absurd i2 this
  | cons x rest =>
    have hx : firstW W n c = x := by unfold firstW; rw [hf]; rfl
    have hfind : (List.range n).find? (okStep W c) = some x := by rw [← List.head?_filter, hf]; rfl
    rw [List.find?_range_eq_some] at hfind
    obtain ⟨k1, k2, k3⟩ := hfind
    rw [hx]
    refine ⟨by simpa using k2, k1, fun i hi => by simpa using k3 i hi, _, by unfold stepsW; rw [hf]; rfl⟩

theorem append_in2 {G : List Blk} {B : Blk} {j : Nat} {o : List Int} {cap : Option Nat} (hG : G[j]? = some (.cells (encI o) true)) (hcap : cap = some 0 → o = []) (hmb : (o.length + 1) * 8 ≤ maxBytes) (a : Int) :
    appendV (H ++ (G ++ [B, .cells [.int .i64 a] true])) e false 1 8 (slI (H.length + j) o.length cap) (.slice (some (H.length + (G.length + 1), 0)) 1 1 (some 1)) =
      some (slI (H.length + (G.length + 2)) (o.length + 1) none, ⟨H ++ (killIf cap j (G ++ [B, .cells [.int .i64 a] true]) ++ [.cells (encI o ++ [.int .i64 a]) true]), e⟩) := by
  have hj : j < G.length := (List.getElem?_eq_some_iff.mp hG).1
  have h := append_in (H := H) (e := e) (G := G ++ [B]) (j := j) (o := o) (cap := cap) (by rw [List.getElem?_append_left hj]; exact hG) hcap hmb a
  simpa [Nat.add_assoc] using h

theorem loop_i_SafeOrder {rv p y3 y4 y9 y10 : AV} {q w n F : Nat} {c cw : Option Nat} {W : List Int} (hn8 : n ≤ 8) (hF : F = 2 ^ n) (hw : cellsAt H w = some (encI W)) (hW : W.length = F) (hgood : ∀ c, c < F → goodW n W c) :
    ∀ (k C : Nat) (o : List Int) (j : Nat) (cap : Option Nat) (G : List Blk) (y8 y11 : AV), k + o.length = n → mu n C = k → C < F → 0 < W.getD C 0 → G[j]? = some (.cells (encI o) true) → (cap = some 0 → o = []) →
      ∃ (j' : Nat) (cap' : Option Nat) (G' : List Blk) (z7 z8 z11 : AV), G'[j']? = some (.cells (encI (o ++ orderW W n k C)) true) ∧ run T pr (.loop w_i_SafeOrder_1) ⟨[rv, slL q n c, p, y3, y4, slI w F cw, slI (H.length + j) o.length cap, .int .i64 C, y8, y9, y10, y11], ⟨H ++ G, none⟩⟩ =
      some (Ex.exit 0, ⟨[rv, slL q n c, p, y3, y4, slI w F cw, slI (H.length + j') (o ++ orderW W n k C).length cap', z7, z8, y9, y10, z11], ⟨H ++ G', none⟩⟩)
  | 0, C, o, j, cap, G, y8, y11, hk, hmu, hC, hp, hG, hcap => by
    have hi : n = o.length := by omega
    subst hi
    refine ⟨j, cap, G, .int .i64 C, y8, .bool false, ?_, ?_⟩
    · simpa [orderW] using hG
    rw [run_loop]
    generalize run T pr (.loop w_i_SafeOrder_1) = R
    simp +contextual only [w_i_SafeOrder_1, Nat.lt_irrefl, decide_false, orderW, go_sem, entry, joinEsc, if_pos, reduceIte, Nat.reduceAdd, Nat.reduceLeDiff, Nat.reduceLT, Nat.reduceEqDiff]
  | k + 1, C, o, j, cap, G, y8, y11, hk, hmu, hC, hp, hG, hcap => by
    have hi : o.length < n := by omega
    obtain ⟨p1, p2, p3⟩ := pow_facts n (by omega)
    obtain ⟨f1, f2, f3, rest, f4⟩ := first_spec (hgood C hC) hp (by omega)
    rw [run_loop, orderW]
    generalize hx : firstW W n C = x at f1 f2 f3 f4 ⊢
    have f2' : C.testBit x = false ∧ 0 < W.getD (C + 2 ^ x) 0 := by
      unfold okStep at f2
      simp only [Bool.and_eq_true, decide_eq_true_eq] at f2
      exact ⟨by simpa using f2.1, f2.2⟩
    obtain ⟨_, _, b3⟩ := bits_facts C (by omega) x (by omega)
    obtain ⟨g1, _, g3, g4⟩ := b3 f2'.1
    obtain ⟨m1, m2, m3⟩ := mu_facts n (by omega) C (by omega)
    have hlt : C + 2 ^ x < F := by rw [hF]; exact (set_facts n (by omega) C (by omega) x f1).1 f2'.1
    have hsteps := hid_slice (e_i_stepsFrom (pr := pr) (e := none) (q := q) (c := c) (cw := cw) hn8 hF hC (cells_mono hw G) hW)
    rw [f4] at hsteps
    have hmb : (o.length + 1) * 8 ≤ maxBytes := by unfold maxBytes; omega
    have hpos : (0 : Int) < ((rest.length + 1 : Nat) : Int) := by omega
    obtain ⟨j', cap', G', z7, z8, z11, h2, ih⟩ := loop_i_SafeOrder (rv := rv) (p := p) (y3 := y3) (y4 := y4) (y9 := y9) (y10 := y10) (q := q) (c := c) (cw := cw) hn8 hF hw hW hgood k (C + 2 ^ x) (o ++ [(x : Int)]) (G.length + 2) none
      (killIf cap j (G ++ [.cells (encI ((x : Int) :: rest)) true, .cells [.int .i64 x] true]) ++ [.cells (encI (o ++ [(x : Int)])) true]) (.int .i64 x) (.bool true) (by simp; omega) (by have := m3 x f1 f2'.1; omega) hlt f2'.2 (by
        rw [List.getElem?_append_right (by simp [killIf_length])]; simp [killIf_length]) (by simp)
    rw [List.append_assoc, List.singleton_append] at h2 ih
    refine ⟨j', cap', G', z7, z8, z11, h2, ?_⟩
    generalize run T pr (.loop w_i_SafeOrder_1) = R at ih ⊢
    simp +contextual only [w_i_SafeOrder_1, hi, hsteps, hpos, Int.toNat_zero, Int.le_refl, Nat.zero_mul, fillParts, append_in2 hG hcap hmb, shl_nat, g1, decide_true, go_sem, entry, joinEsc, if_pos, reduceIte, Nat.reduceAdd, Nat.reduceLeDiff, Nat.reduceLT, Nat.reduceEqDiff]
    simp only [List.length_append, List.length_cons, List.length_nil, Nat.zero_add, encI_append, List.map_cons, List.map_nil] at ih
    exact ih

theorem loop_s_SafeOrder_1 {rv p y3 y4 out y9 y10 y11 : AV} {q w n F C x : Nat} {c cw : Option Nat} {W : List Int} (hn8 : n ≤ 8) (hF : F = 2 ^ n) (hC : C < F) (hw : cellsAt H w = some (encI W)) (hW : W.length = F) (hpos : ∀ c, c < F → 0 ≤ W.getD c 0)
    (hx : x < n) (h1 : okStep W C x = true) (h2 : ∀ i, i < x → okStep W C i = false) :
    ∀ (k i : Nat) (y12 : AV), k + i = x → ∃ z12, run T pr (.loop w_s_SafeOrder_1) ⟨[rv, slL q n c, p, y3, y4, out, slI w F cw, .int .i64 C, .int .i64 i, y9, y10, y11, y12], ⟨H, e⟩⟩ =
      some (Ex.exit 2, ⟨[rv, slL q n c, p, y3, y4, out, slI w F cw, .int .i64 C, .int .i64 x, y9, y10, y11, z12], ⟨H, e⟩⟩)
  | 0, i, y12, hk => by
    obtain rfl : i = x := by omega
    have f2' : C.testBit i = false ∧ 0 < W.getD (C + 2 ^ i) 0 := by
      unfold okStep at h1
      simp only [Bool.and_eq_true, decide_eq_true_eq] at h1
      exact ⟨by simpa using h1.1, h1.2⟩
    obtain ⟨p1, p2, p3⟩ := pow_facts n (by omega)
    obtain ⟨_, _, b3⟩ := bits_facts C (by omega) i (by omega)
    obtain ⟨_, g2, g3, g4⟩ := b3 f2'.1
    have g2' : IntKind.i64.wrap ((C : Int) + shlI .i64 1 (i : Int)) = ((C + 2 ^ i : Nat) : Int) := g2
    have hlt : C + 2 ^ i < F := by rw [hF]; exact (set_facts n (by omega) C (by omega) i hx).1 f2'.1
    have hb := bit_clear (c := C) (i := i) (by omega) (by omega) f2'.1
    have e2 := part_encI (ls := W) 1 (getD_get (W := W) (c := C + 2 ^ i) (by omega))
    have hne : ¬ W.getD (C + 2 ^ i) 0 = 0 := by omega
    refine ⟨.bool false, ?_⟩
    rw [run_loop]
    generalize run T pr (.loop w_s_SafeOrder_1) = R
    simp +contextual only [w_s_SafeOrder_1, hw, hlt, shr_nat, shl_nat, hb, g2', e2, hne, show ¬ ((0 : Int) = 1) by omega, decide_true, decide_false, go_sem, entry, joinEsc, if_pos, reduceIte, Nat.reduceAdd, Nat.reduceLeDiff, Nat.reduceLT, Nat.reduceEqDiff]
  | k + 1, i, y12, hk => by
    have hno := h2 i (by omega)
    obtain ⟨p1, p2, p3⟩ := pow_facts n (by omega)
    obtain ⟨z12, ih⟩ := loop_s_SafeOrder_1 (rv := rv) (p := p) (y3 := y3) (y4 := y4) (out := out) (y9 := y9) (y10 := y10) (y11 := y11) (q := q) (c := c) (cw := cw) hn8 hF hC hw hW hpos hx h1 h2 k (i + 1) (.bool true) (by omega)
    refine ⟨z12, ?_⟩
    rw [run_loop]
    generalize run T pr (.loop w_s_SafeOrder_1) = R at ih ⊢
    cases hbit : C.testBit i with
    | true =>
      have hb := bit_set (c := C) (i := i) (by omega) (by omega) hbit
      simp +contextual only [w_s_SafeOrder_1, shr_nat, hb, wrap_succ (show i < 9223372036854775807 by omega), decide_true, go_sem, entry, joinEsc, if_pos, reduceIte, Nat.reduceAdd, Nat.reduceLeDiff, Nat.reduceLT, Nat.reduceEqDiff]
      exact ih
    | false =>
      obtain ⟨_, _, b3⟩ := bits_facts C (by omega) i (by omega)
      obtain ⟨_, g2, g3, g4⟩ := b3 hbit
      have g2' : IntKind.i64.wrap ((C : Int) + shlI .i64 1 (i : Int)) = ((C + 2 ^ i : Nat) : Int) := g2
      have hlt : C + 2 ^ i < F := by rw [hF]; exact (set_facts n (by omega) C (by omega) i (by omega)).1 hbit
      have hb := bit_clear (c := C) (i := i) (by omega) (by omega) hbit
      have e2 := part_encI (ls := W) 1 (getD_get (W := W) (c := C + 2 ^ i) (by omega))
      have hz : W.getD (C + 2 ^ i) 0 = 0 := by
        unfold okStep at hno
        rw [hbit] at hno
        simp only [Bool.not_false, Bool.true_and, decide_eq_false_iff_not] at hno
        have := hpos _ hlt
        omega
      rw [hz] at e2
      simp +contextual only [w_s_SafeOrder_1, hw, hlt, shr_nat, shl_nat, hb, g2', e2, show ¬ ((0 : Int) = 1) by omega, wrap_succ (show i < 9223372036854775807 by omega), decide_true, decide_false, go_sem, entry, joinEsc, if_pos, reduceIte, Nat.reduceAdd, Nat.reduceLeDiff, Nat.reduceLT, Nat.reduceEqDiff]
      exact ih

theorem cells_kill {G E F : List Blk} {cap : Option Nat} {j w : Nat} {cs : List AV} (h : cellsAt (H ++ G) w = some cs) (hne : w ≠ H.length + j) : cellsAt (H ++ (killIf cap j (G ++ E) ++ F)) w = some cs := by
  have hlt : w < (H ++ G).length := by
    unfold cellsAt at h
    cases hb : (H ++ G)[w]? with
    | none => rw [hb] at h; cases h
    | some x => exact (List.getElem?_eq_some_iff.mp hb).1
  have h2 : (H ++ (killIf cap j (G ++ E) ++ F))[w]? = (H ++ G)[w]? := by
    by_cases hw : w < H.length
    · rw [List.getElem?_append_left hw, List.getElem?_append_left hw]
    · have e1 : ∀ X : List Blk, (H ++ X)[w]? = X[w - H.length]? := fun X => List.getElem?_append_right (by omega)
      have hl : w - H.length < G.length := by simp at hlt; omega
      have e2 : (killIf cap j (G ++ E) ++ F)[w - H.length]? = (killIf cap j (G ++ E))[w - H.length]? := List.getElem?_append_left (by rw [killIf_length]; simp; omega)
      rw [e1, e1, e2]
      unfold killIf
      split
      · rw [List.getElem?_append_left hl]
      · rw [List.getElem?_set_ne (by omega), List.getElem?_append_left hl]
  unfold cellsAt at *
  rw [h2]
  exact h

theorem cells_lt {L : List Blk} {w : Nat} {cs : List AV} (h : cellsAt L w = some cs) : w < L.length := by
  unfold cellsAt at h
  cases hb : L[w]? with
  | none => rw [hb] at h; cases h
  | some x => exact (List.getElem?_eq_some_iff.mp hb).1

theorem loop_s_SafeOrder_2 {rv p y3 y4 y9 y10 : AV} {q w n F : Nat} {c cw : Option Nat} {W : List Int} (hn8 : n ≤ 8) (hF : F = 2 ^ n) (hW : W.length = F) (hgood : ∀ c, c < F → goodW n W c) :
    ∀ (k C : Nat) (o : List Int) (j : Nat) (cap : Option Nat) (G : List Blk) (y8 y11 y12 : AV), cellsAt (H ++ G) w = some (encI W) → w ≠ H.length + j → k + o.length = n → mu n C = k → C < F → 0 < W.getD C 0 → G[j]? = some (.cells (encI o) true) → (cap = some 0 → o = []) →
      ∃ (j' : Nat) (cap' : Option Nat) (G' : List Blk) (z7 z8 z11 z12 : AV), G'[j']? = some (.cells (encI (o ++ orderW W n k C)) true) ∧ run T pr (.loop w_s_SafeOrder_2) ⟨[rv, slL q n c, p, y3, y4, slI (H.length + j) o.length cap, slI w F cw, .int .i64 C, y8, y9, y10, y11, y12], ⟨H ++ G, none⟩⟩ =
      some (Ex.exit 0, ⟨[rv, slL q n c, p, y3, y4, slI (H.length + j') (o ++ orderW W n k C).length cap', slI w F cw, z7, z8, y9, y10, z11, z12], ⟨H ++ G', none⟩⟩)
  | 0, C, o, j, cap, G, y8, y11, y12, hw, hne, hk, hmu, hC, hp, hG, hcap => by
    have hi : n = o.length := by omega
    subst hi
    refine ⟨j, cap, G, .int .i64 C, y8, .bool false, y12, ?_, ?_⟩
    · simpa [orderW] using hG
    rw [run_loop]
    generalize run T pr (.loop w_s_SafeOrder_2) = R
    simp +contextual only [w_s_SafeOrder_2, Nat.lt_irrefl, decide_false, orderW, go_sem, entry, joinEsc, if_pos, reduceIte, Nat.reduceAdd, Nat.reduceLeDiff, Nat.reduceLT, Nat.reduceEqDiff]
  | k + 1, C, o, j, cap, G, y8, y11, y12, hw, hne, hk, hmu, hC, hp, hG, hcap => by
    have hi : o.length < n := by omega
    obtain ⟨p1, p2, p3⟩ := pow_facts n (by omega)
    obtain ⟨f1, f2, f3, rest, f4⟩ := first_spec (hgood C hC) hp (by omega)
    rw [run_loop, orderW]
    generalize hx : firstW W n C = x at f1 f2 f3 f4 ⊢
    have f2' : C.testBit x = false ∧ 0 < W.getD (C + 2 ^ x) 0 := by
      unfold okStep at f2
      simp only [Bool.and_eq_true, decide_eq_true_eq] at f2
      exact ⟨by simpa using f2.1, f2.2⟩
    obtain ⟨_, _, b3⟩ := bits_facts C (by omega) x (by omega)
    obtain ⟨_, g2, g3, g4⟩ := b3 f2'.1
    have g2' : IntKind.i64.wrap ((C : Int) + shlI .i64 1 (x : Int)) = ((C + 2 ^ x : Nat) : Int) := g2
    obtain ⟨m1, m2, m3⟩ := mu_facts n (by omega) C (by omega)
    have hlt : C + 2 ^ x < F := by rw [hF]; exact (set_facts n (by omega) C (by omega) x f1).1 f2'.1
    have hmb : (o.length + 1) * 8 ≤ maxBytes := by unfold maxBytes; omega
    have hwl := cells_lt hw
    rw [List.length_append] at hwl
    obtain ⟨u12, hfind⟩ := loop_s_SafeOrder_1 (pr := pr) (e := none) (rv := rv) (p := p) (y3 := y3) (y4 := y4) (out := slI (H.length + j) o.length cap) (y9 := y9) (y10 := y10) (y11 := .bool true) (q := q) (c := c) (cw := cw) hn8 hF hC hw hW (fun c hc => (hgood c hc).1) f1 f2 f3 x 0 y12 rfl
    have h0 : ((0 : Nat) : Int) = 0 := rfl
    rw [h0] at hfind
    obtain ⟨j', cap', G', z7, z8, z11, z12, h2, ih⟩ := loop_s_SafeOrder_2 (rv := rv) (p := p) (y3 := y3) (y4 := y4) (y9 := y9) (y10 := y10) (q := q) (c := c) (cw := cw) hn8 hF hW hgood k (C + 2 ^ x) (o ++ [(x : Int)]) (G.length + 1) none
      (killIf cap j (G ++ [.cells [.int .i64 x] true]) ++ [.cells (encI (o ++ [(x : Int)])) true]) (.int .i64 x) (.bool true) u12 (cells_kill hw hne) (by omega) (by simp; omega) (by have := m3 x f1 f2'.1; omega) hlt f2'.2 (by
        rw [List.getElem?_append_right (by simp [killIf_length])]; simp [killIf_length]) (by simp)
    rw [List.append_assoc, List.singleton_append] at h2 ih
    refine ⟨j', cap', G', z7, z8, z11, z12, h2, ?_⟩
    generalize run T pr (.loop w_s_SafeOrder_2) = R at ih ⊢
    simp +contextual only [w_s_SafeOrder_2, hi, hfind, fillParts, append_in hG hcap hmb, shl_nat, g2', decide_true, go_sem, entry, joinEsc, if_pos, reduceIte, Nat.reduceAdd, Nat.reduceLeDiff, Nat.reduceLT, Nat.reduceEqDiff]
    simp only [List.length_append, List.length_cons, List.length_nil, Nat.zero_add, encI_append, List.map_cons, List.map_nil] at ih
    exact ih

/-- is there a safe order? -/
def canW (a b o : Int) (ls : List Ld) : Bool := cargoOk a b o ls && !decide ((waysW a b o ls).getD 0 0 = 0)

/-- the first safe order -/
def soW (a b o : Int) (ls : List Ld) : List Int := orderW (waysW a b o ls) ls.length ls.length 0

theorem cargo_le {a b o : Int} {ls : List Ld} (h : cargoOk a b o ls = true) : ls.length ≤ 8 := by
  unfold cargoOk at h
  rw [Bool.and_eq_true, decide_eq_true_eq] at h
  exact h.2

theorem ways0 {a b o : Int} {ls : List Ld} : (encI (waysW a b o ls))[0]? = some (.int .i64 ((waysW a b o ls).getD 0 0)) := by
  rw [List.getElem?_map, getD_get (by rw [waysW_length]; exact Nat.two_pow_pos _)]; rfl

theorem e_i_SafeOrder_no {q : Nat} {c : Option Nat} {ls : List Ld} (hq : cellsAt H q = some (encL ls)) (a b o : Int) (h : canW a b o ls = false) : call T pr f_i_SafeOrder [rfV a b o, slL q ls.length c] ⟨H, e⟩ =
    some (.tup [.slice none 0 0 none, .bool false], ⟨H, e⟩) := by
  rw [call_eq t_i_SafeOrder]
  cases h1 : cargoOk a b o ls with
  | false => simp +contextual only [a_i_SafeOrder, c_i_SafeOrder, e_i_areCargo (cells_mono hq _), h1, finish_two_nb, go_sem, entry, joinEsc, if_pos, reduceIte, Nat.reduceAdd, Nat.reduceLeDiff, Nat.reduceLT, Nat.reduceEqDiff]
  | true =>
    have hn8 := cargo_le h1
    unfold canW at h
    rw [h1, Bool.true_and] at h
    have hz : (waysW a b o ls).getD 0 0 = 0 := by simpa using h
    have h00 := ways0 (a := a) (b := b) (o := o) (ls := ls)
    rw [hz] at h00
    have hF : (0 : Int) < ((2 ^ ls.length : Nat) : Int) := by have := Nat.two_pow_pos ls.length; omega
    simp +contextual only [a_i_SafeOrder, c_i_SafeOrder, e_i_areCargo (cells_mono hq _), h1, e_i_Raft_waysOf (cells_mono hq _) hn8, fillParts, hF, part_false, h00, Int.toNat_zero, Int.le_refl, Nat.zero_mul, decide_true, finish_two_nb, go_sem, entry, joinEsc, if_pos, reduceIte, Nat.reduceAdd, Nat.reduceLeDiff, Nat.reduceLT, Nat.reduceEqDiff]

theorem e_s_SafeOrder_no {q : Nat} {c : Option Nat} {ls : List Ld} (hq : cellsAt H q = some (encL ls)) (a b o : Int) (h : canW a b o ls = false) : call T pr f_s_SafeOrder [rfV a b o, slL q ls.length c] ⟨H, e⟩ =
    some (.tup [slI H.length 0 (some 0), .bool false], ⟨H ++ [.cells [] true], e⟩) := by
  rw [call_eq t_s_SafeOrder]
  have hf1 : ∀ (B : Blk) (e0 : Option Nat), finish 2 H.length e0 (.tup [slI (H.length + 1) 0 (some 0), .bool false]) ⟨H ++ [B, .cells [] true], none⟩ = some (.tup [slI H.length 0 (some 0), .bool false], ⟨H ++ [.cells [] true], e0⟩) := fun B e0 => finish_two_sb false e0 rfl rfl
  have hf2 : ∀ (B B' : Blk) (e0 : Option Nat), finish 2 H.length e0 (.tup [slI (H.length + 1) 0 (some 0), .bool false]) ⟨H ++ [B, .cells [] true, B'], none⟩ = some (.tup [slI H.length 0 (some 0), .bool false], ⟨H ++ [.cells [] true], e0⟩) := fun B B' e0 => finish_two_sb false e0 rfl rfl
  cases h1 : cargoOk a b o ls with
  | false => simp +contextual only [a_s_SafeOrder, c_s_SafeOrder, e_s_l10Cargo (cells_mono hq _), h1, fillParts, hf1, go_sem, entry, joinEsc, if_pos, reduceIte, Nat.reduceAdd, Nat.reduceLeDiff, Nat.reduceLT, Nat.reduceEqDiff]
  | true =>
    have hn8 := cargo_le h1
    unfold canW at h
    rw [h1, Bool.true_and] at h
    have hz : (waysW a b o ls).getD 0 0 = 0 := by simpa using h
    have h00 := ways0 (a := a) (b := b) (o := o) (ls := ls)
    rw [hz] at h00
    have hF : (0 : Int) < ((2 ^ ls.length : Nat) : Int) := by have := Nat.two_pow_pos ls.length; omega
    simp +contextual only [a_s_SafeOrder, c_s_SafeOrder, e_s_l10Cargo (cells_mono hq _), h1, e_s_l10Ways (cells_mono hq _) hn8, fillParts, hF, part_false, h00, Int.toNat_zero, Int.le_refl, Nat.zero_mul, decide_true, hf2, go_sem, entry, joinEsc, if_pos, reduceIte, Nat.reduceAdd, Nat.reduceLeDiff, Nat.reduceLT, Nat.reduceEqDiff]

theorem e_i_SafeOrder {q : Nat} {c : Option Nat} {ls : List Ld} (hq : cellsAt H q = some (encL ls)) (a b o : Int) (h : canW a b o ls = true) : ∃ cap, call T pr f_i_SafeOrder [rfV a b o, slL q ls.length c] ⟨H, e⟩ =
    some (.tup [slI H.length (soW a b o ls).length cap, .bool true], ⟨H ++ [.cells (encI (soW a b o ls)) true], e⟩) := by
  unfold canW at h
  obtain ⟨h1, h2⟩ := Bool.and_eq_true_iff.mp h
  have hn8 := cargo_le h1
  have hz : ¬ (waysW a b o ls).getD 0 0 = 0 := by simpa using h2
  have h00 := ways0 (a := a) (b := b) (o := o) (ls := ls)
  have hF0 := Nat.two_pow_pos ls.length
  have hF : (0 : Int) < ((2 ^ ls.length : Nat) : Int) := by omega
  have hg := fun c hc => waysW_good (a := a) (b := b) (o := o) hn8 c hc
  have hp : 0 < (waysW a b o ls).getD 0 0 := by have := (hg 0 hF0).1; omega
  obtain ⟨j', cap', G', z7, z8, z11, k1, hl⟩ := loop_i_SafeOrder (pr := pr) (H := H ++ [Blk.cells [.int .i64 a, .int .i64 b, .int .i64 o] true, .cells (encI (waysW a b o ls)) true]) (rv := rfV a b o) (p := .ptr (some (H.length, 0))) (y3 := .slice none 0 0 none) (y4 := .bool false) (y9 := .bool false) (y10 := .bool false) (q := q) (w := H.length + 1) (c := c) (cw := some (2 ^ ls.length)) hn8 rfl
    (by simp [cellsAt, List.getElem?_append_right]) (waysW_length a b o ls) hg ls.length 0 [] 0 (some 0) [.cells [] true] .undef .undef rfl (mu_zero _) hF0 hp rfl (fun _ => rfl)
  have h0 : ((0 : Nat) : Int) = 0 := rfl
  rw [h0, List.nil_append] at hl
  rw [List.nil_append] at k1
  refine ⟨cap', ?_⟩
  have hs : orderW (waysW a b o ls) ls.length ls.length 0 = soW a b o ls := rfl
  rw [hs] at hl k1
  simp only [List.length_append, List.length_cons, List.length_nil, Nat.zero_add, Nat.add_zero, List.append_assoc, List.cons_append, List.nil_append, Nat.reduceAdd, Nat.add_assoc] at hl
  have hf : ∀ (B B' : Blk) (e0 : Option Nat), finish 2 H.length e0 (.tup [slI (H.length + (2 + j')) (soW a b o ls).length cap', .bool true]) ⟨H ++ (B :: B' :: G'), none⟩ = some (.tup [slI H.length (soW a b o ls).length cap', .bool true], ⟨H ++ [.cells (encI (soW a b o ls)) true], e0⟩) :=
    fun B B' e0 => finish_two_sb true e0 (by rw [show 2 + j' = j' + 1 + 1 by omega]; exact k1) (under_encI _ _)
  rw [call_eq t_i_SafeOrder]
  simp +contextual only [a_i_SafeOrder, c_i_SafeOrder, e_i_areCargo (cells_mono hq _), h1, e_i_Raft_waysOf (cells_mono hq _) hn8, fillParts, hF, part_false, h00, hz, hl, hf, Int.toNat_zero, Int.le_refl, Nat.zero_mul, decide_true, decide_false, go_sem, entry, joinEsc, if_pos, reduceIte, Nat.reduceAdd, Nat.reduceLeDiff, Nat.reduceLT, Nat.reduceEqDiff]

theorem e_s_SafeOrder {q : Nat} {c : Option Nat} {ls : List Ld} (hq : cellsAt H q = some (encL ls)) (a b o : Int) (h : canW a b o ls = true) : ∃ cap, call T pr f_s_SafeOrder [rfV a b o, slL q ls.length c] ⟨H, e⟩ =
    some (.tup [slI H.length (soW a b o ls).length cap, .bool true], ⟨H ++ [.cells (encI (soW a b o ls)) true], e⟩) := by
  unfold canW at h
  obtain ⟨h1, h2⟩ := Bool.and_eq_true_iff.mp h
  have hn8 := cargo_le h1
  have hz : ¬ (waysW a b o ls).getD 0 0 = 0 := by simpa using h2
  have h00 := ways0 (a := a) (b := b) (o := o) (ls := ls)
  have hF0 := Nat.two_pow_pos ls.length
  have hF : (0 : Int) < ((2 ^ ls.length : Nat) : Int) := by omega
  have hg := fun c hc => waysW_good (a := a) (b := b) (o := o) hn8 c hc
  have hp : 0 < (waysW a b o ls).getD 0 0 := by have := (hg 0 hF0).1; omega
  obtain ⟨j', cap', G', z7, z8, z11, z12, k1, hl⟩ := loop_s_SafeOrder_2 (pr := pr) (H := H ++ [Blk.cells [.int .i64 a, .int .i64 b, .int .i64 o] true]) (rv := rfV a b o) (p := .ptr (some (H.length, 0))) (y3 := .slice none 0 0 none) (y4 := .bool false) (y9 := .bool false) (y10 := .bool false) (q := q) (w := H.length + 2) (c := c) (cw := some (2 ^ ls.length)) hn8 rfl
    (waysW_length a b o ls) hg ls.length 0 [] 0 (some 0) [.cells [] true, .cells (encI (waysW a b o ls)) true] .undef .undef .undef (by simp [cellsAt, List.getElem?_append_right]) (by simp) rfl (mu_zero _) hF0 hp rfl (fun _ => rfl)
  have h0 : ((0 : Nat) : Int) = 0 := rfl
  rw [h0, List.nil_append] at hl
  rw [List.nil_append] at k1
  refine ⟨cap', ?_⟩
  have hs : orderW (waysW a b o ls) ls.length ls.length 0 = soW a b o ls := rfl
  rw [hs] at hl k1
  simp only [List.length_append, List.length_cons, List.length_nil, Nat.zero_add, Nat.add_zero, List.append_assoc, List.cons_append, List.nil_append, Nat.reduceAdd, Nat.add_assoc] at hl
  have hf : ∀ (B : Blk) (e0 : Option Nat), finish 2 H.length e0 (.tup [slI (H.length + (1 + j')) (soW a b o ls).length cap', .bool true]) ⟨H ++ (B :: G'), none⟩ = some (.tup [slI H.length (soW a b o ls).length cap', .bool true], ⟨H ++ [.cells (encI (soW a b o ls)) true], e0⟩) :=
    fun B e0 => finish_two_sb true e0 (by rw [show 1 + j' = j' + 1 by omega]; exact k1) (under_encI _ _)
  rw [call_eq t_s_SafeOrder]
  simp +contextual only [a_s_SafeOrder, c_s_SafeOrder, e_s_l10Cargo (cells_mono hq _), h1, e_s_l10Ways (cells_mono hq _) hn8, fillParts, hF, part_false, h00, hz, hl, hf, Int.toNat_zero, Int.le_refl, Nat.zero_mul, decide_true, decide_false, go_sem, entry, joinEsc, if_pos, reduceIte, Nat.reduceAdd, Nat.reduceLeDiff, Nat.reduceLT, Nat.reduceEqDiff]

end Go.Proofs.Ytlcklonakjhoiaa.Slim
