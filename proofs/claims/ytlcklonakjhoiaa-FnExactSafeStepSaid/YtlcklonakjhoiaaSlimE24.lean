/- Rafts: the order in which all can be taken, on both sides; its law. -/
import Derived.Test.YtlcklonakjhoiaaSlimE23
namespace Go.Proofs.Ytlcklonakjhoiaa.Slim

open Go

set_option linter.unusedSimpArgs false

set_option linter.unusedVariables false

variable {pr : Prims} {H : List Blk} {e : Option Nat}

def firstD (W : List Bool) (n c : Nat) : Nat := ((List.range n).filter (okDown W c)).headD 0

def unloadL (W : List Bool) (n : Nat) : Nat → Nat → List Int
  | 0, _ => []
  | k + 1, c => ((firstD W n c : Nat) : Int) :: unloadL W n k (c - 2 ^ firstD W n c)

theorem unloadL_length (W : List Bool) (n : Nat) : ∀ k c, (unloadL W n k c).length = k
  | 0, _ => rfl
  | k + 1, c => by rw [unloadL, List.length_cons, unloadL_length]

theorem firstD_spec {W : List Bool} {n c : Nat} (h : ∃ i, i < n ∧ okDown W c i = true) :
    firstD W n c < n ∧ okDown W c (firstD W n c) = true ∧ (∀ i, i < firstD W n c → okDown W c i = false) := by
  obtain ⟨i, i1, i2⟩ := h
  cases hf : (List.range n).filter (okDown W c) with
  | nil =>
    have := List.filter_eq_nil_iff.mp hf i (by simpa using i1)
    exact absurd i2 this
  | cons x rest =>
    have hx : firstD W n c = x := by unfold firstD; rw [hf]; rfl
    have hfind : (List.range n).find? (okDown W c) = some x := by rw [← List.head?_filter, hf]; rfl
    rw [List.find?_range_eq_some] at hfind
    obtain ⟨k1, k2, k3⟩ := hfind
    rw [hx]
    exact ⟨by simpa using k2, k1, fun i hi => by simpa using k3 i hi⟩

theorem loop_i_UnloadOrder_1 {a0 a1 a2 a3 a4 a5 b9 b10 b11 b12 b13 b14 b15 b16 b21 b22 b23 b24 b25 b26 : AV} {n F C : Nat} {B R : List Bool} (hn8 : n ≤ 8) (hF : F = 2 ^ n) (hC : C < F) (hB : B.length = C) (hR : B.length + (R.length + 1) = F) :
    ∀ (k i : Nat) (g : Bool) (y8 y19 y20 : AV), k + i = n → ∃ (z8 z19 z20 : AV), run T pr (.loop w_i_UnloadOrder_1) ⟨[a0, a1, a2, a3, a4, a5, slI H.length F (some F), .int .i64 C, y8, b9, b10, b11, b12, b13, b14, b15, b16, .int .i64 n, .int .i64 i, y19, y20, b21, b22, b23, b24, b25, b26], ⟨H ++ [.cells (encB (B ++ g :: R)) true], e⟩⟩ =
      some (Ex.exit 2, ⟨[a0, a1, a2, a3, a4, a5, slI H.length F (some F), .int .i64 C, z8, b9, b10, b11, b12, b13, b14, b15, b16, .int .i64 n, .int .i64 n, z19, z20, b21, b22, b23, b24, b25, b26], ⟨H ++ [.cells (encB (B ++ (g || (List.range' i k).any (okDown B C)) :: R)) true], e⟩⟩)
  | 0, i, g, y8, y19, y20, hk => by
    have hi : i = n := by omega
    subst hi
    refine ⟨y8, .bool false, y20, ?_⟩
    have h0 : (g || (List.range' i 0).any (okDown B C)) = g := by simp
    rw [run_loop, h0]
    generalize run T pr (.loop w_i_UnloadOrder_1) = R'
    simp +contextual only [w_i_UnloadOrder_1, Nat.lt_irrefl, decide_false, go_sem, entry, joinEsc, if_pos, reduceIte, Nat.reduceAdd, Nat.reduceLeDiff, Nat.reduceLT, Nat.reduceEqDiff]
  | k + 1, i, g, y8, y19, y20, hk => by
    have hi : i < n := by omega
    obtain ⟨p1, p2, p3⟩ := pow_facts n (by omega)
    rw [run_loop, List.range'_succ, List.any_cons]
    have hle : ∀ x : Bool, C + 1 ≤ (encB (B ++ x :: R)).length := fun x => by simp; omega
    have hset : ∀ x y : Bool, setRange (encB (B ++ y :: R)) C [.bool x] = encB (B ++ x :: R) := fun x y => by
      conv => lhs; rw [← hB]
      exact setRange_midB B _ y x
    cases h1 : C.testBit i with
    | false =>
      have hok : okDown B C i = false := by unfold okDown; rw [h1]; rfl
      rw [hok, Bool.false_or]
      obtain ⟨z8, z19, z20, ih⟩ := loop_i_UnloadOrder_1 (a0 := a0) (a1 := a1) (a2 := a2) (a3 := a3) (a4 := a4) (a5 := a5) (b9 := b9) (b10 := b10) (b11 := b11) (b12 := b12) (b13 := b13) (b14 := b14) (b15 := b15) (b16 := b16) (b21 := b21) (b22 := b22) (b23 := b23) (b24 := b24) (b25 := b25) (b26 := b26) hn8 hF hC hB hR k (i + 1) g (.int .i64 i) (.bool true) (.bool false) (by omega)
      refine ⟨z8, z19, z20, ?_⟩
      generalize run T pr (.loop w_i_UnloadOrder_1) = R' at ih ⊢
      have hb := bit_clear (c := C) (i := i) (by omega) (by omega) h1
      simp +contextual only [w_i_UnloadOrder_1, hi, shr_nat, hb, show ¬ ((0 : Int) = 1) by omega, wrap_succ (show i < 9223372036854775807 by omega), decide_true, decide_false, go_sem, entry, joinEsc, if_pos, reduceIte, Nat.reduceAdd, Nat.reduceLeDiff, Nat.reduceLT, Nat.reduceEqDiff]
      exact ih
    | true =>
      have hb := bit_set (c := C) (i := i) (by omega) (by omega) h1
      obtain ⟨d1, d2, d3⟩ := bits_down C (by omega) i (by omega) h1
      have hp := Nat.two_pow_pos i
      have hlt : C - 2 ^ i < F := by omega
      have hg : part false (encB (B ++ g :: R)) (C - 2 ^ i) 1 = some (.bool (B.getD (C - 2 ^ i) false)) := by rw [part_encB _ (by simp; omega), getD_pre (by omega)]
      have hok : okDown B C i = B.getD (C - 2 ^ i) false := by unfold okDown; rw [h1]; rfl
      rw [hok]
      cases h2 : B.getD (C - 2 ^ i) false with
      | false =>
        rw [h2] at hg
        rw [Bool.false_or]
        obtain ⟨z8, z19, z20, ih⟩ := loop_i_UnloadOrder_1 (a0 := a0) (a1 := a1) (a2 := a2) (a3 := a3) (a4 := a4) (a5 := a5) (b9 := b9) (b10 := b10) (b11 := b11) (b12 := b12) (b13 := b13) (b14 := b14) (b15 := b15) (b16 := b16) (b21 := b21) (b22 := b22) (b23 := b23) (b24 := b24) (b25 := b25) (b26 := b26) hn8 hF hC hB hR k (i + 1) g (.int .i64 i) (.bool true) (.bool false) (by omega)
        refine ⟨z8, z19, z20, ?_⟩
        generalize run T pr (.loop w_i_UnloadOrder_1) = R' at ih ⊢
        simp +contextual only [w_i_UnloadOrder_1, hi, hlt, shr_nat, shl_nat, hb, d1, hg, wrap_succ (show i < 9223372036854775807 by omega), decide_true, go_sem, entry, joinEsc, if_pos, reduceIte, Nat.reduceAdd, Nat.reduceLeDiff, Nat.reduceLT, Nat.reduceEqDiff]
        exact ih
      | true =>
        rw [h2] at hg
        rw [Bool.true_or, Bool.or_true]
        obtain ⟨z8, z19, z20, ih⟩ := loop_i_UnloadOrder_1 (a0 := a0) (a1 := a1) (a2 := a2) (a3 := a3) (a4 := a4) (a5 := a5) (b9 := b9) (b10 := b10) (b11 := b11) (b12 := b12) (b13 := b13) (b14 := b14) (b15 := b15) (b16 := b16) (b21 := b21) (b22 := b22) (b23 := b23) (b24 := b24) (b25 := b25) (b26 := b26) hn8 hF hC hB hR k (i + 1) true (.int .i64 i) (.bool true) (.bool true) (by omega)
        rw [Bool.true_or] at ih
        refine ⟨z8, z19, z20, ?_⟩
        generalize run T pr (.loop w_i_UnloadOrder_1) = R' at ih ⊢
        simp +contextual only [w_i_UnloadOrder_1, hi, hC, hlt, hle, hset, shr_nat, shl_nat, hb, d1, hg, wrap_succ (show i < 9223372036854775807 by omega), Nat.mul_one, decide_true, go_sem, entry, joinEsc, if_pos, reduceIte, Nat.reduceAdd, Nat.reduceLeDiff, Nat.reduceLT, Nat.reduceEqDiff]
        exact ih

theorem loop_i_UnloadOrder_2 {a0 a3 a4 a5 b9 b10 b11 b12 b21 b22 b23 b24 b25 b26 : AV} {q u : Nat} {c : Option Nat} {ls : List Ld} {n F : Nat} {a b o : Int} (hls : ls.length = n) (hn8 : n ≤ 8) (hF : F = 2 ^ n) (h : cellsAt H q = some (encL ls)) (hu : cellsAt H u = some [.int .i64 a, .int .i64 b, .int .i64 o]) :
    ∀ (k C : Nat) (y7 y8 y15 y16 y17 y18 y19 y20 : AV), k + C = F → ∃ (z7 z8 z15 z16 z17 z18 z19 z20 : AV), run T pr (.loop w_i_UnloadOrder_2) ⟨[a0, slL q n c, .ptr (some (u, 0)), a3, a4, a5, slI H.length F (some F), y7, y8, b9, b10, b11, b12, .int .i64 F, .int .i64 C, y15, y16, y17, y18, y19, y20, b21, b22, b23, b24, b25, b26], ⟨H ++ [.cells (encB (backL (fun c => safeW a b o ls (c : Int)) n C ++ List.replicate k false)) true], none⟩⟩ =
      some (Ex.exit 0, ⟨[a0, slL q n c, .ptr (some (u, 0)), a3, a4, a5, slI H.length F (some F), z7, z8, b9, b10, b11, b12, .int .i64 F, .int .i64 F, z15, z16, z17, z18, z19, z20, b21, b22, b23, b24, b25, b26], ⟨H ++ [.cells (encB (backL (fun c => safeW a b o ls (c : Int)) n F)) true], none⟩⟩)
  | 0, C, y7, y8, y15, y16, y17, y18, y19, y20, hk => by
    have hi : C = F := by omega
    subst hi
    refine ⟨y7, y8, .bool false, y16, y17, y18, y19, y20, ?_⟩
    rw [run_loop, List.replicate_zero, List.append_nil]
    generalize run T pr (.loop w_i_UnloadOrder_2) = R
    simp +contextual only [w_i_UnloadOrder_2, Nat.lt_irrefl, decide_false, go_sem, entry, joinEsc, if_pos, reduceIte, Nat.reduceAdd, Nat.reduceLeDiff, Nat.reduceLT, Nat.reduceEqDiff]
  | k + 1, C, y7, y8, y15, y16, y17, y18, y19, y20, hk => by
    have hC : C < F := by omega
    obtain ⟨p1, p2, p3⟩ := pow_facts n (by omega)
    have hsafe := fun G => e_i_Raft_isSafe (pr := pr) (e := none) (c := c) (cells_mono h G) (show ls.length ≤ 9223372036854775806 by omega) a b o (C : Int)
    rw [hls] at hsafe
    have h0 : ((0 : Nat) : Int) = 0 := rfl
    have hz : decide ((C : Int) = 0) = decide (C = 0) := decide_eq_decide.mpr (by omega)
    rw [run_loop, List.replicate_succ]
    have hlen := backL_length (fun c => safeW a b o ls (c : Int)) n C
    have hbk : backL (fun c => safeW a b o ls (c : Int)) n (C + 1) ++ List.replicate k false = backL (fun c => safeW a b o ls (c : Int)) n C ++ backV (fun c => safeW a b o ls (c : Int)) n C (backL (fun c => safeW a b o ls (c : Int)) n C) :: List.replicate k false := by
      rw [backL, List.append_assoc, List.singleton_append]
    have hset : ∀ x, setRange (encB (backL (fun c => safeW a b o ls (c : Int)) n C ++ false :: List.replicate k false)) C [.bool x] = encB (backL (fun c => safeW a b o ls (c : Int)) n C ++ x :: List.replicate k false) := fun x => by
      conv => lhs; rw [← hlen]
      rw [hlen]
      conv => lhs; arg 2; rw [← hlen]
      exact setRange_midB _ _ false x
    have hle : C + 1 ≤ (encB (backL (fun c => safeW a b o ls (c : Int)) n C ++ false :: List.replicate k false)).length := by simp [hlen]
    cases h1 : safeW a b o ls (C : Int) with
    | false =>
      have hv : backV (fun c => safeW a b o ls (c : Int)) n C (backL (fun c => safeW a b o ls (c : Int)) n C) = false := by unfold backV; simp only [h1, Bool.false_and]
      obtain ⟨z7, z8, z15, z16, z17, z18, z19, z20, ih⟩ := loop_i_UnloadOrder_2 (a0 := a0) (a3 := a3) (a4 := a4) (a5 := a5) (b9 := b9) (b10 := b10) (b11 := b11) (b12 := b12) (b21 := b21) (b22 := b22) (b23 := b23) (b24 := b24) (b25 := b25) (b26 := b26) (c := c) hls hn8 hF h hu k (C + 1) (.int .i64 C) y8 (.bool true) (.bool true) y17 y18 y19 y20 (by omega)
      rw [hbk, hv] at ih
      refine ⟨z7, z8, z15, z16, z17, z18, z19, z20, ?_⟩
      generalize run T pr (.loop w_i_UnloadOrder_2) = R at ih ⊢
      simp +contextual only [w_i_UnloadOrder_2, cells_mono hu, hsafe, h1, hC, wrap_succ (show C < 9223372036854775807 by omega), decide_true, go_sem, entry, joinEsc, if_pos, reduceIte, Nat.reduceAdd, Nat.reduceLeDiff, Nat.reduceLT, Nat.reduceEqDiff]
      exact ih
    | true =>
      have hv : backV (fun c => safeW a b o ls (c : Int)) n C (backL (fun c => safeW a b o ls (c : Int)) n C) = (decide (C = 0) || (List.range n).any (okDown (backL (fun c => safeW a b o ls (c : Int)) n C) C)) := by unfold backV; simp only [h1, Bool.true_and]
      obtain ⟨v8, v19, v20, hl⟩ := loop_i_UnloadOrder_1 (pr := pr) (e := none) (H := H) (a0 := a0) (a1 := slL q n c) (a2 := .ptr (some (u, 0))) (a3 := a3) (a4 := a4) (a5 := a5) (b9 := b9) (b10 := b10) (b11 := b11) (b12 := b12) (b13 := .int .i64 F) (b14 := .int .i64 C) (b15 := .bool true) (b16 := .bool false) (b21 := b21) (b22 := b22) (b23 := b23) (b24 := b24) (b25 := b25) (b26 := b26) hn8 hF hC hlen (R := List.replicate k false) (by rw [hlen]; simp; omega) n 0 (decide (C = 0)) y8 y19 y20 rfl
      rw [h0, ← List.range_eq_range'] at hl
      obtain ⟨z7, z8, z15, z16, z17, z18, z19, z20, ih⟩ := loop_i_UnloadOrder_2 (a0 := a0) (a3 := a3) (a4 := a4) (a5 := a5) (b9 := b9) (b10 := b10) (b11 := b11) (b12 := b12) (b21 := b21) (b22 := b22) (b23 := b23) (b24 := b24) (b25 := b25) (b26 := b26) (c := c) hls hn8 hF h hu k (C + 1) (.int .i64 C) v8 (.bool true) (.bool false) (.int .i64 n) (.int .i64 n) v19 v20 (by omega)
      rw [hbk, hv] at ih
      refine ⟨z7, z8, z15, z16, z17, z18, z19, z20, ?_⟩
      generalize run T pr (.loop w_i_UnloadOrder_2) = R at ih ⊢
      simp +contextual only [w_i_UnloadOrder_2, cells_mono hu, hsafe, h1, hz, hl, hC, hle, hset, wrap_succ (show C < 9223372036854775807 by omega), Nat.mul_one, decide_true, go_sem, entry, joinEsc, if_pos, reduceIte, Nat.reduceAdd, Nat.reduceLeDiff, Nat.reduceLT, Nat.reduceEqDiff]
      exact ih

theorem loop_i_UnloadOrder_3 {a0 a1 a2 a3 a4 a5 a7 a8 b12 b13 b14 b15 b16 b17 b18 b19 b20 b21 b22 : AV} {w n F C x : Nat} {cw : Option Nat} {W : List Bool} (hn8 : n ≤ 8) (hF : F = 2 ^ n) (hC : C < F) (hw : cellsAt H w = some (encB W)) (hW : W.length = F)
    (hx : x < n) (h1 : okDown W C x = true) (h2 : ∀ i, i < x → okDown W C i = false) {o : List Int} {j : Nat} {cap : Option Nat} {G : List Blk} (hG : G[j]? = some (.cells (encI o) true)) (hcap : cap = some 0 → o = []) (hmb : (o.length + 1) * 8 ≤ maxBytes) :
    ∀ (k i : Nat) (y11 y25 y26 : AV), k + i = x → ∃ z11 z24 z25 z26, run T pr (.loop w_i_UnloadOrder_3) ⟨[a0, a1, a2, a3, a4, a5, slI w F cw, a7, a8, slI (H.length + j) o.length cap, .int .i64 C, y11, b12, b13, b14, b15, b16, b17, b18, b19, b20, b21, b22, .int .i64 n, .int .i64 i, y25, y26], ⟨H ++ G, e⟩⟩ =
      some (Ex.exit 6, ⟨[a0, a1, a2, a3, a4, a5, slI w F cw, a7, a8, slI (H.length + (G.length + 1)) (o.length + 1) none, .int .i64 ((C - 2 ^ x : Nat) : Int), z11, b12, b13, b14, b15, b16, b17, b18, b19, b20, b21, b22, .int .i64 n, z24, z25, z26], ⟨H ++ (killIf cap j (G ++ [.cells [.int .i64 x] true]) ++ [.cells (encI (o ++ [(x : Int)])) true]), e⟩⟩)
  | 0, i, y11, y25, y26, hk => by
    obtain rfl : i = x := by omega
    obtain ⟨p1, p2, p3⟩ := pow_facts n (by omega)
    unfold okDown at h1
    rw [Bool.and_eq_true] at h1
    obtain ⟨hbit, hv⟩ := h1
    have hb := bit_set (c := C) (i := i) (by omega) (by omega) hbit
    obtain ⟨d1, d2, d3⟩ := bits_down C (by omega) i (by omega) hbit
    have hp := Nat.two_pow_pos i
    have hlt : C - 2 ^ i < F := by omega
    have hg := part_encB (B := W) (i := C - 2 ^ i) 1 (by omega)
    rw [hv] at hg
    refine ⟨.int .i64 i, .int .i64 i, .bool true, .bool true, ?_⟩
    rw [run_loop, encI_append]
    generalize run T pr (.loop w_i_UnloadOrder_3) = R
    simp +contextual only [w_i_UnloadOrder_3, cells_mono hw, hx, hlt, shr_nat, shl_nat, hb, d1, hg, fillParts, append_in hG hcap hmb, decide_true, decide_false, go_sem, entry, joinEsc, if_pos, reduceIte, Nat.reduceAdd, Nat.reduceLeDiff, Nat.reduceLT, Nat.reduceEqDiff]
  | k + 1, i, y11, y25, y26, hk => by
    have hno := h2 i (by omega)
    have hi : i < n := by omega
    obtain ⟨p1, p2, p3⟩ := pow_facts n (by omega)
    obtain ⟨z11, z24, z25, z26, ih⟩ := loop_i_UnloadOrder_3 (a0 := a0) (a1 := a1) (a2 := a2) (a3 := a3) (a4 := a4) (a5 := a5) (a7 := a7) (a8 := a8) (b12 := b12) (b13 := b13) (b14 := b14) (b15 := b15) (b16 := b16) (b17 := b17) (b18 := b18) (b19 := b19) (b20 := b20) (b21 := b21) (b22 := b22) (cw := cw) hn8 hF hC hw hW hx h1 h2 hG hcap hmb k (i + 1) (.int .i64 i) (.bool true) (.bool false) (by omega)
    refine ⟨z11, z24, z25, z26, ?_⟩
    rw [run_loop]
    generalize run T pr (.loop w_i_UnloadOrder_3) = R at ih ⊢
    cases hbit : C.testBit i with
    | false =>
      have hb := bit_clear (c := C) (i := i) (by omega) (by omega) hbit
      simp +contextual only [w_i_UnloadOrder_3, hi, shr_nat, hb, show ¬ ((0 : Int) = 1) by omega, wrap_succ (show i < 9223372036854775807 by omega), decide_true, decide_false, go_sem, entry, joinEsc, if_pos, reduceIte, Nat.reduceAdd, Nat.reduceLeDiff, Nat.reduceLT, Nat.reduceEqDiff]
      exact ih
    | true =>
      have hb := bit_set (c := C) (i := i) (by omega) (by omega) hbit
      obtain ⟨d1, d2, d3⟩ := bits_down C (by omega) i (by omega) hbit
      have hp := Nat.two_pow_pos i
      have hlt : C - 2 ^ i < F := by omega
      have hg := part_encB (B := W) (i := C - 2 ^ i) 1 (by omega)
      unfold okDown at hno
      rw [hbit, Bool.true_and] at hno
      rw [hno] at hg
      simp +contextual only [w_i_UnloadOrder_3, cells_mono hw, hi, hlt, shr_nat, shl_nat, hb, d1, hg, wrap_succ (show i < 9223372036854775807 by omega), decide_true, decide_false, go_sem, entry, joinEsc, if_pos, reduceIte, Nat.reduceAdd, Nat.reduceLeDiff, Nat.reduceLT, Nat.reduceEqDiff]
      exact ih

theorem loop_i_UnloadOrder_4 {a0 a2 a3 a4 a5 a7 a8 b12 b13 b14 b15 b16 b17 b18 b19 b20 b21 : AV} {q w n F : Nat} {c cw : Option Nat} {W : List Bool} (hn8 : n ≤ 8) (hF : F = 2 ^ n) (hw : cellsAt H w = some (encB W)) (hW : W.length = F) (hgood : ∀ c, c < F → W.getD c false = true → c ≠ 0 → ∃ i, i < n ∧ okDown W c i = true) :
    ∀ (k C : Nat) (o : List Int) (j : Nat) (cap : Option Nat) (G : List Blk) (y11 y22 y23 y24 y25 y26 : AV), k + o.length = n → nu n C = k → C < F → W.getD C false = true → G[j]? = some (.cells (encI o) true) → (cap = some 0 → o = []) →
      ∃ (j' : Nat) (cap' : Option Nat) (G' : List Blk) (z10 z11 z22 z23 z24 z25 z26 : AV), G'[j']? = some (.cells (encI (o ++ unloadL W n k C)) true) ∧ run T pr (.loop w_i_UnloadOrder_4) ⟨[a0, slL q n c, a2, a3, a4, a5, slI w F cw, a7, a8, slI (H.length + j) o.length cap, .int .i64 C, y11, b12, b13, b14, b15, b16, b17, b18, b19, b20, b21, y22, y23, y24, y25, y26], ⟨H ++ G, none⟩⟩ =
      some (Ex.exit 4, ⟨[a0, slL q n c, a2, a3, a4, a5, slI w F cw, a7, a8, slI (H.length + j') (o ++ unloadL W n k C).length cap', z10, z11, b12, b13, b14, b15, b16, b17, b18, b19, b20, b21, z22, z23, z24, z25, z26], ⟨H ++ G', none⟩⟩)
  | 0, C, o, j, cap, G, y11, y22, y23, y24, y25, y26, hk, hnu, hC, hp, hG, hcap => by
    obtain ⟨m1, m2, m3⟩ := nu_facts n (by omega) C (by omega)
    obtain rfl : C = 0 := m1.mp hnu
    have h0 : ((0 : Nat) : Int) = 0 := rfl
    refine ⟨j, cap, G, .int .i64 0, y11, .bool false, y23, y24, y25, y26, ?_, ?_⟩
    · simpa [unloadL] using hG
    rw [run_loop, h0]
    generalize run T pr (.loop w_i_UnloadOrder_4) = R
    have hu : o ++ unloadL W n 0 0 = o := by simp [unloadL]
    simp +contextual only [w_i_UnloadOrder_4, Int.lt_irrefl, decide_false, hu, go_sem, entry, joinEsc, if_pos, reduceIte, Nat.reduceAdd, Nat.reduceLeDiff, Nat.reduceLT, Nat.reduceEqDiff]
  | k + 1, C, o, j, cap, G, y11, y22, y23, y24, y25, y26, hk, hnu, hC, hp, hG, hcap => by
    obtain ⟨p1, p2, p3⟩ := pow_facts n (by omega)
    obtain ⟨m1, m2, m3⟩ := nu_facts n (by omega) C (by omega)
    have hC0 : C ≠ 0 := fun h => by have := m1.mpr h; omega
    have hCp : (0 : Int) < (C : Int) := by omega
    obtain ⟨f1, f2, f3⟩ := firstD_spec (hgood C hC hp hC0)
    rw [run_loop, unloadL]
    generalize hx : firstD W n C = x at f1 f2 f3 ⊢
    have f2' := f2
    unfold okDown at f2'
    rw [Bool.and_eq_true] at f2'
    have hmb : (o.length + 1) * 8 ≤ maxBytes := by unfold maxBytes; omega
    have h0 : ((0 : Nat) : Int) = 0 := rfl
    obtain ⟨v11, v24, v25, v26, hfind⟩ := loop_i_UnloadOrder_3 (pr := pr) (e := none) (a0 := a0) (a1 := slL q n c) (a2 := a2) (a3 := a3) (a4 := a4) (a5 := a5) (a7 := a7) (a8 := a8) (b12 := b12) (b13 := b13) (b14 := b14) (b15 := b15) (b16 := b16) (b17 := b17) (b18 := b18) (b19 := b19) (b20 := b20) (b21 := b21) (b22 := .bool true) (cw := cw) hn8 hF hC hw hW f1 f2 f3 hG hcap hmb x 0 y11 y25 y26 rfl
    rw [h0] at hfind
    obtain ⟨j', cap', G', z10, z11, z22, z23, z24, z25, z26, h2, ih⟩ := loop_i_UnloadOrder_4 (a0 := a0) (a2 := a2) (a3 := a3) (a4 := a4) (a5 := a5) (a7 := a7) (a8 := a8) (b12 := b12) (b13 := b13) (b14 := b14) (b15 := b15) (b16 := b16) (b17 := b17) (b18 := b18) (b19 := b19) (b20 := b20) (b21 := b21) (q := q) (c := c) (cw := cw) hn8 hF hw hW hgood k (C - 2 ^ x) (o ++ [(x : Int)]) (G.length + 1) none
      (killIf cap j (G ++ [.cells [.int .i64 x] true]) ++ [.cells (encI (o ++ [(x : Int)])) true]) v11 (.bool true) (.int .i64 n) v24 v25 v26 (by simp; omega) (by have := m3 x f1 f2'.1; omega) (Nat.lt_of_le_of_lt (Nat.sub_le _ _) hC) f2'.2 (by
        rw [List.getElem?_append_right (by simp [killIf_length])]; simp [killIf_length]) (by simp)
    rw [List.append_assoc, List.singleton_append] at h2 ih
    refine ⟨j', cap', G', z10, z11, z22, z23, z24, z25, z26, h2, ?_⟩
    generalize run T pr (.loop w_i_UnloadOrder_4) = R at ih ⊢
    simp +contextual only [w_i_UnloadOrder_4, hCp, hfind, decide_true, go_sem, entry, joinEsc, if_pos, reduceIte, Nat.reduceAdd, Nat.reduceLeDiff, Nat.reduceLT, Nat.reduceEqDiff]
    simp only [List.length_append, List.length_cons, List.length_nil, Nat.zero_add] at ih
    exact ih

theorem loop_s_UnloadOrder_1 {a0 a1 a2 a3 a4 a5 b9 b10 b11 : AV} {w n F C x : Nat} {cw : Option Nat} {W : List Bool} (hn8 : n ≤ 8) (hF : F = 2 ^ n) (hC : C < F) (hw : cellsAt H w = some (encB W)) (hW : W.length = F)
    (hx : x < n) (h1 : okDown W C x = true) (h2 : ∀ i, i < x → okDown W C i = false) :
    ∀ (k i : Nat) (y12 : AV), k + i = x → ∃ z12, run T pr (.loop w_s_UnloadOrder_1) ⟨[a0, a1, a2, a3, a4, a5, slI w F cw, .int .i64 C, .int .i64 i, b9, b10, b11, y12], ⟨H, e⟩⟩ =
      some (Ex.exit 2, ⟨[a0, a1, a2, a3, a4, a5, slI w F cw, .int .i64 C, .int .i64 x, b9, b10, b11, z12], ⟨H, e⟩⟩)
  | 0, i, y12, hk => by
    obtain rfl : i = x := by omega
    obtain ⟨p1, p2, p3⟩ := pow_facts n (by omega)
    unfold okDown at h1
    rw [Bool.and_eq_true] at h1
    obtain ⟨hbit, hv⟩ := h1
    have hb := bit_set (c := C) (i := i) (by omega) (by omega) hbit
    obtain ⟨d1, d2, d3⟩ := bits_down C (by omega) i (by omega) hbit
    have d2' : IntKind.i64.wrap ((C : Int) - shlI .i64 1 (i : Int)) = ((C - 2 ^ i : Nat) : Int) := d2
    have hp := Nat.two_pow_pos i
    have hlt : C - 2 ^ i < F := by omega
    have hg := part_encB (B := W) (i := C - 2 ^ i) 1 (by omega)
    rw [hv] at hg
    refine ⟨.bool false, ?_⟩
    rw [run_loop]
    generalize run T pr (.loop w_s_UnloadOrder_1) = R
    simp +contextual only [w_s_UnloadOrder_1, hw, hlt, shr_nat, shl_nat, hb, d2', hg, show ¬ ((1 : Int) = 0) by omega, decide_true, decide_false, go_sem, entry, joinEsc, if_pos, reduceIte, Nat.reduceAdd, Nat.reduceLeDiff, Nat.reduceLT, Nat.reduceEqDiff]
  | k + 1, i, y12, hk => by
    have hno := h2 i (by omega)
    have hi : i < n := by omega
    obtain ⟨p1, p2, p3⟩ := pow_facts n (by omega)
    obtain ⟨z12, ih⟩ := loop_s_UnloadOrder_1 (a0 := a0) (a1 := a1) (a2 := a2) (a3 := a3) (a4 := a4) (a5 := a5) (b9 := b9) (b10 := b10) (b11 := b11) (cw := cw) hn8 hF hC hw hW hx h1 h2 k (i + 1) (.bool true) (by omega)
    refine ⟨z12, ?_⟩
    rw [run_loop]
    generalize run T pr (.loop w_s_UnloadOrder_1) = R at ih ⊢
    cases hbit : C.testBit i with
    | false =>
      have hb := bit_clear (c := C) (i := i) (by omega) (by omega) hbit
      simp +contextual only [w_s_UnloadOrder_1, shr_nat, hb, wrap_succ (show i < 9223372036854775807 by omega), decide_true, decide_false, go_sem, entry, joinEsc, if_pos, reduceIte, Nat.reduceAdd, Nat.reduceLeDiff, Nat.reduceLT, Nat.reduceEqDiff]
      exact ih
    | true =>
      have hb := bit_set (c := C) (i := i) (by omega) (by omega) hbit
      obtain ⟨d1, d2, d3⟩ := bits_down C (by omega) i (by omega) hbit
      have d2' : IntKind.i64.wrap ((C : Int) - shlI .i64 1 (i : Int)) = ((C - 2 ^ i : Nat) : Int) := d2
      have hp := Nat.two_pow_pos i
      have hlt : C - 2 ^ i < F := by omega
      have hg := part_encB (B := W) (i := C - 2 ^ i) 1 (by omega)
      unfold okDown at hno
      rw [hbit, Bool.true_and] at hno
      rw [hno] at hg
      simp +contextual only [w_s_UnloadOrder_1, hw, hlt, shr_nat, shl_nat, hb, d2', hg, show ¬ ((1 : Int) = 0) by omega, wrap_succ (show i < 9223372036854775807 by omega), decide_true, decide_false, go_sem, entry, joinEsc, if_pos, reduceIte, Nat.reduceAdd, Nat.reduceLeDiff, Nat.reduceLT, Nat.reduceEqDiff]
      exact ih

theorem loop_s_UnloadOrder_2 {a0 a2 a3 a4 b9 b10 : AV} {q w n F : Nat} {c cw : Option Nat} {W : List Bool} (hn8 : n ≤ 8) (hF : F = 2 ^ n) (hW : W.length = F) (hgood : ∀ c, c < F → W.getD c false = true → c ≠ 0 → ∃ i, i < n ∧ okDown W c i = true) :
    ∀ (k C : Nat) (o : List Int) (j : Nat) (cap : Option Nat) (G : List Blk) (y8 y11 y12 : AV), cellsAt (H ++ G) w = some (encB W) → w ≠ H.length + j → k + o.length = n → nu n C = k → C < F → W.getD C false = true → G[j]? = some (.cells (encI o) true) → (cap = some 0 → o = []) →
      ∃ (j' : Nat) (cap' : Option Nat) (G' : List Blk) (z7 z8 z11 z12 : AV), G'[j']? = some (.cells (encI (o ++ unloadL W n k C)) true) ∧ run T pr (.loop w_s_UnloadOrder_2) ⟨[a0, slL q n c, a2, a3, a4, slI (H.length + j) o.length cap, slI w F cw, .int .i64 C, y8, b9, b10, y11, y12], ⟨H ++ G, none⟩⟩ =
      some (Ex.exit 0, ⟨[a0, slL q n c, a2, a3, a4, slI (H.length + j') (o ++ unloadL W n k C).length cap', slI w F cw, z7, z8, b9, b10, z11, z12], ⟨H ++ G', none⟩⟩)
  | 0, C, o, j, cap, G, y8, y11, y12, hw, hne, hk, hnu, hC, hp, hG, hcap => by
    obtain ⟨m1, m2, m3⟩ := nu_facts n (by omega) C (by omega)
    obtain rfl : C = 0 := m1.mp hnu
    have h0 : ((0 : Nat) : Int) = 0 := rfl
    refine ⟨j, cap, G, .int .i64 0, y8, .bool false, y12, ?_, ?_⟩
    · simpa [unloadL] using hG
    rw [run_loop, h0]
    generalize run T pr (.loop w_s_UnloadOrder_2) = R
    have hu : o ++ unloadL W n 0 0 = o := by simp [unloadL]
    simp +contextual only [w_s_UnloadOrder_2, Int.lt_irrefl, decide_false, hu, go_sem, entry, joinEsc, if_pos, reduceIte, Nat.reduceAdd, Nat.reduceLeDiff, Nat.reduceLT, Nat.reduceEqDiff]
  | k + 1, C, o, j, cap, G, y8, y11, y12, hw, hne, hk, hnu, hC, hp, hG, hcap => by
    obtain ⟨p1, p2, p3⟩ := pow_facts n (by omega)
    obtain ⟨m1, m2, m3⟩ := nu_facts n (by omega) C (by omega)
    have hC0 : C ≠ 0 := fun h => by have := m1.mpr h; omega
    have hCp : (0 : Int) < (C : Int) := by omega
    obtain ⟨f1, f2, f3⟩ := firstD_spec (hgood C hC hp hC0)
    rw [run_loop, unloadL]
    generalize hx : firstD W n C = x at f1 f2 f3 ⊢
    have f2' := f2
    unfold okDown at f2'
    rw [Bool.and_eq_true] at f2'
    obtain ⟨d1, d2, d3⟩ := bits_down C (by omega) x (by omega) f2'.1
    have d2' : IntKind.i64.wrap ((C : Int) - shlI .i64 1 (x : Int)) = ((C - 2 ^ x : Nat) : Int) := d2
    have hmb : (o.length + 1) * 8 ≤ maxBytes := by unfold maxBytes; omega
    have h0 : ((0 : Nat) : Int) = 0 := rfl
    have hwl := cells_lt hw
    rw [List.length_append] at hwl
    obtain ⟨v12, hfind⟩ := loop_s_UnloadOrder_1 (pr := pr) (e := none) (a0 := a0) (a1 := slL q n c) (a2 := a2) (a3 := a3) (a4 := a4) (a5 := slI (H.length + j) o.length cap) (b9 := b9) (b10 := b10) (b11 := .bool true) (cw := cw) hn8 hF hC hw hW f1 f2 f3 x 0 y12 rfl
    rw [h0] at hfind
    obtain ⟨j', cap', G', z7, z8, z11, z12, h2, ih⟩ := loop_s_UnloadOrder_2 (a0 := a0) (a2 := a2) (a3 := a3) (a4 := a4) (b9 := b9) (b10 := b10) (q := q) (c := c) (cw := cw) hn8 hF hW hgood k (C - 2 ^ x) (o ++ [(x : Int)]) (G.length + 1) none
      (killIf cap j (G ++ [.cells [.int .i64 x] true]) ++ [.cells (encI (o ++ [(x : Int)])) true]) (.int .i64 x) (.bool true) v12 (cells_kill hw hne) (by omega) (by simp; omega) (by have := m3 x f1 f2'.1; omega) (Nat.lt_of_le_of_lt (Nat.sub_le _ _) hC) f2'.2 (by
        rw [List.getElem?_append_right (by simp [killIf_length])]; simp [killIf_length]) (by simp)
    rw [List.append_assoc, List.singleton_append] at h2 ih
    refine ⟨j', cap', G', z7, z8, z11, z12, h2, ?_⟩
    generalize run T pr (.loop w_s_UnloadOrder_2) = R at ih ⊢
    simp +contextual only [w_s_UnloadOrder_2, hCp, hfind, fillParts, append_in hG hcap hmb, shl_nat, d2', decide_true, go_sem, entry, joinEsc, if_pos, reduceIte, Nat.reduceAdd, Nat.reduceLeDiff, Nat.reduceLT, Nat.reduceEqDiff]
    simp only [List.length_append, List.length_cons, List.length_nil, Nat.zero_add, encI_append, List.map_cons, List.map_nil] at ih
    exact ih

end Go.Proofs.Ytlcklonakjhoiaa.Slim
