/- Rafts: the order in which all can be taken, on both sides; its law. -/
import Derived.Test.YtlcklonakjhoiaaSlimZ9
/- Rafts: the order in which all can be taken, on both sides; its law. -/
namespace Go.Proofs.Ytlcklonakjhoiaa.Slim

open Go

set_option linter.unusedSimpArgs false

set_option linter.unusedVariables false

variable {pr : Prims} {H : List Blk} {e : Option Nat}

def firstD (W : List Bool) (n c : Nat) : Nat := ((List.range n).filter (okDown W c)).headD 0

def unloadL (W : List Bool) (n : Nat) : Nat → Nat → List Int
  | 0, _ => []
  | k + 1, c => ((firstD W n c : Nat) : Int) :: unloadL W n k (c - 2 ^ firstD W n c)

theorem unloadL_length (W : List Bool) (n : Nat) : ∀ k c, (unloadL W n k c).length = k
  | 0, _ => rfl
  | k + 1, c => by rw [unloadL, List.length_cons, unloadL_length]

theorem firstD_spec {W : List Bool} {n c : Nat} (h : ∃ i, i < n ∧ okDown W c i = true) :
    firstD W n c < n ∧ okDown W c (firstD W n c) = true ∧ (∀ i, i < firstD W n c → okDown W c i = false) := by
  obtain ⟨i, i1, i2⟩ := h
  cases hf : (List.range n).filter (okDown W c) with
  | nil =>
    have := List.filter_eq_nil_iff.mp hf i (by simpa using i1)
    exact absurd i2 this
  | cons x rest =>
    have hx : firstD W n c = x := by unfold firstD; rw [hf]; rfl
    have hfind : (List.range n).find? (okDown W c) = some x := by rw [← List.head?_filter, hf]; rfl
    rw [List.find?_range_eq_some] at hfind
    obtain ⟨k1, k2, k3⟩ := hfind
    rw [hx]
    exact ⟨by simpa using k2, k1, fun i hi => by simpa using k3 i hi⟩

theorem loop_i_UnloadOrder_1 {a0 a1 a2 a3 a4 a5 b9 b10 b11 b12 b13 b14 b15 b16 b21 b22 b23 b24 b25 b26 : AV} {n F C : Nat} {B R : List Bool} (hn8 : n ≤ 8) (hF : F = 2 ^ n) (hC : C < F) (hB : B.length = C) (hR : B.length + (R.length + 1) = F) :
    ∀ (k i : Nat) (g : Bool) (y8 y19 y20 : AV), k + i = n → ∃ (z8 z19 z20 : AV), run T pr (.loop w_i_UnloadOrder_1) ⟨[a0, a1, a2, a3, a4, a5, slI H.length F (some F), .int .i64 C, y8, b9, b10, b11, b12, b13, b14, b15, b16, .int .i64 n, .int .i64 i, y19, y20, b21, b22, b23, b24, b25, b26], ⟨H ++ [.cells (encB (B ++ g :: R)) true], e⟩⟩ =
      some (Ex.exit 2, ⟨[a0, a1, a2, a3, a4, a5, slI H.length F (some F), .int .i64 C, z8, b9, b10, b11, b12, b13, b14, b15, b16, .int .i64 n, .int .i64 n, z19, z20, b21, b22, b23, b24, b25, b26], ⟨H ++ [.cells (encB (B ++ (g || (List.range' i k).any (okDown B C)) :: R)) true], e⟩⟩)
  | 0, i, g, y8, y19, y20, hk => by
    have hi : i = n := by omega
    subst hi
    refine ⟨y8, .bool false, y20, ?_⟩
    have h0 : (g || (List.range' i 0).any (okDown B C)) = g := by simp
    rw [run_loop, h0]
    generalize run T pr (.loop w_i_UnloadOrder_1) = R'
    simp +contextual only [w_i_UnloadOrder_1, Nat.lt_irrefl, decide_false, go_sem, entry, joinEsc, if_pos, reduceIte, Nat.reduceAdd, Nat.reduceLeDiff, Nat.reduceLT, Nat.reduceEqDiff]
  | k + 1, i, g, y8, y19, y20, hk => by
    have hi : i < n := by omega
    obtain ⟨p1, p2, p3⟩ := pow_facts n (by omega)
    rw [run_loop, List.range'_succ, List.any_cons]
    have hle : ∀ x : Bool, C + 1 ≤ (encB (B ++ x :: R)).length := fun x => by simp; omega
    have hset : ∀ x y : Bool, setRange (encB (B ++ y :: R)) C [.bool x] = encB (B ++ x :: R) := fun x y => by
      conv => lhs; rw [← hB]
      exact setRange_midB B _ y x
    cases h1 : C.testBit i with
    | false =>
      have hok : okDown B C i = false := by unfold okDown; rw [h1]; rfl
      rw [hok, Bool.false_or]
      obtain ⟨z8, z19, z20, ih⟩ := loop_i_UnloadOrder_1 (a0 := a0) (a1 := a1) (a2 := a2) (a3 := a3) (a4 := a4) (a5 := a5) (b9 := b9) (b10 := b10) (b11 := b11) (b12 := b12) (b13 := b13) (b14 := b14) (b15 := b15) (b16 := b16) (b21 := b21) (b22 := b22) (b23 := b23) (b24 := b24) (b25 := b25) (b26 := b26) hn8 hF hC hB hR k (i + 1) g (.int .i64 i) (.bool true) (.bool false) (by omega)
      refine ⟨z8, z19, z20, ?_⟩
      generalize run T pr (.loop w_i_UnloadOrder_1) = R' at ih ⊢
      have hb := bit_clear (c := C) (i := i) (by omega) (by omega) h1
      simp +contextual only [w_i_UnloadOrder_1, hi, shr_nat, hb, show ¬ ((0 : Int) = 1) by omega, wrap_succ (show i < 9223372036854775807 by omega), decide_true, decide_false, go_sem, entry, joinEsc, if_pos, reduceIte, Nat.reduceAdd, Nat.reduceLeDiff, Nat.reduceLT, Nat.reduceEqDiff]
      exact ih
    | true =>
      have hb := bit_set (c := C) (i := i) (by omega) (by omega) h1
      obtain ⟨d1, d2, d3⟩ := bits_down C (by omega) i (by omega) h1
      have hp := Nat.two_pow_pos i
      have hlt : C - 2 ^ i < F := by omega
      have hg : part false (encB (B ++ g :: R)) (C - 2 ^ i) 1 = some (.bool (B.getD (C - 2 ^ i) false)) := by rw [part_encB _ (by simp; omega), getD_pre (by omega)]
      have hok : okDown B C i = B.getD (C - 2 ^ i) false := by unfold okDown; rw [h1]; rfl
      rw [hok]
      cases h2 : B.getD (C - 2 ^ i) false with
      | false =>
        rw [h2] at hg
        rw [Bool.false_or]
        obtain ⟨z8, z19, z20, ih⟩ := loop_i_UnloadOrder_1 (a0 := a0) (a1 := a1) (a2 := a2) (a3 := a3) (a4 := a4) (a5 := a5) (b9 := b9) (b10 := b10) (b11 := b11) (b12 := b12) (b13 := b13) (b14 := b14) (b15 := b15) (b16 := b16) (b21 := b21) (b22 := b22) (b23 := b23) (b24 := b24) (b25 := b25) (b26 := b26) hn8 hF hC hB hR k (i + 1) g (.int .i64 i) (.bool true) (.bool false) (by omega)
        refine ⟨z8, z19, z20, ?_⟩
        generalize run T pr (.loop w_i_UnloadOrder_1) = R' at ih ⊢
        simp +contextual only [w_i_UnloadOrder_1, hi, hlt, shr_nat, shl_nat, hb, d1, hg, wrap_succ (show i < 9223372036854775807 by omega), decide_true, go_sem, entry, joinEsc, if_pos, reduceIte, Nat.reduceAdd, Nat.reduceLeDiff, Nat.reduceLT, Nat.reduceEqDiff]
        exact ih
      | true =>
        rw [h2] at hg
        rw [Bool.true_or, Bool.or_true]
        obtain ⟨z8, z19, z20, ih⟩ := loop_i_UnloadOrder_1 (a0 := a0) (a1 := a1) (a2 := a2) (a3 := a3) (a4 := a4) (a5 := a5) (b9 := b9) (b10 := b10) (b11 := b11) (b12 := b12) (b13 := b13) (b14 := b14) (b15 := b15) (b16 := b16) (b21 := b21) (b22 := b22) (b23 := b23) (b24 := b24) (b25 := b25) (b26 := b26) hn8 hF hC hB hR k (i + 1) true (.int .i64 i) (.bool true) (.bool true) (by omega)
        rw [Bool.true_or] at ih
        refine ⟨z8, z19, z20, ?_⟩
        generalize run T pr (.loop w_i_UnloadOrder_1) = R' at ih ⊢
        simp +contextual only [w_i_UnloadOrder_1, hi, hC, hlt, hle, hset, shr_nat, shl_nat, hb, d1, hg, wrap_succ (show i < 9223372036854775807 by omega), Nat.mul_one, decide_true, go_sem, entry, joinEsc, if_pos, reduceIte, Nat.reduceAdd, Nat.reduceLeDiff, Nat.reduceLT, Nat.reduceEqDiff]
        exact ih

theorem loop_i_UnloadOrder_2 {a0 a3 a4 a5 b9 b10 b11 b12 b21 b22 b23 b24 b25 b26 : AV} {q u : Nat} {c : Option Nat} {ls : List Ld} {n F : Nat} {a b o : Int} (hls : ls.length = n) (hn8 : n ≤ 8) (hF : F = 2 ^ n) (h : cellsAt H q = some (encL ls)) (hu : cellsAt H u = some [.int .i64 a, .int .i64 b, .int .i64 o]) :
    ∀ (k C : Nat) (y7 y8 y15 y16 y17 y18 y19 y20 : AV), k + C = F → ∃ (z7 z8 z15 z16 z17 z18 z19 z20 : AV), run T pr (.loop w_i_UnloadOrder_2) ⟨[a0, slL q n c, .ptr (some (u, 0)), a3, a4, a5, slI H.length F (some F), y7, y8, b9, b10, b11, b12, .int .i64 F, .int .i64 C, y15, y16, y17, y18, y19, y20, b21, b22, b23, b24, b25, b26], ⟨H ++ [.cells (encB (backL (fun c => safeW a b o ls (c : Int)) n C ++ List.replicate k false)) true], none⟩⟩ =
      some (Ex.exit 0, ⟨[a0, slL q n c, .ptr (some (u, 0)), a3, a4, a5, slI H.length F (some F), z7, z8, b9, b10, b11, b12, .int .i64 F, .int .i64 F, z15, z16, z17, z18, z19, z20, b21, b22, b23, b24, b25, b26], ⟨H ++ [.cells (encB (backL (fun c => safeW a b o ls (c : Int)) n F)) true], none⟩⟩)
  | 0, C, y7, y8, y15, y16, y17, y18, y19, y20, hk => by
    have hi : C = F := by omega
    subst hi
    refine ⟨y7, y8, .bool false, y16, y17, y18, y19, y20, ?_⟩
    rw [run_loop, List.replicate_zero, List.append_nil]
    generalize run T pr (.loop w_i_UnloadOrder_2) = R
    simp +contextual only [w_i_UnloadOrder_2, Nat.lt_irrefl, decide_false, go_sem, entry, joinEsc, if_pos, reduceIte, Nat.reduceAdd, Nat.reduceLeDiff, Nat.reduceLT, Nat.reduceEqDiff]
  | k + 1, C, y7, y8, y15, y16, y17, y18, y19, y20, hk => by
    have hC : C < F := by omega
    obtain ⟨p1, p2, p3⟩ := pow_facts n (by omega)
    have hsafe := fun G => e_i_Raft_isSafe (pr := pr) (e := none) (c := c) (cells_mono h G) (show ls.length ≤ 9223372036854775806 by omega) a b o (C : Int)
    rw [hls] at hsafe
    have h0 : ((0 : Nat) : Int) = 0 := rfl
    have hz : decide ((C : Int) = 0) = decide (C = 0) := decide_eq_decide.mpr (by omega)
    rw [run_loop, List.replicate_succ]
    have hlen := backL_length (fun c => safeW a b o ls (c : Int)) n C
    have hbk : backL (fun c => safeW a b o ls (c : Int)) n (C + 1) ++ List.replicate k false = backL (fun c => safeW a b o ls (c : Int)) n C ++ backV (fun c => safeW a b o ls (c : Int)) n C (backL (fun c => safeW a b o ls (c : Int)) n C) :: List.replicate k false := by
      rw [backL, List.append_assoc, List.singleton_append]
    have hset : ∀ x, setRange (encB (backL (fun c => safeW a b o ls (c : Int)) n C ++ false :: List.replicate k false)) C [.bool x] = encB (backL (fun c => safeW a b o ls (c : Int)) n C ++ x :: List.replicate k false) := fun x => by
      conv => lhs; rw [← hlen]
      rw [hlen]
      conv => lhs; arg 2; rw [← hlen]
      exact setRange_midB _ _ false x
    have hle : C + 1 ≤ (encB (backL (fun c => safeW a b o ls (c : Int)) n C ++ false :: List.replicate k false)).length := by simp [hlen]
    cases h1 : safeW a b o ls (C : Int) with
    | false =>
      have hv : backV (fun c => safeW a b o ls (c : Int)) n C (backL (fun c => safeW a b o ls (c : Int)) n C) = false := by unfold backV; simp only [h1, Bool.false_and]
      obtain ⟨z7, z8, z15, z16, z17, z18, z19, z20, ih⟩ := loop_i_UnloadOrder_2 (a0 := a0) (a3 := a3) (a4 := a4) (a5 := a5) (b9 := b9) (b10 := b10) (b11 := b11) (b12 := b12) (b21 := b21) (b22 := b22) (b23 := b23) (b24 := b24) (b25 := b25) (b26 := b26) (c := c) hls hn8 hF h hu k (C + 1) (.int .i64 C) y8 (.bool true) (.bool true) y17 y18 y19 y20 (by omega)
      rw [hbk, hv] at ih
      refine ⟨z7, z8, z15, z16, z17, z18, z19, z20, ?_⟩
      generalize run T pr (.loop w_i_UnloadOrder_2) = R at ih ⊢
      simp +contextual only [w_i_UnloadOrder_2, cells_mono hu, hsafe, h1, hC, wrap_succ (show C < 9223372036854775807 by omega), decide_true, go_sem, entry, joinEsc, if_pos, reduceIte, Nat.reduceAdd, Nat.reduceLeDiff, Nat.reduceLT, Nat.reduceEqDiff]
      exact ih
    | true =>
      have hv : backV (fun c => safeW a b o ls (c : Int)) n C (backL (fun c => safeW a b o ls (c : Int)) n C) = (decide (C = 0) || (List.range n).any (okDown (backL (fun c => safeW a b o ls (c : Int)) n C) C)) := by unfold backV; simp only [h1, Bool.true_and]
      obtain ⟨v8, v19, v20, hl⟩ := loop_i_UnloadOrder_1 (pr := pr) (e := none) (H := H) (a0 := a0) (a1 := slL q n c) (a2 := .ptr (some (u, 0))) (a3 := a3) (a4 := a4) (a5 := a5) (b9 := b9) (b10 := b10) (b11 := b11) (b12 := b12) (b13 := .int .i64 F) (b14 := .int .i64 C) (b15 := .bool true) (b16 := .bool false) (b21 := b21) (b22 := b22) (b23 := b23) (b24 := b24) (b25 := b25) (b26 := b26) hn8 hF hC hlen (R := List.replicate k false) (by rw [hlen]; simp; omega) n 0 (decide (C = 0)) y8 y19 y20 rfl
      rw [h0, ← List.range_eq_range'] at hl
      obtain ⟨z7, z8, z15, z16, z17, z18, z19, z20, ih⟩ := loop_i_UnloadOrder_2 (a0 := a0) (a3 := a3) (a4 := a4) (a5 := a5) (b9 := b9) (b10 := b10) (b11 := b11) (b12 := b12) (b21 := b21) (b22 := b22) (b23 := b23) (b24 := b24) (b25 := b25) (b26 := b26) (c := c) hls hn8 hF h hu k (C + 1) (.int .i64 C) v8 (.bool true) (.bool false) (.int .i64 n) (.int .i64 n) v19 v20 (by omega)
      rw [hbk, hv] at ih
      refine ⟨z7, z8, z15, z16, z17, z18, z19, z20, ?_⟩
      generalize run T pr (.loop w_i_UnloadOrder_2) = R at ih ⊢
      simp +contextual only [w_i_UnloadOrder_2, cells_mono hu, hsafe, h1, hz, hl, hC, hle, hset, wrap_succ (show C < 9223372036854775807 by omega), Nat.mul_one, decide_true, go_sem, entry, joinEsc, if_pos, reduceIte, Nat.reduceAdd, Nat.reduceLeDiff, Nat.reduceLT, Nat.reduceEqDiff]
      exact ih

theorem loop_i_UnloadOrder_3 {a0 a1 a2 a3 a4 a5 a7 a8 b12 b13 b14 b15 b16 b17 b18 b19 b20 b21 b22 : AV} {w n F C x : Nat} {cw : Option Nat} {W : List Bool} (hn8 : n ≤ 8) (hF : F = 2 ^ n) (hC : C < F) (hw : cellsAt H w = some (encB W)) (hW : W.length = F)
    (hx : x < n) (h1 : okDown W C x = true) (h2 : ∀ i, i < x → okDown W C i = false) {o : List Int} {j : Nat} {cap : Option Nat} {G : List Blk} (hG : G[j]? = some (.cells (encI o) true)) (hcap : cap = some 0 → o = []) (hmb : (o.length + 1) * 8 ≤ maxBytes) :
    ∀ (k i : Nat) (y11 y25 y26 : AV), k + i = x → ∃ z11 z24 z25 z26, run T pr (.loop w_i_UnloadOrder_3) ⟨[a0, a1, a2, a3, a4, a5, slI w F cw, a7, a8, slI (H.length + j) o.length cap, .int .i64 C, y11, b12, b13, b14, b15, b16, b17, b18, b19, b20, b21, b22, .int .i64 n, .int .i64 i, y25, y26], ⟨H ++ G, e⟩⟩ =
      some (Ex.exit 6, ⟨[a0, a1, a2, a3, a4, a5, slI w F cw, a7, a8, slI (H.length + (G.length + 1)) (o.length + 1) none, .int .i64 ((C - 2 ^ x : Nat) : Int), z11, b12, b13, b14, b15, b16, b17, b18, b19, b20, b21, b22, .int .i64 n, z24, z25, z26], ⟨H ++ (killIf cap j (G ++ [.cells [.int .i64 x] true]) ++ [.cells (encI (o ++ [(x : Int)])) true]), e⟩⟩)
  | 0, i, y11, y25, y26, hk => by
    obtain rfl : i = x := by omega
    obtain ⟨p1, p2, p3⟩ := pow_facts n (by omega)
    unfold okDown at h1
    rw [Bool.and_eq_true] at h1
    obtain ⟨hbit, hv⟩ := h1
    have hb := bit_set (c := C) (i := i) (by omega) (by omega) hbit
    obtain ⟨d1, d2, d3⟩ := bits_down C (by omega) i (by omega) hbit
    have hp := Nat.two_pow_pos i
    have hlt : C - 2 ^ i < F := by omega
    have hg := part_encB (B := W) (i := C - 2 ^ i) 1 (by omega)
    rw [hv] at hg
    refine ⟨.int .i64 i, .int .i64 i, .bool true, .bool true, ?_⟩
    rw [run_loop, encI_append]
    generalize run T pr (.loop w_i_UnloadOrder_3) = R
    simp +contextual only [w_i_UnloadOrder_3, cells_mono hw, hx, hlt, shr_nat, shl_nat, hb, d1, hg, fillParts, append_in hG hcap hmb, decide_true, decide_false, go_sem, entry, joinEsc, if_pos, reduceIte, Nat.reduceAdd, Nat.reduceLeDiff, Nat.reduceLT, Nat.reduceEqDiff]
  | k + 1, i, y11, y25, y26, hk => by
    have hno := h2 i (by omega)
    have hi : i < n := by omega
    obtain ⟨p1, p2, p3⟩ := pow_facts n (by omega)
    obtain ⟨z11, z24, z25, z26, ih⟩ := loop_i_UnloadOrder_3 (a0 := a0) (a1 := a1) (a2 := a2) (a3 := a3) (a4 := a4) (a5 := a5) (a7 := a7) (a8 := a8) (b12 := b12) (b13 := b13) (b14 := b14) (b15 := b15) (b16 := b16) (b17 := b17) (b18 := b18) (b19 := b19) (b20 := b20) (b21 := b21) (b22 := b22) (cw := cw) hn8 hF hC hw hW hx h1 h2 hG hcap hmb k (i + 1) (.int .i64 i) (.bool true) (.bool false) (by omega)
    refine ⟨z11, z24, z25, z26, ?_⟩
    rw [run_loop]
    generalize run T pr (.loop w_i_UnloadOrder_3) = R at ih ⊢
    cases hbit : C.testBit i with
    | false =>
      have hb := bit_clear (c := C) (i := i) (by omega) (by omega) hbit
      simp +contextual only [w_i_UnloadOrder_3, hi, shr_nat, hb, show ¬ ((0 : Int) = 1) by omega, wrap_succ (show i < 9223372036854775807 by omega), decide_true, decide_false, go_sem, entry, joinEsc, if_pos, reduceIte, Nat.reduceAdd, Nat.reduceLeDiff, Nat.reduceLT, Nat.reduceEqDiff]
      exact ih
    | true =>
      have hb := bit_set (c := C) (i := i) (by omega) (by omega) hbit
      obtain ⟨d1, d2, d3⟩ := bits_down C (by omega) i (by omega) hbit
      have hp := Nat.two_pow_pos i
      have hlt : C - 2 ^ i < F := by omega
      have hg := part_encB (B := W) (i := C - 2 ^ i) 1 (by omega)
      unfold okDown at hno
      rw [hbit, Bool.true_and] at hno
      rw [hno] at hg
      simp +contextual only [w_i_UnloadOrder_3, cells_mono hw, hi, hlt, shr_nat, shl_nat, hb, d1, hg, wrap_succ (show i < 9223372036854775807 by omega), decide_true, decide_false, go_sem, entry, joinEsc, if_pos, reduceIte, Nat.reduceAdd, Nat.reduceLeDiff, Nat.reduceLT, Nat.reduceEqDiff]
      exact ih

theorem loop_i_UnloadOrder_4 {a0 a2 a3 a4 a5 a7 a8 b12 b13 b14 b15 b16 b17 b18 b19 b20 b21 : AV} {q w n F : Nat} {c cw : Option Nat} {W : List Bool} (hn8 : n ≤ 8) (hF : F = 2 ^ n) (hw : cellsAt H w = some (encB W)) (hW : W.length = F) (hgood : ∀ c, c < F → W.getD c false = true → c ≠ 0 → ∃ i, i < n ∧ okDown W c i = true) :
    ∀ (k C : Nat) (o : List Int) (j : Nat) (cap : Option Nat) (G : List Blk) (y11 y22 y23 y24 y25 y26 : AV), k + o.length = n → nu n C = k → C < F → W.getD C false = true → G[j]? = some (.cells (encI o) true) → (cap = some 0 → o = []) →
      ∃ (j' : Nat) (cap' : Option Nat) (G' : List Blk) (z10 z11 z22 z23 z24 z25 z26 : AV), G'[j']? = some (.cells (encI (o ++ unloadL W n k C)) true) ∧ run T pr (.loop w_i_UnloadOrder_4) ⟨[a0, slL q n c, a2, a3, a4, a5, slI w F cw, a7, a8, slI (H.length + j) o.length cap, .int .i64 C, y11, b12, b13, b14, b15, b16, b17, b18, b19, b20, b21, y22, y23, y24, y25, y26], ⟨H ++ G, none⟩⟩ =
      some (Ex.exit 4, ⟨[a0, slL q n c, a2, a3, a4, a5, slI w F cw, a7, a8, slI (H.length + j') (o ++ unloadL W n k C).length cap', z10, z11, b12, b13, b14, b15, b16, b17, b18, b19, b20, b21, z22, z23, z24, z25, z26], ⟨H ++ G', none⟩⟩)
  | 0, C, o, j, cap, G, y11, y22, y23, y24, y25, y26, hk, hnu, hC, hp, hG, hcap => by
    obtain ⟨m1, m2, m3⟩ := nu_facts n (by omega) C (by omega)
    obtain rfl : C = 0 := m1.mp hnu
    have h0 : ((0 : Nat) : Int) = 0 := rfl
    refine ⟨j, cap, G, .int .i64 0, y11, .bool false, y23, y24, y25, y26, ?_, ?_⟩
    · simpa [unloadL] using hG
    rw [run_loop, h0]
    generalize run T pr (.loop w_i_UnloadOrder_4) = R
    have hu : o ++ unloadL W n 0 0 = o := by simp [unloadL]
    simp +contextual only [w_i_UnloadOrder_4, Int.lt_irrefl, decide_false, hu, go_sem, entry, joinEsc, if_pos, reduceIte, Nat.reduceAdd, Nat.reduceLeDiff, Nat.reduceLT, Nat.reduceEqDiff]
  | k + 1, C, o, j, cap, G, y11, y22, y23, y24, y25, y26, hk, hnu, hC, hp, hG, hcap => by
    obtain ⟨p1, p2, p3⟩ := pow_facts n (by omega)
    obtain ⟨m1, m2, m3⟩ := nu_facts n (by omega) C (by omega)
    have hC0 : C ≠ 0 := fun h => by have := m1.mpr h; omega
    have hCp : (0 : Int) < (C : Int) := by omega
    obtain ⟨f1, f2, f3⟩ := firstD_spec (hgood C hC hp hC0)
    rw [run_loop, unloadL]
    generalize hx : firstD W n C = x at f1 f2 f3 ⊢
    have f2' := f2
    unfold okDown at f2'
    rw [Bool.and_eq_true] at f2'
    have hmb : (o.length + 1) * 8 ≤ maxBytes := by unfold maxBytes; omega
    have h0 : ((0 : Nat) : Int) = 0 := rfl
    obtain ⟨v11, v24, v25, v26, hfind⟩ := loop_i_UnloadOrder_3 (pr := pr) (e := none) (a0 := a0) (a1 := slL q n c) (a2 := a2) (a3 := a3) (a4 := a4) (a5 := a5) (a7 := a7) (a8 := a8) (b12 := b12) (b13 := b13) (b14 := b14) (b15 := b15) (b16 := b16) (b17 := b17) (b18 := b18) (b19 := b19) (b20 := b20) (b21 := b21) (b22 := .bool true) (cw := cw) hn8 hF hC hw hW f1 f2 f3 hG hcap hmb x 0 y11 y25 y26 rfl
    rw [h0] at hfind
    obtain ⟨j', cap', G', z10, z11, z22, z23, z24, z25, z26, h2, ih⟩ := loop_i_UnloadOrder_4 (a0 := a0) (a2 := a2) (a3 := a3) (a4 := a4) (a5 := a5) (a7 := a7) (a8 := a8) (b12 := b12) (b13 := b13) (b14 := b14) (b15 := b15) (b16 := b16) (b17 := b17) (b18 := b18) (b19 := b19) (b20 := b20) (b21 := b21) (q := q) (c := c) (cw := cw) hn8 hF hw hW hgood k (C - 2 ^ x) (o ++ [(x : Int)]) (G.length + 1) none
      (killIf cap j (G ++ [.cells [.int .i64 x] true]) ++ [.cells (encI (o ++ [(x : Int)])) true]) v11 (.bool true) (.int .i64 n) v24 v25 v26 (by simp; omega) (by have := m3 x f1 f2'.1; omega) (Nat.lt_of_le_of_lt (Nat.sub_le _ _) hC) f2'.2 (by
        rw [List.getElem?_append_right (by simp [killIf_length])]; simp [killIf_length]) (by simp)
    rw [List.append_assoc, List.singleton_append] at h2 ih
    refine ⟨j', cap', G', z10, z11, z22, z23, z24, z25, z26, h2, ?_⟩
    generalize run T pr (.loop w_i_UnloadOrder_4) = R at ih ⊢
    simp +contextual only [w_i_UnloadOrder_4, hCp, hfind, decide_true, go_sem, entry, joinEsc, if_pos, reduceIte, Nat.reduceAdd, Nat.reduceLeDiff, Nat.reduceLT, Nat.reduceEqDiff]
    simp only [List.length_append, List.length_cons, List.length_nil, Nat.zero_add] at ih
    exact ih

theorem loop_s_UnloadOrder_1 {a0 a1 a2 a3 a4 a5 b9 b10 b11 : AV} {w n F C x : Nat} {cw : Option Nat} {W : List Bool} (hn8 : n ≤ 8) (hF : F = 2 ^ n) (hC : C < F) (hw : cellsAt H w = some (encB W)) (hW : W.length = F)
    (hx : x < n) (h1 : okDown W C x = true) (h2 : ∀ i, i < x → okDown W C i = false) :
    ∀ (k i : Nat) (y12 : AV), k + i = x → ∃ z12, run T pr (.loop w_s_UnloadOrder_1) ⟨[a0, a1, a2, a3, a4, a5, slI w F cw, .int .i64 C, .int .i64 i, b9, b10, b11, y12], ⟨H, e⟩⟩ =
      some (Ex.exit 2, ⟨[a0, a1, a2, a3, a4, a5, slI w F cw, .int .i64 C, .int .i64 x, b9, b10, b11, z12], ⟨H, e⟩⟩)
  | 0, i, y12, hk => by
    obtain rfl : i = x := by omega
    obtain ⟨p1, p2, p3⟩ := pow_facts n (by omega)
    unfold okDown at h1
    rw [Bool.and_eq_true] at h1
    obtain ⟨hbit, hv⟩ := h1
    have hb := bit_set (c := C) (i := i) (by omega) (by omega) hbit
    obtain ⟨d1, d2, d3⟩ := bits_down C (by omega) i (by omega) hbit
    have d2' : IntKind.i64.wrap ((C : Int) - shlI .i64 1 (i : Int)) = ((C - 2 ^ i : Nat) : Int) := d2
    have hp := Nat.two_pow_pos i
    have hlt : C - 2 ^ i < F := by omega
    have hg := part_encB (B := W) (i := C - 2 ^ i) 1 (by omega)
    rw [hv] at hg
    refine ⟨.bool false, ?_⟩
    rw [run_loop]
    generalize run T pr (.loop w_s_UnloadOrder_1) = R
    simp +contextual only [w_s_UnloadOrder_1, hw, hlt, shr_nat, shl_nat, hb, d2', hg, show ¬ ((1 : Int) = 0) by omega, decide_true, decide_false, go_sem, entry, joinEsc, if_pos, reduceIte, Nat.reduceAdd, Nat.reduceLeDiff, Nat.reduceLT, Nat.reduceEqDiff]
  | k + 1, i, y12, hk => by
    have hno := h2 i (by omega)
    have hi : i < n := by omega
    obtain ⟨p1, p2, p3⟩ := pow_facts n (by omega)
    obtain ⟨z12, ih⟩ := loop_s_UnloadOrder_1 (a0 := a0) (a1 := a1) (a2 := a2) (a3 := a3) (a4 := a4) (a5 := a5) (b9 := b9) (b10 := b10) (b11 := b11) (cw := cw) hn8 hF hC hw hW hx h1 h2 k (i + 1) (.bool true) (by omega)
    refine ⟨z12, ?_⟩
    rw [run_loop]
    generalize run T pr (.loop w_s_UnloadOrder_1) = R at ih ⊢
    cases hbit : C.testBit i with
    | false =>
      have hb := bit_clear (c := C) (i := i) (by omega) (by omega) hbit
      simp +contextual only [w_s_UnloadOrder_1, shr_nat, hb, wrap_succ (show i < 9223372036854775807 by omega), decide_true, decide_false, go_sem, entry, joinEsc, if_pos, reduceIte, Nat.reduceAdd, Nat.reduceLeDiff, Nat.reduceLT, Nat.reduceEqDiff]
      exact ih
    | true =>
      have hb := bit_set (c := C) (i := i) (by omega) (by omega) hbit
      obtain ⟨d1, d2, d3⟩ := bits_down C (by omega) i (by omega) hbit
      have d2' : IntKind.i64.wrap ((C : Int) - shlI .i64 1 (i : Int)) = ((C - 2 ^ i : Nat) : Int) := d2
      have hp := Nat.two_pow_pos i
      have hlt : C - 2 ^ i < F := by omega
      have hg := part_encB (B := W) (i := C - 2 ^ i) 1 (by omega)
      unfold okDown at hno
      rw [hbit, Bool.true_and] at hno
      rw [hno] at hg
      simp +contextual only [w_s_UnloadOrder_1, hw, hlt, shr_nat, shl_nat, hb, d2', hg, show ¬ ((1 : Int) = 0) by omega, wrap_succ (show i < 9223372036854775807 by omega), decide_true, decide_false, go_sem, entry, joinEsc, if_pos, reduceIte, Nat.reduceAdd, Nat.reduceLeDiff, Nat.reduceLT, Nat.reduceEqDiff]
      exact ih

theorem loop_s_UnloadOrder_2 {a0 a2 a3 a4 b9 b10 : AV} {q w n F : Nat} {c cw : Option Nat} {W : List Bool} (hn8 : n ≤ 8) (hF : F = 2 ^ n) (hW : W.length = F) (hgood : ∀ c, c < F → W.getD c false = true → c ≠ 0 → ∃ i, i < n ∧ okDown W c i = true) :
    ∀ (k C : Nat) (o : List Int) (j : Nat) (cap : Option Nat) (G : List Blk) (y8 y11 y12 : AV), cellsAt (H ++ G) w = some (encB W) → w ≠ H.length + j → k + o.length = n → nu n C = k → C < F → W.getD C false = true → G[j]? = some (.cells (encI o) true) → (cap = some 0 → o = []) →
      ∃ (j' : Nat) (cap' : Option Nat) (G' : List Blk) (z7 z8 z11 z12 : AV), G'[j']? = some (.cells (encI (o ++ unloadL W n k C)) true) ∧ run T pr (.loop w_s_UnloadOrder_2) ⟨[a0, slL q n c, a2, a3, a4, slI (H.length + j) o.length cap, slI w F cw, .int .i64 C, y8, b9, b10, y11, y12], ⟨H ++ G, none⟩⟩ =
      some (Ex.exit 0, ⟨[a0, slL q n c, a2, a3, a4, slI (H.length + j') (o ++ unloadL W n k C).length cap', slI w F cw, z7, z8, b9, b10, z11, z12], ⟨H ++ G', none⟩⟩)
  | 0, C, o, j, cap, G, y8, y11, y12, hw, hne, hk, hnu, hC, hp, hG, hcap => by
    obtain ⟨m1, m2, m3⟩ := nu_facts n (by omega) C (by omega)
    obtain rfl : C = 0 := m1.mp hnu
    have h0 : ((0 : Nat) : Int) = 0 := rfl
    refine ⟨j, cap, G, .int .i64 0, y8, .bool false, y12, ?_, ?_⟩
    · simpa [unloadL] using hG
    rw [run_loop, h0]
    generalize run T pr (.loop w_s_UnloadOrder_2) = R
    have hu : o ++ unloadL W n 0 0 = o := by simp [unloadL]
    simp +contextual only [w_s_UnloadOrder_2, Int.lt_irrefl, decide_false, hu, go_sem, entry, joinEsc, if_pos, reduceIte, Nat.reduceAdd, Nat.reduceLeDiff, Nat.reduceLT, Nat.reduceEqDiff]
  | k + 1, C, o, j, cap, G, y8, y11, y12, hw, hne, hk, hnu, hC, hp, hG, hcap => by
    obtain ⟨p1, p2, p3⟩ := pow_facts n (by omega)
    obtain ⟨m1, m2, m3⟩ := nu_facts n (by omega) C (by omega)
    have hC0 : C ≠ 0 := fun h => by have := m1.mpr h; omega
    have hCp : (0 : Int) < (C : Int) := by omega
    obtain ⟨f1, f2, f3⟩ := firstD_spec (hgood C hC hp hC0)
    rw [run_loop, unloadL]
    generalize hx : firstD W n C = x at f1 f2 f3 ⊢
    have f2' := f2
    unfold okDown at f2'
    rw [Bool.and_eq_true] at f2'
    obtain ⟨d1, d2, d3⟩ := bits_down C (by omega) x (by omega) f2'.1
    have d2' : IntKind.i64.wrap ((C : Int) - shlI .i64 1 (x : Int)) = ((C - 2 ^ x : Nat) : Int) := d2
    have hmb : (o.length + 1) * 8 ≤ maxBytes := by unfold maxBytes; omega
    have h0 : ((0 : Nat) : Int) = 0 := rfl
    have hwl := cells_lt hw
    rw [List.length_append] at hwl
    obtain ⟨v12, hfind⟩ := loop_s_UnloadOrder_1 (pr := pr) (e := none) (a0 := a0) (a1 := slL q n c) (a2 := a2) (a3 := a3) (a4 := a4) (a5 := slI (H.length + j) o.length cap) (b9 := b9) (b10 := b10) (b11 := .bool true) (cw := cw) hn8 hF hC hw hW f1 f2 f3 x 0 y12 rfl
    rw [h0] at hfind
    obtain ⟨j', cap', G', z7, z8, z11, z12, h2, ih⟩ := loop_s_UnloadOrder_2 (a0 := a0) (a2 := a2) (a3 := a3) (a4 := a4) (b9 := b9) (b10 := b10) (q := q) (c := c) (cw := cw) hn8 hF hW hgood k (C - 2 ^ x) (o ++ [(x : Int)]) (G.length + 1) none
      (killIf cap j (G ++ [.cells [.int .i64 x] true]) ++ [.cells (encI (o ++ [(x : Int)])) true]) (.int .i64 x) (.bool true) v12 (cells_kill hw hne) (by omega) (by simp; omega) (by have := m3 x f1 f2'.1; omega) (Nat.lt_of_le_of_lt (Nat.sub_le _ _) hC) f2'.2 (by
        rw [List.getElem?_append_right (by simp [killIf_length])]; simp [killIf_length]) (by simp)
    rw [List.append_assoc, List.singleton_append] at h2 ih
    refine ⟨j', cap', G', z7, z8, z11, z12, h2, ?_⟩
    generalize run T pr (.loop w_s_UnloadOrder_2) = R at ih ⊢
    simp +contextual only [w_s_UnloadOrder_2, hCp, hfind, fillParts, append_in hG hcap hmb, shl_nat, d2', decide_true, go_sem, entry, joinEsc, if_pos, reduceIte, Nat.reduceAdd, Nat.reduceLeDiff, Nat.reduceLT, Nat.reduceEqDiff]
    simp only [List.length_append, List.length_cons, List.length_nil, Nat.zero_add, encI_append, List.map_cons, List.map_nil] at ih
    exact ih

end Go.Proofs.Ytlcklonakjhoiaa.Slim

/- Rafts: the unloading's law. -/
namespace Go.Proofs.Ytlcklonakjhoiaa.Slim

open Go

set_option linter.unusedSimpArgs false

set_option linter.unusedVariables false

variable {pr : Prims} {H : List Blk} {e : Option Nat}

theorem backW_length (a b o : Int) (ls : List Ld) : (backW a b o ls).length = 2 ^ ls.length := backL_length _ _ _

/-- can all be taken? -/
def canU (a b o : Int) (ls : List Ld) : Bool := cargoOk a b o ls && (backW a b o ls).getD (2 ^ ls.length - 1) false

/-- the first order in which all can be taken -/
def uoW (a b o : Int) (ls : List Ld) : List Int := unloadL (backW a b o ls) ls.length ls.length (2 ^ ls.length - 1)

theorem uoW_length (a b o : Int) (ls : List Ld) : (uoW a b o ls).length = ls.length := unloadL_length _ _ _ _

theorem backF {a b o : Int} {ls : List Ld} (sz : Nat) : part false (encB (backW a b o ls)) (2 ^ ls.length - 1) sz = some (.bool ((backW a b o ls).getD (2 ^ ls.length - 1) false)) :=
  part_encB sz (by rw [backW_length]; have := Nat.two_pow_pos ls.length; omega)

theorem e_i_UnloadOrder {q : Nat} {c : Option Nat} {ls : List Ld} (hq : cellsAt H q = some (encL ls)) (a b o : Int) : ∃ cap, call T pr f_i_UnloadOrder [rfV a b o, slL q ls.length c] ⟨H, e⟩ =
    some (if canU a b o ls = true then (.tup [slI H.length (uoW a b o ls).length cap, .bool true], ⟨H ++ [.cells (encI (uoW a b o ls)) true], e⟩) else (.tup [.slice none 0 0 none, .bool false], ⟨H, e⟩)) := by
  rw [call_eq t_i_UnloadOrder]
  unfold canU
  cases h1 : cargoOk a b o ls with
  | false =>
    refine ⟨none, ?_⟩
    rw [Bool.false_and, if_neg (by simp)]
    simp +contextual only [a_i_UnloadOrder, c_i_UnloadOrder, e_i_areCargo (cells_mono hq _), h1, finish_two_nb, go_sem, entry, joinEsc, if_pos, reduceIte, Nat.reduceAdd, Nat.reduceLeDiff, Nat.reduceLT, Nat.reduceEqDiff]
  | true =>
    have hn8 := cargo_le h1
    rw [Bool.true_and]
    obtain ⟨p1, p2, p3⟩ := pow_facts ls.length (by omega)
    have hlen := backW_length a b o ls
    have hbF := backF (a := a) (b := b) (o := o) (ls := ls) 1
    have hgood := fun c (hc : c < 2 ^ ls.length) => back_good (safe := fun c => safeW a b o ls (c : Int)) (n := ls.length) rfl hn8 hc
    have hbw : backL (fun c => safeW a b o ls (c : Int)) ls.length (2 ^ ls.length) = backW a b o ls := rfl
    simp only [hbw] at hgood
    have hnu := (nu_facts ls.length (by omega) (2 ^ ls.length - 1) (by omega)).2.1 (by omega)
    have huo : uoW a b o ls = unloadL (backW a b o ls) ls.length ls.length (2 ^ ls.length - 1) := rfl
    have hu : cellsAt (H ++ [Blk.cells [.int .i64 a, .int .i64 b, .int .i64 o] true]) H.length = some [.int .i64 a, .int .i64 b, .int .i64 o] := by simp [cellsAt, List.getElem?_append_right]
    generalize hF : 2 ^ ls.length = F at *
    have hx : ((F - 1 : Nat) : Int) = (F : Int) - 1 := by omega
    have w1 : IntKind.i64.wrap ((F : Int) - 1) = ((F - 1 : Nat) : Int) := by rw [hx]; exact wrap64 (by omega) (by omega)
    have w2 : IntKind.i64.wrap (((F - 1 : Nat) : Int) + 1) = (F : Int) := by rw [hx, show (F : Int) - 1 + 1 = F by omega]; exact wrap64 (by omega) (by omega)
    have hmb : (F : Int) * ((1 : Nat) : Int) ≤ ((maxBytes : Nat) : Int) := by unfold maxBytes; omega
    have h0 : ((0 : Nat) : Int) = 0 := rfl
    have hFl : F - 1 < F := by omega
    obtain ⟨z7, z8, z15, z16, z17, z18, z19, z20, hl⟩ := loop_i_UnloadOrder_2 (pr := pr) (a0 := rfV a b o) (a3 := .slice none 0 0 none) (a4 := .bool false) (a5 := .int .i64 ((F - 1 : Nat) : Int)) (b9 := .undef) (b10 := .undef) (b11 := .undef) (b12 := .bool false) (b21 := .undef) (b22 := .undef) (b23 := .undef) (b24 := .undef) (b25 := .undef) (b26 := .undef) (c := c) rfl hn8 hF.symm (cells_mono hq [Blk.cells [.int .i64 a, .int .i64 b, .int .i64 o] true]) hu F 0 .undef .undef .undef .undef .undef .undef .undef .undef (by omega)
    rw [backL, List.nil_append, ← zeros_encB, List.append_assoc, List.append_assoc, h0, hbw] at hl
    simp only [List.length_append, List.length_cons, List.length_nil, Nat.zero_add, List.cons_append, List.nil_append] at hl
    cases h2 : (backW a b o ls).getD (F - 1) false with
    | false =>
      refine ⟨none, ?_⟩
      rw [h2] at hbF
      rw [if_neg (by simp)]
      simp +contextual only [a_i_UnloadOrder, c_i_UnloadOrder, e_i_areCargo (cells_mono hq _), h1, shl_nat, p1, w1, w2, hmb, hl, hFl, hbF, finish_two_nb, go_sem, entry, joinEsc, if_pos, reduceIte, Nat.reduceAdd, Nat.reduceLeDiff, Nat.reduceLT, Nat.reduceEqDiff]
    | true =>
      rw [h2] at hbF
      obtain ⟨j', cap', G', v10, v11, v22, v23, v24, v25, v26, k1, hl2⟩ := loop_i_UnloadOrder_4 (pr := pr) (H := H ++ [Blk.cells [.int .i64 a, .int .i64 b, .int .i64 o] true, .cells (encB (backW a b o ls)) true]) (a0 := rfV a b o) (a2 := .ptr (some (H.length, 0))) (a3 := .slice none 0 0 none) (a4 := .bool false) (a5 := .int .i64 ((F - 1 : Nat) : Int)) (a7 := z7) (a8 := z8) (b12 := .bool false) (b13 := .int .i64 F) (b14 := .int .i64 F) (b15 := z15) (b16 := z16) (b17 := z17) (b18 := z18) (b19 := z19) (b20 := z20) (b21 := .bool false) (q := q) (w := H.length + 1) (c := c) (cw := some F) hn8 hF.symm
        (by simp [cellsAt, List.getElem?_append_right]) hlen hgood ls.length (F - 1) [] 0 (some 0) [.cells [] true] .undef .undef .undef .undef .undef .undef rfl hnu hFl h2 rfl (fun _ => rfl)
      rw [List.nil_append, ← huo] at hl2 k1
      refine ⟨cap', ?_⟩
      rw [if_pos rfl]
      simp only [List.length_append, List.length_cons, List.length_nil, Nat.zero_add, Nat.add_zero, List.append_assoc, List.cons_append, List.nil_append, Nat.reduceAdd, Nat.add_assoc] at hl2
      have hf : ∀ (B B' : Blk) (e0 : Option Nat), finish 2 H.length e0 (.tup [slI (H.length + (2 + j')) (uoW a b o ls).length cap', .bool true]) ⟨H ++ (B :: B' :: G'), none⟩ = some (.tup [slI H.length (uoW a b o ls).length cap', .bool true], ⟨H ++ [.cells (encI (uoW a b o ls)) true], e0⟩) :=
        fun B B' e0 => finish_two_sb true e0 (by rw [show 2 + j' = j' + 1 + 1 by omega]; exact k1) (under_encI _ _)
      simp +contextual only [a_i_UnloadOrder, c_i_UnloadOrder, e_i_areCargo (cells_mono hq _), h1, shl_nat, p1, w1, w2, hmb, hl, hFl, hbF, fillParts, hl2, hf, go_sem, entry, joinEsc, if_pos, reduceIte, Nat.reduceAdd, Nat.reduceLeDiff, Nat.reduceLT, Nat.reduceEqDiff]

theorem e_s_UnloadOrder {q : Nat} {c : Option Nat} {ls : List Ld} (hq : cellsAt H q = some (encL ls)) (a b o : Int) : ∃ cap, call T pr f_s_UnloadOrder [rfV a b o, slL q ls.length c] ⟨H, e⟩ =
    some (if canU a b o ls = true then (.tup [slI H.length (uoW a b o ls).length cap, .bool true], ⟨H ++ [.cells (encI (uoW a b o ls)) true], e⟩) else (.tup [slI H.length 0 (some 0), .bool false], ⟨H ++ [.cells [] true], e⟩)) := by
  rw [call_eq t_s_UnloadOrder]
  unfold canU
  have hf1 : ∀ (B : Blk) (e0 : Option Nat), finish 2 H.length e0 (.tup [slI (H.length + 1) 0 (some 0), .bool false]) ⟨H ++ [B, .cells [] true], none⟩ = some (.tup [slI H.length 0 (some 0), .bool false], ⟨H ++ [.cells [] true], e0⟩) := fun B e0 => finish_two_sb false e0 rfl rfl
  have hf2 : ∀ (B B' : Blk) (e0 : Option Nat), finish 2 H.length e0 (.tup [slI (H.length + 1) 0 (some 0), .bool false]) ⟨H ++ [B, .cells [] true, B'], none⟩ = some (.tup [slI H.length 0 (some 0), .bool false], ⟨H ++ [.cells [] true], e0⟩) := fun B B' e0 => finish_two_sb false e0 rfl rfl
  cases h1 : cargoOk a b o ls with
  | false =>
    refine ⟨none, ?_⟩
    rw [Bool.false_and, if_neg (by simp)]
    simp +contextual only [a_s_UnloadOrder, c_s_UnloadOrder, e_s_l10Cargo (cells_mono hq _), h1, fillParts, hf1, go_sem, entry, joinEsc, if_pos, reduceIte, Nat.reduceAdd, Nat.reduceLeDiff, Nat.reduceLT, Nat.reduceEqDiff]
  | true =>
    have hn8 := cargo_le h1
    rw [Bool.true_and]
    obtain ⟨p1, p2, p3⟩ := pow_facts ls.length (by omega)
    have hlen := backW_length a b o ls
    have hbF := backF (a := a) (b := b) (o := o) (ls := ls) 1
    have hgood := fun c (hc : c < 2 ^ ls.length) => back_good (safe := fun c => safeW a b o ls (c : Int)) (n := ls.length) rfl hn8 hc
    have hbw : backL (fun c => safeW a b o ls (c : Int)) ls.length (2 ^ ls.length) = backW a b o ls := rfl
    simp only [hbw] at hgood
    have hnu := (nu_facts ls.length (by omega) (2 ^ ls.length - 1) (by omega)).2.1 (by omega)
    have huo : uoW a b o ls = unloadL (backW a b o ls) ls.length ls.length (2 ^ ls.length - 1) := rfl
    have hback := fun G => e_s_l10Back (pr := pr) (e := none) (c := c) (cells_mono hq G) hn8 a b o
    generalize hF : 2 ^ ls.length = F at *
    have hx : ((F - 1 : Nat) : Int) = (F : Int) - 1 := by omega
    have w1 : IntKind.i64.wrap ((F : Int) - 1) = ((F - 1 : Nat) : Int) := by rw [hx]; exact wrap64 (by omega) (by omega)
    have hFl : F - 1 < F := by omega
    cases h2 : (backW a b o ls).getD (F - 1) false with
    | false =>
      refine ⟨none, ?_⟩
      rw [h2] at hbF
      rw [if_neg (by simp)]
      simp +contextual only [a_s_UnloadOrder, c_s_UnloadOrder, e_s_l10Cargo (cells_mono hq _), h1, fillParts, shl_nat, p1, w1, hback, hFl, hbF, hf2, go_sem, entry, joinEsc, if_pos, reduceIte, Nat.reduceAdd, Nat.reduceLeDiff, Nat.reduceLT, Nat.reduceEqDiff]
    | true =>
      rw [h2] at hbF
      obtain ⟨j', cap', G', v7, v8, v11, v12, k1, hl2⟩ := loop_s_UnloadOrder_2 (pr := pr) (H := H ++ [Blk.cells [.int .i64 a, .int .i64 b, .int .i64 o] true]) (a0 := rfV a b o) (a2 := .ptr (some (H.length, 0))) (a3 := .slice none 0 0 none) (a4 := .bool false) (b9 := .bool false) (b10 := .bool false) (q := q) (w := H.length + 2) (c := c) (cw := some F) hn8 hF.symm
        hlen hgood ls.length (F - 1) [] 0 (some 0) [.cells [] true, .cells (encB (backW a b o ls)) true] .undef .undef .undef (by simp [cellsAt, List.getElem?_append_right]) (by simp) rfl hnu hFl h2 rfl (fun _ => rfl)
      rw [List.nil_append, ← huo] at hl2 k1
      refine ⟨cap', ?_⟩
      rw [if_pos rfl]
      simp only [List.length_append, List.length_cons, List.length_nil, Nat.zero_add, Nat.add_zero, List.append_assoc, List.cons_append, List.nil_append, Nat.reduceAdd, Nat.add_assoc] at hl2
      have hf : ∀ (B : Blk) (e0 : Option Nat), finish 2 H.length e0 (.tup [slI (H.length + (1 + j')) (uoW a b o ls).length cap', .bool true]) ⟨H ++ (B :: G'), none⟩ = some (.tup [slI H.length (uoW a b o ls).length cap', .bool true], ⟨H ++ [.cells (encI (uoW a b o ls)) true], e0⟩) :=
        fun B e0 => finish_two_sb true e0 (by rw [show 1 + j' = j' + 1 by omega]; exact k1) (under_encI _ _)
      simp +contextual only [a_s_UnloadOrder, c_s_UnloadOrder, e_s_l10Cargo (cells_mono hq _), h1, fillParts, shl_nat, p1, w1, hback, hFl, hbF, hl2, hf, go_sem, entry, joinEsc, if_pos, reduceIte, Nat.reduceAdd, Nat.reduceLeDiff, Nat.reduceLT, Nat.reduceEqDiff]

theorem law_UnloadOrder {av : AV} {ls : List Ld} (ha : ArgL H av ls) (a b o : Int) : ∃ m', call T pr f_l_FnExactUnloadOrder [rfV a b o, av] ⟨H, none⟩ = some (.bool true, m') := by
  refine ⟨⟨H, none⟩, ?_⟩
  have hsz : ∀ G e', call T pr f_l_szLoadS [av, .int .i64 1048576] ⟨G, e'⟩ = some (.int .i64 (if ls.length ≤ 1048576 then 1048576 - ls.length else -1), ⟨G, e'⟩) := by
    obtain ⟨p, sz, c, rfl, h2, h3⟩ := ha
    exact fun G e' => e_l_szLoadS ls.length p sz c h2
  rw [call_eq t_l_FnExactUnloadOrder]
  by_cases hn : ls.length ≤ 1048576
  · have hn' : ls.length ≤ 9223372036854775806 := by omega
    have hneg : ¬ (1048576 - (ls.length : Int) < 0) := by omega
    have hcopy := fun G => e_l_toLoadS (pr := pr) (e := none) (ha.more G) hn
    have hmark : ∀ L b c, L[b]? = some (.cells (encL ls) true) → call T pr f_l_markLoadS [slL b ls.length c, .int .i64 1] ⟨L, none⟩ = some (.int .i64 ((1 + ls.length * 2 : Nat) : Int), ⟨L.set b (.cells (encL (markedL 1 ls.length)) true), none⟩) :=
      fun L b c h => e_l_markLoadS h (by omega) 1 (by omega)
    have hk0 : ¬ (((1 + ls.length * 2 : Nat) : Int) < 0) := by omega
    have h10 : ¬ ((1 : Int) < 0) := by omega
    have hs0 := fun L q c hq => e_s_UnloadOrder (pr := pr) (H := L) (e := none) (q := q) (c := c) (ls := ls) hq a b o
    have hi0 := fun L q c hq => e_i_UnloadOrder (pr := pr) (H := L) (e := none) (q := q) (c := c) (ls := ls) hq a b o
    cases hcan : canU a b o ls with
    | false =>
      simp only [hcan, Bool.false_eq_true, if_false] at hs0 hi0
      have hs : ∀ L q c, cellsAt L q = some (encL ls) → _ := fun L q c hq => (hs0 L q c hq).choose_spec
      have hi : ∀ L q c, cellsAt L q = some (encL ls) → _ := fun L q c hq => (hi0 L q c hq).choose_spec
      simp +contextual only [a_l_FnExactUnloadOrder, c_l_FnExactUnloadOrder, hsz, hn, hneg, decide_false, decide_true, e_l_toRaft, hcopy, hs, hi, e_l_eqIntS_none, e_l_markIntS_none, e_l_heldIntS_none, hmark, hk0, h10, e_l_eqLoadS, hn', beq_self_eq_true, go_sem, entry, joinEsc, if_pos, reduceIte, Nat.reduceAdd, Nat.reduceLeDiff, Nat.reduceLT, Nat.reduceEqDiff]
    | true =>
      have hl := uoW_length a b o ls
      have hc8 := cargo_le (Bool.and_eq_true_iff.mp hcan).1
      simp only [hcan, if_true] at hs0 hi0
      have hs := fun L q c hq => hid_tup (hs0 L q c hq)
      have hi := fun L q c hq => hid_tup (hi0 L q c hq)
      generalize uoW a b o ls = os at *
      have ho' : os.length ≤ 9223372036854775806 := by omega
      have hmi : ∀ L b c, L[b]? = some (.cells (encI os) true) → call T pr f_l_markIntS [slI b os.length c, .int .i64 1] ⟨L, none⟩ = some (.int .i64 ((1 + os.length : Nat) : Int), ⟨L.set b (.cells (encI (markedI 1 os.length)) true), none⟩) :=
        fun L b c h => e_l_markIntS h (by omega) 1 (by omega)
      have hhe : ∀ L b c, cellsAt L b = some (encI (markedI 1 os.length)) → call T pr f_l_heldIntS [slI b os.length c, .int .i64 1] ⟨L, none⟩ = some (.int .i64 ((1 + os.length : Nat) : Int), ⟨L, none⟩) :=
        fun L b c h => e_l_heldIntS (k := 1) h (by omega) (by omega)
      have hk1 : ¬ (((1 + os.length : Nat) : Int) < 0) := by omega
      simp +contextual only [a_l_FnExactUnloadOrder, c_l_FnExactUnloadOrder, hsz, hn, hneg, decide_false, decide_true, e_l_toRaft, hcopy, hs, hi, e_l_eqIntS, ho', hmi, hhe, hk1, hmark, hk0, h10, e_l_eqLoadS, hn', beq_self_eq_true, go_sem, entry, joinEsc, if_pos, reduceIte, Nat.reduceAdd, Nat.reduceLeDiff, Nat.reduceLT, Nat.reduceEqDiff]
  · simp +contextual only [a_l_FnExactUnloadOrder, c_l_FnExactUnloadOrder, hsz, hn, decide_true, show ((-1 : Int) < 0) by omega, go_sem, entry, joinEsc, if_pos, reduceIte, Nat.reduceAdd, Nat.reduceLeDiff, Nat.reduceLT, Nat.reduceEqDiff]

end Go.Proofs.Ytlcklonakjhoiaa.Slim

/- Rafts: sets that rise, and the next safe steps; the law. -/
namespace Go.Proofs.Ytlcklonakjhoiaa.Slim

open Go

set_option linter.unusedSimpArgs false

set_option linter.unusedVariables false

variable {pr : Prims} {H : List Blk} {e : Option Nat}

/-- does a list rise, above lo and below n? -/
def rises (n : Int) : Int → List Int → Bool
  | _, [] => true
  | lo, x :: xs => (decide (lo < x) && decide (x ≤ n - 1)) && rises n x xs

def bitsF (acc : Int) : List Int → Int
  | [] => acc
  | x :: xs => bitsF (orI .i64 acc (shlI .i64 1 x)) xs

def codeN (m : Nat) : List Int → Nat
  | [] => m
  | x :: xs => codeN (m + 2 ^ x.toNat) xs

/-- what stands before place i -/
def before (os : List Int) (i : Nat) (lo : Int) : Prop := (i = 0 ∧ lo = -1) ∨ ∃ i', i = i' + 1 ∧ os[i']? = some lo ∧ 0 ≤ lo

theorem before_next {os : List Int} {i : Nat} {x : Int} (h : os[i]? = some x) (h0 : 0 ≤ x) : before os (i + 1) x := .inr ⟨i, rfl, h, h0⟩

theorem before_in {os : List Int} {i : Nat} {lo : Int} {x n : Int} (h : before os i lo) (hw : (decide (0 ≤ x) && decide (x ≤ n)) = false) : (decide (lo < x) && decide (x ≤ n)) = false := by
  have : -1 ≤ lo := by
    rcases h with ⟨_, rfl⟩ | ⟨_, _, _, h⟩ <;> omega
  simp only [Bool.and_eq_false_iff, decide_eq_false_iff_not] at *
  omega

theorem low_bits : ∀ m : Nat, m < 256 → ∀ x : Nat, x < 8 → m < 2 ^ x → (m.testBit x = false ∧ m + 2 ^ x < 2 ^ (x + 1)) := by decide +kernel

theorem pow_mono8 : ∀ n : Nat, n < 9 → ∀ x : Nat, x < n → 2 ^ (x + 1) ≤ 2 ^ n := by decide +kernel

theorem bitsF_code {n : Nat} (hn8 : n ≤ 8) : ∀ (os : List Int) (lo : Int) (m : Nat), -1 ≤ lo → lo < n → m < 2 ^ (lo + 1).toNat → rises n lo os = true → bitsF m os = (codeN m os : Nat) ∧ codeN m os < 2 ^ n
  | [], lo, m, h1, h2, h3, _ => by
    refine ⟨rfl, ?_⟩
    rw [codeN]
    have : (2 : Nat) ^ (lo + 1).toNat ≤ 2 ^ n := Nat.pow_le_pow_right (by omega) (by omega)
    omega
  | x :: xs, lo, m, h1, h2, h3, hr => by
    rw [rises, Bool.and_eq_true, Bool.and_eq_true, decide_eq_true_eq, decide_eq_true_eq] at hr
    obtain ⟨⟨r1, r2⟩, r3⟩ := hr
    obtain ⟨y, rfl⟩ : ∃ y : Nat, x = y := ⟨x.toNat, by omega⟩
    have hp : (2 : Nat) ^ (lo + 1).toNat ≤ 2 ^ y := Nat.pow_le_pow_right (by omega) (by omega)
    have hp8 : (2 : Nat) ^ y ≤ 2 ^ 8 := Nat.pow_le_pow_right (by omega) (by omega)
    have h256 : (2 : Nat) ^ 8 = 256 := by decide
    obtain ⟨l1, l2⟩ := low_bits m (by omega) y (by omega) (by omega)
    obtain ⟨_, _, f3⟩ := bits_facts m (by omega) y (by omega)
    obtain ⟨g1, _, _, _⟩ := f3 l1
    rw [bitsF, codeN, g1, Int.toNat_natCast]
    exact bitsF_code hn8 xs y (m + 2 ^ y) (by omega) (by omega) (by rw [show ((y : Int) + 1).toNat = y + 1 by omega]; exact l2) r3

theorem loop_i_bitsOf {q q' n : Nat} {c c' : Option Nat} {os : List Int} (h : cellsAt H q' = some (encI os)) (hn : os.length ≤ 9223372036854775806) (hnn : n ≤ 1048576) :
    ∀ (k i : Nat) (lo acc : Int) (y5 y6 y10 y11 : AV), k + i = os.length → before os i lo → ∃ (z4 z5 z6 z9 z10 z11 : AV), (rises n lo (os.drop i) = true → z4 = .int .i64 (bitsF acc (os.drop i))) ∧ run T pr (.loop w_i_bitsOf_1) ⟨[slL q n c, slI q' os.length c', .int .i64 0, .bool false, .int .i64 acc, y5, y6, slI q' os.length c', .int .i64 os.length, .int .i64 i, y10, y11], ⟨H, e⟩⟩ =
      some (if rises n lo (os.drop i) = true then Ex.exit 0 else Ex.ret, ⟨[slL q n c, slI q' os.length c', .int .i64 0, .bool false, z4, z5, z6, slI q' os.length c', .int .i64 os.length, z9, z10, z11], ⟨H, e⟩⟩)
  | 0, i, lo, acc, y5, y6, y10, y11, hk, hb => by
    have hi : i = os.length := by omega
    subst hi
    refine ⟨.int .i64 acc, y5, y6, .int .i64 os.length, .bool false, y11, (fun _ => by rw [List.drop_length]; rfl), ?_⟩
    rw [run_loop]
    generalize run T pr (.loop w_i_bitsOf_1) = R
    simp +contextual only [w_i_bitsOf_1, Nat.lt_irrefl, decide_false, List.drop_length, rises, go_sem, entry, joinEsc, if_pos, reduceIte, Nat.reduceAdd, Nat.reduceLeDiff, Nat.reduceLT, Nat.reduceEqDiff]
  | k + 1, i, lo, acc, y5, y6, y10, y11, hk, hb => by
    have hi : i < os.length := by omega
    have hl : os[i]? = some os[i] := List.getElem?_eq_getElem hi
    have hw : IntKind.i64.wrap ((n : Int) - 1) = (n : Int) - 1 := wrap64 (by omega) (by omega)
    rw [run_loop, List.drop_eq_getElem_cons hi, rises, bitsF]
    generalize hx : os[i] = x at hl ⊢
    cases h1 : (decide (0 ≤ x) && decide (x ≤ (n : Int) - 1)) with
    | false =>
      have h2 := before_in hb h1
      refine ⟨.int .i64 acc, .int .i64 i, .int .i64 x, .int .i64 i, .bool true, .bool true, (fun h => by rw [h2] at h; cases h), ?_⟩
      generalize run T pr (.loop w_i_bitsOf_1) = R
      simp +contextual only [w_i_bitsOf_1, h, hi, hl, part_encI _ hl, hw, e_i_within, h1, h2, decide_true, go_sem, entry, joinEsc, if_pos, reduceIte, Nat.reduceAdd, Nat.reduceLeDiff, Nat.reduceLT, Nat.reduceEqDiff]
    | true =>
      have h1a : decide (0 ≤ x) = true := (Bool.and_eq_true_iff.mp h1).1
      have h1b : decide (x ≤ (n : Int) - 1) = true := (Bool.and_eq_true_iff.mp h1).2
      have hx0 : 0 ≤ x := by simpa using h1a
      obtain ⟨y, rfl⟩ : ∃ y : Nat, x = y := ⟨x.toNat, by omega⟩
      obtain ⟨z4, z5, z6, z9, z10, z11, hz, ih⟩ := loop_i_bitsOf (q := q) (c := c) (c' := c') h hn hnn k (i + 1) y (orI .i64 acc (shlI .i64 1 y)) (.int .i64 i) (.int .i64 y) (.bool true) (.bool false) (by omega) (before_next hl hx0)
      rcases hb with ⟨rfl, rfl⟩ | ⟨i', rfl, hp, hp0⟩
      · have hm : decide ((-1 : Int) < (y : Int)) = true := by simp; omega
        rw [hm, h1b, Bool.and_self, Bool.true_and]
        refine ⟨z4, z5, z6, z9, z10, z11, hz, ?_⟩
        generalize run T pr (.loop w_i_bitsOf_1) = R at ih ⊢
        have h0 : ((0 : Nat) : Int) = 0 := rfl
        have h00 : ¬ ((0 : Int) < ((0 : Nat) : Int)) := by omega
        simp +contextual only [w_i_bitsOf_1, h, hi, hl, part_encI _ hl, hw, e_i_within, h1a, h1b, h00, shl_nat, Int.lt_irrefl, wrap_succ (show 0 < 9223372036854775807 by omega), decide_true, decide_false, go_sem, entry, joinEsc, if_pos, reduceIte, Nat.reduceAdd, Nat.reduceLeDiff, Nat.reduceLT, Nat.reduceEqDiff]
        exact ih
      · have hw' : IntKind.i64.wrap (((i' + 1 : Nat) : Int) - 1) = (i' : Int) := by rw [show ((i' + 1 : Nat) : Int) - 1 = (i' : Int) by omega]; exact wrap64 (by omega) (by omega)
        have hi' : i' < os.length := by omega
        have hpos : (0 : Int) < ((i' + 1 : Nat) : Int) := by omega
        by_cases h3 : (y : Int) ≤ lo
        · have h4 : decide (lo < (y : Int)) = false := decide_eq_false (by omega)
          rw [h4, Bool.false_and, Bool.false_and]
          refine ⟨.int .i64 acc, .int .i64 ((i' + 1 : Nat) : Int), .int .i64 y, .int .i64 ((i' + 1 : Nat) : Int), .bool true, .bool true, (fun h => by cases h), ?_⟩
          generalize run T pr (.loop w_i_bitsOf_1) = R
          simp +contextual only [w_i_bitsOf_1, h, hi, hi', hl, part_encI _ hl, part_encI _ hp, hw, hw', hpos, e_i_within, h1a, h1b, h3, shl_nat, decide_true, decide_false, go_sem, entry, joinEsc, if_pos, reduceIte, Nat.reduceAdd, Nat.reduceLeDiff, Nat.reduceLT, Nat.reduceEqDiff]
        · have h4 : decide (lo < (y : Int)) = true := decide_eq_true (by omega)
          rw [h4, h1b, Bool.and_self, Bool.true_and]
          refine ⟨z4, z5, z6, z9, z10, z11, hz, ?_⟩
          generalize run T pr (.loop w_i_bitsOf_1) = R at ih ⊢
          simp +contextual only [w_i_bitsOf_1, h, hi, hi', hl, part_encI _ hl, part_encI _ hp, hw, hw', hpos, e_i_within, h1a, h1b, h3, shl_nat, wrap_succ (show i' + 1 < 9223372036854775807 by omega), decide_true, decide_false, go_sem, entry, joinEsc, if_pos, reduceIte, Nat.reduceAdd, Nat.reduceLeDiff, Nat.reduceLT, Nat.reduceEqDiff]
          exact ih

theorem e_i_bitsOf {q q' n : Nat} {c c' : Option Nat} {os : List Int} (h : cellsAt H q' = some (encI os)) (hn : os.length ≤ 9223372036854775806) (hnn : n ≤ 1048576) :
    call T pr f_i_bitsOf [slL q n c, slI q' os.length c'] ⟨H, e⟩ = some (.tup [.int .i64 (if rises n (-1) os = true then bitsF 0 os else 0), .bool (rises n (-1) os)], ⟨H, e⟩) := by
  obtain ⟨z4, z5, z6, z9, z10, z11, hz, hl⟩ := loop_i_bitsOf (pr := pr) (e := none) (q := q) (c := c) (c' := c') h hn hnn os.length 0 (-1) 0 .undef .undef .undef .undef rfl (.inl ⟨rfl, rfl⟩)
  have h0 : ((0 : Nat) : Int) = 0 := rfl
  rw [h0, List.drop_zero] at hl
  rw [List.drop_zero] at hz
  rw [call_eq t_i_bitsOf]
  cases h1 : rises n (-1) os with
  | false => simp only [h1, Bool.false_eq_true, if_false] at hl ⊢; simp +contextual only [a_i_bitsOf, c_i_bitsOf, hl, go_sem, entry, joinEsc, if_pos, reduceIte, Nat.reduceAdd, Nat.reduceLeDiff, Nat.reduceLT, Nat.reduceEqDiff]
  | true => rw [hz h1] at hl; simp only [h1, if_true] at hl ⊢; simp +contextual only [a_i_bitsOf, c_i_bitsOf, hl, go_sem, entry, joinEsc, if_pos, reduceIte, Nat.reduceAdd, Nat.reduceLeDiff, Nat.reduceLT, Nat.reduceEqDiff]

theorem loop_s_l1Rising {q' : Nat} {n : Int} {c' : Option Nat} {os : List Int} (h : cellsAt H q' = some (encI os)) (hn : os.length ≤ 9223372036854775806) :
    ∀ (k i : Nat) (lo : Int) (y5 y6 : AV), k + i = os.length → before os i lo → ∃ (z4 z5 z6 : AV), run T pr (.loop w_s_l1Rising_1) ⟨[slI q' os.length c', .int .i64 0, .int .i64 (n - 1), .bool false, .int .i64 i, y5, y6], ⟨H, e⟩⟩ =
      some (if rises n lo (os.drop i) = true then Ex.exit 0 else Ex.ret, ⟨[slI q' os.length c', .int .i64 0, .int .i64 (n - 1), .bool false, z4, z5, z6], ⟨H, e⟩⟩)
  | 0, i, lo, y5, y6, hk, hb => by
    have hi : i = os.length := by omega
    subst hi
    refine ⟨.int .i64 os.length, .bool false, y6, ?_⟩
    rw [run_loop]
    generalize run T pr (.loop w_s_l1Rising_1) = R
    simp +contextual only [w_s_l1Rising_1, Nat.lt_irrefl, decide_false, List.drop_length, rises, go_sem, entry, joinEsc, if_pos, reduceIte, Nat.reduceAdd, Nat.reduceLeDiff, Nat.reduceLT, Nat.reduceEqDiff]
  | k + 1, i, lo, y5, y6, hk, hb => by
    have hi : i < os.length := by omega
    have hl : os[i]? = some os[i] := List.getElem?_eq_getElem hi
    rw [run_loop, List.drop_eq_getElem_cons hi, rises]
    generalize hx : os[i] = x at hl ⊢
    cases h1 : (decide (0 ≤ x) && decide (x ≤ n - 1)) with
    | false =>
      have h2 := before_in hb h1
      refine ⟨.int .i64 i, .bool true, .bool true, ?_⟩
      generalize run T pr (.loop w_s_l1Rising_1) = R
      simp +contextual only [w_s_l1Rising_1, h, hi, hl, part_encI _ hl, e_s_l1In, h1, h2, decide_true, go_sem, entry, joinEsc, if_pos, reduceIte, Nat.reduceAdd, Nat.reduceLeDiff, Nat.reduceLT, Nat.reduceEqDiff]
    | true =>
      have h1a : decide (0 ≤ x) = true := (Bool.and_eq_true_iff.mp h1).1
      have h1b : decide (x ≤ n - 1) = true := (Bool.and_eq_true_iff.mp h1).2
      have hx0 : 0 ≤ x := by simpa using h1a
      obtain ⟨z4, z5, z6, ih⟩ := loop_s_l1Rising (n := n) (c' := c') h hn k (i + 1) x (.bool true) (.bool false) (by omega) (before_next hl hx0)
      rcases hb with ⟨rfl, rfl⟩ | ⟨i', rfl, hp, hp0⟩
      · have hm : decide ((-1 : Int) < x) = true := decide_eq_true (by omega)
        rw [hm, h1b, Bool.and_self, Bool.true_and]
        refine ⟨z4, z5, z6, ?_⟩
        generalize run T pr (.loop w_s_l1Rising_1) = R at ih ⊢
        have h0 : ((0 : Nat) : Int) = 0 := rfl
        have h00 : ¬ ((0 : Int) < ((0 : Nat) : Int)) := by omega
        simp +contextual only [w_s_l1Rising_1, h, hi, hl, part_encI _ hl, e_s_l1In, h1a, h1b, h00, Int.lt_irrefl, wrap_succ (show 0 < 9223372036854775807 by omega), decide_true, decide_false, go_sem, entry, joinEsc, if_pos, reduceIte, Nat.reduceAdd, Nat.reduceLeDiff, Nat.reduceLT, Nat.reduceEqDiff]
        exact ih
      · have hw' : IntKind.i64.wrap (((i' + 1 : Nat) : Int) - 1) = (i' : Int) := by rw [show ((i' + 1 : Nat) : Int) - 1 = (i' : Int) by omega]; exact wrap64 (by omega) (by omega)
        have hi' : i' < os.length := by omega
        have hpos : (0 : Int) < ((i' + 1 : Nat) : Int) := by omega
        by_cases h3 : x ≤ lo
        · have h4 : decide (lo < x) = false := decide_eq_false (by omega)
          rw [h4, Bool.false_and, Bool.false_and]
          refine ⟨.int .i64 ((i' + 1 : Nat) : Int), .bool true, .bool true, ?_⟩
          generalize run T pr (.loop w_s_l1Rising_1) = R
          simp +contextual only [w_s_l1Rising_1, h, hi, hi', hl, part_encI _ hl, part_encI _ hp, hw', hpos, e_s_l1In, h1a, h1b, h3, decide_true, decide_false, go_sem, entry, joinEsc, if_pos, reduceIte, Nat.reduceAdd, Nat.reduceLeDiff, Nat.reduceLT, Nat.reduceEqDiff]
        · have h4 : decide (lo < x) = true := decide_eq_true (by omega)
          rw [h4, h1b, Bool.and_self, Bool.true_and]
          refine ⟨z4, z5, z6, ?_⟩
          generalize run T pr (.loop w_s_l1Rising_1) = R at ih ⊢
          simp +contextual only [w_s_l1Rising_1, h, hi, hi', hl, part_encI _ hl, part_encI _ hp, hw', hpos, e_s_l1In, h1a, h1b, h3, wrap_succ (show i' + 1 < 9223372036854775807 by omega), decide_true, decide_false, go_sem, entry, joinEsc, if_pos, reduceIte, Nat.reduceAdd, Nat.reduceLeDiff, Nat.reduceLT, Nat.reduceEqDiff]
          exact ih

theorem e_s_l1Rising {q' : Nat} {n : Int} {c' : Option Nat} {os : List Int} (h : cellsAt H q' = some (encI os)) (hn : os.length ≤ 9223372036854775806) :
    call T pr f_s_l1Rising [slI q' os.length c', .int .i64 0, .int .i64 (n - 1)] ⟨H, e⟩ = some (.bool (rises n (-1) os), ⟨H, e⟩) := by
  obtain ⟨z4, z5, z6, hl⟩ := loop_s_l1Rising (pr := pr) (e := none) (n := n) (c' := c') h hn os.length 0 (-1) .undef .undef rfl (.inl ⟨rfl, rfl⟩)
  have h0 : ((0 : Nat) : Int) = 0 := rfl
  rw [h0, List.drop_zero] at hl
  rw [call_eq t_s_l1Rising]
  cases h1 : rises n (-1) os <;> rw [h1] at hl <;> simp +contextual only [a_s_l1Rising, c_s_l1Rising, hl, go_sem, entry, joinEsc, if_pos, reduceIte, Nat.reduceAdd, Nat.reduceLeDiff, Nat.reduceLT, Nat.reduceEqDiff]

theorem loop_s_l10Code {q' n : Nat} {rv cg p y4 y5 y8 : AV} {c' : Option Nat} {os : List Int} (hn8 : n ≤ 8) (h : cellsAt H q' = some (encI os)) (hn : os.length ≤ 9223372036854775806) :
    ∀ (k i m : Nat) (lo : Int) (y9 : AV), k + i = os.length → -1 ≤ lo → lo < n → m < 2 ^ (lo + 1).toNat → rises n lo (os.drop i) = true → ∃ (z9 : AV), run T pr (.loop w_s_l10Code_1) ⟨[rv, cg, slI q' os.length c', p, y4, y5, .int .i64 m, .int .i64 i, y8, y9], ⟨H, e⟩⟩ =
      some (Ex.exit 0, ⟨[rv, cg, slI q' os.length c', p, y4, y5, .int .i64 (codeN m (os.drop i) : Nat), .int .i64 os.length, y8, z9], ⟨H, e⟩⟩)
  | 0, i, m, lo, y9, hk, h1, h2, h3, hr => by
    have hi : i = os.length := by omega
    subst hi
    refine ⟨.bool false, ?_⟩
    rw [run_loop]
    generalize run T pr (.loop w_s_l10Code_1) = R
    simp +contextual only [w_s_l10Code_1, Nat.lt_irrefl, decide_false, List.drop_length, codeN, go_sem, entry, joinEsc, if_pos, reduceIte, Nat.reduceAdd, Nat.reduceLeDiff, Nat.reduceLT, Nat.reduceEqDiff]
  | k + 1, i, m, lo, y9, hk, h1, h2, h3, hr => by
    have hi : i < os.length := by omega
    have hl : os[i]? = some os[i] := List.getElem?_eq_getElem hi
    rw [List.drop_eq_getElem_cons hi, rises, Bool.and_eq_true, Bool.and_eq_true, decide_eq_true_eq, decide_eq_true_eq] at hr
    rw [run_loop, List.drop_eq_getElem_cons hi, codeN]
    generalize hx : os[i] = x at hl hr ⊢
    obtain ⟨⟨r1, r2⟩, r3⟩ := hr
    obtain ⟨y, rfl⟩ : ∃ y : Nat, x = y := ⟨x.toNat, by omega⟩
    have hp : (2 : Nat) ^ (lo + 1).toNat ≤ 2 ^ y := Nat.pow_le_pow_right (by omega) (by omega)
    have hp8 : (2 : Nat) ^ y ≤ 2 ^ 8 := Nat.pow_le_pow_right (by omega) (by omega)
    have h256 : (2 : Nat) ^ 8 = 256 := by decide
    obtain ⟨l1, l2⟩ := low_bits m (by omega) y (by omega) (by omega)
    obtain ⟨_, _, f3⟩ := bits_facts m (by omega) y (by omega)
    obtain ⟨_, g2, _, _⟩ := f3 l1
    have g2' : IntKind.i64.wrap ((m : Int) + shlI .i64 1 (y : Int)) = ((m + 2 ^ y : Nat) : Int) := g2
    rw [Int.toNat_natCast]
    obtain ⟨z9, ih⟩ := loop_s_l10Code (rv := rv) (cg := cg) (p := p) (y4 := y4) (y5 := y5) (y8 := y8) (c' := c') hn8 h hn k (i + 1) (m + 2 ^ y) y (.bool true) (by omega) (by omega) (by omega) (by rw [show ((y : Int) + 1).toNat = y + 1 by omega]; exact l2) r3
    refine ⟨z9, ?_⟩
    generalize run T pr (.loop w_s_l10Code_1) = R at ih ⊢
    simp +contextual only [w_s_l10Code_1, h, hi, hl, part_encI _ hl, shl_nat, g2', wrap_succ (show i < 9223372036854775807 by omega), decide_true, go_sem, entry, joinEsc, if_pos, reduceIte, Nat.reduceAdd, Nat.reduceLeDiff, Nat.reduceLT, Nat.reduceEqDiff]
    exact ih

/-- a set of a cargo -/
def setOk (a b o : Int) (ls : List Ld) (os : List Int) : Bool := cargoOk a b o ls && rises ls.length (-1) os

theorem e_s_l10Code {q q' : Nat} {c c' : Option Nat} {ls : List Ld} {os : List Int} (hq : cellsAt H q = some (encL ls)) (h : cellsAt H q' = some (encI os)) (hn : os.length ≤ 9223372036854775806) (a b o : Int) :
    call T pr f_s_l10Code [rfV a b o, slL q ls.length c, slI q' os.length c'] ⟨H, e⟩ = some (.tup [.int .i64 (if setOk a b o ls os = true then ((codeN 0 os : Nat) : Int) else 0), .bool (setOk a b o ls os)], ⟨H, e⟩) := by
  rw [call_eq t_s_l10Code]
  unfold setOk
  cases h1 : cargoOk a b o ls with
  | false =>
    rw [Bool.false_and, if_neg (by simp)]
    simp +contextual only [a_s_l10Code, c_s_l10Code, e_s_l10Cargo (cells_mono hq _), h1, go_sem, entry, joinEsc, if_pos, reduceIte, Nat.reduceAdd, Nat.reduceLeDiff, Nat.reduceLT, Nat.reduceEqDiff]
  | true =>
    have hn8 := cargo_le h1
    have hw : IntKind.i64.wrap ((ls.length : Int) - 1) = (ls.length : Int) - 1 := wrap64 (by omega) (by omega)
    rw [Bool.true_and]
    cases h2 : rises ls.length (-1) os with
    | false =>
      rw [if_neg (by simp)]
      simp +contextual only [a_s_l10Code, c_s_l10Code, e_s_l10Cargo (cells_mono hq _), h1, hw, e_s_l1Rising (cells_mono h _) hn, h2, go_sem, entry, joinEsc, if_pos, reduceIte, Nat.reduceAdd, Nat.reduceLeDiff, Nat.reduceLT, Nat.reduceEqDiff]
    | true =>
      rw [if_pos rfl]
      obtain ⟨z9, hl⟩ := loop_s_l10Code (pr := pr) (e := none) (rv := rfV a b o) (cg := slL q ls.length c) (p := .ptr (some (H.length, 0))) (y4 := .int .i64 0) (y5 := .bool false) (y8 := .bool false) (c' := c') hn8 (cells_mono h [Blk.cells [.int .i64 a, .int .i64 b, .int .i64 o] true]) hn os.length 0 0 (-1) .undef rfl (by omega) (by omega) (by decide) (by simpa using h2)
      have h0 : ((0 : Nat) : Int) = 0 := rfl
      rw [h0, List.drop_zero] at hl
      simp +contextual only [a_s_l10Code, c_s_l10Code, e_s_l10Cargo (cells_mono hq _), h1, hw, e_s_l1Rising (cells_mono h _) hn, h2, hl, go_sem, entry, joinEsc, if_pos, reduceIte, Nat.reduceAdd, Nat.reduceLeDiff, Nat.reduceLT, Nat.reduceEqDiff]

theorem loop_s_SafeStep {a0 a2 a3 a4 a5 a8 y11 : AV} {q w n F C : Nat} {c cw : Option Nat} {W : List Int} (hn8 : n ≤ 8) (hF : F = 2 ^ n) (hC : C < F) (hW : W.length = F) :
    ∀ (k i : Nat) (o : List Int) (j : Nat) (cap : Option Nat) (G : List Blk) (y12 y13 : AV), cellsAt (H ++ G) w = some (encI W) → w ≠ H.length + j → k + i = n → o.length ≤ i → G[j]? = some (.cells (encI o) true) → (cap = some 0 → o = []) →
      ∃ (j' : Nat) (cap' : Option Nat) (G' : List Blk) (z12 z13 : AV), G'[j']? = some (.cells (encI (o ++ ((List.range' i k).filter (okStep W C)).map fun (i : Nat) => (i : Int))) true) ∧ run T pr (.loop w_s_SafeStep_1) ⟨[a0, slL q n c, a2, a3, a4, a5, slI (H.length + j) o.length cap, .int .i64 C, a8, slI w F cw, .int .i64 i, y11, y12, y13], ⟨H ++ G, none⟩⟩ =
      some (Ex.exit 0, ⟨[a0, slL q n c, a2, a3, a4, a5, slI (H.length + j') (o ++ ((List.range' i k).filter (okStep W C)).map fun (i : Nat) => (i : Int)).length cap', .int .i64 C, a8, slI w F cw, .int .i64 n, y11, z12, z13], ⟨H ++ G', none⟩⟩)
  | 0, i, o, j, cap, G, y12, y13, hw, hne, hk, ho, hG, hcap => by
    have hi : i = n := by omega
    subst hi
    refine ⟨j, cap, G, .bool false, y13, ?_, ?_⟩
    · simpa using hG
    rw [run_loop]
    generalize run T pr (.loop w_s_SafeStep_1) = R
    have h0 : (o ++ ((List.range' i 0).filter (okStep W C)).map fun (i : Nat) => (i : Int)) = o := by simp
    simp +contextual only [w_s_SafeStep_1, Nat.lt_irrefl, decide_false, h0, go_sem, entry, joinEsc, if_pos, reduceIte, Nat.reduceAdd, Nat.reduceLeDiff, Nat.reduceLT, Nat.reduceEqDiff]
  | k + 1, i, o, j, cap, G, y12, y13, hw, hne, hk, ho, hG, hcap => by
    have hi : i < n := by omega
    obtain ⟨p1, p2, p3⟩ := pow_facts n (by omega)
    obtain ⟨s1, s2⟩ := set_facts n (by omega) C (by omega) i hi
    obtain ⟨_, _, f3⟩ := bits_facts C (by omega) i (by omega)
    rw [run_loop, List.range'_succ, List.filter_cons]
    cases h1 : C.testBit i with
    | true =>
      have hok : okStep W C i = false := by simp [okStep, h1]
      rw [hok, if_neg (by simp)]
      obtain ⟨j', cap', G', z12, z13, h2, ih⟩ := loop_s_SafeStep (a0 := a0) (a2 := a2) (a3 := a3) (a4 := a4) (a5 := a5) (a8 := a8) (y11 := y11) (q := q) (c := c) (cw := cw) hn8 hF hC hW k (i + 1) o j cap G (.bool true) (.bool false) hw hne (by omega) (by omega) hG hcap
      refine ⟨j', cap', G', z12, z13, h2, ?_⟩
      generalize run T pr (.loop w_s_SafeStep_1) = R at ih ⊢
      have hb := bit_set (c := C) (i := i) (by omega) (by omega) h1
      simp +contextual only [w_s_SafeStep_1, hi, shr_nat, hb, show ¬ ((1 : Int) = 0) by omega, decide_false, wrap_succ (show i < 9223372036854775807 by omega), decide_true, go_sem, entry, joinEsc, if_pos, reduceIte, Nat.reduceAdd, Nat.reduceLeDiff, Nat.reduceLT, Nat.reduceEqDiff]
      simp only [List.length_append] at ih
      exact ih
    | false =>
      obtain ⟨_, g2, g3, g4⟩ := f3 h1
      have g2' : IntKind.i64.wrap ((C : Int) + shlI .i64 1 (i : Int)) = ((C + 2 ^ i : Nat) : Int) := g2
      have hlt := s1 h1
      have hb := bit_clear (c := C) (i := i) (by omega) (by omega) h1
      have hlt' : C + 2 ^ i < F := by omega
      have e2 := part_encI (ls := W) 1 (getD_get (W := W) (c := C + 2 ^ i) (by omega))
      cases h3 : decide (0 < W.getD (C + 2 ^ i) 0) with
      | false =>
        have hok : okStep W C i = false := by unfold okStep; rw [h1, h3]; rfl
        rw [hok, if_neg (by simp)]
        obtain ⟨j', cap', G', z12, z13, h2, ih⟩ := loop_s_SafeStep (a0 := a0) (a2 := a2) (a3 := a3) (a4 := a4) (a5 := a5) (a8 := a8) (y11 := y11) (q := q) (c := c) (cw := cw) hn8 hF hC hW k (i + 1) o j cap G (.bool true) (.bool false) hw hne (by omega) (by omega) hG hcap
        refine ⟨j', cap', G', z12, z13, h2, ?_⟩
        generalize run T pr (.loop w_s_SafeStep_1) = R at ih ⊢
        simp +contextual only [w_s_SafeStep_1, hw, hi, hlt', shr_nat, shl_nat, hb, g2', e2, h3, wrap_succ (show i < 9223372036854775807 by omega), decide_true, go_sem, entry, joinEsc, if_pos, reduceIte, Nat.reduceAdd, Nat.reduceLeDiff, Nat.reduceLT, Nat.reduceEqDiff]
        simp only [List.length_append] at ih
        exact ih
      | true =>
        have hok : okStep W C i = true := by unfold okStep; rw [h1, h3]; rfl
        rw [hok, if_pos rfl]
        have hmb : (o.length + 1) * 8 ≤ maxBytes := by unfold maxBytes; omega
        have hwl := cells_lt hw
        rw [List.length_append] at hwl
        obtain ⟨j', cap', G', z12, z13, h2, ih⟩ := loop_s_SafeStep (a0 := a0) (a2 := a2) (a3 := a3) (a4 := a4) (a5 := a5) (a8 := a8) (y11 := y11) (q := q) (c := c) (cw := cw) hn8 hF hC hW k (i + 1) (o ++ [(i : Int)]) (G.length + 1) none
          (killIf cap j (G ++ [.cells [.int .i64 i] true]) ++ [.cells (encI (o ++ [(i : Int)])) true]) (.bool true) (.bool true) (cells_kill hw hne) (by omega) (by omega) (by simp; omega) (by
            rw [List.getElem?_append_right (by simp [killIf_length])]; simp [killIf_length]) (by simp)
        rw [List.append_assoc, List.singleton_append, ← List.map_cons (f := fun (i : Nat) => (i : Int))] at h2 ih
        refine ⟨j', cap', G', z12, z13, h2, ?_⟩
        generalize run T pr (.loop w_s_SafeStep_1) = R at ih ⊢
        simp +contextual only [w_s_SafeStep_1, hw, hi, hlt', shr_nat, shl_nat, hb, g2', e2, h3, fillParts, append_in hG hcap hmb, wrap_succ (show i < 9223372036854775807 by omega), decide_true, go_sem, entry, joinEsc, if_pos, reduceIte, Nat.reduceAdd, Nat.reduceLeDiff, Nat.reduceLT, Nat.reduceEqDiff]
        simp only [List.length_append, List.length_cons, List.length_nil, Nat.zero_add, encI_append, List.map_cons, List.map_nil] at ih
        exact ih

/-- is the set one from which steps are told? -/
def canS (a b o : Int) (ls : List Ld) (os : List Int) : Bool := setOk a b o ls os && safeW a b o ls ((codeN 0 os : Nat) : Int)

def ssW (a b o : Int) (ls : List Ld) (os : List Int) : List Int := stepsW (waysW a b o ls) ls.length (codeN 0 os)

theorem ssW_le (a b o : Int) (ls : List Ld) (os : List Int) : (ssW a b o ls os).length ≤ ls.length := by
  unfold ssW stepsW
  rw [List.length_map]
  have := List.length_filter_le (okStep (waysW a b o ls) (codeN 0 os)) (List.range ls.length)
  simpa using this

end Go.Proofs.Ytlcklonakjhoiaa.Slim

/- Rafts: the law of the next safe steps. -/
namespace Go.Proofs.Ytlcklonakjhoiaa.Slim

open Go

set_option linter.unusedSimpArgs false

set_option linter.unusedVariables false

variable {pr : Prims} {H : List Blk} {e : Option Nat}

theorem code_lt {ls : List Ld} {os : List Int} (hn8 : ls.length ≤ 8) (h : rises ls.length (-1) os = true) : codeN 0 os < 2 ^ ls.length ∧ bitsF 0 os = ((codeN 0 os : Nat) : Int) := by
  obtain ⟨h1, h2⟩ := bitsF_code (n := ls.length) hn8 os (-1) 0 (by omega) (by omega) (by decide) h
  exact ⟨h2, h1⟩

theorem e_i_SafeStep_no {q q' : Nat} {c c' : Option Nat} {ls : List Ld} {os : List Int} (hq : cellsAt H q = some (encL ls)) (hls : ls.length ≤ 1048576) (hq' : cellsAt H q' = some (encI os)) (hn : os.length ≤ 9223372036854775806) (a b o : Int) (h : canS a b o ls os = false) :
    call T pr f_i_SafeStep [rfV a b o, slL q ls.length c, slI q' os.length c'] ⟨H, e⟩ = some (.tup [.slice none 0 0 none, .bool false], ⟨H, e⟩) := by
  rw [call_eq t_i_SafeStep]
  cases h1 : rises ls.length (-1) os with
  | false => simp +contextual only [a_i_SafeStep, c_i_SafeStep, e_i_bitsOf (cells_mono hq' _) hn hls, h1, finish_two_nb, go_sem, entry, joinEsc, if_pos, reduceIte, Nat.reduceAdd, Nat.reduceLeDiff, Nat.reduceLT, Nat.reduceEqDiff]
  | true =>
    cases h2 : cargoOk a b o ls with
    | false => simp +contextual only [a_i_SafeStep, c_i_SafeStep, e_i_bitsOf (cells_mono hq' _) hn hls, h1, e_i_areCargo (cells_mono hq _), h2, finish_two_nb, go_sem, entry, joinEsc, if_pos, reduceIte, Nat.reduceAdd, Nat.reduceLeDiff, Nat.reduceLT, Nat.reduceEqDiff]
    | true =>
      have hn8 := cargo_le h2
      obtain ⟨k1, k2⟩ := code_lt hn8 h1
      unfold canS setOk at h
      rw [h1, h2, Bool.and_self, Bool.true_and] at h
      simp +contextual only [a_i_SafeStep, c_i_SafeStep, e_i_bitsOf (cells_mono hq' _) hn hls, h1, e_i_areCargo (cells_mono hq _), h2, k2, e_i_Raft_isSafe (cells_mono hq _) (show ls.length ≤ 9223372036854775806 by omega), h, finish_two_nb, go_sem, entry, joinEsc, if_pos, reduceIte, Nat.reduceAdd, Nat.reduceLeDiff, Nat.reduceLT, Nat.reduceEqDiff]

theorem e_s_SafeStep_no {q q' : Nat} {c c' : Option Nat} {ls : List Ld} {os : List Int} (hq : cellsAt H q = some (encL ls)) (hq' : cellsAt H q' = some (encI os)) (hn : os.length ≤ 9223372036854775806) (a b o : Int) (h : canS a b o ls os = false) :
    call T pr f_s_SafeStep [rfV a b o, slL q ls.length c, slI q' os.length c'] ⟨H, e⟩ = some (.tup [slI H.length 0 (some 0), .bool false], ⟨H ++ [.cells [] true], e⟩) := by
  rw [call_eq t_s_SafeStep]
  have hf1 : ∀ (B : Blk) (e0 : Option Nat), finish 2 H.length e0 (.tup [slI (H.length + 1) 0 (some 0), .bool false]) ⟨H ++ [B, .cells [] true], none⟩ = some (.tup [slI H.length 0 (some 0), .bool false], ⟨H ++ [.cells [] true], e0⟩) := fun B e0 => finish_two_sb false e0 rfl rfl
  cases h1 : setOk a b o ls os with
  | false => simp +contextual only [a_s_SafeStep, c_s_SafeStep, e_s_l10Code (cells_mono hq _) (cells_mono hq' _) hn, h1, fillParts, hf1, go_sem, entry, joinEsc, if_pos, reduceIte, Nat.reduceAdd, Nat.reduceLeDiff, Nat.reduceLT, Nat.reduceEqDiff]
  | true =>
    have hn8 := cargo_le (Bool.and_eq_true_iff.mp h1).1
    unfold canS at h
    rw [h1, Bool.true_and] at h
    simp +contextual only [a_s_SafeStep, c_s_SafeStep, e_s_l10Code (cells_mono hq _) (cells_mono hq' _) hn, h1, e_s_l10Safe (cells_mono hq _) (show ls.length ≤ 9223372036854775806 by omega), h, fillParts, hf1, go_sem, entry, joinEsc, if_pos, reduceIte, Nat.reduceAdd, Nat.reduceLeDiff, Nat.reduceLT, Nat.reduceEqDiff]

theorem e_i_SafeStep {q q' : Nat} {c c' : Option Nat} {ls : List Ld} {os : List Int} (hq : cellsAt H q = some (encL ls)) (hq' : cellsAt H q' = some (encI os)) (hn : os.length ≤ 9223372036854775806) (a b o : Int) (h : canS a b o ls os = true) :
    ∃ cap, call T pr f_i_SafeStep [rfV a b o, slL q ls.length c, slI q' os.length c'] ⟨H, e⟩ = some (.tup [slI H.length (ssW a b o ls os).length cap, .bool true], ⟨H ++ [.cells (encI (ssW a b o ls os)) true], e⟩) := by
  unfold canS at h
  obtain ⟨h12, h3⟩ := Bool.and_eq_true_iff.mp h
  unfold setOk at h12
  obtain ⟨h2, h1⟩ := Bool.and_eq_true_iff.mp h12
  have hn8 := cargo_le h2
  obtain ⟨k1, k2⟩ := code_lt hn8 h1
  have hs : stepsW (waysW a b o ls) ls.length (codeN 0 os) = ssW a b o ls os := rfl
  obtain ⟨cp, hst⟩ := e_i_stepsFrom (pr := pr) (e := none) (H := H ++ [.cells [.int .i64 a, .int .i64 b, .int .i64 o] true, .cells (encI (waysW a b o ls)) true]) (q := q) (w := H.length + 1) (c := c) (cw := some (2 ^ ls.length)) hn8 rfl k1 (by simp [cellsAt, List.getElem?_append_right]) (waysW_length a b o ls)
  simp only [hs, List.length_append, List.length_cons, List.length_nil, Nat.zero_add, List.append_assoc, List.cons_append, List.nil_append, Nat.reduceAdd] at hst
  refine ⟨cp, ?_⟩
  have hf : ∀ (B B' : Blk) (cap : Option Nat) (e0 : Option Nat), finish 2 H.length e0 (.tup [slI (H.length + 2) (ssW a b o ls os).length cap, .bool true]) ⟨H ++ [B, B', .cells (encI (ssW a b o ls os)) true], none⟩ = some (.tup [slI H.length (ssW a b o ls os).length cap, .bool true], ⟨H ++ [.cells (encI (ssW a b o ls os)) true], e0⟩) :=
    fun B B' cap e0 => finish_two_sb true e0 rfl (under_encI _ _)
  rw [call_eq t_i_SafeStep]
  simp +contextual only [a_i_SafeStep, c_i_SafeStep, e_i_bitsOf (cells_mono hq' _) hn (show ls.length ≤ 1048576 by omega), h1, e_i_areCargo (cells_mono hq _), h2, k2, e_i_Raft_isSafe (cells_mono hq _) (show ls.length ≤ 9223372036854775806 by omega), h3, e_i_Raft_waysOf (cells_mono hq _) hn8, hst, hf, go_sem, entry, joinEsc, if_pos, reduceIte, Nat.reduceAdd, Nat.reduceLeDiff, Nat.reduceLT, Nat.reduceEqDiff]

theorem e_s_SafeStep {q q' : Nat} {c c' : Option Nat} {ls : List Ld} {os : List Int} (hq : cellsAt H q = some (encL ls)) (hq' : cellsAt H q' = some (encI os)) (hn : os.length ≤ 9223372036854775806) (a b o : Int) (h : canS a b o ls os = true) :
    ∃ cap, call T pr f_s_SafeStep [rfV a b o, slL q ls.length c, slI q' os.length c'] ⟨H, e⟩ = some (.tup [slI H.length (ssW a b o ls os).length cap, .bool true], ⟨H ++ [.cells (encI (ssW a b o ls os)) true], e⟩) := by
  unfold canS at h
  obtain ⟨h12, h3⟩ := Bool.and_eq_true_iff.mp h
  have h12' := h12
  unfold setOk at h12'
  obtain ⟨h2, h1⟩ := Bool.and_eq_true_iff.mp h12'
  have hn8 := cargo_le h2
  obtain ⟨k1, k2⟩ := code_lt hn8 h1
  have hs : (List.map (fun (i : Nat) => (i : Int)) ((List.range' 0 ls.length).filter (okStep (waysW a b o ls) (codeN 0 os)))) = ssW a b o ls os := by unfold ssW stepsW; rw [List.range_eq_range']
  obtain ⟨j', cap', G', z12, z13, m1, hl⟩ := loop_s_SafeStep (pr := pr) (H := H ++ [Blk.cells [.int .i64 a, .int .i64 b, .int .i64 o] true]) (a0 := rfV a b o) (a2 := slI q' os.length c') (a3 := .ptr (some (H.length, 0))) (a4 := .slice none 0 0 none) (a5 := .bool false) (a8 := .bool true) (y11 := .bool false) (q := q) (w := H.length + 2) (c := c) (cw := some (2 ^ ls.length)) hn8 rfl k1
    (waysW_length a b o ls) ls.length 0 [] 0 (some 0) [.cells [] true, .cells (encI (waysW a b o ls)) true] .undef .undef (by simp [cellsAt, List.getElem?_append_right]) (by simp) rfl (Nat.zero_le _) rfl (fun _ => rfl)
  have h0 : ((0 : Nat) : Int) = 0 := rfl
  rw [h0, List.nil_append, hs] at hl
  rw [List.nil_append, hs] at m1
  refine ⟨cap', ?_⟩
  simp only [List.length_append, List.length_cons, List.length_nil, Nat.zero_add, Nat.add_zero, List.append_assoc, List.cons_append, List.nil_append, Nat.reduceAdd, Nat.add_assoc] at hl
  have hf : ∀ (B : Blk) (e0 : Option Nat), finish 2 H.length e0 (.tup [slI (H.length + (1 + j')) (ssW a b o ls os).length cap', .bool true]) ⟨H ++ (B :: G'), none⟩ = some (.tup [slI H.length (ssW a b o ls os).length cap', .bool true], ⟨H ++ [.cells (encI (ssW a b o ls os)) true], e0⟩) :=
    fun B e0 => finish_two_sb true e0 (by rw [show 1 + j' = j' + 1 by omega]; exact m1) (under_encI _ _)
  rw [call_eq t_s_SafeStep]
  simp +contextual only [a_s_SafeStep, c_s_SafeStep, e_s_l10Code (cells_mono hq _) (cells_mono hq' _) hn, h12, e_s_l10Safe (cells_mono hq _) (show ls.length ≤ 9223372036854775806 by omega), h3, e_s_l10Ways (cells_mono hq _) hn8, fillParts, hl, hf, go_sem, entry, joinEsc, if_pos, reduceIte, Nat.reduceAdd, Nat.reduceLeDiff, Nat.reduceLT, Nat.reduceEqDiff]

theorem law_SafeStep {av av' : AV} {ls : List Ld} {os : List Int} (ha : ArgL H av ls) (hb : ArgI H av' os) (a b o : Int) : ∃ m', call T pr f_l_FnExactSafeStep [rfV a b o, av, av'] ⟨H, none⟩ = some (.bool true, m') := by
  refine ⟨⟨H, none⟩, ?_⟩
  have hsz : ∀ G e', call T pr f_l_szLoadS [av, .int .i64 1048576] ⟨G, e'⟩ = some (.int .i64 (if ls.length ≤ 1048576 then 1048576 - ls.length else -1), ⟨G, e'⟩) := by
    obtain ⟨p, sz, c, rfl, h2, h3⟩ := ha
    exact fun G e' => e_l_szLoadS ls.length p sz c h2
  have hlen : ∃ p sz c, av' = .slice p sz os.length c := by
    obtain ⟨p, sz, c, h1, _⟩ := hb
    exact ⟨p, sz, c, h1⟩
  rw [call_eq t_l_FnExactSafeStep]
  by_cases hm : os.length ≤ 1048576
  · have hm' : os.length ≤ 9223372036854775806 := by omega
    have hgt : decide ((os.length : Int) > 1048576) = false := decide_eq_false (by omega)
    have hgt' : decide ((1048576 : Int) < (os.length : Int)) = false := decide_eq_false (by omega)
    have hcopyI := fun G => e_l_toIntS (pr := pr) (e := none) (hb.more G) hm
    obtain ⟨p, sz, c, rfl⟩ := hlen
    by_cases hn : ls.length ≤ 1048576
    · have hn' : ls.length ≤ 9223372036854775806 := by omega
      have hneg : ¬ (1048576 - (ls.length : Int) < 0) := by omega
      have hcopy := fun G => e_l_toLoadS (pr := pr) (e := none) (ha.more G) hn
      have hmark : ∀ L b c, L[b]? = some (.cells (encL ls) true) → call T pr f_l_markLoadS [slL b ls.length c, .int .i64 1] ⟨L, none⟩ = some (.int .i64 ((1 + ls.length * 2 : Nat) : Int), ⟨L.set b (.cells (encL (markedL 1 ls.length)) true), none⟩) :=
        fun L b c h => e_l_markLoadS h (by omega) 1 (by omega)
      have hmark2 : ∀ L b c, L[b]? = some (.cells (encI os) true) → call T pr f_l_markIntS [slI b os.length c, .int .i64 ((1 + ls.length * 2 : Nat) : Int)] ⟨L, none⟩ = some (.int .i64 ((1 + ls.length * 2 + os.length : Nat) : Int), ⟨L.set b (.cells (encI (markedI (1 + ls.length * 2) os.length)) true), none⟩) :=
        fun L b c h => e_l_markIntS h (by omega) (1 + ls.length * 2) (by omega)
      have hk0 : ¬ (((1 + ls.length * 2 + os.length : Nat) : Int) < 0) := by omega
      have h10 : ¬ ((1 : Int) < 0) := by omega
      cases hcan : canS a b o ls os with
      | false =>
        have hs := fun L q c hq q' c' hq' => e_s_SafeStep_no (pr := pr) (H := L) (e := none) (q := q) (c := c) (ls := ls) (q' := q') (c' := c') (os := os) hq hq' hm' a b o hcan
        have hi := fun L q c hq q' c' hq' => e_i_SafeStep_no (pr := pr) (H := L) (e := none) (q := q) (c := c) (ls := ls) (q' := q') (c' := c') (os := os) hq hn hq' hm' a b o hcan
        simp +contextual only [a_l_FnExactSafeStep, c_l_FnExactSafeStep, hsz, hn, hm, hgt, hgt', hneg, decide_false, decide_true, e_l_toRaft, hcopy, hcopyI, hs, hi, e_l_eqIntS_none, e_l_markIntS_none, e_l_heldIntS_none, hmark, hmark2, hk0, h10, e_l_eqLoadS, e_l_eqIntS, hn', hm', beq_self_eq_true, go_sem, entry, joinEsc, if_pos, reduceIte, Nat.reduceAdd, Nat.reduceLeDiff, Nat.reduceLT, Nat.reduceEqDiff]
      | true =>
        have hl := ssW_le a b o ls os
        have hc8 := cargo_le (Bool.and_eq_true_iff.mp (Bool.and_eq_true_iff.mp hcan).1).1
        have hs := fun L q c hq q' c' hq' => hid_tup (e_s_SafeStep (pr := pr) (H := L) (e := none) (q := q) (c := c) (ls := ls) (q' := q') (c' := c') (os := os) hq hq' hm' a b o hcan)
        have hi := fun L q c hq q' c' hq' => hid_tup (e_i_SafeStep (pr := pr) (H := L) (e := none) (q := q) (c := c) (ls := ls) (q' := q') (c' := c') (os := os) hq hq' hm' a b o hcan)
        generalize ssW a b o ls os = rs at *
        have ho' : rs.length ≤ 9223372036854775806 := by omega
        have hmi : ∀ L b c, L[b]? = some (.cells (encI rs) true) → call T pr f_l_markIntS [slI b rs.length c, .int .i64 1] ⟨L, none⟩ = some (.int .i64 ((1 + rs.length : Nat) : Int), ⟨L.set b (.cells (encI (markedI 1 rs.length)) true), none⟩) :=
          fun L b c h => e_l_markIntS h (by omega) 1 (by omega)
        have hhe : ∀ L b c, cellsAt L b = some (encI (markedI 1 rs.length)) → call T pr f_l_heldIntS [slI b rs.length c, .int .i64 1] ⟨L, none⟩ = some (.int .i64 ((1 + rs.length : Nat) : Int), ⟨L, none⟩) :=
          fun L b c h => e_l_heldIntS (k := 1) h (by omega) (by omega)
        have hk1 : ¬ (((1 + rs.length : Nat) : Int) < 0) := by omega
        simp +contextual only [a_l_FnExactSafeStep, c_l_FnExactSafeStep, hsz, hn, hm, hgt, hgt', hneg, decide_false, decide_true, e_l_toRaft, hcopy, hcopyI, hs, hi, e_l_eqIntS, ho', hm', hmi, hhe, hk1, hmark, hmark2, hk0, h10, e_l_eqLoadS, hn', beq_self_eq_true, go_sem, entry, joinEsc, if_pos, reduceIte, Nat.reduceAdd, Nat.reduceLeDiff, Nat.reduceLT, Nat.reduceEqDiff]
    · simp +contextual only [a_l_FnExactSafeStep, c_l_FnExactSafeStep, hsz, hn, hgt, hgt', decide_true, show ((-1 : Int) < 0) by omega, go_sem, entry, joinEsc, if_pos, reduceIte, Nat.reduceAdd, Nat.reduceLeDiff, Nat.reduceLT, Nat.reduceEqDiff]
  · have hgt : decide ((os.length : Int) > 1048576) = true := decide_eq_true (by omega)
    have hgt' : decide ((1048576 : Int) < (os.length : Int)) = true := decide_eq_true (by omega)
    obtain ⟨p, sz, c, rfl⟩ := hlen
    simp +contextual only [a_l_FnExactSafeStep, c_l_FnExactSafeStep, hgt, hgt', go_sem, entry, joinEsc, if_pos, reduceIte, Nat.reduceAdd, Nat.reduceLeDiff, Nat.reduceLT, Nat.reduceEqDiff]

end Go.Proofs.Ytlcklonakjhoiaa.Slim

/- Rafts: sets, first tips, and ways, told plainly. -/
namespace Go.Proofs.Ytlcklonakjhoiaa.Slim

open Go

set_option linter.unusedSimpArgs false

set_option linter.unusedVariables false

/-- the items of the set m, in order -/
def setL (n m : Nat) : List Int := ((List.range n).filter fun i => m.testBit i).map fun (i : Nat) => (i : Int)

theorem setL_facts : ∀ n : Nat, n < 9 → ∀ m : Nat, m < 2 ^ n → rises n (-1) (setL n m) = true ∧ codeN 0 (setL n m) = m := by decide +kernel

theorem setL_len (n m : Nat) : (setL n m).length ≤ n := by
  unfold setL
  rw [List.length_map]
  exact Nat.le_trans (List.length_filter_le _ _) (by simp)

theorem setL_succ (n m : Nat) : setL (n + 1) m = setL n m ++ (if m.testBit n = true then [(n : Int)] else []) := by
  unfold setL
  rw [List.range_succ, List.filter_append, List.map_append]
  cases h : m.testBit n <;> simp [h]

theorem codeN_snoc : ∀ (xs : List Int) (m : Nat) (x : Int), codeN m (xs ++ [x]) = codeN m xs + 2 ^ x.toNat
  | [], m, x => rfl
  | y :: xs, m, x => by
    rw [List.cons_append, codeN, codeN]
    exact codeN_snoc xs _ x

theorem ordOk_snoc {n : Nat} : ∀ (xs : List Int) (m : Nat) (x : Int), ordOk n m (xs ++ [x]) = (ordOk n m xs && ((decide (0 ≤ x) && decide (x ≤ (n : Int) - 1)) && !(codeN m xs).testBit x.toNat))
  | [], m, x => by simp [ordOk, codeN]
  | y :: xs, m, x => by
    rw [List.cons_append, ordOk, ordOk, codeN, ordOk_snoc xs]
    simp only [Bool.and_assoc]

theorem tipFrom_snoc {a b o : Int} {ls : List Ld} : ∀ (xs : List Int) (i m : Nat) (x : Int), tipFrom a b o ls i m (xs ++ [x]) = if tipFrom a b o ls i m xs = 0 then (if safeW a b o ls ((codeN m xs + 2 ^ x.toNat : Nat) : Int) = true then 0 else i + xs.length + 1) else tipFrom a b o ls i m xs
  | [], i, m, x => by
    rw [List.nil_append, tipFrom, codeN]
    simp only [tipFrom, List.length_nil, Nat.add_zero, if_true]
  | y :: xs, i, m, x => by
    rw [List.cons_append, tipFrom, tipFrom, codeN]
    by_cases h : safeW a b o ls ((m + 2 ^ y.toNat : Nat) : Int) = true
    · rw [if_pos h, if_pos h, tipFrom_snoc xs, List.length_cons, show i + 1 + xs.length + 1 = i + (xs.length + 1) + 1 by omega]
    · rw [if_neg h, if_neg h, if_neg (by omega)]

theorem tipFrom_le {a b o : Int} {ls : List Ld} : ∀ (xs : List Int) (i m : Nat), tipFrom a b o ls i m xs ≤ i + xs.length
  | [], i, m => by simp [tipFrom]
  | y :: xs, i, m => by
    rw [tipFrom]
    split
    · have := tipFrom_le (a := a) (b := b) (o := o) (ls := ls) xs (i + 1) (m + 2 ^ y.toNat)
      simp only [List.length_cons]; omega
    · simp only [List.length_cons]; omega

/-- the items of an order's start are told by its number -/
theorem code_mem {n : Nat} (hn8 : n ≤ 8) : ∀ (xs : List Int) (m : Nat), m < 2 ^ n → ordOk n m xs = true → codeN m xs < 2 ^ n ∧ ∀ i : Nat, i < n → (codeN m xs).testBit i = (m.testBit i || decide ((i : Int) ∈ xs))
  | [], m, hm, _ => ⟨hm, fun i _ => by simp [codeN]⟩
  | y :: xs, m, hm, ho => by
    rw [ordOk, Bool.and_eq_true, Bool.and_eq_true, Bool.and_eq_true, decide_eq_true_eq, decide_eq_true_eq, Bool.not_eq_true'] at ho
    obtain ⟨⟨⟨h0, h1⟩, h2⟩, h3⟩ := ho
    obtain ⟨z, rfl⟩ : ∃ z : Nat, y = z := ⟨y.toNat, by omega⟩
    rw [Int.toNat_natCast] at h2 h3
    have hp8 : (2 : Nat) ^ n ≤ 2 ^ 8 := Nat.pow_le_pow_right (by omega) hn8
    have h256 : (2 : Nat) ^ 8 = 256 := by decide
    have hz := (set_facts n (by omega) m hm z (by omega)).1 h2
    obtain ⟨_, _, f3⟩ := bits_facts m (by omega) z (by omega)
    obtain ⟨_, _, _, f4⟩ := f3 h2
    rw [codeN, Int.toNat_natCast]
    obtain ⟨r1, r2⟩ := code_mem hn8 xs (m + 2 ^ z) hz h3
    refine ⟨r1, fun i hi => ?_⟩
    rw [r2 i hi, f4 i (by omega)]
    have : decide ((i : Int) ∈ ((z : Nat) : Int) :: xs) = (decide (z = i) || decide ((i : Int) ∈ xs)) := by
      rw [Bool.eq_iff_iff]
      simp only [List.mem_cons, Bool.or_eq_true, decide_eq_true_eq, Int.natCast_inj]
      exact ⟨fun h => h.imp Eq.symm id, fun h => h.imp Eq.symm id⟩
    rw [this, Bool.or_assoc]

theorem setL_of_mem {n : Nat} (hn8 : n ≤ 8) {xs : List Int} (ho : ordOk n 0 xs = true) : ((List.range n).filter fun (i : Nat) => decide ((i : Int) ∈ xs)).map (fun (i : Nat) => (i : Int)) = setL n (codeN 0 xs) := by
  obtain ⟨_, h⟩ := code_mem hn8 xs 0 (Nat.two_pow_pos n) ho
  unfold setL
  congr 1
  apply List.filter_congr
  intro i hi
  rw [h i (List.mem_range.mp hi), Nat.zero_testBit, Bool.false_or]

theorem ordOk_take {n : Nat} : ∀ (xs : List Int) (m k : Nat), ordOk n m xs = true → ordOk n m (xs.take k) = true
  | [], m, k, _ => by simp [ordOk]
  | y :: xs, m, 0, _ => rfl
  | y :: xs, m, k + 1, h => by
    rw [ordOk, Bool.and_eq_true] at h
    rw [List.take_succ_cons, ordOk, Bool.and_eq_true]
    exact ⟨h.1, ordOk_take xs _ k h.2⟩

/-- to which side it tips -/
def sideR (a b o : Int) (ls : List Ld) (n : Int) : Int := if overBits (resL a) n 0 ls (own0 a b o) < 0 then -1 else if overBits (resR b) n 0 ls (own0 a b o) < 0 then 1 else 0

theorem sideR_zero (a b o : Int) (ls : List Ld) (n : Int) : (sideR a b o ls n = 0) ↔ safeW a b o ls n = true := by
  unfold sideR safeW
  simp only [Bool.and_eq_true, decide_eq_true_eq]
  split
  · omega
  · split <;> omega

/-- how many of the first sets are safe -/
def cntS (a b o : Int) (ls : List Ld) : Nat → Nat
  | 0 => 0
  | k + 1 => cntS a b o ls k + if safeW a b o ls (k : Int) = true then 1 else 0

theorem cntS_le (a b o : Int) (ls : List Ld) : ∀ k, cntS a b o ls k ≤ k
  | 0 => Nat.le_refl _
  | k + 1 => by
    have := cntS_le a b o ls k
    rw [cntS]
    split <;> omega

end Go.Proofs.Ytlcklonakjhoiaa.Slim

/- Rafts: how ways are counted, told plainly. -/
namespace Go.Proofs.Ytlcklonakjhoiaa.Slim

open Go

set_option linter.unusedSimpArgs false

set_option linter.unusedVariables false

theorem nat_bits8 : ∀ c : Nat, c < 256 → ∀ i : Nat, i < 8 → c.testBit i = true → 2 ^ i ≤ c ∧ (c - 2 ^ i).testBit i = false := by decide +kernel

theorem nat_bits9 : ∀ c : Nat, c < 256 → ∀ i : Nat, i < 8 → c.testBit i = false → (c + 2 ^ i).testBit i = true := by decide +kernel

theorem any_same {p q : Nat → Bool} : ∀ (l : List Nat), (∀ i ∈ l, p i = q i) → l.any p = l.any q
  | [], _ => rfl
  | i :: l, h => by rw [List.any_cons, List.any_cons, h i (by simp), any_same l (fun j hj => h j (by simp [hj]))]

/-- the ways behind c, item by item (see t_s_l10Ways) -/
def sumW (W : List Int) (c : Nat) : Nat → Nat → Int
  | 0, _ => 0
  | k + 1, i => (if c.testBit i = true then 0 else W.getD (c + 2 ^ i) 0) + sumW W c k (i + 1)

theorem sumW_of {c : Nat} {W W' : List Int} (h : ∀ d, c < d → W'.getD d 0 = W.getD d 0) : ∀ k i, sumW W' c k i = sumW W c k i
  | 0, _ => rfl
  | k + 1, i => by
    have := Nat.two_pow_pos i
    rw [sumW, sumW, sumW_of h k, h _ (by omega)]

theorem waysIn_val {c n b : Nat} : ∀ (k i : Nat) (W : List Int), k + i = n → c < W.length → (∀ j, j < n → c.testBit j = false → 0 ≤ W.getD (c + 2 ^ j) 0 ∧ W.getD (c + 2 ^ j) 0 ≤ b) → 0 ≤ W.getD c 0 → W.getD c 0 + k * b ≤ 9223372036854775807 →
    (waysIn c k i W).getD c 0 = W.getD c 0 + sumW W c k i
  | 0, i, W, hk, hc, hb, h0, hm => by
    rw [waysIn, sumW, Int.add_zero]
  | k + 1, i, W, hk, hc, hb, h0, hm => by
    rw [waysIn, sumW]
    have hkb : ((k + 1 : Nat) : Int) * (b : Int) = (k : Int) * b + b := by
      rw [Int.natCast_add, Int.add_mul]; simp
    have hkb0 : (0 : Int) ≤ (k : Int) * b := Int.mul_nonneg (by omega) (by omega)
    cases h1 : c.testBit i with
    | true =>
      rw [if_pos rfl, if_pos rfl, Int.zero_add]
      exact waysIn_val (n := n) (b := b) k (i + 1) W (by omega) hc hb h0 (by omega)
    | false =>
      rw [if_neg (by simp), if_neg (by simp)]
      obtain ⟨b1, b2⟩ := hb i (by omega) h1
      have hwr : wr (W.getD c 0 + W.getD (c + 2 ^ i) 0) = W.getD c 0 + W.getD (c + 2 ^ i) 0 := wrap64 (by omega) (by omega)
      rw [hwr]
      generalize hx : W.getD c 0 + W.getD (c + 2 ^ i) 0 = x
      have hne : ∀ j, c + 2 ^ j ≠ c := fun j hj => by have := Nat.two_pow_pos j; omega
      have gs := fun d => getD_set W c d x hc
      have hr := waysIn_val (c := c) (n := n) (b := b) k (i + 1) (W.set c x) (by omega) (by simpa using hc)
        (fun j hj hjc => by rw [gs, if_neg (fun h => hne j h.symm)]; exact hb j hj hjc) (by rw [gs, if_pos rfl]; omega) (by rw [gs, if_pos rfl]; omega)
      rw [hr, gs c, if_pos rfl, sumW_of (W := W) (fun d hd => by rw [gs, if_neg (by omega)])]
      omega

/-- what c's ways are -/
def valW (safe : Nat → Bool) (n : Nat) (W : List Int) (c : Nat) : Prop := W.getD c 0 = if safe c = true then (if c + 1 = 2 ^ n then 1 else sumW W c n 0) else 0

theorem valW_of {safe : Nat → Bool} {n c : Nat} {W W' : List Int} (hs : ∀ d, c ≤ d → W'.getD d 0 = W.getD d 0) (h : valW safe n W c) : valW safe n W' c := by
  unfold valW at *
  rw [hs c (Nat.le_refl _), h, sumW_of (fun d hd => hs d (by omega))]

theorem waysDown_val {n F : Nat} (safe : Nat → Bool) (hn8 : n ≤ 8) (hF : F = 2 ^ n) : ∀ (C : Nat) (W : List Int), C ≤ F → W.length = F → (∀ c, c < C → W.getD c 0 = 0) → (∀ c, C ≤ c → c < F → goodW n W c ∧ valW safe n W c) →
    ∀ c, c < F → valW safe n (waysDown safe n C W) c
  | 0, W, _, _, _, h => fun c hc => by rw [waysDown]; exact (h c (by omega) hc).2
  | C + 1, W, hC, hW, hz, h => by
    rw [waysDown]
    have hgood := waysDown_good safe hn8 hF (C + 1) W hC hW hz (fun c h1 h2 => (h c h1 h2).1)
    have hz0 := hz C (by omega)
    have hCW : C < W.length := by omega
    obtain ⟨m1, m2, m3⟩ := mu_facts n (by omega) C (by omega)
    have key : (∀ d, d ≠ C → (waysStep safe n C W).getD d 0 = W.getD d 0) ∧ goodW n (waysStep safe n C W) C ∧ valW safe n (waysStep safe n C W) C := by
      unfold waysStep
      cases hs : safe C with
      | false =>
        rw [if_neg (by simp)]
        refine ⟨fun d _ => rfl, ⟨by omega, ?_, fun k1 => by omega⟩, ?_⟩
        · rw [hz0]; exact Int.natCast_nonneg _
        · unfold valW; rw [hs, if_neg (by simp)]; exact hz0
      | true =>
        rw [if_pos rfl]
        by_cases hc : C + 1 = 2 ^ n
        · rw [if_pos hc]
          have gs := fun d => getD_set W C d 1 hCW
          have hm0 := m2.mpr hc
          refine ⟨fun d hd => by rw [gs, if_neg (fun h => hd h.symm)], ⟨?_, ?_, fun _ k2 => absurd hm0 k2⟩, ?_⟩
          · rw [gs, if_pos rfl]; omega
          · rw [gs, if_pos rfl, hm0]; simp
          · unfold valW; rw [gs, if_pos rfl, hs, if_pos rfl, if_pos hc]
        · rw [if_neg hc]
          have hm0 : mu n C ≠ 0 := fun h => hc (m2.mp h)
          obtain ⟨m', hm'⟩ : ∃ m', mu n C = m' + 1 := ⟨mu n C - 1, by omega⟩
          have hp : 8 ^ m' ≤ 8 ^ 7 := Nat.pow_le_pow_right (by omega) (by omega)
          have hnb : (n : Int) * ((8 ^ m' : Nat) : Int) ≤ 8 * ((8 ^ m' : Nat) : Int) := Int.mul_le_mul_of_nonneg_right (by omega) (Int.natCast_nonneg _)
          have h87 : (8 : Nat) ^ 7 = 2097152 := by decide
          have hall : ∀ j, j < n → C.testBit j = false → 0 ≤ W.getD (C + 2 ^ j) 0 ∧ W.getD (C + 2 ^ j) 0 ≤ ((8 ^ m' : Nat) : Int) := fun j hj hjc => by
            have hlt := (set_facts n (by omega) C (by omega) j hj).1 hjc
            obtain ⟨g1, g2, _⟩ := (h (C + 2 ^ j) (by have := Nat.two_pow_pos j; omega) (by omega)).1
            have := m3 j hj hjc
            rw [show mu n (C + 2 ^ j) = m' by omega] at g2
            exact ⟨g1, g2⟩
          obtain ⟨r1, r2, r3, r4⟩ := waysIn_spec (c := C) (n := n) (b := 8 ^ m') n 0 W (by omega) hCW hall (by omega) (by omega)
          have rv := waysIn_val (c := C) (n := n) (b := 8 ^ m') n 0 W (by omega) hCW hall (by omega) (by omega)
          refine ⟨r1, ⟨by omega, ?_, fun k1 _ => ?_⟩, ?_⟩
          · rw [hm', Nat.pow_succ]
            omega
          · obtain ⟨j, j1, j2⟩ := r4 (by omega)
            refine ⟨j, j1, ?_⟩
            unfold okStep at j2 ⊢
            rw [r1 _ (by have := Nat.two_pow_pos j; omega)]
            exact j2
          · unfold valW
            rw [rv, hs, if_pos rfl, if_neg hc, hz0, Int.zero_add, sumW_of (W := W) (fun d hd => r1 d (by omega))]
    obtain ⟨k1, k2, k3⟩ := key
    refine waysDown_val safe hn8 hF C _ (by omega) (by rw [waysStep_length]; exact hW) (fun c hc => by rw [k1 c (by omega)]; exact hz c (by omega)) ?_
    intro c hc1 hc2
    by_cases he : c = C
    · rw [he]; exact ⟨k2, k3⟩
    · have := h c (by omega) hc2
      exact ⟨goodW_of (W := W) (fun d hd => k1 d (by omega)) this.1, valW_of (W := W) (fun d hd => k1 d (by omega)) this.2⟩

theorem waysW_val {a b o : Int} {ls : List Ld} (hn8 : ls.length ≤ 8) : ∀ c, c < 2 ^ ls.length → valW (fun c => safeW a b o ls (c : Int)) ls.length (waysW a b o ls) c :=
  waysDown_val _ hn8 rfl _ _ (Nat.le_refl _) (by simp) (fun c hc => by rw [List.getD_eq_getElem?_getD, List.getElem?_replicate, if_pos hc]; rfl) (fun c h1 h2 => absurd h1 (by omega))

theorem sumW_pos {W : List Int} {c : Nat} : ∀ k i, (∀ j, i ≤ j → j < i + k → c.testBit j = false → 0 ≤ W.getD (c + 2 ^ j) 0) → 0 ≤ sumW W c k i ∧ ∀ j, i ≤ j → j < i + k → c.testBit j = false → W.getD (c + 2 ^ j) 0 ≤ sumW W c k i
  | 0, i, _ => ⟨Int.le_refl _, fun j h1 h2 => by omega⟩
  | k + 1, i, h => by
    obtain ⟨r1, r2⟩ := sumW_pos (W := W) (c := c) k (i + 1) (fun j h1 h2 h3 => h j (by omega) (by omega) h3)
    rw [sumW]
    have hi := h i (Nat.le_refl _) (by omega)
    have h0 : 0 ≤ (if c.testBit i = true then 0 else W.getD (c + 2 ^ i) 0) := by
      split
      · exact Int.le_refl _
      · rename_i hb; exact hi (by simpa using hb)
    refine ⟨by omega, fun j h1 h2 h3 => ?_⟩
    by_cases hj : j = i
    · subst hj
      rw [if_neg (by simp [h3])]
      omega
    · have := r2 j (by omega) (by omega) h3
      omega

theorem sumW_mono {W V : List Int} {c : Nat} : ∀ k i, (∀ j, i ≤ j → j < i + k → c.testBit j = false → W.getD (c + 2 ^ j) 0 ≤ V.getD (c + 2 ^ j) 0) → sumW W c k i ≤ sumW V c k i
  | 0, i, _ => Int.le_refl _
  | k + 1, i, h => by
    have hr := sumW_mono (W := W) (V := V) (c := c) k (i + 1) (fun j h1 h2 h3 => h j (by omega) (by omega) h3)
    rw [sumW, sumW]
    split
    · omega
    · rename_i hb
      have := h i (Nat.le_refl _) (by omega) (by simpa using hb)
      omega

/-- what is known of the ways of all sets -/
structure Ways (safe : Nat → Bool) (n : Nat) (W : List Int) : Prop where
  n8 : n ≤ 8
  good : ∀ c, c < 2 ^ n → goodW n W c
  val : ∀ c, c < 2 ^ n → valW safe n W c

theorem waysW_all {a b o : Int} {ls : List Ld} (hn8 : ls.length ≤ 8) : Ways (fun c => safeW a b o ls (c : Int)) ls.length (waysW a b o ls) := ⟨hn8, waysW_good hn8, waysW_val hn8⟩

section
variable {safe : Nat → Bool} {n : Nat} {W : List Int}

theorem Ways.isSafe (h : Ways safe n W) {c : Nat} (hc : c < 2 ^ n) (hp : 0 < W.getD c 0) : safe c = true := by
  have := h.val c hc
  unfold valW at this
  cases hs : safe c with
  | true => rfl
  | false => rw [hs, if_neg (by simp)] at this; omega

theorem Ways.full (h : Ways safe n W) {c : Nat} (hc : c + 1 = 2 ^ n) (hs : safe c = true) : W.getD c 0 = 1 := by
  have := h.val c (by omega)
  unfold valW at this
  rwa [if_pos hs, if_pos hc] at this

theorem Ways.of_step (h : Ways safe n W) {c i : Nat} (hc : c < 2 ^ n) (hi : i < n) (hb : c.testBit i = false) (hs : safe c = true) (hp : 0 < W.getD (c + 2 ^ i) 0) : 0 < W.getD c 0 := by
  have hv := h.val c hc
  unfold valW at hv
  have hnf : ¬ c + 1 = 2 ^ n := fun hf => by
    have h8 := h.n8
    have := (set_facts n (by omega) c hc i hi).2 hf
    rw [hb] at this; cases this
  rw [if_pos hs, if_neg hnf] at hv
  obtain ⟨s1, s2⟩ := sumW_pos (W := W) (c := c) n 0 (fun j _ hj hjb => by
    have h8 := h.n8
    exact (h.good (c + 2 ^ j) ((set_facts n (by omega) c hc j (by omega)).1 hjb)).1)
  have := s2 i (Nat.zero_le _) (by omega) hb
  omega

theorem Ways.step (h : Ways safe n W) {c : Nat} (hc : c < 2 ^ n) (hp : 0 < W.getD c 0) (hf : ¬ c + 1 = 2 ^ n) : ∃ i, i < n ∧ c.testBit i = false ∧ c + 2 ^ i < 2 ^ n ∧ 0 < W.getD (c + 2 ^ i) 0 := by
  have h8 := h.n8
  obtain ⟨i, i1, i2⟩ := (h.good c hc).2.2 hp (fun h0 => hf ((mu_facts n (by omega) c hc).2.1.mp h0))
  unfold okStep at i2
  rw [Bool.and_eq_true, Bool.not_eq_true', decide_eq_true_eq] at i2
  exact ⟨i, i1, i2.1, (set_facts n (by omega) c hc i i1).1 i2.1, i2.2⟩

theorem Ways.mono {safe' : Nat → Bool} {V : List Int} (h : Ways safe n W) (h' : Ways safe' n V) (hs : ∀ c, c < 2 ^ n → safe c = true → safe' c = true) : ∀ (k c : Nat), k + c + 1 = 2 ^ n → W.getD c 0 ≤ V.getD c 0 := by
  intro k
  induction k using Nat.strongRecOn with
  | _ k ih =>
    intro c hk
    have h8 := h.n8
    have v1 := h.val c (by omega)
    have v2 := h'.val c (by omega)
    unfold valW at v1 v2
    have g2 := (h'.good c (by omega)).1
    cases hc : safe c with
    | false => rw [hc, if_neg (by simp)] at v1; omega
    | true =>
      rw [if_pos hc] at v1
      rw [if_pos (hs c (by omega) hc)] at v2
      by_cases hf : c + 1 = 2 ^ n
      · rw [if_pos hf] at v1 v2; omega
      · rw [if_neg hf] at v1 v2
        rw [v1, v2]
        apply sumW_mono
        intro j _ hj hb
        have := (set_facts n (by omega) c (by omega) j (by omega)).1 hb
        have hp := Nat.two_pow_pos j
        exact ih (k - 2 ^ j) (by omega) (c + 2 ^ j) (by omega)

theorem Ways.mono0 {safe' : Nat → Bool} {V : List Int} (h : Ways safe n W) (h' : Ways safe' n V) (hs : ∀ c, c < 2 ^ n → safe c = true → safe' c = true) : W.getD 0 0 ≤ V.getD 0 0 :=
  h.mono h' hs (2 ^ n - 1) 0 (by have := Nat.two_pow_pos n; omega)

theorem nat_bits {n : Nat} (h8 : n ≤ 8) {c i : Nat} (hc : c < 2 ^ n) (hi : i < n) : (c.testBit i = true → 2 ^ i ≤ c ∧ (c - 2 ^ i).testBit i = false) ∧ (c.testBit i = false → c + 2 ^ i < 2 ^ n ∧ (c + 2 ^ i).testBit i = true) := by
  have hp8 : (2 : Nat) ^ n ≤ 2 ^ 8 := Nat.pow_le_pow_right (by omega) h8
  have h256 : (2 : Nat) ^ 8 = 256 := by decide
  exact ⟨nat_bits8 c (by omega) i (by omega), fun h => ⟨(set_facts n (by omega) c hc i hi).1 h, nat_bits9 c (by omega) i (by omega) h⟩⟩

theorem back_at (safe : Nat → Bool) (n : Nat) {c : Nat} (hc : c < 2 ^ n) : (backL safe n (2 ^ n)).getD c false = (safe c && (decide (c = 0) || (List.range n).any (okDown (backL safe n (2 ^ n)) c))) := by
  rw [backL_val safe n _ hc]
  unfold backV
  congr 2
  apply any_same
  intro i _
  unfold okDown
  cases hb : c.testBit i with
  | false => rfl
  | true =>
    rw [Bool.true_and, Bool.true_and]
    have hp := Nat.two_pow_pos i
    by_cases h0 : c = 0
    · subst h0; simp at hb
    · rw [backL_getD safe n _ hc (by omega)]

end

end Go.Proofs.Ytlcklonakjhoiaa.Slim

/- Rafts: safe orders there and back, and heavier rafts, told plainly. -/
namespace Go.Proofs.Ytlcklonakjhoiaa.Slim

open Go

set_option linter.unusedSimpArgs false

set_option linter.unusedVariables false

section
variable {safe : Nat → Bool} {n : Nat} {W : List Int}

theorem back_safe {c : Nat} (hc : c < 2 ^ n) (h : (backL safe n (2 ^ n)).getD c false = true) : safe c = true := by
  rw [back_at safe n hc, Bool.and_eq_true] at h
  exact h.1

theorem back_step {c : Nat} (hc : c < 2 ^ n) (h : (backL safe n (2 ^ n)).getD c false = true) (h0 : c ≠ 0) : ∃ i, i < n ∧ c.testBit i = true ∧ (backL safe n (2 ^ n)).getD (c - 2 ^ i) false = true := by
  rw [back_at safe n hc, Bool.and_eq_true, Bool.or_eq_true, decide_eq_true_eq, List.any_eq_true] at h
  rcases h.2 with h | ⟨i, i1, i2⟩
  · exact absurd h h0
  · unfold okDown at i2
    rw [Bool.and_eq_true] at i2
    exact ⟨i, List.mem_range.mp i1, i2.1, i2.2⟩

theorem back_of {c i : Nat} (h8 : n ≤ 8) (hc : c < 2 ^ n) (hi : i < n) (hb : c.testBit i = false) (h : (backL safe n (2 ^ n)).getD c false = true) (hs : safe (c + 2 ^ i) = true) : (backL safe n (2 ^ n)).getD (c + 2 ^ i) false = true := by
  obtain ⟨b1, b2⟩ := (nat_bits h8 hc hi).2 hb
  rw [back_at safe n b1, hs, Bool.true_and, Bool.or_eq_true, List.any_eq_true]
  refine .inr ⟨i, List.mem_range.mpr hi, ?_⟩
  unfold okDown
  rw [b2, Bool.true_and, Nat.add_sub_cancel]
  exact h

theorem ways_up (h : Ways safe n W) : ∀ (k c : Nat), k + c + 1 = 2 ^ n → 0 < W.getD c 0 → (backL safe n (2 ^ n)).getD c false = true → (backL safe n (2 ^ n)).getD (2 ^ n - 1) false = true := by
  intro k
  induction k using Nat.strongRecOn with
  | _ k ih =>
    intro c hk hp hb
    by_cases hf : c + 1 = 2 ^ n
    · rw [show 2 ^ n - 1 = c by omega]; exact hb
    · obtain ⟨i, i1, i2, i3, i4⟩ := h.step (by omega) hp hf
      have h2 := Nat.two_pow_pos i
      exact ih (k - 2 ^ i) (by omega) (c + 2 ^ i) (by omega) i4 (back_of h.n8 (by omega) i1 i2 hb (h.isSafe i3 i4))

theorem ways_down (h : Ways safe n W) : ∀ (c : Nat), c < 2 ^ n → 0 < W.getD c 0 → (backL safe n (2 ^ n)).getD c false = true → 0 < W.getD 0 0 := by
  intro c
  induction c using Nat.strongRecOn with
  | _ c ih =>
    intro hc hp hb
    by_cases h0 : c = 0
    · subst h0; exact hp
    · obtain ⟨i, i1, i2, i3⟩ := back_step hc hb h0
      have h2 := Nat.two_pow_pos i
      obtain ⟨b1, b2⟩ := (nat_bits h.n8 hc i1).1 i2
      exact ih (c - 2 ^ i) (by omega) (by omega) (h.of_step (i := i) (by omega) i1 b2 (back_safe (by omega) i3) (by rw [Nat.sub_add_cancel b1]; exact hp)) i3

/-- there is a way from no items to all, told from both ends -/
theorem ways_back (h : Ways safe n W) : 0 < W.getD 0 0 ↔ (backL safe n (2 ^ n)).getD (2 ^ n - 1) false = true := by
  have hp := Nat.two_pow_pos n
  constructor
  · intro h0
    refine ways_up h (2 ^ n - 1) 0 (by omega) h0 ?_
    rw [back_at safe n (by omega), h.isSafe (by omega) h0]
    simp
  · intro hb
    refine ways_down h (2 ^ n - 1) (by omega) ?_ hb
    rw [h.full (by omega) (back_safe (by omega) hb)]
    omega

end

section
variable {a b o : Int} {ls : List Ld}

theorem order_safe (h8 : ls.length ≤ 8) : ∀ (k c i : Nat), c < 2 ^ ls.length → mu ls.length c = k → 0 < (waysW a b o ls).getD c 0 → ordOk ls.length c (orderW (waysW a b o ls) ls.length k c) = true ∧ tipFrom a b o ls i c (orderW (waysW a b o ls) ls.length k c) = 0
  | 0, c, i, _, _, _ => ⟨rfl, rfl⟩
  | k + 1, c, i, hc, hk, hp => by
    have hw := waysW_all (a := a) (b := b) (o := o) h8
    obtain ⟨f1, f2, _, _⟩ := first_spec (hw.good c hc) hp (by omega)
    unfold okStep at f2
    rw [Bool.and_eq_true, Bool.not_eq_true', decide_eq_true_eq] at f2
    rw [orderW, ordOk, tipFrom, Int.toNat_natCast]
    generalize firstW (waysW a b o ls) ls.length c = f at *
    obtain ⟨f3, f4⟩ := f2
    have hlt := ((nat_bits h8 hc f1).2 f3).1
    have hmu := (mu_facts ls.length (by omega) c hc).2.2 f f1 f3
    obtain ⟨r1, r2⟩ := order_safe h8 k (c + 2 ^ f) (i + 1) hlt (by omega) f4
    have hs : safeW a b o ls ((c + 2 ^ f : Nat) : Int) = true := hw.isSafe hlt f4
    rw [r1, r2, hs, f3]
    constructor
    · simp; omega
    · rw [if_pos rfl]

theorem unload_safe (h8 : ls.length ≤ 8) : ∀ (k c : Nat), c < 2 ^ ls.length → nu ls.length c = k → (backW a b o ls).getD c false = true → ordOk ls.length 0 (unloadL (backW a b o ls) ls.length k c).reverse = true ∧ codeN 0 (unloadL (backW a b o ls) ls.length k c).reverse = c ∧ tipFrom a b o ls 0 0 (unloadL (backW a b o ls) ls.length k c).reverse = 0
  | 0, c, hc, hk, hb => by
    have := (nu_facts ls.length (by omega) c hc).1.mp hk
    subst this
    exact ⟨rfl, rfl, rfl⟩
  | k + 1, c, hc, hk, hb => by
    have h0 : c ≠ 0 := fun h0 => by
      have := (nu_facts ls.length (by omega) c hc).1.mpr h0
      omega
    have hst := back_good (safe := fun c => safeW a b o ls (c : Int)) rfl h8 hc hb h0
    obtain ⟨f1, f2, _⟩ := firstD_spec hst
    have hb' : (backL (fun c => safeW a b o ls (c : Int)) ls.length (2 ^ ls.length)) = backW a b o ls := rfl
    rw [hb'] at f1 f2
    unfold okDown at f2
    rw [Bool.and_eq_true] at f2
    rw [unloadL, List.reverse_cons]
    generalize firstD (backW a b o ls) ls.length c = f at *
    obtain ⟨f3, f4⟩ := f2
    obtain ⟨b1, b2⟩ := (nat_bits h8 hc f1).1 f3
    have hnu := (nu_facts ls.length (by omega) c hc).2.2 f f1 f3
    have hpf := Nat.two_pow_pos f
    obtain ⟨r1, r2, r3⟩ := unload_safe h8 k (c - 2 ^ f) (by omega) (by omega) f4
    have hs : safeW a b o ls (c : Int) = true := back_safe (safe := fun c => safeW a b o ls (c : Int)) hc hb
    rw [ordOk_snoc, codeN_snoc, tipFrom_snoc, r1, r2, r3, Int.toNat_natCast, b2, Nat.sub_add_cancel b1, hs]
    refine ⟨?_, rfl, by simp⟩
    simp; omega

/-- a step's weight about a side, for all items of a set (see t_s_l10Reserve) -/
def sumBits (g : Ld → Int) (n : Int) : Nat → List Ld → Int
  | _, [] => 0
  | i, l :: ls => (if bitW n i = true then g l else 0) + sumBits g n (i + 1) ls

theorem mul_bd {x d : Int} (h1 : 0 ≤ x) (h2 : x ≤ 198) (h3 : -60 ≤ d) (h4 : d ≤ 60) : -11880 ≤ x * d ∧ x * d ≤ 11880 := by
  have e1 : x * d ≤ x * 60 := Int.mul_le_mul_of_nonneg_left h4 h1
  have e2 : x * (-60) ≤ x * d := Int.mul_le_mul_of_nonneg_left h3 h1
  omega

theorem over_sum {f : Int → Ld → Int} {g : Ld → Int} {M : Int} (n : Int) (hf : ∀ acc l, okL l = true → -M ≤ acc → acc ≤ M → f acc l = acc + g l ∧ -11880 ≤ g l ∧ g l ≤ 11880) (ls : List Ld) : ∀ (i : Nat) (acc : Int), (∀ l ∈ ls, okL l = true) → -M + 11880 * ls.length ≤ acc → acc ≤ M - 11880 * ls.length → overBits f n i ls acc = acc + sumBits g n i ls := by
  induction ls with
  | nil => intro i acc _ _ _; simp [overBits, sumBits]
  | cons l ls ih =>
    intro i acc h h1 h2
    simp only [List.length_cons] at h1 h2
    obtain ⟨f1, f2, f3⟩ := hf acc l (h l (by simp)) (by omega) (by omega)
    rw [overBits, sumBits]
    by_cases hb : bitW n i = true
    · rw [if_pos hb, if_pos hb, f1, ih (i + 1) _ (fun x hx => h x (by simp [hx])) (by omega) (by omega)]
      omega
    · rw [if_neg hb, if_neg hb, ih (i + 1) _ (fun x hx => h x (by simp [hx])) (by omega) (by omega)]
      omega

theorem resL_sum {a acc M : Int} {l : Ld} (hM : M ≤ 1000000000) (ha : 0 ≤ a ∧ a ≤ 60) (hl : okL l = true) (h1 : -M ≤ acc) (h2 : acc ≤ M) : resL a acc l = acc + 2 * l.2 * (l.1 - a) ∧ -11880 ≤ 2 * l.2 * (l.1 - a) ∧ 2 * l.2 * (l.1 - a) ≤ 11880 := by
  unfold okL at hl
  simp only [Bool.and_eq_true, decide_eq_true_eq] at hl
  obtain ⟨m1, m2⟩ := mul_bd (x := 2 * l.2) (d := l.1 - a) (by omega) (by omega) (by omega) (by omega)
  unfold resL
  rw [show wr (2 * l.2) = 2 * l.2 from wrap64 (by omega) (by omega), show wr (l.1 - a) = l.1 - a from wrap64 (by omega) (by omega), show wr (2 * l.2 * (l.1 - a)) = 2 * l.2 * (l.1 - a) from wrap64 (by omega) (by omega), show wr (acc + 2 * l.2 * (l.1 - a)) = acc + 2 * l.2 * (l.1 - a) from wrap64 (by omega) (by omega)]
  exact ⟨rfl, m1, m2⟩

theorem resR_sum {b acc M : Int} {l : Ld} (hM : M ≤ 1000000000) (hb : 0 ≤ b ∧ b ≤ 60) (hl : okL l = true) (h1 : -M ≤ acc) (h2 : acc ≤ M) : resR b acc l = acc + 2 * l.2 * (b - l.1) ∧ -11880 ≤ 2 * l.2 * (b - l.1) ∧ 2 * l.2 * (b - l.1) ≤ 11880 := by
  unfold okL at hl
  simp only [Bool.and_eq_true, decide_eq_true_eq] at hl
  obtain ⟨m1, m2⟩ := mul_bd (x := 2 * l.2) (d := b - l.1) (by omega) (by omega) (by omega) (by omega)
  unfold resR
  rw [show wr (2 * l.2) = 2 * l.2 from wrap64 (by omega) (by omega), show wr (b - l.1) = b - l.1 from wrap64 (by omega) (by omega), show wr (2 * l.2 * (b - l.1)) = 2 * l.2 * (b - l.1) from wrap64 (by omega) (by omega), show wr (acc + 2 * l.2 * (b - l.1)) = acc + 2 * l.2 * (b - l.1) from wrap64 (by omega) (by omega)]
  exact ⟨rfl, m1, m2⟩

theorem cargo_facts (h : cargoOk a b o ls = true) : 0 ≤ a ∧ a ≤ b ∧ b ≤ 60 ∧ 1 ≤ o ∧ o ≤ 99 ∧ ls.length ≤ 8 ∧ (∀ l ∈ ls, okL l = true) := by
  unfold cargoOk raftOk baseOk rowOk at h
  simp only [Bool.and_eq_true, decide_eq_true_eq, List.all_eq_true] at h
  obtain ⟨⟨⟨⟨⟨⟨h1, h2⟩, h3, h4⟩, h5⟩, h6, h7⟩, h8, h9⟩, h10⟩ := h
  exact ⟨h1, h5, h4, h6, h7, h10, h9⟩

theorem cargo_own (h : cargoOk a b o ls = true) {p : Int} (h1 : 1 ≤ p) (h2 : p ≤ 99) : cargoOk a b p ls = true := by
  unfold cargoOk raftOk at *
  simp only [Bool.and_eq_true, decide_eq_true_eq] at *
  exact ⟨⟨⟨h.1.1.1, h1, h2⟩, h.1.2⟩, h.2⟩

theorem own0_at (h : cargoOk a b o ls = true) : own0 a b o = o * (b - a) ∧ 0 ≤ o * (b - a) ∧ o * (b - a) ≤ 5940 := by
  obtain ⟨h1, h2, h3, h4, h5, _, _⟩ := cargo_facts h
  have e1 : o * (b - a) ≤ o * 60 := Int.mul_le_mul_of_nonneg_left (by omega) (by omega)
  have e2 : 0 ≤ o * (b - a) := Int.mul_nonneg (by omega) (by omega)
  unfold own0
  rw [show wr (b - a) = b - a from wrap64 (by omega) (by omega)]
  exact ⟨wrap64 (by omega) (by omega), e2, by omega⟩

/-- both reserves, told plainly -/
theorem reserve_at (h : cargoOk a b o ls = true) (n : Int) : overBits (resL a) n 0 ls (own0 a b o) = o * (b - a) + sumBits (fun l => 2 * l.2 * (l.1 - a)) n 0 ls ∧ overBits (resR b) n 0 ls (own0 a b o) = o * (b - a) + sumBits (fun l => 2 * l.2 * (b - l.1)) n 0 ls := by
  obtain ⟨h1, h2, h3, h4, h5, h6, h7⟩ := cargo_facts h
  obtain ⟨o1, o2, o3⟩ := own0_at h
  rw [o1]
  obtain ⟨M, hM⟩ : ∃ M : Int, M = 1000000000 := ⟨_, rfl⟩
  exact ⟨over_sum (M := M) (g := fun l => 2 * l.2 * (l.1 - a)) n (fun acc l k1 k2 k3 => resL_sum (by omega) ⟨by omega, by omega⟩ k1 k2 k3) ls 0 _ h7 (by omega) (by omega), over_sum (M := M) (g := fun l => 2 * l.2 * (b - l.1)) n (fun acc l k1 k2 k3 => resR_sum (by omega) ⟨by omega, by omega⟩ k1 k2 k3) ls 0 _ h7 (by omega) (by omega)⟩

/-- what is safe on a raft is safe on a heavier one -/
theorem safe_own (h : cargoOk a b o ls = true) {p : Int} (h1 : o ≤ p) (h2 : p ≤ 99) (n : Int) (hs : safeW a b o ls n = true) : safeW a b p ls n = true := by
  obtain ⟨k1, k2, k3, k4, k5, _, _⟩ := cargo_facts h
  have h' := cargo_own h (p := p) (by omega) h2
  obtain ⟨r1, r2⟩ := reserve_at h n
  obtain ⟨s1, s2⟩ := reserve_at h' n
  have e1 : o * (b - a) ≤ p * (b - a) := Int.mul_le_mul_of_nonneg_right h1 (by omega)
  unfold safeW at *
  simp only [Bool.and_eq_true, decide_eq_true_eq] at *
  rw [r1, r2] at hs
  rw [s1, s2]
  omega

theorem ways_own (h : cargoOk a b o ls = true) {p : Int} (h1 : o ≤ p) (h2 : p ≤ 99) : (waysW a b o ls).getD 0 0 ≤ (waysW a b p ls).getD 0 0 := by
  have h8 := (cargo_facts h).2.2.2.2.2.1
  exact (waysW_all h8).mono0 (waysW_all h8) fun c _ hs => safe_own h h1 h2 _ hs

end

/-- the least number, of some from i on, of which this holds; 0 if there is none -/
def ownF (g : Nat → Bool) : Nat → Nat → Nat
  | 0, _ => 0
  | k + 1, i => if g i = true then i else ownF g k (i + 1)

theorem ownF_facts (g : Nat → Bool) : ∀ (k i : Nat), 0 < i → (ownF g k i = 0 → ∀ j, i ≤ j → j < i + k → g j = false) ∧ (0 < ownF g k i → g (ownF g k i) = true ∧ i ≤ ownF g k i ∧ ownF g k i < i + k ∧ ∀ j, i ≤ j → j < ownF g k i → g j = false)
  | 0, i, hi => ⟨fun _ j h1 h2 => by omega, fun h => absurd h (by simp [ownF])⟩
  | k + 1, i, hi => by
    rw [ownF]
    cases hg : g i with
    | true =>
      rw [if_pos rfl]
      exact ⟨fun h => by omega, fun _ => ⟨hg, Nat.le_refl _, by omega, fun j h1 h2 => by omega⟩⟩
    | false =>
      rw [if_neg (by simp)]
      obtain ⟨r1, r2⟩ := ownF_facts g k (i + 1) (by omega)
      refine ⟨fun h j h1 h2 => ?_, fun h => ?_⟩
      · by_cases hj : j = i
        · rw [hj]; exact hg
        · exact r1 h j (by omega) (by omega)
      · obtain ⟨q1, q2, q3, q4⟩ := r2 h
        refine ⟨q1, by omega, by omega, fun j h1 h2 => ?_⟩
        by_cases hj : j = i
        · rw [hj]; exact hg
        · exact q4 j (by omega) h2

end Go.Proofs.Ytlcklonakjhoiaa.Slim

/- Rafts: steps of one or two items, told plainly. -/
namespace Go.Proofs.Ytlcklonakjhoiaa.Slim

open Go

set_option linter.unusedSimpArgs false

set_option linter.unusedVariables false

/-- the set of one or two items -/
def prM (i j : Nat) : Nat := if i = j then 2 ^ i else 2 ^ i + 2 ^ j

/-- the bits of a step, in the machine -/
def prW (i j : Nat) : Int := orI .i64 (shlI .i64 1 (i : Int)) (shlI .i64 1 (j : Int))

theorem pair_f1 : ∀ m : Nat, m < 256 → ∀ i : Nat, i < 8 → ∀ j : Nat, j < 8 → (m.testBit i && m.testBit j) = true → andNotI .i64 m (prW i j) = ((m - prM i j : Nat) : Int) := by decide +kernel

theorem pair_f2 : ∀ m : Nat, m < 256 → ∀ i : Nat, i < 8 → ∀ j : Nat, j < 8 → (m.testBit i && m.testBit j) = true → andI .i64 m (prW i j) = prW i j := by decide +kernel

theorem pair_f3 : ∀ m : Nat, m < 256 → ∀ i : Nat, i < 8 → ∀ j : Nat, j < 8 → (m.testBit i && m.testBit j) = true → wr ((m : Int) - prW i j) = ((m - prM i j : Nat) : Int) := by decide +kernel

theorem pair_not : ∀ m : Nat, m < 256 → ∀ i : Nat, i < 8 → ∀ j : Nat, j < 8 → (m.testBit i && m.testBit j) = false → ¬ andI .i64 m (prW i j) = prW i j := by decide +kernel

theorem bit_less0 : ∀ m : Nat, m < 256 → ∀ i : Nat, i < 8 → ∀ j : Nat, j < 8 → (!m.testBit i || decide (i = j) || ((m - 2 ^ i).testBit j == m.testBit j)) = true := by decide +kernel

theorem bit_less {m i j : Nat} (hm : m < 256) (hi : i < 8) (hj : j < 8) (h : m.testBit i = true) (hne : i ≠ j) : (m - 2 ^ i).testBit j = m.testBit j := by
  have := bit_less0 m hm i hi j hj
  simpa [h, hne] using this

def updP (cur bf : Int) : Int := if 0 ≤ bf ∧ (cur < 0 ∨ bf + 1 < cur) then bf + 1 else cur

def pairIn (L : List Int) (c i : Nat) : Nat → Nat → Int → Int
  | 0, _, cur => cur
  | k + 1, j, cur => pairIn L c i k (j + 1) (if (c.testBit i && c.testBit j) = true then updP cur (L.getD (c - prM i j) 0) else cur)

def pairOut (L : List Int) (c : Nat) : Nat → Nat → Int → Int
  | 0, _, cur => cur
  | k + 1, i, cur => pairOut L c k (i + 1) (pairIn L c i (i + 1) 0 cur)

/-- the least number of steps to the set c (see t_s_PairSteps) -/
def stepV (safe : Nat → Bool) (n : Nat) (L : List Int) (c : Nat) : Int := if c = 0 then 0 else if safe c = true then pairOut L c n 0 (-1) else -1

def stepsL (safe : Nat → Bool) (n : Nat) : Nat → List Int
  | 0 => []
  | c + 1 => stepsL safe n c ++ [stepV safe n (stepsL safe n c) c]

theorem stepsL_length (safe : Nat → Bool) (n : Nat) : ∀ c, (stepsL safe n c).length = c
  | 0 => rfl
  | c + 1 => by rw [stepsL, List.length_append, stepsL_length]; rfl

theorem getD_preI {P R : List Int} {d : Nat} (h : d < P.length) : (P ++ R).getD d 0 = P.getD d 0 := by
  rw [List.getD_eq_getElem?_getD, List.getD_eq_getElem?_getD, List.getElem?_append_left h]

theorem stepsL_getD (safe : Nat → Bool) (n : Nat) {c d : Nat} : ∀ F, c ≤ F → d < c → (stepsL safe n F).getD d 0 = (stepsL safe n c).getD d 0
  | 0, h, hd => by omega
  | F + 1, h, hd => by
    by_cases hc : c = F + 1
    · rw [hc]
    · rw [stepsL, getD_preI (by rw [stepsL_length]; omega)]
      exact stepsL_getD safe n F (by omega) hd

theorem stepsL_val (safe : Nat → Bool) (n : Nat) {c : Nat} : ∀ F, c < F → (stepsL safe n F).getD c 0 = stepV safe n (stepsL safe n c) c
  | 0, h => by omega
  | F + 1, h => by
    rw [stepsL_getD safe n (F + 1) (c := c + 1) (by omega) (by omega), stepsL, List.getD_eq_getElem?_getD, List.getElem?_append_right (by rw [stepsL_length]; exact Nat.le_refl _), stepsL_length, Nat.sub_self]
    rfl

/-- what is true of the steps to a set -/
def okP (n c : Nat) (v : Int) : Prop := v = -1 ∨ (0 ≤ v ∧ v ≤ nu n c ∧ (nu n c : Int) ≤ 2 * v)

theorem nu_pair {n c i j : Nat} (h8 : n ≤ 8) (hc : c < 2 ^ n) (hi : i < n) (hj : j ≤ i) (hb : (c.testBit i && c.testBit j) = true) : c - prM i j < c ∧ nu n (c - prM i j) + 1 ≤ nu n c ∧ nu n c ≤ nu n (c - prM i j) + 2 := by
  rw [Bool.and_eq_true] at hb
  have hp8 : (2 : Nat) ^ n ≤ 2 ^ 8 := Nat.pow_le_pow_right (by omega) h8
  have h256 : (2 : Nat) ^ 8 = 256 := by decide
  have hpi := Nat.two_pow_pos i
  have hpj := Nat.two_pow_pos j
  obtain ⟨b1, b2⟩ := (nat_bits h8 hc hi).1 hb.1
  have n1 := (nu_facts n (by omega) c hc).2.2 i hi hb.1
  unfold prM
  by_cases he : i = j
  · subst he
    rw [if_pos rfl]
    omega
  · rw [if_neg he]
    have hb2 : (c - 2 ^ i).testBit j = true := by rw [bit_less (by omega) (by omega) (by omega) hb.1 he]; exact hb.2
    have n2 := (nu_facts n (by omega) (c - 2 ^ i) (by omega)).2.2 j (by omega) hb2
    rw [Nat.sub_sub] at n2
    omega

theorem updP_ok {n c d : Nat} {cur bf : Int} (h1 : nu n d + 1 ≤ nu n c) (h2 : nu n c ≤ nu n d + 2) (hc : okP n c cur) (hb : okP n d bf) : okP n c (updP cur bf) ∧ (0 ≤ cur → 0 ≤ updP cur bf) ∧ (0 ≤ bf → 0 ≤ updP cur bf) := by
  unfold updP okP at *
  split <;> omega

theorem pairIn_ok {n c i : Nat} {L : List Int} (h8 : n ≤ 8) (hc : c < 2 ^ n) (hi : i < n) (hL : ∀ d, d < c → okP n d (L.getD d 0)) : ∀ (k j : Nat) (cur : Int), k + j = i + 1 → okP n c cur → okP n c (pairIn L c i k j cur) ∧ (0 ≤ cur → 0 ≤ pairIn L c i k j cur) ∧ (0 < k → c.testBit i = true → 0 ≤ L.getD (c - 2 ^ i) 0 → 0 ≤ pairIn L c i k j cur)
  | 0, j, cur, _, h => ⟨h, fun h => h, fun h => by omega⟩
  | k + 1, j, cur, hk, h => by
    rw [pairIn]
    cases hb : (c.testBit i && c.testBit j) with
    | false =>
      rw [if_neg (by simp)]
      obtain ⟨r1, r2, r3⟩ := pairIn_ok h8 hc hi hL k (j + 1) cur (by omega) h
      refine ⟨r1, r2, fun _ hbi hp => ?_⟩
      by_cases hk0 : k = 0
      · have : j = i := by omega
        subst this
        rw [hbi] at hb
        cases hb
      · exact r3 (by omega) hbi hp
    | true =>
      rw [if_pos rfl]
      obtain ⟨n1, n2, n3⟩ := nu_pair h8 hc hi (by omega) hb
      obtain ⟨u1, u2, u3⟩ := updP_ok n2 n3 h (hL _ n1)
      obtain ⟨r1, r2, r3⟩ := pairIn_ok h8 hc hi hL k (j + 1) _ (by omega) u1
      refine ⟨r1, fun h0 => r2 (u2 h0), fun _ hbi hp => ?_⟩
      by_cases hk0 : k = 0
      · have hj : j = i := by omega
        subst hj
        refine r2 (u3 ?_)
        rw [show prM j j = 2 ^ j by unfold prM; rw [if_pos rfl]]
        exact hp
      · exact r3 (by omega) hbi hp

theorem pairOut_ok {n c : Nat} {L : List Int} (h8 : n ≤ 8) (hc : c < 2 ^ n) (hL : ∀ d, d < c → okP n d (L.getD d 0)) : ∀ (k i : Nat) (cur : Int), k + i = n → okP n c cur → okP n c (pairOut L c k i cur) ∧ (0 ≤ cur → 0 ≤ pairOut L c k i cur) ∧ (∀ x, i ≤ x → x < n → c.testBit x = true → 0 ≤ L.getD (c - 2 ^ x) 0 → 0 ≤ pairOut L c k i cur)
  | 0, i, cur, hk, h => ⟨h, fun h => h, fun x h1 h2 => by omega⟩
  | k + 1, i, cur, hk, h => by
    rw [pairOut]
    obtain ⟨q1, q2, q3⟩ := pairIn_ok (i := i) h8 hc (by omega) hL (i + 1) 0 cur (by omega) h
    obtain ⟨r1, r2, r3⟩ := pairOut_ok h8 hc hL k (i + 1) _ (by omega) q1
    refine ⟨r1, fun h0 => r2 (q2 h0), fun x h1 h2 hb hp => ?_⟩
    by_cases hx : x = i
    · subst hx
      exact r2 (q3 (by omega) hb hp)
    · exact r3 x (by omega) h2 hb hp

theorem steps_ok {safe : Nat → Bool} {n : Nat} (h8 : n ≤ 8) : ∀ c, c < 2 ^ n → okP n c ((stepsL safe n (2 ^ n)).getD c 0) := by
  intro c
  induction c using Nat.strongRecOn with
  | _ c ih =>
    intro hc
    rw [stepsL_val safe n _ hc]
    unfold stepV
    by_cases h0 : c = 0
    · rw [if_pos h0]
      have := (nu_facts n (by omega) c hc).1.mpr h0
      exact .inr ⟨Int.le_refl _, by omega, by omega⟩
    · rw [if_neg h0]
      split
      · refine (pairOut_ok h8 hc (fun d hd => ?_) n 0 (-1) (by omega) (.inl rfl)).1
        rw [← stepsL_getD safe n (c := c) (2 ^ n) (Nat.le_of_lt hc) hd]
        exact ih d hd (by omega)
      · exact .inl rfl

/-- where all can be taken one by one, they can be in steps -/
theorem steps_back {safe : Nat → Bool} {n : Nat} (h8 : n ≤ 8) : ∀ c, c < 2 ^ n → (backL safe n (2 ^ n)).getD c false = true → 0 ≤ (stepsL safe n (2 ^ n)).getD c 0 := by
  intro c
  induction c using Nat.strongRecOn with
  | _ c ih =>
    intro hc hb
    rw [stepsL_val safe n _ hc]
    unfold stepV
    by_cases h0 : c = 0
    · rw [if_pos h0]; exact Int.le_refl _
    · rw [if_neg h0, if_pos (back_safe hc hb)]
      obtain ⟨i, i1, i2, i3⟩ := back_step hc hb h0
      have hp := Nat.two_pow_pos i
      obtain ⟨b1, _⟩ := (nat_bits h8 hc i1).1 i2
      refine (pairOut_ok h8 hc (fun d hd => ?_) n 0 (-1) (by omega) (.inl rfl)).2.2 i (Nat.zero_le _) i1 i2 ?_
      · rw [← stepsL_getD safe n (c := c) (2 ^ n) (Nat.le_of_lt hc) hd]
        exact steps_ok h8 d (by omega)
      · rw [← stepsL_getD safe n (2 ^ n) (Nat.le_of_lt hc) (by omega)]
        exact ih (c - 2 ^ i) (by omega) (by omega) i3

def stepsW2 (a b o : Int) (ls : List Ld) : List Int := stepsL (fun c => safeW a b o ls (c : Int)) ls.length (2 ^ ls.length)

theorem stepsW2_length (a b o : Int) (ls : List Ld) : (stepsW2 a b o ls).length = 2 ^ ls.length := stepsL_length _ _ _

end Go.Proofs.Ytlcklonakjhoiaa.Slim

/- Stages of a chain: what is valid, copies, marks. -/
namespace Go.Proofs.Ytlcklonakjhoiaa.Slim

open Go

set_option linter.unusedSimpArgs false

set_option linter.unusedVariables false

variable {pr : Prims} {H : List Blk} {e : Option Nat}

def ratioOk (x : Int) : Bool := decide (1 ≤ x) && decide (x ≤ 24)

/-- a stage: its kind and its two numbers -/
abbrev Sg := Int × Int × Int

def stageOk (s : Sg) : Bool :=
  if s.1 = 1 then ratioOk s.2.1 && ratioOk s.2.2 else if s.1 = 3 then ratioOk s.2.1 && ratioOk s.2.2 else if s.1 = 2 then ratioOk s.2.1 && decide (s.2.2 = 0)
  else if s.1 = 4 then (ratioOk s.2.1 && ratioOk s.2.2) && decide (s.2.2 ≤ s.2.1) else if s.1 = 5 then (ratioOk s.2.1 && ratioOk s.2.2) && decide (s.2.2 < s.2.1) else false

abbrev sgV (s : Sg) : AV := .agg [.int .i64 s.1, .int .i64 s.2.1, .int .i64 s.2.2]

def encS : List Sg → List AV
  | [] => []
  | s :: ss => .int .i64 s.1 :: .int .i64 s.2.1 :: .int .i64 s.2.2 :: encS ss

theorem encS_length : ∀ ss : List Sg, (encS ss).length = ss.length * 3
  | [] => rfl
  | s :: ss => by simp [encS, encS_length ss]; omega

theorem part_encS {ss : List Sg} {i : Nat} {s : Sg} (h : ss[i]? = some s) : part true (encS ss) (i * 3) 3 = some (.agg [.int .i64 s.1, .int .i64 s.2.1, .int .i64 s.2.2]) := by
  induction ss generalizing i with
  | nil => simp at h
  | cons a ss ih =>
    cases i with
    | zero => simp at h; subst h; simp [encS, part]
    | succ i =>
      simp at h
      rw [show (i + 1) * 3 = i * 3 + 1 + 1 + 1 by omega, encS, part_tk, part_tk, part_tk]
      exact ih h

theorem setRange_encS {X : List Sg} {i : Nat} {k a b : Int} (h : i < X.length) : setRange (encS X) (i * 3) [.int .i64 k, .int .i64 a, .int .i64 b] = encS (X.set i (k, a, b)) := by
  induction X generalizing i with
  | nil => simp at h
  | cons x X ih =>
    cases i with
    | zero => simp [encS, setRange]
    | succ i =>
      rw [show (i + 1) * 3 = i * 3 + 1 + 1 + 1 by omega, encS, setRange_k, setRange_k, setRange_k, ih (by simpa using h)]
      rfl

theorem under_encS (n : Nat) : ∀ ss : List Sg, ((encS ss).all fun c => c.under n) = true
  | [] => rfl
  | s :: ss => by simp [encS, AV.under, under_encS n ss]

theorem zeros_encS : ∀ n, zeros n [.int .i64 0, .int .i64 0, .int .i64 0] = encS (List.replicate n (0, 0, 0))
  | 0 => rfl
  | n + 1 => by
    have := zeros_encS n
    unfold zeros at *
    simp only [List.replicate_succ, List.flatten_cons, encS, List.cons_append, List.nil_append, this]

theorem take_set_succS {X ss : List Sg} {i : Nat} (hi : i < ss.length) (hX : X.length = ss.length) (h : X.take i = ss.take i) : (X.set i ss[i]).take (i + 1) = ss.take (i + 1) := by
  rw [List.take_succ_eq_append_getElem (by rw [List.length_set]; omega), List.take_succ_eq_append_getElem hi]
  rw [List.take_set_of_le (Nat.le_refl _), h]
  simp

abbrev slS (b n : Nat) (c : Option Nat) : AV := .slice (some (b, 0)) 3 n c

/-- a slice of stages, as a law is handed it -/
def ArgS (H : List Blk) (av : AV) (ss : List Sg) : Prop :=
  ∃ p sz c, av = .slice p sz ss.length c ∧ ss.length ≤ maxLen ∧ (ss ≠ [] → sz = 3 ∧ ∃ b, p = some (b, 0) ∧ cellsAt H b = some (encS ss))

theorem ArgS.more {av : AV} {ss : List Sg} (h : ArgS H av ss) (G : List Blk) : ArgS (H ++ G) av ss := by
  obtain ⟨p, sz, c, h1, h2, h3⟩ := h
  refine ⟨p, sz, c, h1, h2, fun hne => ?_⟩
  obtain ⟨h4, b, h5, h6⟩ := h3 hne
  exact ⟨h4, b, h5, cells_mono h6 G⟩

theorem stages_of : ∀ (es : List (List Int)), (∀ e ∈ es, e.length = 3) → ∃ ss : List Sg, es.flatten.map (AV.int .i64) = encS ss ∧ ss.length = es.length
  | [], _ => ⟨[], rfl, rfl⟩
  | e :: es, h => by
    obtain ⟨ss, h1, h2⟩ := stages_of es (fun e' h' => h e' (by simp [h']))
    have h0 := h e (by simp)
    match e, h0 with
    | [x, y, z], _ => exact ⟨(x, y, z) :: ss, by simp [encS, h1], by simp [h2]⟩

theorem argS_of {av : AV} {es : List (List Int)} (h : IsArg H av .i64 3 es) : ∃ ss, ArgS H av ss := by
  obtain ⟨h1, h2⟩ := h
  rcases h2 with ⟨rfl, rfl⟩ | ⟨b, cap, rfl, h3, h4, h5⟩
  · exact ⟨[], none, 0, none, rfl, Nat.zero_le _, fun h => absurd rfl h⟩
  · obtain ⟨ss, h6, h7⟩ := stages_of es (fun e he => (h1 e he).1)
    refine ⟨ss, some (b, 0), 3, some cap, by rw [h7], by omega, fun _ => ⟨rfl, b, rfl, ?_⟩⟩
    unfold cellsAt
    rw [h5, h6]

def chainOk (ls : List Sg) : Bool := ls.all stageOk && decide (ls.length ≤ 5)

end Go.Proofs.Ytlcklonakjhoiaa.Slim

/- Stands: what is valid, copies, new ones; their laws. -/
namespace Go.Proofs.Ytlcklonakjhoiaa.Slim

open Go

set_option linter.unusedSimpArgs false

set_option linter.unusedVariables false

variable {pr : Prims} {H : List Blk} {e : Option Nat}

abbrev stV (row : AV) (a b : Int) (chain : AV) (t k : Int) : AV := .agg [row, .int .i64 a, .int .i64 b, chain, .int .i64 t, .int .i64 k]

theorem clean_minEsc (lim b : Nat) (e : Option Nat) : clean lim (minEsc e b) = (clean lim e && decide (lim ≤ b)) := by
  cases e with
  | none => simp [clean, minEsc]
  | some x => simp [clean, minEsc, Nat.le_min]

theorem clean_none (lim : Nat) : clean lim none = true := Eq.trans rfl rfl

theorem under_slice (n b o sz k : Nat) (c : Option Nat) : (AV.slice (some (b, o)) sz k c).under n = decide (b < n) := by simp [AV.under]

theorem under_sliceN (n sz k : Nat) (c : Option Nat) : (AV.slice none sz k c).under n = true := by simp [AV.under]

theorem finish_stand {G : List Blk} {j1 j2 n1 n2 : Nat} {c1 c2 : Option Nat} {cs1 cs2 : List AV} {w1 w2 : Bool} (a b t k : Int) (e0 e1 : Option Nat) (hc : clean H.length e1 = true) (h1 : G[j1]? = some (.cells cs1 w1)) (h2 : G[j2]? = some (.cells cs2 w2)) (hne : j1 ≠ j2)
    (u1 : (cs1.all fun c => c.under H.length) = true) (u2 : (cs2.all fun c => c.under H.length) = true) :
    finish 2 H.length e0 (stV (slL (H.length + j1) n1 c1) a b (slS (H.length + j2) n2 c2) t k) ⟨H ++ G, e1⟩ = some (stV (slL H.length n1 c1) a b (slS (H.length + 1) n2 c2) t k, ⟨H ++ [.cells cs1 w1, .cells cs2 w2], e0⟩) := by
  have hlt1 : ¬ H.length + j1 < H.length := by omega
  have hlt2 : ¬ H.length + j2 < H.length := by omega
  have hne' : ¬ H.length + j2 = H.length + j1 := by omega
  have hr : dedup (AV.roots H.length (stV (slL (H.length + j1) n1 c1) a b (slS (H.length + j2) n2 c2) t k)) = [H.length + j1, H.length + j2] := by
    simp only [AV.roots, AV.roots.go, if_neg hlt1, if_neg hlt2, List.nil_append, List.cons_append, List.append_nil]
    simp [dedup, hne', hne, Ne.symm hne]
  have hb1 : (H ++ G)[H.length + j1]? = some (.cells cs1 w1) := by rw [List.getElem?_append_right (by omega)]; simpa using h1
  have hb2 : (H ++ G)[H.length + j2]? = some (.cells cs2 w2) := by rw [List.getElem?_append_right (by omega)]; simpa using h2
  unfold finish
  simp only [hr]
  have h3 : ([H.length + j1, H.length + j2].all fun b => flatBlk H.length (H ++ G)[b]?) = true := by
    simp only [List.all_cons, List.all_nil, Bool.and_true, hb1, hb2, flatBlk, u1, u2, Bool.and_self]
  simp only [hc, h3, and_self, if_true]
  have hq : (H.length + j1 == H.length + j2) = false := by simpa using hne
  simp [AV.rename, AV.rename.go, renum, hb1, hb2, List.idxOf_cons]
  refine ⟨fun h => by omega, ?_⟩
  rw [if_neg hlt2, hq]
  rfl

theorem finish_standB {G : List Blk} {j1 j2 n1 n2 : Nat} {c1 c2 : Option Nat} {cs1 cs2 : List AV} {w1 w2 : Bool} (a b t k : Int) (x : Bool) (e0 e1 : Option Nat) (hc : clean H.length e1 = true) (h1 : G[j1]? = some (.cells cs1 w1)) (h2 : G[j2]? = some (.cells cs2 w2)) (hne : j1 ≠ j2)
    (u1 : (cs1.all fun c => c.under H.length) = true) (u2 : (cs2.all fun c => c.under H.length) = true) :
    finish 2 H.length e0 (.tup [stV (slL (H.length + j1) n1 c1) a b (slS (H.length + j2) n2 c2) t k, .bool x]) ⟨H ++ G, e1⟩ = some (.tup [stV (slL H.length n1 c1) a b (slS (H.length + 1) n2 c2) t k, .bool x], ⟨H ++ [.cells cs1 w1, .cells cs2 w2], e0⟩) := by
  have hlt1 : ¬ H.length + j1 < H.length := by omega
  have hlt2 : ¬ H.length + j2 < H.length := by omega
  have hne' : ¬ H.length + j2 = H.length + j1 := by omega
  have hr : dedup (AV.roots H.length (.tup [stV (slL (H.length + j1) n1 c1) a b (slS (H.length + j2) n2 c2) t k, .bool x])) = [H.length + j1, H.length + j2] := by
    simp only [AV.roots, AV.roots.go, if_neg hlt1, if_neg hlt2, List.nil_append, List.cons_append, List.append_nil]
    simp [dedup, hne', hne, Ne.symm hne]
  have hb1 : (H ++ G)[H.length + j1]? = some (.cells cs1 w1) := by rw [List.getElem?_append_right (by omega)]; simpa using h1
  have hb2 : (H ++ G)[H.length + j2]? = some (.cells cs2 w2) := by rw [List.getElem?_append_right (by omega)]; simpa using h2
  unfold finish
  simp only [hr]
  have h3 : ([H.length + j1, H.length + j2].all fun b => flatBlk H.length (H ++ G)[b]?) = true := by
    simp only [List.all_cons, List.all_nil, Bool.and_true, hb1, hb2, flatBlk, u1, u2, Bool.and_self]
  simp only [hc, h3, and_self, if_true]
  have hq : (H.length + j1 == H.length + j2) = false := by simpa using hne
  simp [AV.rename, AV.rename.go, renum, hb1, hb2, List.idxOf_cons]
  refine ⟨fun h => by omega, ?_⟩
  rw [if_neg hlt2, hq]
  rfl

theorem finish_standN {G : List Blk} {s1 s2 n1 n2 : Nat} {c1 c2 : Option Nat} (a b t k : Int) (x : Bool) (e0 e1 : Option Nat) (hc : clean H.length e1 = true) :
    finish 2 H.length e0 (.tup [stV (.slice none s1 n1 c1) a b (.slice none s2 n2 c2) t k, .bool x]) ⟨H ++ G, e1⟩ = some (.tup [stV (.slice none s1 n1 c1) a b (.slice none s2 n2 c2) t k, .bool x], ⟨H, e0⟩) := by
  have hr : dedup (AV.roots H.length (.tup [stV (.slice none s1 n1 c1) a b (.slice none s2 n2 c2) t k, .bool x])) = [] := rfl
  unfold finish
  simp only [hr]
  simp [AV.rename, AV.rename.go, hc]

theorem e_l_eqLoadS_none {p1 p2 : Option (Nat × Nat)} {s1 s2 : Nat} {c1 c2 : Option Nat} : call T pr f_l_eqLoadS [.slice p1 s1 0 c1, .slice p2 s2 0 c2] ⟨H, e⟩ = some (.bool true, ⟨H, e⟩) := by
  have h0 : ((0 : Nat) : Int) = 0 := rfl
  rw [call_eq t_l_eqLoadS]
  have hl : run T pr (.loop w_l_eqLoadS_1) ⟨[.slice p1 s1 0 c1, .slice p2 s2 0 c2, .bool false, .int .i64 0, .bool false, .undef, .undef], ⟨H, none⟩⟩ = some (.exit 0, ⟨[.slice p1 s1 0 c1, .slice p2 s2 0 c2, .bool false, .int .i64 0, .bool false, .bool false, .undef], ⟨H, none⟩⟩) := by
    rw [run_loop]
    generalize run T pr (.loop w_l_eqLoadS_1) = R
    simp +contextual only [w_l_eqLoadS_1, h0, Int.lt_irrefl, decide_false, go_sem, entry, joinEsc, if_pos, reduceIte, Nat.reduceAdd, Nat.reduceLeDiff, Nat.reduceLT, Nat.reduceEqDiff]
  simp +contextual only [a_l_eqLoadS, c_l_eqLoadS, hl, h0, decide_true, go_sem, entry, joinEsc, if_pos, reduceIte, Nat.reduceAdd, Nat.reduceLeDiff, Nat.reduceLT, Nat.reduceEqDiff]

theorem e_l_markLoadS_none {p1 : Option (Nat × Nat)} {s1 : Nat} {c1 : Option Nat} (x : Int) : call T pr f_l_markLoadS [.slice p1 s1 0 c1, .int .i64 x] ⟨H, e⟩ = some (.int .i64 x, ⟨H, e⟩) := by
  have h0 : ((0 : Nat) : Int) = 0 := rfl
  rw [call_eq t_l_markLoadS]
  have hl : run T pr (.loop w_l_markLoadS_1) ⟨[.slice p1 s1 0 c1, .int .i64 x, .int .i64 0, .int .i64 0, .undef], ⟨H, none⟩⟩ = some (.exit 0, ⟨[.slice p1 s1 0 c1, .int .i64 x, .int .i64 0, .int .i64 0, .bool false], ⟨H, none⟩⟩) := by
    rw [run_loop]
    generalize run T pr (.loop w_l_markLoadS_1) = R
    simp +contextual only [w_l_markLoadS_1, h0, Int.lt_irrefl, decide_false, go_sem, entry, joinEsc, if_pos, reduceIte, Nat.reduceAdd, Nat.reduceLeDiff, Nat.reduceLT, Nat.reduceEqDiff]
  simp +contextual only [a_l_markLoadS, c_l_markLoadS, hl, h0, decide_true, go_sem, entry, joinEsc, if_pos, reduceIte, Nat.reduceAdd, Nat.reduceLeDiff, Nat.reduceLT, Nat.reduceEqDiff]

theorem e_i_IsRow_none {p1 : Option (Nat × Nat)} {s1 : Nat} {c1 : Option Nat} : call T pr f_i_IsRow [.slice p1 s1 0 c1] ⟨H, e⟩ = some (.bool true, ⟨H, e⟩) := by
  have h0 : ((0 : Nat) : Int) = 0 := rfl
  have hl : run T pr (.loop w_slices_IndexFunc_Si_Load_i_Load_1) ⟨[.slice p1 s1 0 c1, .fn f_i_IsRow_1 [] [], .int .i64 0, .undef, .int .i64 0, .int .i64 0, .undef, .undef], ⟨H, none⟩⟩ = some (.exit 0, ⟨[.slice p1 s1 0 c1, .fn f_i_IsRow_1 [] [], .int .i64 0, .undef, .int .i64 0, .int .i64 0, .bool false, .undef], ⟨H, none⟩⟩) := by
    rw [run_loop]
    generalize run T pr (.loop w_slices_IndexFunc_Si_Load_i_Load_1) = R
    simp +contextual only [w_slices_IndexFunc_Si_Load_i_Load_1, h0, Int.lt_irrefl, decide_false, go_sem, entry, joinEsc, if_pos, reduceIte, Nat.reduceAdd, Nat.reduceLeDiff, Nat.reduceLT, Nat.reduceEqDiff]
  have h1 : ∀ e', call T pr f_slices_IndexFunc_Si_Load_i_Load [.slice p1 s1 0 c1, .fn f_i_IsRow_1 [] []] ⟨H, e'⟩ = some (.int .i64 (-1), ⟨H, e'⟩) := by
    intro e'
    rw [call_eq t_slices_IndexFunc_Si_Load_i_Load]
    simp +contextual only [a_slices_IndexFunc_Si_Load_i_Load, c_slices_IndexFunc_Si_Load_i_Load, hl, h0, go_sem, entry, joinEsc, if_pos, reduceIte, Nat.reduceAdd, Nat.reduceLeDiff, Nat.reduceLT, Nat.reduceEqDiff]
  have h2 : ∀ e', call T pr f_slices_ContainsFunc_Si_Load_i_Load [.slice p1 s1 0 c1, .fn f_i_IsRow_1 [] []] ⟨H, e'⟩ = some (.bool false, ⟨H, e'⟩) := by
    intro e'
    rw [call_eq t_slices_ContainsFunc_Si_Load_i_Load]
    simp +contextual only [a_slices_ContainsFunc_Si_Load_i_Load, c_slices_ContainsFunc_Si_Load_i_Load, h1, show ¬ ((0 : Int) ≤ -1) by omega, decide_false, go_sem, entry, joinEsc, if_pos, reduceIte, Nat.reduceAdd, Nat.reduceLeDiff, Nat.reduceLT, Nat.reduceEqDiff]
  rw [call_eq t_i_IsRow]
  simp +contextual only [a_i_IsRow, c_i_IsRow, h2, h0, show ¬ ((12 : Int) < 0) by omega, decide_false, go_sem, entry, joinEsc, if_pos, reduceIte, Nat.reduceAdd, Nat.reduceLeDiff, Nat.reduceLT, Nat.reduceEqDiff]

/-- the rest of a stand -/
def restOk (a b t k : Int) : Bool := baseOk a b && ((decide (0 ≤ k) && decide (k ≤ 1000)) && (decide (0 ≤ t) && decide (t ≤ k)))

end Go.Proofs.Ytlcklonakjhoiaa.Slim

/- Fractions, the gain of a chain, and the pull of a row; the law. -/
namespace Go.Proofs.Ytlcklonakjhoiaa.Slim

open Go

set_option linter.unusedSimpArgs false

set_option linter.unusedVariables false

variable {pr : Prims} {H : List Blk} {e : Option Nat}

theorem wrapN {x : Nat} (h : x ≤ 9223372036854775807) : IntKind.i64.wrap (x : Int) = (x : Int) := wrap64 (by omega) (by omega)

theorem e_s_l1Most (a b : Int) : call T pr f_s_l1Most [.int .i64 a, .int .i64 b] ⟨H, e⟩ = some (.int .i64 (if b < a then a else b), ⟨H, e⟩) := by
  rw [call_eq t_s_l1Most]
  by_cases h : b < a <;> simp +contextual only [a_s_l1Most, c_s_l1Most, h, decide_true, decide_false, go_sem, entry, joinEsc, if_pos, reduceIte, Nat.reduceAdd, Nat.reduceLeDiff, Nat.reduceLT, Nat.reduceEqDiff]

/-- a fraction in lowest terms -/
def fracA (x y : Nat) : Nat := x / Nat.gcd y x
def fracB (x y : Nat) : Nat := y / Nat.gcd y x

abbrev fvV (x y : Nat) : AV := .agg [.int .i64 x, .int .i64 y]

theorem frac_facts {x y : Nat} (hy : 0 < y) (hx1 : x ≤ 4611686018427387904) (hy1 : y ≤ 4611686018427387904) :
    ¬ ((Nat.gcd y x : Nat) : Int) = 0 ∧ IntKind.i64.wrap (Int.tdiv (x : Int) (Nat.gcd y x : Nat)) = (fracA x y : Int) ∧ IntKind.i64.wrap (Int.tdiv (y : Int) (Nat.gcd y x : Nat)) = (fracB x y : Int) := by
  have hg : 0 < Nat.gcd y x := Nat.gcd_pos_of_pos_left _ hy
  have h1 : fracA x y ≤ x := Nat.div_le_self _ _
  have h2 : fracB x y ≤ y := Nat.div_le_self _ _
  refine ⟨by omega, ?_, ?_⟩
  · have : Int.tdiv (x : Int) (Nat.gcd y x : Nat) = (fracA x y : Int) := rfl
    rw [this]; exact wrapN (by omega)
  · have : Int.tdiv (y : Int) (Nat.gcd y x : Nat) = (fracB x y : Int) := rfl
    rw [this]; exact wrapN (by omega)

theorem frac_pos {x y : Nat} (hx : 0 < x) (hy : 0 < y) : 0 < fracA x y ∧ 0 < fracB x y ∧ fracA x y ≤ x ∧ fracB x y ≤ y := by
  have hg : 0 < Nat.gcd y x := Nat.gcd_pos_of_pos_left _ hy
  refine ⟨Nat.div_pos (Nat.le_of_dvd hx (Nat.gcd_dvd_right _ _)) hg, Nat.div_pos (Nat.le_of_dvd hy (Nat.gcd_dvd_left _ _)) hg, Nat.div_le_self _ _, Nat.div_le_self _ _⟩

/-- the gain of a valid stage -/
def gainA (s : Sg) : Nat := if s.1 = 2 then s.2.1.toNat else if s.1 = 5 then fracA (2 * s.2.1.toNat) (s.2.1.toNat - s.2.2.toNat) else fracA s.2.1.toNat s.2.2.toNat
def gainB (s : Sg) : Nat := if s.1 = 2 then 1 else if s.1 = 5 then fracB (2 * s.2.1.toNat) (s.2.1.toNat - s.2.2.toNat) else fracB s.2.1.toNat s.2.2.toNat

theorem stage_cases {s : Sg} (h : stageOk s = true) : (1 ≤ s.2.1 ∧ s.2.1 ≤ 24) ∧ (s.1 ≠ 2 → 1 ≤ s.2.2 ∧ s.2.2 ≤ 24) ∧ (s.1 = 5 → s.2.2 < s.2.1) := by
  unfold stageOk ratioOk at h
  by_cases h1 : s.1 = 1
  · rw [if_pos h1] at h
    simp at h
    exact ⟨h.1, fun _ => h.2, fun h5 => by omega⟩
  rw [if_neg h1] at h
  by_cases h3 : s.1 = 3
  · rw [if_pos h3] at h
    simp at h
    exact ⟨h.1, fun _ => h.2, fun h5 => by omega⟩
  rw [if_neg h3] at h
  by_cases h2 : s.1 = 2
  · rw [if_pos h2] at h
    simp at h
    exact ⟨h.1, fun hn => absurd h2 hn, fun h5 => by omega⟩
  rw [if_neg h2] at h
  by_cases h4 : s.1 = 4
  · rw [if_pos h4] at h
    simp at h
    exact ⟨h.1.1, fun _ => h.1.2, fun h5 => by omega⟩
  rw [if_neg h4] at h
  by_cases h5 : s.1 = 5
  · rw [if_pos h5] at h
    simp at h
    exact ⟨h.1.1, fun _ => h.1.2, fun _ => h.2⟩
  rw [if_neg h5] at h
  cases h

theorem gain_bounds {s : Sg} (h : stageOk s = true) : 0 < gainA s ∧ gainA s ≤ 48 ∧ 0 < gainB s ∧ gainB s ≤ 24 := by
  obtain ⟨h1, h2, h3⟩ := stage_cases h
  unfold gainA gainB
  by_cases k2 : s.1 = 2
  · simp only [if_pos k2]; omega
  · simp only [if_neg k2]
    have := h2 k2
    by_cases k5 : s.1 = 5
    · simp only [if_pos k5]
      have := h3 k5
      obtain ⟨f1, f2, f3, f4⟩ := frac_pos (x := 2 * s.2.1.toNat) (y := s.2.1.toNat - s.2.2.toNat) (by omega) (by omega)
      omega
    · simp only [if_neg k5]
      obtain ⟨f1, f2, f3, f4⟩ := frac_pos (x := s.2.1.toNat) (y := s.2.2.toNat) (by omega) (by omega)
      omega

/-- the gain of stages, from some gain on -/
def chainA : Nat → Nat → List Sg → Nat
  | P, _, [] => P
  | P, Q, s :: ss => chainA (fracA (P * gainA s) (Q * gainB s)) (fracB (P * gainA s) (Q * gainB s)) ss
def chainB : Nat → Nat → List Sg → Nat
  | _, Q, [] => Q
  | P, Q, s :: ss => chainB (fracA (P * gainA s) (Q * gainB s)) (fracB (P * gainA s) (Q * gainB s)) ss

theorem gain_step {s : Sg} {P Q i : Nat} (h : stageOk s = true) (hP : 0 < P ∧ P ≤ 48 ^ i) (hQ : 0 < Q ∧ Q ≤ 24 ^ i) (hi : i < 5) :
    (0 < P * gainA s ∧ P * gainA s ≤ 48 ^ (i + 1)) ∧ (0 < Q * gainB s ∧ Q * gainB s ≤ 24 ^ (i + 1)) ∧ 48 ^ (i + 1) ≤ 254803968 ∧ 24 ^ (i + 1) ≤ 254803968 := by
  obtain ⟨g1, g2, g3, g4⟩ := gain_bounds h
  refine ⟨⟨Nat.mul_pos hP.1 g1, ?_⟩, ⟨Nat.mul_pos hQ.1 g3, ?_⟩, ?_, ?_⟩
  · rw [Nat.pow_succ]; exact Nat.mul_le_mul hP.2 g2
  · rw [Nat.pow_succ]; exact Nat.mul_le_mul hQ.2 g4
  · have : 48 ^ (i + 1) ≤ 48 ^ 5 := Nat.pow_le_pow_right (by omega) (by omega)
    have h2 : (48 : Nat) ^ 5 = 254803968 := by decide
    omega
  · have : 24 ^ (i + 1) ≤ 24 ^ 5 := Nat.pow_le_pow_right (by omega) (by omega)
    have h2 : (24 : Nat) ^ 5 = 7962624 := by decide
    omega

theorem chain_bounds : ∀ (ss : List Sg) (i P Q : Nat), ss.all stageOk = true → ss.length + i ≤ 5 → (0 < P ∧ P ≤ 48 ^ i) → (0 < Q ∧ Q ≤ 24 ^ i) → 0 < chainA P Q ss ∧ chainA P Q ss ≤ 254803968 ∧ 0 < chainB P Q ss ∧ chainB P Q ss ≤ 254803968
  | [], i, P, Q, _, hi, hP, hQ => by
    have h1 : 48 ^ i ≤ 48 ^ 5 := Nat.pow_le_pow_right (by omega) (by simpa using hi)
    have h2 : (48 : Nat) ^ 5 = 254803968 := by decide
    have h3 : 24 ^ i ≤ 24 ^ 5 := Nat.pow_le_pow_right (by omega) (by simpa using hi)
    have h4 : (24 : Nat) ^ 5 = 7962624 := by decide
    rw [chainA, chainB]
    omega
  | s :: ss, i, P, Q, ha, hi, hP, hQ => by
    rw [List.all_cons, Bool.and_eq_true] at ha
    rw [List.length_cons] at hi
    obtain ⟨⟨g1, g2⟩, ⟨g3, g4⟩, _, _⟩ := gain_step ha.1 hP hQ (by omega)
    obtain ⟨f1, f2, f3, f4⟩ := frac_pos g1 g3
    rw [chainA, chainB]
    exact chain_bounds ss (i + 1) _ _ ha.2 (by omega) ⟨f1, by omega⟩ ⟨f2, by omega⟩

theorem ix02 : (0 : Int) < ((2 : Nat) : Int) := by omega
theorem ix12 : (1 : Int) < ((2 : Nat) : Int) := by omega
theorem ix01 : (0 : Int) ≤ 1 := by omega

end Go.Proofs.Ytlcklonakjhoiaa.Slim

/- Marks on stands, copies of stands. -/
namespace Go.Proofs.Ytlcklonakjhoiaa.Slim

open Go

set_option linter.unusedSimpArgs false

set_option linter.unusedVariables false

variable {pr : Prims} {H : List Blk} {e : Option Nat}

theorem markedL_get : ∀ (n k i : Nat), i < n → (markedL k n)[i]? = some (((k + i * 2 : Nat) : Int), ((k + i * 2 + 1 : Nat) : Int))
  | 0, k, i, h => by omega
  | n + 1, k, 0, h => by simp [markedL]
  | n + 1, k, i + 1, h => by
    rw [markedL, List.getElem?_cons_succ, markedL_get n (k + 2) i (by omega), show k + 2 + i * 2 = k + (i + 1) * 2 by omega]

theorem markedL_length : ∀ (n k : Nat), (markedL k n).length = n
  | 0, k => rfl
  | n + 1, k => by rw [markedL, List.length_cons, markedL_length n (k + 2)]

def markedS (k : Nat) : Nat → List Sg
  | 0 => []
  | n + 1 => ((k : Int), ((k + 1 : Nat) : Int), ((k + 2 : Nat) : Int)) :: markedS (k + 3) n

theorem markedS_get : ∀ (n k i : Nat), i < n → (markedS k n)[i]? = some (((k + i * 3 : Nat) : Int), ((k + i * 3 + 1 : Nat) : Int), ((k + i * 3 + 2 : Nat) : Int))
  | 0, k, i, h => by omega
  | n + 1, k, 0, h => by simp [markedS]
  | n + 1, k, i + 1, h => by
    rw [markedS, List.getElem?_cons_succ, markedS_get n (k + 3) i (by omega), show k + 3 + i * 3 = k + (i + 1) * 3 by omega]

theorem part_encS0 {ss : List Sg} {i : Nat} {s : Sg} (sz : Nat) (h : ss[i]? = some s) : part false (encS ss) (i * 3) sz = some (.int .i64 s.1) := by
  induction ss generalizing i with
  | nil => simp at h
  | cons a ss ih =>
    cases i with
    | zero => simp at h; subst h; simp [encS, part]
    | succ i =>
      simp at h
      rw [show (i + 1) * 3 = i * 3 + 1 + 1 + 1 by omega, encS, part_fk, part_fk, part_fk]
      exact ih h

theorem part_encS1 {ss : List Sg} {i : Nat} {s : Sg} (sz : Nat) (h : ss[i]? = some s) : part false (encS ss) (i * 3 + 1) sz = some (.int .i64 s.2.1) := by
  induction ss generalizing i with
  | nil => simp at h
  | cons a ss ih =>
    cases i with
    | zero => simp at h; subst h; simp [encS, part]
    | succ i =>
      simp at h
      rw [show (i + 1) * 3 + 1 = i * 3 + 1 + 1 + 1 + 1 by omega, encS, part_fk, part_fk, part_fk]
      exact ih h

theorem part_encS2 {ss : List Sg} {i : Nat} {s : Sg} (sz : Nat) (h : ss[i]? = some s) : part false (encS ss) (i * 3 + 2) sz = some (.int .i64 s.2.2) := by
  induction ss generalizing i with
  | nil => simp at h
  | cons a ss ih =>
    cases i with
    | zero => simp at h; subst h; simp [encS, part]
    | succ i =>
      simp at h
      rw [show (i + 1) * 3 + 2 = i * 3 + 2 + 1 + 1 + 1 by omega, encS, part_fk, part_fk, part_fk]
      exact ih h

theorem setRange_midS0 (P R : List Sg) (r : Sg) (a : Int) : setRange (encS (P ++ r :: R)) (P.length * 3) [.int .i64 a] = encS (P ++ (a, r.2) :: R) := by
  induction P with
  | nil => simp [encS, setRange]
  | cons p P ih =>
    simp only [encS, List.cons_append, List.length_cons, Nat.add_mul, Nat.one_mul] at *
    rw [show P.length * 3 + 3 = P.length * 3 + 1 + 1 + 1 by omega, setRange_k, setRange_k, setRange_k, ih]

theorem setRange_midS1 (P R : List Sg) (r : Sg) (a : Int) : setRange (encS (P ++ r :: R)) (P.length * 3 + 1) [.int .i64 a] = encS (P ++ (r.1, a, r.2.2) :: R) := by
  induction P with
  | nil => simp [encS, setRange]
  | cons p P ih =>
    simp only [encS, List.cons_append, List.length_cons, Nat.add_mul, Nat.one_mul] at *
    rw [show P.length * 3 + 3 + 1 = P.length * 3 + 1 + 1 + 1 + 1 by omega, setRange_k, setRange_k, setRange_k, ih]

theorem setRange_midS2 (P R : List Sg) (r : Sg) (a : Int) : setRange (encS (P ++ r :: R)) (P.length * 3 + 2) [.int .i64 a] = encS (P ++ (r.1, r.2.1, a) :: R) := by
  induction P with
  | nil => simp [encS, setRange]
  | cons p P ih =>
    simp only [encS, List.cons_append, List.length_cons, Nat.add_mul, Nat.one_mul] at *
    rw [show P.length * 3 + 3 + 2 = P.length * 3 + 2 + 1 + 1 + 1 by omega, setRange_k, setRange_k, setRange_k, ih]

theorem finish_one_len {L' l : List Blk} {n : Nat} (v : AV) (e0 : Option Nat) (hl : L'.length = n) (h : v.under n = true) : finish 1 n e0 v ⟨L' ++ l, none⟩ = some (v, ⟨L', e0⟩) := by
  subst hl
  simp [finish, h, clean]

theorem set_left {L l : List Blk} {q : Nat} {x : Blk} (h : q < L.length) : (L ++ l).set q x = L.set q x ++ l := by
  rw [List.set_append_left _ _ h]

/-- what marking leaves of memory -/
def markMem (L : List Blk) (q1 q2 n m x : Nat) : List Blk := (L.set q1 (.cells (encL (markedL x n)) true)).set q2 (.cells (encS (markedS (x + n * 2) m)) true)

theorem binop_nil (p : Nat × Nat) (sz n : Nat) (c : Option Nat) : binop 3 .eql (.slice (some p) sz n c) (.slice none 0 0 none) = some (.bool false) := Eq.trans rfl rfl

/-- an append of none leaves a dead block -/
def kill0 (n b : Nat) (L : List Blk) : List Blk := if n = 0 then L.set b .dead else L

theorem kill0_length (n b : Nat) (L : List Blk) : (kill0 n b L).length = L.length := by unfold kill0; split <;> simp

theorem kill0_new (n k : Nat) (l : List Blk) : kill0 n (H.length + k) (H ++ l) = H ++ kill0 n k l := by
  unfold kill0
  split
  · rw [set_newk]
  · rfl

theorem kill0_new0 (n : Nat) (l : List Blk) : kill0 n H.length (H ++ l) = H ++ kill0 n 0 l := kill0_new n 0 l

theorem kill0_cons (n k : Nat) (x : Blk) (l : List Blk) : kill0 n (k + 1) (x :: l) = x :: kill0 n k l := by
  unfold kill0
  split <;> rfl

theorem kill0_0 (n : Nat) (x : Blk) (l : List Blk) : kill0 n 0 (x :: l) = (if n = 0 then Blk.dead else x) :: l := by
  unfold kill0
  split <;> rfl

theorem append_all {L : List Blk} {b q n sz bytes : Nat} {c : Option Nat} {cs : List AV} (hb : L[b]? = some (.cells [] true)) (hq : cellsAt L q = some cs) (hl : cs.length = n * sz) (hm : n * bytes ≤ maxBytes) :
    appendV L e false sz bytes (.slice (some (b, 0)) sz 0 (some 0)) (.slice (some (q, 0)) sz n c) = some (.slice (some (L.length, 0)) sz n none, ⟨kill0 n b L ++ [.cells cs true], e⟩) := by
  unfold appendV
  have hs := srcCells_new L n sz c cs q hq hl
  simp only [hb, hs]
  rw [if_pos (by simp [hm, hl])]
  unfold kill0
  by_cases hn : n = 0
  · subst hn
    have : cs = [] := by simpa using hl
    subst this
    simp
  · rw [if_pos ⟨trivial, by omega⟩, if_neg hn]
    simp

theorem e_Clone_Load {q : Nat} {c : Option Nat} {ls : List Ld} (h : cellsAt H q = some (encL ls)) (hn : ls.length ≤ 1048576) : call T pr f_slices_Clone_Si_Load_i_Load [slL q ls.length c] ⟨H, e⟩ = some (slL H.length ls.length none, ⟨H ++ [.cells (encL ls) true], e⟩) := by
  have ha := fun L b e' (hb : L[b]? = some (.cells [] true)) hq => append_all (e := e') (L := L) (b := b) (q := q) (n := ls.length) (sz := 2) (bytes := 16) (c := c) (cs := encL ls) hb hq (encL_length ls) (by unfold maxBytes; omega)
  have hf : ∀ (B : Blk) (e0 : Option Nat), finish 2 H.length e0 (slL (H.length + 1) ls.length none) ⟨H ++ [B, .cells (encL ls) true], none⟩ = some (slL H.length ls.length none, ⟨H ++ [.cells (encL ls) true], e0⟩) :=
    fun B e0 => finish_two_at e0 rfl (under_encL _ _)
  rw [call_eq t_slices_Clone_Si_Load_i_Load]
  simp +contextual only [a_slices_Clone_Si_Load_i_Load, c_slices_Clone_Si_Load_i_Load, binop_nil, fillParts, ha, cells_mono h, kill0_new0, kill0_0, hf, go_sem, entry, joinEsc, if_pos, reduceIte, Nat.reduceAdd, Nat.reduceLeDiff, Nat.reduceLT, Nat.reduceEqDiff]

theorem cellsAt_lt {L : List Blk} {w : Nat} {cs : List AV} (h : cellsAt L w = some cs) : w < L.length := by
  unfold cellsAt at h
  cases hb : L[w]? with
  | none => rw [hb] at h; cases h
  | some x => exact (List.getElem?_eq_some_iff.mp hb).1

end Go.Proofs.Ytlcklonakjhoiaa.Slim

/- People at other places. -/
namespace Go.Proofs.Ytlcklonakjhoiaa.Slim

open Go

set_option linter.unusedSimpArgs false

set_option linter.unusedVariables false

variable {pr : Prims} {H : List Blk} {e : Option Nat}

/-- people at other places -/
def putL : List Ld → List Int → List Ld
  | [], _ => []
  | l :: ls, ss => (ss.headD 0, l.2) :: putL ls ss.tail

theorem putL_length : ∀ (ls : List Ld) (ss : List Int), (putL ls ss).length = ls.length
  | [], _ => rfl
  | l :: ls, ss => by simp [putL, putL_length ls]

theorem drop_head (ss : List Int) (i : Nat) (h : i < ss.length) : ss[i]? = some ((ss.drop i).headD 0) ∧ (ss.drop i).tail = ss.drop (i + 1) := by
  rw [List.drop_eq_getElem_cons h]
  exact ⟨List.getElem?_eq_getElem h, rfl⟩

theorem cellsAt_set_ne {L : List Blk} {b u : Nat} {x : Blk} {cs : List AV} (h : cellsAt L u = some cs) (hne : b ≠ u) : cellsAt (L.set b x) u = some cs := by
  unfold cellsAt at *
  rw [List.getElem?_set_ne hne]
  exact h

theorem cellsAt_get {L : List Blk} {j : Nat} {cs : List AV} {w : Bool} (h : L[j]? = some (.cells cs w)) : cellsAt L j = some cs := by
  unfold cellsAt
  rw [h]

abbrev spV (s0 s1 s2 : Int) : AV := .agg [.int .i64 s0, .int .i64 s1, .int .i64 s2]

/-- the digits of a number, the last one first -/
def digs (m : Nat) : Nat → Nat → List Nat
  | 0, _ => []
  | n + 1, k => k % m :: digs m n (k / m)

theorem digs_length (m : Nat) : ∀ n k, (digs m n k).length = n
  | 0, _ => rfl
  | n + 1, k => by simp [digs, digs_length m n]

def ints (l : List Nat) : List Int := l.map fun (i : Nat) => (i : Int)

theorem tmodN (k m : Nat) : Int.tmod (k : Int) (m : Int) = ((k % m : Nat) : Int) := rfl

theorem tdivN (k m : Nat) : Int.tdiv (k : Int) (m : Int) = ((k / m : Nat) : Int) := rfl

theorem putL_app : ∀ (P : List Ld) (Q : List Ld) (ss ts : List Int), P.length = ss.length → putL (P ++ Q) (ss ++ ts) = putL P ss ++ putL Q ts
  | [], Q, [], ts, _ => rfl
  | p :: P, Q, s :: ss, ts, h => by simp [putL, putL_app P Q ss ts (by simpa using h)]

end Go.Proofs.Ytlcklonakjhoiaa.Slim

/- The safe moves of a party. -/
namespace Go.Proofs.Ytlcklonakjhoiaa.Slim

open Go

set_option linter.unusedSimpArgs false

set_option linter.unusedVariables false

variable {pr : Prims} {H : List Blk} {e : Option Nat}

/-- one person at another place -/
def movd : List Ld → Nat → Int → List Ld
  | [], _, _ => []
  | l :: ls, 0, p => (p, l.2) :: ls
  | l :: ls, i + 1, p => l :: movd ls i p

theorem movd_length : ∀ (ls : List Ld) (i : Nat) (p : Int), (movd ls i p).length = ls.length
  | [], _, _ => rfl
  | l :: ls, 0, p => rfl
  | l :: ls, i + 1, p => by simp [movd, movd_length ls i p]

theorem movd_split {ls : List Ld} {i : Nat} (p : Int) (hi : i < ls.length) : ∃ P l R, ls = P ++ l :: R ∧ P.length = i ∧ ls[i]? = some l ∧ movd ls i p = P ++ (p, l.2) :: R := by
  induction ls generalizing i with
  | nil => simp at hi
  | cons l ls ih =>
    cases i with
    | zero => exact ⟨[], l, ls, rfl, rfl, rfl, rfl⟩
    | succ i =>
      obtain ⟨P, l', R, h1, h2, h3, h4⟩ := ih (by simpa using hi)
      exact ⟨l :: P, l', R, by rw [h1]; rfl, by simp [h2], by simpa using h3, by rw [movd, h4]; rfl⟩

theorem putL_set : ∀ (ls : List Ld) (ss : List Int) (i : Nat) (p : Int), i < ls.length → ls.length ≤ ss.length → putL ls (ss.set i p) = movd (putL ls ss) i p
  | [], ss, i, p, hi, hl => by simp at hi
  | l :: ls, [], i, p, hi, hl => by simp at hl
  | l :: ls, s :: ss, 0, p, hi, hl => rfl
  | l :: ls, s :: ss, i + 1, p, hi, hl => by
    have := putL_set ls ss i p (by simpa using hi) (by simpa using hl)
    simp [putL, movd, this]

theorem setRange_movd {ls : List Ld} {i : Nat} (p : Int) (hi : i < ls.length) : setRange (encL ls) (i * 2) [.int .i64 p] = encL (movd ls i p) := by
  obtain ⟨P, l, R, h1, h2, _, h4⟩ := movd_split p hi
  rw [h4, h1, ← h2]
  exact setRange_midL0 P R l p

/-- is it a place on the plank, and do they rest there? -/
def okMv (x a b : Int) (ls : List Ld) (i : Nat) (p : Int) : Bool := (decide (0 ≤ p) && decide (p ≤ x)) && decide (sideW (movd ls i p) a b = 0)

def plOf (ls : List Ld) (i : Nat) : Int := (ls[i]?.getD (0, 0)).1

/-- is a move safe? -/
def safeMv (x a b : Int) (ls : List Ld) (s i p : Int) : Bool := ((decide (0 ≤ i) && decide (i ≤ (ls.length : Int) - 1)) && (decide (0 ≤ p) && decide (p ≤ x))) && ((decide (wr (p - plOf ls i.toNat) = s) || decide (wr (p - plOf ls i.toNat) = wr (0 - s))) && decide (sideW (movd ls i.toNat p) a b = 0))

theorem at02 : ((0 : Int) ≤ 0 ∧ (0 : Int) < ((2 : Nat) : Int)) = True := by simp

theorem at12 : ((0 : Int) ≤ 1 ∧ (1 : Int) < ((2 : Nat) : Int)) = True := by simp

theorem toNat0 : Int.toNat 0 = 0 := rfl

theorem toNat1 : Int.toNat 1 = 1 := rfl

theorem append_ld2 {G : List Blk} {B : Blk} {j : Nat} {o : List Ld} {cap : Option Nat} (hG : G[j]? = some (.cells (encL o) true)) (hcap : cap = some 0 → o = []) (hmb : (o.length + 1) * 16 ≤ maxBytes) (a b : Int) :
    appendV (H ++ (G ++ [B, .cells [.int .i64 a, .int .i64 b] true])) e false 2 16 (slL (H.length + j) o.length cap) (.slice (some (H.length + (G.length + 1), 0)) 2 1 (some 1)) =
      some (slL (H.length + (G.length + 2)) (o.length + 1) none, ⟨H ++ (killIf cap j (G ++ [B, .cells [.int .i64 a, .int .i64 b] true]) ++ [.cells (encL o ++ [.int .i64 a, .int .i64 b]) true]), e⟩) := by
  have hj : j < G.length := (List.getElem?_eq_some_iff.mp hG).1
  have h := append_ld (H := H) (e := e) (G := G ++ [B]) (j := j) (o := o) (cap := cap) (by rw [List.getElem?_append_left hj]; exact hG) hcap hmb a b
  simpa [Nat.add_assoc] using h

/-- the safe ones of some moves of one person -/
def selM (x a b : Int) (ls : List Ld) (i : Nat) (ps : List Int) : List Ld := (ps.filter (okMv x a b ls i)).map fun p => ((i : Int), p)

theorem selM_cons (x a b : Int) (ls : List Ld) (i : Nat) (p : Int) (ps : List Int) : selM x a b ls i (p :: ps) = if okMv x a b ls i p = true then ((i : Int), p) :: selM x a b ls i ps else selM x a b ls i ps := by
  unfold selM
  cases h : okMv x a b ls i p <;> simp [h]

theorem set3 {s0 s1 s2 p : Int} {i : Nat} (hi : i < 3) : ∃ t0 t1 t2, [s0, s1, s2].set i p = [t0, t1, t2] ∧ setRange [.int .i64 s0, .int .i64 s1, .int .i64 s2] i [.int .i64 p] = [.int .i64 t0, .int .i64 t1, .int .i64 t2] := by
  match i, hi with
  | 0, _ => exact ⟨p, s1, s2, rfl, rfl⟩
  | 1, _ => exact ⟨s0, p, s2, rfl, rfl⟩
  | 2, _ => exact ⟨s0, s1, p, rfl, rfl⟩

/-- all safe moves -/
def mvsFrom (x a b s : Int) (ls : List Ld) : Nat → Nat → List Ld
  | 0, _ => []
  | k + 1, i => selM x a b ls i [wr (plOf ls i - s), wr (plOf ls i + s)] ++ mvsFrom x a b s ls k (i + 1)

theorem selM_le (x a b : Int) (ls : List Ld) (i : Nat) (ps : List Int) : (selM x a b ls i ps).length ≤ ps.length := by
  unfold selM
  rw [List.length_map]
  exact List.length_filter_le _ _

theorem plOf_putL : ∀ (ls : List Ld) (ss : List Int) (i : Nat) (p : Int), i < ls.length → ss[i]? = some p → plOf (putL ls ss) i = p
  | [], ss, i, p, hi, hp => by simp at hi
  | l :: ls, [], i, p, hi, hp => by simp at hp
  | l :: ls, s :: ss, 0, p, hi, hp => by simp at hp; subst hp; rfl
  | l :: ls, s :: ss, i + 1, p, hi, hp => plOf_putL ls ss i p (by simpa using hi) (by simpa using hp)

/-- how a party's places are bounded -/
def plB (ls : List Ld) : Prop := ∀ i, i < ls.length → 0 ≤ plOf ls i ∧ plOf ls i ≤ 60

theorem safe_ok {x a b s : Int} {ls : List Ld} {i : Nat} (hi : i < ls.length) (hpl : plB ls) (hs : 1 ≤ s ∧ s ≤ 4) {p : Int} (hp : p = wr (plOf ls i - s) ∨ p = wr (plOf ls i + s)) : safeMv x a b ls s i p = okMv x a b ls i p := by
  obtain ⟨h1, h2⟩ := hpl i hi
  have w1 : wr (plOf ls i - s) = plOf ls i - s := wrap64 (by omega) (by omega)
  have w2 : wr (plOf ls i + s) = plOf ls i + s := wrap64 (by omega) (by omega)
  have w3 : wr (0 - s) = - s := by show IntKind.i64.wrap (0 - s) = - s; rw [wrap64 (by omega) (by omega)]; omega
  have w4 : wr (p - plOf ls i) = p - plOf ls i := wrap64 (by omega) (by omega)
  have hr : (decide (0 ≤ (i : Int)) && decide ((i : Int) ≤ (ls.length : Int) - 1)) = true := by simp; omega
  unfold safeMv okMv
  rw [hr, Int.toNat_natCast, w3, w4, Bool.true_and]
  have : (decide (p - plOf ls i = s) || decide (p - plOf ls i = -s)) = true := by
    rw [w1, w2] at hp
    simp
    omega
  rw [this, Bool.true_and]

end Go.Proofs.Ytlcklonakjhoiaa.Slim

/- Tasks of a stand: what they make. -/
namespace Go.Proofs.Ytlcklonakjhoiaa.Slim

open Go

set_option linter.unusedSimpArgs false

set_option linter.unusedVariables false

variable {pr : Prims} {H : List Blk} {e : Option Nat}

def sliceHiV (sz : Nat) (v h : AV) : Option AV := match v with
  | .slice p sz' n cap => (match natOf h with
    | some h => sliceVal sz p sz' n cap 0 h none
    | none => none)
  | _ => none

def sliceLoV (sz : Nat) (v l : AV) : Option AV := match v with
  | .slice p sz' n cap => (match natOf l with
    | some l => sliceVal sz p sz' n cap l n none
    | none => none)
  | _ => none

section

variable {C : FuncId → List AV → Mem → Option (AV × Mem)} {g : X → AV} {m : Mem}

theorem aop_sliceHi (sz : Nat) (x h : X) : aop C g m (.sliceSl sz x none (some h) none) = valOf m (sliceHiV sz (g x) (g h)) := by
  rw [aop_of_light rfl]
  simp only [light, sliceHiV, bound, optNat]
  generalize g x = v
  generalize natOf (g h) = o
  cases v <;> cases o <;> simp

theorem aop_sliceLo (sz : Nat) (x l : X) : aop C g m (.sliceSl sz x (some l) none none) = valOf m (sliceLoV sz (g x) (g l)) := by
  rw [aop_of_light rfl]
  simp only [light, sliceLoV, bound, optNat]
  generalize g x = v
  generalize natOf (g l) = o
  cases v <;> cases o <;> simp

end

theorem sliceHiV_at (sz b o n h : Nat) (cap : Option Nat) (hh : h ≤ n) : sliceHiV sz (.slice (some (b, o)) sz n cap) (.int .i64 h) = some (.slice (some (b, o)) sz h cap) := by
  unfold sliceHiV natOf sliceVal
  simp [hh]

theorem sliceLoV_at (sz b o n l : Nat) (hl : l ≤ n) : sliceLoV sz (.slice (some (b, o)) sz n none) (.int .i64 l) = some (.slice (some (b, o + l * sz)) sz (n - l) none) := by
  unfold sliceLoV natOf sliceVal
  simp [hl]

theorem encL_take : ∀ (ls : List Ld) (i : Nat), (encL ls).take (i * 2) = encL (ls.take i)
  | ls, 0 => by simp [encL]
  | [], i + 1 => by simp [encL]
  | l :: ls, i + 1 => by
    rw [show (i + 1) * 2 = i * 2 + 1 + 1 by omega]
    simp [encL, encL_take ls i]

theorem encL_drop : ∀ (ls : List Ld) (i : Nat), (encL ls).drop (i * 2) = encL (ls.drop i)
  | ls, 0 => by simp
  | [], i + 1 => by simp [encL]
  | l :: ls, i + 1 => by
    rw [show (i + 1) * 2 = i * 2 + 1 + 1 by omega]
    simp [encL, encL_drop ls i]

theorem encS_take : ∀ (ls : List Sg) (i : Nat), (encS ls).take (i * 3) = encS (ls.take i)
  | ls, 0 => by simp [encS]
  | [], i + 1 => by simp [encS]
  | l :: ls, i + 1 => by
    rw [show (i + 1) * 3 = i * 3 + 1 + 1 + 1 by omega]
    simp [encS, encS_take ls i]

theorem encS_drop : ∀ (ls : List Sg) (i : Nat), (encS ls).drop (i * 3) = encS (ls.drop i)
  | ls, 0 => by simp
  | [], i + 1 => by simp [encS]
  | l :: ls, i + 1 => by
    rw [show (i + 1) * 3 = i * 3 + 1 + 1 + 1 by omega]
    simp [encS, encS_drop ls i]

theorem encS_append : ∀ a b : List Sg, encS (a ++ b) = encS a ++ encS b
  | [], b => rfl
  | l :: a, b => by simp [encS, encS_append a b]

theorem encL_erase (ls : List Ld) (i : Nat) : (encL ls).take (i * 2) ++ (encL ls).drop ((i + 1) * 2) = encL (ls.eraseIdx i) := by
  rw [encL_take, encL_drop, List.eraseIdx_eq_take_drop_succ, encL_append]

theorem encS_erase (ls : List Sg) (i : Nat) : (encS ls).take (i * 3) ++ (encS ls).drop ((i + 1) * 3) = encS (ls.eraseIdx i) := by
  rw [encS_take, encS_drop, List.eraseIdx_eq_take_drop_succ, encS_append]

/-- an element taken out of a slice that has its block alone -/
theorem append_del {L : List Blk} {b n sz bytes i : Nat} {cs : List AV} (hb : L[b]? = some (.cells cs true)) (hcs : cs.length = n * sz) (hi : i < n) (hm : n * bytes ≤ maxBytes) :
    appendV L e false sz bytes (.slice (some (b, 0)) sz i none) (.slice (some (b, (i + 1) * sz)) sz (n - (i + 1)) none) = some (.slice (some (L.length, 0)) sz (n - 1) none, ⟨L.set b .dead ++ [.cells (cs.take (i * sz) ++ cs.drop ((i + 1) * sz)) true], e⟩) := by
  have e1 : (i + 1) * sz + (n - (i + 1)) * sz = n * sz := by rw [← Nat.add_mul]; congr 1; omega
  have e2 : (i + 1) * sz = i * sz + sz := by rw [Nat.add_mul, Nat.one_mul]
  have hs : srcCells false L (.slice (some (b, (i + 1) * sz)) sz (n - (i + 1)) none) = some (n - (i + 1), cs.drop ((i + 1) * sz)) := by
    unfold srcCells
    have hc : cellsAt L b = some cs := by unfold cellsAt; rw [hb]
    simp only [Bool.false_eq_true, if_false, hc]
    rw [if_pos (by omega), List.take_of_length_le (by rw [List.length_drop]; omega)]
  have e3 : i + (n - (i + 1)) = n - 1 := by omega
  unfold appendV
  simp only [hb, hs]
  rw [if_pos ⟨trivial, by rw [e3]; exact Nat.le_trans (Nat.mul_le_mul_right _ (by omega)) hm, by rw [List.length_drop]; omega, by omega⟩]
  rw [if_neg (by simp), if_pos trivial, e3, List.drop_zero]

/-- an element more on a slice that has its block alone -/
theorem append_gen {L : List Blk} {b q n sz bytes : Nat} {cs new : List AV} {c : Option Nat} (hb : L[b]? = some (.cells cs true)) (hq : cellsAt L q = some new) (hcs : cs.length = n * sz) (hnew : new.length = sz) (hm : (n + 1) * bytes ≤ maxBytes) :
    appendV L e false sz bytes (.slice (some (b, 0)) sz n none) (.slice (some (q, 0)) sz 1 c) = some (.slice (some (L.length, 0)) sz (n + 1) none, ⟨L.set b .dead ++ [.cells (cs ++ new) true], e⟩) := by
  have hs := srcCells_new L 1 sz c new q hq (by omega)
  unfold appendV
  simp only [hb, hs]
  rw [if_pos ⟨trivial, hm, by omega, by omega⟩, if_neg (by simp), if_pos trivial, List.drop_zero, ← hcs, List.take_length]

abbrev tkV (k x y z : Int) : AV := .agg [.int .i64 k, .int .i64 x, .int .i64 y, .int .i64 z]

/-- may a task be made? -/
def mayT (ls : List Ld) (ss : List Sg) (k x y z : Int) : Bool :=
  if k = 1 ∨ k = 4 then decide (z = 0)
  else if k = 2 then ((decide (0 ≤ x) && decide (x ≤ (ls.length : Int) - 1)) && decide (y = 0)) && decide (z = 0)
  else if k = 3 then (decide (0 ≤ x) && decide (x ≤ (ls.length : Int) - 1)) && decide (z = 0)
  else if k = 6 then ((decide (0 ≤ x) && decide (x ≤ (ss.length : Int) - 1)) && decide (y = 0)) && decide (z = 0)
  else decide (k = 5)

/-- what a task makes of a row and a chain -/
def rowT (ls : List Ld) (k x y : Int) : List Ld :=
  if k = 1 then ls ++ [(x, y)] else if k = 2 then ls.eraseIdx x.toNat else if k = 3 then movd ls x.toNat y else ls

def chainT (ss : List Sg) (k x y z : Int) : List Sg :=
  if k = 5 then ss ++ [(x, y, z)] else if k = 6 then ss.eraseIdx x.toNat else ss

def baseA (a k x : Int) : Int := if k = 4 then x else a

end Go.Proofs.Ytlcklonakjhoiaa.Slim

/- The slim machine: walking by what holds at the end; loops by invariants. -/
namespace Go.Proofs.Ytlcklonakjhoiaa.Slim
open Go
set_option linter.unusedVariables false
set_option linter.unusedSimpArgs false

section
variable {T : Table} {pr : Prims} {H : List Blk} {e : Option Nat}

/-- code comes to an end, of which this holds -/
def Wp (r : Option (Ex × St)) (Q : Ex → St → Prop) : Prop := ∃ ex st, r = some (ex, st) ∧ Q ex st
/-- a call (or an operation) comes to an end, of which this holds -/
def Wc (r : Option (AV × Mem)) (Q : AV → Mem → Prop) : Prop := ∃ v m, r = some (v, m) ∧ Q v m

theorem Wp.mono {r : Option (Ex × St)} {P Q : Ex → St → Prop} (h : Wp r P) (k : ∀ ex st, P ex st → Q ex st) : Wp r Q := by
  obtain ⟨ex, st, h1, h2⟩ := h
  exact ⟨ex, st, h1, k _ _ h2⟩
theorem Wc.mono {r : Option (AV × Mem)} {P Q : AV → Mem → Prop} (h : Wc r P) (k : ∀ v m, P v m → Q v m) : Wc r Q := by
  obtain ⟨v, m, h1, h2⟩ := h
  exact ⟨v, m, h1, k _ _ h2⟩
theorem Wc.eq {r : Option (AV × Mem)} {v : AV} {m : Mem} (h : Wc r fun v' m' => v' = v ∧ m' = m) : r = some (v, m) := by
  obtain ⟨_, _, h1, rfl, rfl⟩ := h
  exact h1
theorem Wc.of_eq {r : Option (AV × Mem)} {v : AV} {m : Mem} {Q : AV → Mem → Prop} (h : r = some (v, m)) (k : Q v m) : Wc r Q := ⟨v, m, h, k⟩

@[congr] theorem Wp_congr {r r' : Option (Ex × St)} {Q : Ex → St → Prop} (h : r = r') : Wp r Q = Wp r' Q := by rw [h]
@[congr] theorem Wc_congr {r r' : Option (AV × Mem)} {Q : AV → Mem → Prop} (h : r = r') : Wc r Q = Wc r' Q := by rw [h]

theorem Wp_some (ex : Ex) (st : St) (Q : Ex → St → Prop) : Wp (some (ex, st)) Q = Q ex st := by
  apply propext
  constructor
  · rintro ⟨_, _, h1, h2⟩; cases h1; exact h2
  · exact fun h => ⟨_, _, rfl, h⟩
theorem Wp_none (Q : Ex → St → Prop) : Wp none Q = False := by
  apply propext
  constructor
  · rintro ⟨_, _, h1, _⟩; cases h1
  · exact False.elim
theorem Wp_ite (c : Prop) [Decidable c] (a b : Option (Ex × St)) (Q : Ex → St → Prop) : Wp (if c then a else b) Q = ((c → Wp a Q) ∧ (¬ c → Wp b Q)) := by
  by_cases h : c <;> simp [h]
theorem Wc_some (v : AV) (m : Mem) (Q : AV → Mem → Prop) : Wc (some (v, m)) Q = Q v m := by
  apply propext
  constructor
  · rintro ⟨_, _, h1, h2⟩; cases h1; exact h2
  · exact fun h => ⟨_, _, rfl, h⟩
theorem Wc_none (Q : AV → Mem → Prop) : Wc none Q = False := by
  apply propext
  constructor
  · rintro ⟨_, _, h1, _⟩; cases h1
  · exact False.elim
theorem Wc_ite (c : Prop) [Decidable c] (a b : Option (AV × Mem)) (Q : AV → Mem → Prop) : Wc (if c then a else b) Q = ((c → Wc a Q) ∧ (¬ c → Wc b Q)) := by
  by_cases h : c <;> simp [h]

def seqQ (f : St → Option (Ex × St)) (Q : Ex → St → Prop) : Ex → St → Prop
  | .normal, st => Wp (f st) Q
  | ex, st => Q ex st
theorem seqQ_normal (f : St → Option (Ex × St)) (Q : Ex → St → Prop) (st : St) : seqQ f Q .normal st = Wp (f st) Q := Eq.trans rfl rfl
theorem seqQ_exit (f : St → Option (Ex × St)) (Q : Ex → St → Prop) (k : Nat) (st : St) : seqQ f Q (.exit k) st = Q (.exit k) st := Eq.trans rfl rfl
theorem seqQ_ret (f : St → Option (Ex × St)) (Q : Ex → St → Prop) (st : St) : seqQ f Q .ret st = Q .ret st := Eq.trans rfl rfl
theorem Wp_thenRun (r : Option (Ex × St)) (f : St → Option (Ex × St)) (Q : Ex → St → Prop) : Wp (thenRun r f) Q = Wp r (seqQ f Q) := by
  cases r with
  | none => simp only [thenRun_none, Wp_none]
  | some p =>
    obtain ⟨ex, st⟩ := p
    cases ex <;> simp only [thenRun_normal, thenRun_ret, thenRun_exit, Wp_some, seqQ]

def blkQ (id : Nat) (Q : Ex → St → Prop) : Ex → St → Prop
  | .exit k, st => if k = id then Q .normal st else Q (.exit k) st
  | ex, st => Q ex st
theorem blkQ_normal (id : Nat) (Q : Ex → St → Prop) (st : St) : blkQ id Q .normal st = Q .normal st := Eq.trans rfl rfl
theorem blkQ_ret (id : Nat) (Q : Ex → St → Prop) (st : St) : blkQ id Q .ret st = Q .ret st := Eq.trans rfl rfl
theorem blkQ_same (id : Nat) (Q : Ex → St → Prop) (st : St) : blkQ id Q (.exit id) st = Q .normal st := by simp [blkQ]
theorem blkQ_exit (id k : Nat) (Q : Ex → St → Prop) (st : St) : blkQ id Q (.exit k) st = if k = id then Q .normal st else Q (.exit k) st := Eq.trans rfl rfl
theorem Wp_inBlock (id : Nat) (r : Option (Ex × St)) (Q : Ex → St → Prop) : Wp (inBlock id r) Q = Wp r (blkQ id Q) := by
  cases r with
  | none => simp only [inBlock_none, Wp_none]
  | some p =>
    obtain ⟨ex, st⟩ := p
    cases ex with
    | normal => simp only [inBlock_normal, Wp_some, blkQ]
    | ret => simp only [inBlock_ret, Wp_some, blkQ]
    | exit k => by_cases h : k = id <;> simp only [inBlock_exit, h, if_true, if_false, Wp_some, blkQ]

/-- behind a region's operation -/
def opQ (tm : List AV) (outs : List (Nat × Nat)) (f : AV → Mem → Option (List AV × Mem)) (Q : Ex → St → Prop) : AV → Mem → Prop := fun v m => Wp (outRun tm outs (f v m)) Q
theorem opQ_at (tm : List AV) (outs : List (Nat × Nat)) (f : AV → Mem → Option (List AV × Mem)) (Q : Ex → St → Prop) (v : AV) (m : Mem) : opQ tm outs f Q v m = Wp (outRun tm outs (f v m)) Q := Eq.trans rfl rfl
theorem Wp_opThen (tm : List AV) (outs : List (Nat × Nat)) (r : Option (AV × Mem)) (f : AV → Mem → Option (List AV × Mem)) (Q : Ex → St → Prop) :
    Wp (outRun tm outs (opThen r f)) Q = Wc r (opQ tm outs f Q) := by
  cases r with
  | none => simp only [opThen_none, outRun_none, Wp_none, Wc_none]
  | some p =>
    obtain ⟨v, m⟩ := p
    simp only [opThen_some, Wc_some, opQ]

/-- behind a guarded operation -/
theorem Wp_guardP (tm : List AV) (outs : List (Nat × Nat)) (p : Prop) [Decidable p] (r : Option (AV × Mem)) (m : Mem) (f : AV → Mem → Option (List AV × Mem)) (Q : Ex → St → Prop) :
    Wp (outRun tm outs (guardP p r m f)) Q = ((p → Wc r (opQ tm outs f Q)) ∧ (¬ p → Wp (outRun tm outs (f (.tup []) m)) Q)) := by
  by_cases h : p
  · simp only [h, guardP_true, Wp_opThen, true_imp_iff, not_true_eq_false, false_imp_iff, and_true]
  · simp only [h, guardP_false, not_false_eq_true, true_imp_iff, false_imp_iff, true_and]

/-- behind a call's code -/
def retQ (F : AFun) (m : Mem) (Q : AV → Mem → Prop) : Ex → St → Prop
  | .exit _, _ => False
  | _, st => Wc (finRun F m st) Q
theorem retQ_normal (F : AFun) (m : Mem) (Q : AV → Mem → Prop) (st : St) : retQ F m Q .normal st = Wc (finRun F m st) Q := Eq.trans rfl rfl
theorem retQ_ret (F : AFun) (m : Mem) (Q : AV → Mem → Prop) (st : St) : retQ F m Q .ret st = Wc (finRun F m st) Q := Eq.trans rfl rfl
theorem Wc_endCall (F : AFun) (m : Mem) (r : Option (Ex × St)) (Q : AV → Mem → Prop) : Wc (endCall F m r) Q = Wp r (retQ F m Q) := by
  cases r with
  | none => simp only [endCall_none, Wc_none, Wp_none]
  | some p =>
    obtain ⟨ex, st⟩ := p
    cases ex <;> simp only [endCall_normal, endCall_ret, endCall_exit, Wc_none, Wp_some, retQ]

theorem call_wc {f : FuncId} {F : AFun} (h : T f = some F) (args : List AV) (m : Mem) (Q : AV → Mem → Prop) : Wc (call T pr f args m) Q = Wp (run T pr F.code ⟨entry F args, { m with esc := none }⟩) (retQ F m Q) := by
  rw [call_eq h, Wc_endCall]

/-! loops -/
/-- what a loop's round must bring -/
abbrev Holds (I : St → Prop) (st : St) : Prop := I st
@[congr] theorem Holds_congr {I : St → Prop} {st st' : St} (h : st = st') : Holds I st = Holds I st' := by rw [h]
def loopQ (I : St → Prop) (Q : Ex → St → Prop) : Ex → St → Prop
  | .normal, st => Holds I st
  | ex, st => Q ex st
theorem loopQ_normal (I : St → Prop) (Q : Ex → St → Prop) (st : St) : loopQ I Q .normal st = Holds I st := Eq.trans rfl rfl
theorem loopQ_exit (I : St → Prop) (Q : Ex → St → Prop) (k : Nat) (st : St) : loopQ I Q (.exit k) st = Q (.exit k) st := Eq.trans rfl rfl
theorem loopQ_ret (I : St → Prop) (Q : Ex → St → Prop) (st : St) : loopQ I Q .ret st = Q .ret st := Eq.trans rfl rfl

theorem Wp_loop {b : ACode} {Q : Ex → St → Prop} (I : Nat → St → Prop) (hs : ∀ k st, I k st → Wp (run T pr b st) (loopQ (fun st' => ∃ j, j < k ∧ I j st') Q)) :
    ∀ (n : Nat) (st : St), I n st → Wp (run T pr (.loop b) st) Q := by
  intro n
  induction n using Nat.strongRecOn with
  | _ n ih =>
    intro st h
    rw [run_loop, Wp_thenRun]
    refine (hs n st h).mono fun ex st' h' => ?_
    cases ex with
    | normal =>
      obtain ⟨j, hj, hI⟩ := h'
      exact ih j hj st' hI
    | exit k => exact h'
    | ret => exact h'

/-! the end of a call that keeps what its result names -/
theorem roots_slice_new (sz n o k : Nat) (c : Option Nat) : AV.roots H.length (.slice (some (H.length + k, o)) sz n c) = [H.length + k] := by simp [AV.roots]
theorem roots_slice_new0 (sz n o : Nat) (c : Option Nat) : AV.roots H.length (.slice (some (H.length, o)) sz n c) = [H.length] := by simp [AV.roots]
theorem roots_slice_none (lim sz n : Nat) (c : Option Nat) : AV.roots lim (.slice none sz n c) = [] := by simp [AV.roots]
theorem roots_slice_old {lim b : Nat} (sz n o : Nat) (c : Option Nat) (h : b < lim) : AV.roots lim (.slice (some (b, o)) sz n c) = [] := by simp [AV.roots, h]
theorem roots_ptr_new (o k : Nat) : AV.roots H.length (.ptr (some (H.length + k, o))) = [H.length + k] := by simp [AV.roots]
theorem roots_ptr_new0 (o : Nat) : AV.roots H.length (.ptr (some (H.length, o))) = [H.length] := by simp [AV.roots]
theorem roots_int (lim : Nat) (k : IntKind) (x : Int) : AV.roots lim (.int k x) = [] := by simp [AV.roots]
theorem roots_bool (lim : Nat) (x : Bool) : AV.roots lim (.bool x) = [] := by simp [AV.roots]
theorem roots_str (lim : Nat) (x : ByteArray) : AV.roots lim (.str x) = [] := by simp [AV.roots]
theorem roots_agg (lim : Nat) (cs : List AV) : AV.roots lim (.agg cs) = AV.roots.go lim cs := by simp [AV.roots]
theorem roots_tup (lim : Nat) (cs : List AV) : AV.roots lim (.tup cs) = AV.roots.go lim cs := by simp [AV.roots]
theorem roots_cons (lim : Nat) (c : AV) (cs : List AV) : AV.roots.go lim (c :: cs) = AV.roots lim c ++ AV.roots.go lim cs := by simp [AV.roots.go]
theorem roots_nil (lim : Nat) : AV.roots.go lim [] = [] := by simp [AV.roots.go]
theorem rename_slice (f : Nat → Nat) (b o sz n : Nat) (c : Option Nat) : AV.rename f (.slice (some (b, o)) sz n c) = .slice (some (f b, o)) sz n c := by simp [AV.rename]
theorem rename_slice_none (f : Nat → Nat) (sz n : Nat) (c : Option Nat) : AV.rename f (.slice none sz n c) = .slice none sz n c := by simp [AV.rename]
theorem rename_ptr (f : Nat → Nat) (b o : Nat) : AV.rename f (.ptr (some (b, o))) = .ptr (some (f b, o)) := by simp [AV.rename]
theorem rename_int (f : Nat → Nat) (k : IntKind) (x : Int) : AV.rename f (.int k x) = .int k x := by simp [AV.rename]
theorem rename_bool (f : Nat → Nat) (x : Bool) : AV.rename f (.bool x) = .bool x := by simp [AV.rename]
theorem rename_str (f : Nat → Nat) (x : ByteArray) : AV.rename f (.str x) = .str x := by simp [AV.rename]
theorem rename_agg (f : Nat → Nat) (cs : List AV) : AV.rename f (.agg cs) = .agg (AV.rename.go f cs) := by simp [AV.rename]
theorem rename_tup (f : Nat → Nat) (cs : List AV) : AV.rename f (.tup cs) = .tup (AV.rename.go f cs) := by simp [AV.rename]
theorem rename_cons (f : Nat → Nat) (c : AV) (cs : List AV) : AV.rename.go f (c :: cs) = AV.rename f c :: AV.rename.go f cs := by simp [AV.rename.go]
theorem rename_nil (f : Nat → Nat) : AV.rename.go f [] = [] := by simp [AV.rename.go]

def keepBlks (L : List Blk) (rs : List Nat) : List Blk := rs.map fun b => (L[b]?).getD .dead
theorem keepBlks_nil (L : List Blk) : keepBlks L [] = [] := Eq.trans rfl rfl
theorem keepBlks_cons (L : List Blk) (b : Nat) (rs : List Nat) : keepBlks L (b :: rs) = (L[b]?).getD .dead :: keepBlks L rs := Eq.trans rfl rfl
def flatAll (lim : Nat) (L : List Blk) (rs : List Nat) : Bool := rs.all fun b => flatBlk lim L[b]?
theorem flatAll_nil (lim : Nat) (L : List Blk) : flatAll lim L [] = true := Eq.trans rfl rfl
theorem flatAll_cons (lim : Nat) (L : List Blk) (b : Nat) (rs : List Nat) : flatAll lim L (b :: rs) = (flatBlk lim L[b]? && flatAll lim L rs) := Eq.trans rfl rfl
theorem flatBlk_cells (lim : Nat) (cs : List AV) (w : Bool) : flatBlk lim (some (.cells cs w)) = cs.all fun c => c.under lim := Eq.trans rfl rfl
theorem finish_two_eq (G : List Blk) (e0 e1 : Option Nat) (v : AV) : finish 2 H.length e0 v ⟨H ++ G, e1⟩ =
    if clean H.length e1 = true ∧ flatAll H.length (H ++ G) (dedup (v.roots H.length)) = true then some (v.rename (renum H.length (dedup (v.roots H.length))), ⟨H ++ keepBlks (H ++ G) (dedup (v.roots H.length)), e0⟩) else none := by
  unfold finish keepBlks flatAll
  simp
theorem finish_two_eq0 (e0 e1 : Option Nat) (v : AV) : finish 2 H.length e0 v ⟨H, e1⟩ =
    if clean H.length e1 = true ∧ flatAll H.length H (dedup (v.roots H.length)) = true then some (v.rename (renum H.length (dedup (v.roots H.length))), ⟨H ++ keepBlks H (dedup (v.roots H.length)), e0⟩) else none := by
  unfold finish keepBlks flatAll
  simp
theorem finish_one_eq (G : List Blk) (e0 e1 : Option Nat) (v : AV) : finish 1 H.length e0 v ⟨H ++ G, e1⟩ = if v.under H.length = true ∧ clean H.length e1 = true then some (v, ⟨H, e0⟩) else none := by
  unfold finish
  simp
theorem finish_one_eq0 (e0 e1 : Option Nat) (v : AV) : finish 1 H.length e0 v ⟨H, e1⟩ = if v.under H.length = true ∧ clean H.length e1 = true then some (v, ⟨H, e0⟩) else none := by
  unfold finish
  simp
theorem dedup_nil : dedup [] = [] := Eq.trans rfl rfl
theorem dedup_one (b : Nat) : dedup [b] = [b] := Eq.trans rfl rfl
theorem dedup_two (a b : Nat) : dedup [a, b] = if a = b then [a] else [a, b] := by
  by_cases h : a = b
  · simp [dedup, h]
  · have : ¬ b = a := fun h' => h h'.symm
    simp [dedup, h, this]
theorem renum_old {lim b : Nat} (rs : List Nat) (h : b < lim) : renum lim rs b = b := by simp [renum, h]
theorem renum_one (k : Nat) : renum H.length [H.length + k] (H.length + k) = H.length := by
  have h1 : ¬ H.length + k < H.length := by omega
  simp only [renum, h1, if_false, List.idxOf_cons_self, Nat.add_zero]
theorem renum_one0 : renum H.length [H.length] H.length = H.length := by simp [renum]
theorem renum_two0 {a b : Nat} (h : H.length ≤ a) : renum H.length [a, b] a = H.length := by
  have h1 : ¬ a < H.length := by omega
  simp [renum, h1]
theorem renum_two1 {a b : Nat} (h : H.length ≤ b) (hne : a ≠ b) : renum H.length [a, b] b = H.length + 1 := by
  have h1 : ¬ b < H.length := by omega
  have h2 : (a == b) = false := by simpa using hne
  simp [renum, h1, h2, List.idxOf_cons]

theorem finV_wc (F : AFun) (m : Mem) (st : St) (Q : AV → Mem → Prop) : Wc (finRun F m st) Q = Wc (finV F m (resultList st.tm st.m.H F.results) st.m) Q := Eq.trans rfl rfl

theorem get_more {α : Type} {L : List α} {j : Nat} {b : α} (h : L[j]? = some b) (X : List α) : (L ++ X)[j]? = some b := by
  rw [List.getElem?_append_left (List.getElem?_eq_some_iff.mp h).1]; exact h
theorem cellsAt_of {L : List Blk} {j : Nat} {cs : List AV} {w : Bool} (h : L[j]? = some (.cells cs w)) : cellsAt L j = some cs := by
  unfold cellsAt; rw [h]

theorem clean_none' (n : Nat) : clean n none = true := Eq.trans rfl rfl
theorem clean_some (n k : Nat) : clean n (some k) = decide (n ≤ k) := Eq.trans rfl rfl
theorem clean_ite (c : Prop) [Decidable c] (n : Nat) (a b : Option Nat) : clean n (if c then a else b) = if c then clean n a else clean n b := by split <;> rfl
theorem minEsc_none (b : Nat) : minEsc none b = some b := Eq.trans rfl rfl
theorem minEsc_some (a b : Nat) : minEsc (some a) b = some (min a b) := Eq.trans rfl rfl
end

end Go.Proofs.Ytlcklonakjhoiaa.Slim

/- The drawing of arguments from bytes: the cursor. -/
namespace Go.Proofs.Ytlcklonakjhoiaa.Slim

open Go

set_option linter.unusedSimpArgs false

set_option linter.unusedVariables false

variable {pr : Prims} {H : List Blk} {e : Option Nat}

section

variable {C : FuncId → List AV → Mem → Option (AV × Mem)} {g : X → AV} {m : Mem}

def nilCheckV (v : AV) : Option AV := match v with
  | .ptr (some p) => some (.ptr (some p))
  | .fn f a b => some (.fn f a b)
  | _ => none

theorem aop_nilCheck (x : X) : aop C g m (.nilCheck x) = valOf m (nilCheckV (g x)) := by
  rw [aop_of_light rfl]
  simp only [light, nilCheckV]
  generalize g x = v
  cases v with
  | ptr p => cases p <;> rfl
  | _ => rfl

theorem nilCheckV_ptr (p : Nat × Nat) : nilCheckV (.ptr (some p)) = some (.ptr (some p)) := rfl

end

/-- a slice of bytes, in memory -/
def CodeAt (L : List Blk) (av : AV) : Prop :=
  ∃ zs : List Int, zs.length ≤ 70000 ∧ (∀ z ∈ zs, 0 ≤ z ∧ z ≤ 255) ∧ ((av = .slice none 0 0 none ∧ zs = []) ∨ ∃ b c, av = .slice (some (b, 0)) 1 zs.length c ∧ cellsAt L b = some (zs.map (AV.int .u8)))

theorem CodeAt.more {L : List Blk} {av : AV} (h : CodeAt L av) (G : List Blk) : CodeAt (L ++ G) av := by
  obtain ⟨zs, h1, h2, h3 | ⟨b, c, h3, h4⟩⟩ := h
  · exact ⟨zs, h1, h2, .inl h3⟩
  · exact ⟨zs, h1, h2, .inr ⟨b, c, h3, cells_mono h4 G⟩⟩

abbrev curB (av : AV) (p h : Int) : Blk := .cells [av, .int .i64 p, .int .u64 h] true

/-- a cursor -/
def Cu (L : List Blk) (q : Nat) (av : AV) (p : Int) : Prop := (∃ h, L[q]? = some (curB av p h)) ∧ CodeAt L av ∧ 0 ≤ p

theorem Cu.lt {L : List Blk} {q : Nat} {av : AV} {p : Int} (h : Cu L q av p) : q < L.length := by
  obtain ⟨⟨_, h⟩, _⟩ := h
  exact (List.getElem?_eq_some_iff.mp h).1

theorem Cu.more {L : List Blk} {q : Nat} {av : AV} {p : Int} (h : Cu L q av p) (G : List Blk) : Cu (L ++ G) q av p := by
  have hl := h.lt
  obtain ⟨⟨z, h1⟩, h2, h3⟩ := h
  exact ⟨⟨z, by rw [List.getElem?_append_left hl, h1]⟩, h2.more G, h3⟩

theorem Cu.step {L : List Blk} {q : Nat} {av : AV} {p : Int} (h : Cu L q av p) {y : Int} (hy : 0 ≤ y) (z : Int) : Cu (L.set q (curB av y z)) q av y := by
  have hl := h.lt
  obtain ⟨⟨w, h1⟩, ⟨zs, g1, g2, g3⟩, h3⟩ := h
  refine ⟨⟨z, List.getElem?_set_self hl⟩, ⟨zs, g1, g2, ?_⟩, hy⟩
  rcases g3 with g3 | ⟨b, c, e2, e3⟩
  · exact .inl g3
  refine .inr ⟨b, c, e2, ?_⟩
  have hbq : b ≠ q := by
    rintro rfl
    unfold cellsAt at e3
    rw [h1] at e3
    simp at e3
    match zs with
    | [] => simp at e3
    | [_] => simp at e3
    | _ :: _ :: _ => simp at e3
  unfold cellsAt at e3 ⊢
  rw [List.getElem?_set_ne (fun h => hbq h.symm)]
  exact e3

theorem set_app {L : List Blk} {q : Nat} (h : q < L.length) (x : Blk) (G : List Blk) : (L ++ G).set q x = L.set q x ++ G := List.set_append_left _ _ h

theorem finish_one_setG (v : AV) (e0 e1 : Option Nat) (b : Nat) (x : Blk) (G : List Blk) : finish 1 H.length e0 v ⟨H.set b x ++ G, e1⟩ = if v.under H.length = true ∧ clean H.length e1 = true then some (v, ⟨H.set b x, e0⟩) else none := by
  unfold finish
  have : (H.set b x ++ G).take H.length = H.set b x := by
    rw [List.take_append_of_le_length (by simp), List.take_of_length_le (by simp)]
  simp [this]

theorem finish_one_set0 (v : AV) (e0 e1 : Option Nat) (b : Nat) (x : Blk) : finish 1 H.length e0 v ⟨H.set b x, e1⟩ = if v.under H.length = true ∧ clean H.length e1 = true then some (v, ⟨H.set b x, e0⟩) else none := by
  have := finish_one_setG (H := H) v e0 e1 b x []
  rwa [List.append_nil] at this

theorem cellsAt_s0 (q : Nat) (x : Blk) (l : List Blk) : cellsAt (H.set q x ++ l) H.length = cellsAt l 0 := by simp [cellsAt, List.getElem?_append_right]

theorem cellsAt_sk (q : Nat) (x : Blk) (l : List Blk) (k : Nat) : cellsAt (H.set q x ++ l) (H.length + k) = cellsAt l k := by simp [cellsAt, List.getElem?_append_right]

theorem blkAt_s0 (q : Nat) (x : Blk) (l : List Blk) : (H.set q x ++ l)[H.length]? = l[0]? := by simp [List.getElem?_append_right]

theorem blkAt_sk (q : Nat) (x : Blk) (l : List Blk) (k : Nat) : (H.set q x ++ l)[H.length + k]? = l[k]? := by simp [List.getElem?_append_right]

theorem set_s0 (q : Nat) (x : Blk) (l : List Blk) (b : Blk) : (H.set q x ++ l).set H.length b = H.set q x ++ l.set 0 b := by simp [List.set_append_right]

theorem set_sk (q : Nat) (x : Blk) (l : List Blk) (b : Blk) (k : Nat) : (H.set q x ++ l).set (H.length + k) b = H.set q x ++ l.set k b := by simp [List.set_append_right]

theorem set_sapp {q : Nat} (h : q < H.length) (x y : Blk) (l : List Blk) : (H.set q x ++ l).set q y = H.set q y ++ l := by
  rw [List.set_append_left _ _ (by simpa using h), List.set_set]

theorem Cu.new {G : List Blk} {k : Nat} {av : AV} {y z : Int} (hG : G[k]? = some (curB av y z)) (hc : CodeAt H av) (hy : 0 ≤ y) : Cu (H ++ G) (H.length + k) av y :=
  ⟨⟨z, by rw [List.getElem?_append_right (by omega), Nat.add_sub_cancel_left, hG]⟩, hc.more G, hy⟩

theorem Cu.cells {L : List Blk} {q : Nat} {av : AV} {p : Int} (h : Cu L q av p) : ∃ w, L[q]? = some (curB av p w) ∧ cellsAt L q = some [av, .int .i64 p, .int .u64 w] := by
  obtain ⟨⟨w, h1⟩, _⟩ := h
  exact ⟨w, h1, by unfold cellsAt; rw [h1]⟩

theorem cells_set {L : List Blk} {q : Nat} (h : q < L.length) (cs : List AV) (wr : Bool) : cellsAt (L.set q (.cells cs wr)) q = some cs := by
  unfold cellsAt
  rw [List.getElem?_set_self h]

theorem andI_255 (x : Int) : 0 ≤ andI .u64 x 255 ∧ andI .u64 x 255 ≤ 255 := by
  have h1 : (BitVec.ofInt 64 x &&& BitVec.ofInt 64 255).toNat ≤ 255 := by
    rw [BitVec.toNat_and]
    exact Nat.le_trans Nat.and_le_right (by decide)
  have h2 : andI .u64 x 255 = IntKind.u64.wrap ((BitVec.ofInt 64 x &&& BitVec.ofInt 64 255).toNat : Int) := rfl
  rw [h2]
  generalize (BitVec.ofInt 64 x &&& BitVec.ofInt 64 255).toNat = n at *
  have : IntKind.u64.wrap (n : Int) = n := by
    simp [IntKind.wrap, IntKind.bits, IntKind.signed]
    omega
  rw [this]
  omega

theorem wc_next {q : Nat} {av : AV} {p : Int} (h : Cu H q av p) (hp : p ≤ 1000000000000) : Wc (call T pr f_s_l1Cur_next [.ptr (some (q, 0))] ⟨H, e⟩) (fun v m => ∃ x y z : Int, v = .int .i64 x ∧ 0 ≤ x ∧ x ≤ 255 ∧ 0 ≤ y ∧ y ≤ p + 1 ∧ m = ⟨H.set q (curB av y z), e⟩) := by
  have hl := h.lt
  obtain ⟨w, h1, hcell⟩ := h.cells
  obtain ⟨_, ⟨zs, g2, g3, g4⟩, h3⟩ := h
  obtain ⟨p', sz, c, rfl⟩ : ∃ p' sz c, av = .slice p' sz zs.length c := by
    rcases g4 with ⟨rfl, rfl⟩ | ⟨b, c, rfl, _⟩
    · exact ⟨_, _, _, rfl⟩
    · exact ⟨_, _, _, rfl⟩
  obtain ⟨n, rfl⟩ : ∃ n : Nat, p = (n : Int) := ⟨p.toNat, by omega⟩
  have hw := wrap_succ (show n < 9223372036854775807 by omega)
  have hsg : ∀ (y : Blk), (H.set q y)[q]? = some y := fun y => List.getElem?_set_self hl
  have hcs := fun cs wr => cells_set (L := H) hl cs wr
  rw [call_wc t_s_l1Cur_next]
  by_cases hn : n < zs.length
  · have hne : zs ≠ [] := by intro h0; rw [h0] at hn; simp at hn
    obtain ⟨b, hq, hb⟩ : ∃ b, (p' = some (b, 0) ∧ sz = 1) ∧ cellsAt H b = some (zs.map (AV.int .u8)) := by
      rcases g4 with ⟨_, rfl⟩ | ⟨b, c', hq, hb⟩
      · exact absurd rfl hne
      · cases hq; exact ⟨b, ⟨rfl, rfl⟩, hb⟩
    obtain ⟨rfl, rfl⟩ := hq
    have hz := g3 zs[n] (List.getElem_mem _)
    have hpart : part false (zs.map (AV.int .u8)) n 1 = some (.int .u8 zs[n]) := by
      rw [part_false, List.getElem?_map, List.getElem?_eq_getElem hn]
      rfl
    have hcv : IntKind.i64.wrap zs[n] = zs[n] := wrap64 (by omega) (by omega)
    have hle : decide (((n + 1 : Nat) : Int) ≤ (zs.length : Int)) = true := decide_eq_true (by omega)
    have hle' : n + 1 ≤ zs.length := hn
    simp +contextual only [a_s_l1Cur_next, c_s_l1Cur_next, aop_nilCheck, nilCheckV_ptr, h1, hcell, hsg, hcs, hn, hb, hpart, hcv, hw, hle, hle', List.set_set, Nat.mul_one, decide_true, finish_one_set0, clean_none', Wp_some, Wp_none, Wp_ite, Wc_some, Wc_none, Wc_ite, Wp_thenRun, seqQ_normal, seqQ_exit, seqQ_ret, Wp_inBlock, blkQ_normal, blkQ_ret, blkQ_same, blkQ_exit, Wp_opThen, opQ_at, Wp_guardP, retQ_normal, retQ_ret, loopQ_normal, loopQ_exit, loopQ_ret, go_sem, entry, joinEsc, if_pos, reduceIte, Nat.reduceAdd, Nat.reduceLeDiff, Nat.reduceLT, Nat.reduceEqDiff]
    exact ⟨_, _, _, rfl, hz.1, hz.2, by omega, by omega, rfl⟩
  · have hle : decide (((n + 1 : Nat) : Int) ≤ (zs.length : Int)) = false := decide_eq_false (by omega)
    have hle' : ¬ n + 1 ≤ zs.length := by omega
    have hcv : ∀ x : Int, IntKind.i64.wrap (andI .u64 x 255) = andI .u64 x 255 := fun x => wrap64 (by have := andI_255 x; omega) (by have := andI_255 x; omega)
    simp +contextual only [a_s_l1Cur_next, c_s_l1Cur_next, aop_nilCheck, nilCheckV_ptr, h1, hcell, hsg, hcs, hn, hcv, hw, hle, hle', show ¬ ((40 : Int) < 0) by omega, List.set_set, Nat.mul_one, decide_true, decide_false, finish_one_set0, clean_none', Wp_some, Wp_none, Wp_ite, Wc_some, Wc_none, Wc_ite, Wp_thenRun, seqQ_normal, seqQ_exit, seqQ_ret, Wp_inBlock, blkQ_normal, blkQ_ret, blkQ_same, blkQ_exit, Wp_opThen, opQ_at, Wp_guardP, retQ_normal, retQ_ret, loopQ_normal, loopQ_exit, loopQ_ret, go_sem, entry, joinEsc, if_pos, reduceIte, Nat.reduceAdd, Nat.reduceLeDiff, Nat.reduceLT, Nat.reduceEqDiff]
    exact ⟨_, _, _, rfl, (andI_255 _).1, (andI_255 _).2, by omega, by omega, rfl⟩

theorem wc_pick {q : Nat} {av : AV} {p : Int} (n : Int) (h : Cu H q av p) (hp : p ≤ 100000000000) (hn : n ≤ 1000000000000) : Wc (call T pr f_s_l1Cur_pick [.ptr (some (q, 0)), .int .i64 n] ⟨H, e⟩) (fun v m => ∃ x y z : Int, v = .int .i64 x ∧ 0 ≤ x ∧ (x < n ∨ x = 0) ∧ 0 ≤ y ∧ y ≤ p + 2 ∧ m = ⟨H.set q (curB av y z), e⟩) := by
  have hl := h.lt
  rw [call_wc t_s_l1Cur_pick]
  by_cases h1 : n ≤ 1
  · obtain ⟨w, hw, _⟩ := h.cells
    have hsame : H = H.set q (curB av p w) := by
      obtain ⟨hb, he⟩ := List.getElem?_eq_some_iff.mp hw
      rw [← he, List.set_getElem_self]
    have h1' : decide (n ≤ 1) = true := decide_eq_true h1
    simp +contextual only [a_s_l1Cur_pick, c_s_l1Cur_pick, h1, h1', decide_true, Wp_some, Wp_none, Wp_ite, Wc_some, Wc_none, Wc_ite, Wp_thenRun, seqQ_normal, seqQ_exit, seqQ_ret, Wp_inBlock, blkQ_normal, blkQ_ret, blkQ_same, blkQ_exit, Wp_opThen, opQ_at, Wp_guardP, retQ_normal, retQ_ret, loopQ_normal, loopQ_exit, loopQ_ret, finish_one_eq, finish_one_eq0, finish_two_eq, finish_two_eq0, roots_slice_new, roots_slice_new0, roots_slice_none, roots_ptr_new, roots_ptr_new0, roots_int, roots_bool, roots_str, roots_agg, roots_tup, roots_cons, roots_nil, rename_slice, rename_slice_none, rename_ptr, rename_int, rename_bool, rename_str, rename_agg, rename_tup, rename_cons, rename_nil, keepBlks_nil, keepBlks_cons, flatAll_nil, flatAll_cons, flatBlk_cells, dedup_nil, dedup_one, dedup_two, renum_one, renum_one0, renum_two0, renum_two1, clean_none', clean_some, minEsc_none, minEsc_some, Nat.add_left_cancel_iff, Nat.le_add_right, Nat.le_refl, decide_true, go_sem, entry, joinEsc, if_pos, reduceIte, Nat.reduceAdd, Nat.reduceLeDiff, Nat.reduceLT, Nat.reduceEqDiff]
    exact ⟨0, p, w, rfl, Int.le_refl _, .inr rfl, h.2.2, by omega, by rw [← hsame]⟩
  · have h1' : decide (n ≤ 1) = false := decide_eq_false h1
    simp +contextual only [a_s_l1Cur_pick, c_s_l1Cur_pick, h1, h1', decide_false, Wp_some, Wp_none, Wp_ite, Wc_some, Wc_none, Wc_ite, Wp_thenRun, seqQ_normal, seqQ_exit, seqQ_ret, Wp_inBlock, blkQ_normal, blkQ_ret, blkQ_same, blkQ_exit, Wp_opThen, opQ_at, Wp_guardP, retQ_normal, retQ_ret, loopQ_normal, loopQ_exit, loopQ_ret, go_sem, entry, joinEsc, if_pos, reduceIte, Nat.reduceAdd, Nat.reduceLeDiff, Nat.reduceLT, Nat.reduceEqDiff]
    refine (wc_next h (by omega)).mono ?_
    rintro v m ⟨x, y, z, rfl, hx0, hx1, hy0, hy1, rfl⟩
    have h' := h.step hy0 z
    have hmod : ∀ u : Int, 0 ≤ u → 0 ≤ u.tmod n ∧ u.tmod n < n := fun u hu => ⟨Int.tmod_nonneg _ hu, Int.tmod_lt_of_pos _ (by omega)⟩
    have hnz : ¬ n = 0 := by omega
    by_cases h2 : 200 < n
    · have h2' : decide (200 < n) = true := decide_eq_true h2
      have hm1 : IntKind.i64.wrap (x * 256) = x * 256 := wrap64 (by omega) (by omega)
      simp +contextual only [gt_iff_lt, h2, h2', hm1, decide_true, Wp_some, Wp_none, Wp_ite, Wc_some, Wc_none, Wc_ite, Wp_thenRun, seqQ_normal, seqQ_exit, seqQ_ret, Wp_inBlock, blkQ_normal, blkQ_ret, blkQ_same, blkQ_exit, Wp_opThen, opQ_at, Wp_guardP, retQ_normal, retQ_ret, loopQ_normal, loopQ_exit, loopQ_ret, go_sem, entry, joinEsc, if_pos, reduceIte, Nat.reduceAdd, Nat.reduceLeDiff, Nat.reduceLT, Nat.reduceEqDiff]
      refine (wc_next h' (by omega)).mono ?_
      rintro v m ⟨x2, y2, z2, rfl, hx20, hx21, hy20, hy21, rfl⟩
      have hm2 : IntKind.i64.wrap (x * 256 + x2) = x * 256 + x2 := wrap64 (by omega) (by omega)
      have hm := hmod (x * 256 + x2) (by omega)
      simp +contextual only [a_s_l1Cur_pick, hm2, hnz, List.set_set, finish_one_set0, clean_none', Wp_some, Wp_none, Wp_ite, Wc_some, Wc_none, Wc_ite, Wp_thenRun, seqQ_normal, seqQ_exit, seqQ_ret, Wp_inBlock, blkQ_normal, blkQ_ret, blkQ_same, blkQ_exit, Wp_opThen, opQ_at, Wp_guardP, retQ_normal, retQ_ret, loopQ_normal, loopQ_exit, loopQ_ret, finish_one_eq, finish_one_eq0, finish_two_eq, finish_two_eq0, roots_slice_new, roots_slice_new0, roots_slice_none, roots_ptr_new, roots_ptr_new0, roots_int, roots_bool, roots_str, roots_agg, roots_tup, roots_cons, roots_nil, rename_slice, rename_slice_none, rename_ptr, rename_int, rename_bool, rename_str, rename_agg, rename_tup, rename_cons, rename_nil, keepBlks_nil, keepBlks_cons, flatAll_nil, flatAll_cons, flatBlk_cells, dedup_nil, dedup_one, dedup_two, renum_one, renum_one0, renum_two0, renum_two1, clean_none', clean_some, minEsc_none, minEsc_some, Nat.add_left_cancel_iff, Nat.le_add_right, Nat.le_refl, decide_true, go_sem, entry, joinEsc, if_pos, reduceIte, Nat.reduceAdd, Nat.reduceLeDiff, Nat.reduceLT, Nat.reduceEqDiff]
      exact ⟨_, _, _, rfl, hm.1, .inl hm.2, hy20, by omega, rfl⟩
    · have h2' : decide (200 < n) = false := decide_eq_false h2
      have hm := hmod x hx0
      simp +contextual only [a_s_l1Cur_pick, gt_iff_lt, h2, h2', hnz, List.set_set, finish_one_set0, clean_none', decide_false, Wp_some, Wp_none, Wp_ite, Wc_some, Wc_none, Wc_ite, Wp_thenRun, seqQ_normal, seqQ_exit, seqQ_ret, Wp_inBlock, blkQ_normal, blkQ_ret, blkQ_same, blkQ_exit, Wp_opThen, opQ_at, Wp_guardP, retQ_normal, retQ_ret, loopQ_normal, loopQ_exit, loopQ_ret, finish_one_eq, finish_one_eq0, finish_two_eq, finish_two_eq0, roots_slice_new, roots_slice_new0, roots_slice_none, roots_ptr_new, roots_ptr_new0, roots_int, roots_bool, roots_str, roots_agg, roots_tup, roots_cons, roots_nil, rename_slice, rename_slice_none, rename_ptr, rename_int, rename_bool, rename_str, rename_agg, rename_tup, rename_cons, rename_nil, keepBlks_nil, keepBlks_cons, flatAll_nil, flatAll_cons, flatBlk_cells, dedup_nil, dedup_one, dedup_two, renum_one, renum_one0, renum_two0, renum_two1, clean_none', clean_some, minEsc_none, minEsc_some, Nat.add_left_cancel_iff, Nat.le_add_right, Nat.le_refl, decide_true, go_sem, entry, joinEsc, if_pos, reduceIte, Nat.reduceAdd, Nat.reduceLeDiff, Nat.reduceLT, Nat.reduceEqDiff]
      exact ⟨_, _, _, rfl, hm.1, .inl hm.2, hy0, by omega, rfl⟩

theorem wc_one {q : Nat} {av : AV} {p : Int} (n : Int) (h : Cu H q av p) (hp : p ≤ 100000000000) (hn : n ≤ 1000000000000) : Wc (call T pr f_s_l1Cur_one [.ptr (some (q, 0)), .int .i64 n] ⟨H, e⟩) (fun v m => ∃ (x : Bool) (y z : Int), v = .bool x ∧ 0 ≤ y ∧ y ≤ p + 2 ∧ m = ⟨H.set q (curB av y z), e⟩) := by
  rw [call_wc t_s_l1Cur_one]
  simp +contextual only [a_s_l1Cur_one, c_s_l1Cur_one, Wp_some, Wp_none, Wp_ite, Wc_some, Wc_none, Wc_ite, Wp_thenRun, seqQ_normal, seqQ_exit, seqQ_ret, Wp_inBlock, blkQ_normal, blkQ_ret, blkQ_same, blkQ_exit, Wp_opThen, opQ_at, Wp_guardP, retQ_normal, retQ_ret, loopQ_normal, loopQ_exit, loopQ_ret, go_sem, entry, joinEsc, if_pos, reduceIte, Nat.reduceAdd, Nat.reduceLeDiff, Nat.reduceLT, Nat.reduceEqDiff]
  refine (wc_pick n h hp hn).mono ?_
  rintro v m ⟨x, y, z, rfl, hx0, hx1, hy0, hy1, rfl⟩
  simp +contextual only [a_s_l1Cur_one, List.set_set, finish_one_set0, clean_none', Wp_some, Wp_none, Wp_ite, Wc_some, Wc_none, Wc_ite, Wp_thenRun, seqQ_normal, seqQ_exit, seqQ_ret, Wp_inBlock, blkQ_normal, blkQ_ret, blkQ_same, blkQ_exit, Wp_opThen, opQ_at, Wp_guardP, retQ_normal, retQ_ret, loopQ_normal, loopQ_exit, loopQ_ret, finish_one_eq, finish_one_eq0, finish_two_eq, finish_two_eq0, roots_slice_new, roots_slice_new0, roots_slice_none, roots_ptr_new, roots_ptr_new0, roots_int, roots_bool, roots_str, roots_agg, roots_tup, roots_cons, roots_nil, rename_slice, rename_slice_none, rename_ptr, rename_int, rename_bool, rename_str, rename_agg, rename_tup, rename_cons, rename_nil, keepBlks_nil, keepBlks_cons, flatAll_nil, flatAll_cons, flatBlk_cells, dedup_nil, dedup_one, dedup_two, renum_one, renum_one0, renum_two0, renum_two1, clean_none', clean_some, minEsc_none, minEsc_some, Nat.add_left_cancel_iff, Nat.le_add_right, Nat.le_refl, decide_true, go_sem, entry, joinEsc, if_pos, reduceIte, Nat.reduceAdd, Nat.reduceLeDiff, Nat.reduceLT, Nat.reduceEqDiff]
  exact ⟨_, _, _, rfl, hy0, by omega, rfl⟩

theorem wc_among {q b : Nat} {av : AV} {p : Int} {c : Option Nat} {zs : List Int} (h : Cu H q av p) (hp : p ≤ 100000000000) (hb : cellsAt H b = some (zs.map (AV.int .i64))) (hbq : b ≠ q) (h0 : 0 < zs.length) (hn : zs.length ≤ 1000000) : Wc (call T pr f_s_l1Cur_among [.ptr (some (q, 0)), .slice (some (b, 0)) 1 zs.length c] ⟨H, e⟩) (fun v m => ∃ x y z : Int, v = .int .i64 x ∧ x ∈ zs ∧ 0 ≤ y ∧ y ≤ p + 2 ∧ m = ⟨H.set q (curB av y z), e⟩) := by
  rw [call_wc t_s_l1Cur_among]
  simp +contextual only [a_s_l1Cur_among, c_s_l1Cur_among, Wp_some, Wp_none, Wp_ite, Wc_some, Wc_none, Wc_ite, Wp_thenRun, seqQ_normal, seqQ_exit, seqQ_ret, Wp_inBlock, blkQ_normal, blkQ_ret, blkQ_same, blkQ_exit, Wp_opThen, opQ_at, Wp_guardP, retQ_normal, retQ_ret, loopQ_normal, loopQ_exit, loopQ_ret, go_sem, entry, joinEsc, if_pos, reduceIte, Nat.reduceAdd, Nat.reduceLeDiff, Nat.reduceLT, Nat.reduceEqDiff]
  refine (wc_pick (zs.length : Int) h hp (by omega)).mono ?_
  rintro v m ⟨x, y, z, rfl, hx0, hx1, hy0, hy1, rfl⟩
  obtain ⟨i, rfl⟩ : ∃ i : Nat, x = (i : Int) := ⟨x.toNat, by omega⟩
  have hi : i < zs.length := by omega
  have hcs : cellsAt (H.set q (curB av y z)) b = some (zs.map (AV.int .i64)) := by
    unfold cellsAt at hb ⊢
    rw [List.getElem?_set_ne (fun h => hbq h.symm)]
    exact hb
  have hpart : part false (zs.map (AV.int .i64)) i 1 = some (.int .i64 zs[i]) := by
    rw [part_false, List.getElem?_map, List.getElem?_eq_getElem hi]
    rfl
  simp +contextual only [a_s_l1Cur_among, hi, hcs, hpart, Nat.mul_one, List.set_set, finish_one_set0, clean_none', Wp_some, Wp_none, Wp_ite, Wc_some, Wc_none, Wc_ite, Wp_thenRun, seqQ_normal, seqQ_exit, seqQ_ret, Wp_inBlock, blkQ_normal, blkQ_ret, blkQ_same, blkQ_exit, Wp_opThen, opQ_at, Wp_guardP, retQ_normal, retQ_ret, loopQ_normal, loopQ_exit, loopQ_ret, finish_one_eq, finish_one_eq0, finish_two_eq, finish_two_eq0, roots_slice_new, roots_slice_new0, roots_slice_none, roots_ptr_new, roots_ptr_new0, roots_int, roots_bool, roots_str, roots_agg, roots_tup, roots_cons, roots_nil, rename_slice, rename_slice_none, rename_ptr, rename_int, rename_bool, rename_str, rename_agg, rename_tup, rename_cons, rename_nil, keepBlks_nil, keepBlks_cons, flatAll_nil, flatAll_cons, flatBlk_cells, dedup_nil, dedup_one, dedup_two, renum_one, renum_one0, renum_two0, renum_two1, clean_none', clean_some, minEsc_none, minEsc_some, Nat.add_left_cancel_iff, Nat.le_add_right, Nat.le_refl, decide_true, go_sem, entry, joinEsc, if_pos, reduceIte, Nat.reduceAdd, Nat.reduceLeDiff, Nat.reduceLT, Nat.reduceEqDiff]
  exact ⟨_, _, _, rfl, List.getElem_mem _, hy0, by omega, rfl⟩

end Go.Proofs.Ytlcklonakjhoiaa.Slim

/- The drawing of arguments from bytes: what is cut from the bytes. -/
namespace Go.Proofs.Ytlcklonakjhoiaa.Slim

open Go

set_option linter.unusedSimpArgs false

set_option linter.unusedVariables false

variable {pr : Prims} {H : List Blk} {e : Option Nat}

def seqHd : ACode → ACode
  | .seq a _ => a
  | c => c

def seqTl : ACode → ACode
  | .seq _ c => c
  | c => c

theorem seq_cut2 {c : ACode} (h : c = .seq (seqHd c) (.seq (seqHd (seqTl c)) (seqTl (seqTl c)))) : ∃ R, R = seqTl (seqTl c) ∧ c = .seq (seqHd c) (.seq (seqHd (seqTl c)) R) := ⟨_, rfl, h⟩

def slLoV (sz : Nat) (v l : AV) : Option AV := match v with
  | .slice p sz' n cap => (match natOf l with
    | some l => sliceVal sz p sz' n cap l n none
    | none => none)
  | _ => none

section

variable {C : FuncId → List AV → Mem → Option (AV × Mem)} {g : X → AV} {m : Mem}

theorem aop_slLo (sz : Nat) (x l : X) : aop C g m (.sliceSl sz x (some l) none none) = valOf m (slLoV sz (g x) (g l)) := by
  rw [aop_of_light rfl]
  simp only [light, slLoV, bound, optNat]
  generalize g x = v
  generalize natOf (g l) = o
  cases v <;> cases o <;> simp

end

theorem slLoV_c (sz b o n l : Nat) (cap : Option Nat) (hl : l ≤ n) : slLoV sz (.slice (some (b, o)) sz n cap) (.int .i64 l) = some (.slice (some (b, o + l * sz)) sz (n - l) (cap.map (· - l))) := by
  unfold slLoV natOf sliceVal
  simp [hl]

theorem src_part {L : List Blk} {q sz n o k : Nat} {cs : List AV} (c : Option Nat) (h : cellsAt L q = some cs) (hl : o * sz + k * sz ≤ cs.length) : srcCells false L (.slice (some (q, o * sz)) sz k c) = some (k, (cs.drop (o * sz)).take (k * sz)) := by
  unfold srcCells
  simp [h, hl]

theorem src_new (L : List Blk) (n sz : Nat) (cap : Option Nat) (cs : List AV) (b : Nat) (h : cellsAt L b = some cs) (hl : cs.length = n * sz) : srcCells false L (.slice (some (b, 0)) sz n cap) = some (n, cs) := by
  unfold srcCells
  simp [h, ← hl]

def codeLen : AV → Nat
  | .slice _ _ n _ => n
  | _ => 0

theorem CodeAt.form {L : List Blk} {av : AV} (h : CodeAt L av) : ∃ p sz n c, av = .slice p sz n c := by
  obtain ⟨zs, _, _, ⟨rfl, _⟩ | ⟨b, c, rfl, _⟩⟩ := h
  · exact ⟨_, _, _, _, rfl⟩
  · exact ⟨_, _, _, _, rfl⟩

/-- an argument that is a slice of bytes -/
def ArgB (L : List Blk) (av : AV) (zs : List Int) : Prop :=
  (∀ z ∈ zs, 0 ≤ z ∧ z ≤ 255) ∧ ((av = .slice none 0 0 none ∧ zs = []) ∨ ∃ b c, av = .slice (some (b, 0)) 1 zs.length c ∧ cellsAt L b = some (zs.map (AV.int .u8)))

theorem bytes_of : ∀ (es : List (List Int)), (∀ e ∈ es, e.length = 1 ∧ ∀ z ∈ e, (Lit.int .u8 z).wf = true) → es.flatten.length = es.length ∧ ∀ z ∈ es.flatten, 0 ≤ z ∧ z ≤ 255
  | [], _ => by simp
  | x :: es, h => by
    obtain ⟨h1, h2⟩ := bytes_of es fun e he => h e (by simp [he])
    obtain ⟨hx1, hx2⟩ := h x (by simp)
    match x, hx1 with
    | [a], _ =>
      refine ⟨by simp [h1], fun z hz => ?_⟩
      rw [List.flatten_cons] at hz
      rcases List.mem_append.mp hz with hz | hz
      · have := hx2 z hz
        simp [Lit.wf, IntKind.min, IntKind.max, IntKind.signed, IntKind.bits] at this
        omega
      · exact h2 z hz

theorem argB_of {av : AV} {es : List (List Int)} (h : IsArg H av .u8 1 es) : ∃ zs, ArgB H av zs := by
  obtain ⟨h1, h2⟩ := h
  obtain ⟨h6, h7⟩ := bytes_of es h1
  rcases h2 with ⟨rfl, rfl⟩ | ⟨b, cap, rfl, h3, h4, h5⟩
  · exact ⟨[], by simp, .inl ⟨rfl, rfl⟩⟩
  · refine ⟨es.flatten, h7, .inr ⟨b, some cap, by rw [h6], ?_⟩⟩
    unfold cellsAt
    rw [h5]

theorem ArgB.form {L : List Blk} {av : AV} {zs : List Int} (h : ArgB L av zs) : ∃ p sz n c, av = .slice p sz n c ∧ (n ≤ 65536 → CodeAt L av) := by
  obtain ⟨h1, ⟨rfl, rfl⟩ | ⟨b, c, rfl, h2⟩⟩ := h
  · exact ⟨_, _, _, _, rfl, fun _ => ⟨[], by simp, by simp, .inl ⟨rfl, rfl⟩⟩⟩
  · exact ⟨_, _, _, _, rfl, fun hn => ⟨zs, by omega, h1, .inr ⟨b, c, rfl, h2⟩⟩⟩

theorem append_none {L : List Blk} {b sz : Nat} {src : AV} (hb : L[b]? = some (.cells [] true)) (hs : srcCells false L src = some (0, [])) : appendV L e false 1 1 (.slice (some (b, 0)) 1 0 (some 0)) src = some (.slice (some (L.length, 0)) 1 0 none, ⟨L.set b .dead ++ [.cells [] true], e⟩) := by
  unfold appendV
  simp only [hb, hs]
  rw [if_pos ⟨trivial, by simp [maxBytes], by simp, by simp⟩, if_neg (by simp), if_pos trivial]
  rfl

theorem append_some {L : List Blk} {b n : Nat} {src : AV} {cs : List AV} (hb : L[b]? = some (.cells [] true)) (hs : srcCells false L src = some (n, cs)) (h0 : 0 < n) (hn : n ≤ 1000000) (hc : cs.length = n) : appendV L e false 1 1 (.slice (some (b, 0)) 1 0 (some 0)) src = some (.slice (some (L.length, 0)) 1 n none, ⟨L ++ [.cells cs true], e⟩) := by
  unfold appendV
  simp only [hb, hs]
  rw [if_pos ⟨trivial, by unfold maxBytes; omega, by omega, by simp⟩, if_pos ⟨trivial, h0⟩, Nat.zero_add]

theorem append_one {L : List Blk} {b q n : Nat} {cs new : List AV} {c : Option Nat} (hb : L[b]? = some (.cells cs true)) (hq : cellsAt L q = some new) (hcs : cs.length = n) (hnew : new.length = 1) (hn : n ≤ 1000000) :
    appendV L e false 1 1 (.slice (some (b, 0)) 1 n none) (.slice (some (q, 0)) 1 1 c) = some (.slice (some (L.length, 0)) 1 (n + 1) none, ⟨L.set b .dead ++ [.cells (cs ++ new) true], e⟩) := by
  have hs := src_new L 1 1 c new q hq (by omega)
  unfold appendV
  simp only [hb, hs]
  rw [if_pos ⟨trivial, by unfold maxBytes; omega, by omega, by omega⟩, if_neg (by simp), List.drop_zero, List.take_of_length_le (by omega), if_pos trivial]

theorem CodeAt.new {G : List Blk} {k : Nat} {zs : List Int} {c : Option Nat} (hG : G[k]? = some (.cells (zs.map (AV.int .u8)) true)) (h1 : zs.length ≤ 70000) (h2 : ∀ z ∈ zs, 0 ≤ z ∧ z ≤ 255) : CodeAt (H ++ G) (.slice (some (H.length + k, 0)) 1 zs.length c) := by
  refine ⟨zs, h1, h2, .inr ⟨_, _, rfl, ?_⟩⟩
  rw [cellsAt_newk]
  unfold cellsAt
  rw [hG]

def slHiV (sz : Nat) (v h : AV) : Option AV := match v with
  | .slice p sz' n cap => (match natOf h with
    | some h => sliceVal sz p sz' n cap 0 h none
    | none => none)
  | _ => none

section

variable {C : FuncId → List AV → Mem → Option (AV × Mem)} {g : X → AV} {m : Mem}

theorem aop_slHi (sz : Nat) (x h : X) : aop C g m (.sliceSl sz x none (some h) none) = valOf m (slHiV sz (g x) (g h)) := by
  rw [aop_of_light rfl]
  simp only [light, slHiV, bound, optNat]
  generalize g x = v
  generalize natOf (g h) = o
  cases v <;> cases o <;> simp

end

theorem slHiV_c (sz b n l : Nat) (cap : Option Nat) (hl : l ≤ n) : slHiV sz (.slice (some (b, 0)) sz n cap) (.int .i64 l) = some (.slice (some (b, 0)) sz l cap) := by
  unfold slHiV natOf sliceVal
  simp [hl]

end Go.Proofs.Ytlcklonakjhoiaa.Slim

/- The drawing of arguments from bytes: growing lists. -/
namespace Go.Proofs.Ytlcklonakjhoiaa.Slim

open Go

set_option linter.unusedSimpArgs false

set_option linter.unusedVariables false

variable {pr : Prims} {H : List Blk} {e : Option Nat}

/-- one of some numbers, drawn -/
theorem amongZ {q b n : Nat} {av : AV} {p : Int} {c : Option Nat} (zs : List Int) (h : Cu H q av p) (hp : p ≤ 100000000000) (hb : cellsAt H b = some (zs.map (AV.int .i64))) (hbq : b ≠ q) (hn : zs.length = n) (h0 : 0 < n) (hn2 : n ≤ 1000000) : Wc (call T pr f_s_l1Cur_among [.ptr (some (q, 0)), .slice (some (b, 0)) 1 n c] ⟨H, e⟩) (fun v m => ∃ x y z : Int, v = .int .i64 x ∧ x ∈ zs ∧ 0 ≤ y ∧ y ≤ p + 2 ∧ m = ⟨H.set q (curB av y z), e⟩) := by
  subst hn
  exact wc_among h hp hb hbq h0 hn2

/-- an old block falls, where an append may have written into it -/
def killL (L : List Blk) (b : Nat) (keep : Bool) : List Blk := if keep = true then L else L.set b .dead

theorem killL_length (L : List Blk) (b : Nat) (k : Bool) : (killL L b k).length = L.length := by unfold killL; split <;> simp

theorem killL_get {L : List Blk} {b i : Nat} (k : Bool) (h : i ≠ b) : (killL L b k)[i]? = L[i]? := by
  unfold killL
  split
  · rfl
  · exact List.getElem?_set_ne (fun e => h e.symm)

/-- some elements more -/
theorem apG {L : List Blk} {b sz bytes n k : Nat} {cs new : List AV} {cap : Option Nat} {src : AV} (hb : L[b]? = some (.cells cs true)) (hs : srcCells false L src = some (k, new)) (hcs : cs.length = n * sz) (hnew : new.length = k * sz) (hm : (n + k) * bytes ≤ maxBytes) (hcap : cap = some 0 → n = 0) :
    appendV L e false sz bytes (.slice (some (b, 0)) sz n cap) src = some (.slice (some (L.length, 0)) sz (n + k) none, ⟨killL L b (decide (cap = some 0 ∧ 0 < k)) ++ [.cells (cs ++ new) true], e⟩) := by
  unfold appendV
  simp only [hb, hs]
  rw [if_pos ⟨trivial, hm, hnew, by omega⟩]
  by_cases h : cap = some 0 ∧ 0 < k
  · have hn := hcap h.1
    subst hn
    have : cs = [] := List.eq_nil_of_length_eq_zero (by omega)
    subst this
    rw [if_pos h]
    simp [killL, h]
  · rw [if_neg h, if_pos trivial, List.drop_zero, List.take_of_length_le (by omega)]
    simp [killL, h]

/-- one element more -/
theorem apOne {L : List Blk} {b q sz bytes n : Nat} {cs new : List AV} {cap c : Option Nat} (hb : L[b]? = some (.cells cs true)) (hq : cellsAt L q = some new) (hcs : cs.length = n * sz) (hnew : new.length = sz) (hm : (n + 1) * bytes ≤ maxBytes) (hcap : cap = some 0 → n = 0) :
    appendV L e false sz bytes (.slice (some (b, 0)) sz n cap) (.slice (some (q, 0)) sz 1 c) = some (.slice (some (L.length, 0)) sz (n + 1) none, ⟨killL L b (decide (cap = some 0)) ++ [.cells (cs ++ new) true], e⟩) := by
  have := apG (e := e) (bytes := bytes) (cap := cap) hb (src_new L 1 sz c new q hq (by omega)) hcs (by omega) hm hcap
  rw [this]
  simp

/-- a memory that has grown -/
def Grown (H L : List Blk) : Prop := ∃ G, L = H ++ G

theorem Grown.refl (H : List Blk) : Grown H H := ⟨[], by simp⟩
theorem Grown.le {H L : List Blk} (h : Grown H L) : H.length ≤ L.length := by
  obtain ⟨G, rfl⟩ := h
  simp
theorem Grown.more {H L : List Blk} (h : Grown H L) (X : List Blk) : Grown H (L ++ X) := by
  obtain ⟨G, rfl⟩ := h
  exact ⟨G ++ X, by simp⟩
theorem Grown.put {H L : List Blk} (h : Grown H L) {b : Nat} (hb : H.length ≤ b) (x : Blk) : Grown H (L.set b x) := by
  obtain ⟨G, rfl⟩ := h
  exact ⟨G.set (b - H.length) x, List.set_append_right _ _ hb⟩
theorem Grown.kill {H L : List Blk} (h : Grown H L) {b : Nat} (hb : H.length ≤ b) (k : Bool) : Grown H (killL L b k) := by
  unfold killL
  split
  · exact h
  · exact h.put hb _
theorem Grown.cur {H L : List Blk} {q : Nat} {x : Blk} (h : Grown (H.set q x) L) (hq : q < H.length) (y : Blk) : Grown (H.set q y) (L.set q y) := by
  obtain ⟨G, rfl⟩ := h
  exact ⟨G, by rw [List.set_append_left _ _ (by simpa using hq), List.set_set]⟩
theorem Grown.get {H L : List Blk} (h : Grown H L) {i : Nat} (hi : i < H.length) : L[i]? = H[i]? := by
  obtain ⟨G, rfl⟩ := h
  exact List.getElem?_append_left hi
theorem Grown.cells {H L : List Blk} {q : Nat} {x : Blk} (h : Grown (H.set q x) L) {b : Nat} {cs : List AV} (hb : cellsAt H b = some cs) (hne : b ≠ q) : cellsAt L b = some cs := by
  have hl : b < H.length := by
    unfold cellsAt at hb
    rcases Nat.lt_or_ge b H.length with h | h
    · exact h
    · rw [List.getElem?_eq_none h] at hb; cases hb
  unfold cellsAt at hb ⊢
  rw [h.get (by simpa using hl), List.getElem?_set_ne (fun e => hne e.symm)]
  exact hb
theorem Grown.curs {H L : List Blk} {q : Nat} {av : AV} {p y z : Int} (h : Grown (H.set q (curB av y z)) L) (hc : Cu H q av p) (hy : 0 ≤ y) : Cu L q av y := by
  obtain ⟨G, rfl⟩ := h
  exact (hc.step hy z).more G

/-- some elements more: what is known behind it -/
theorem wc_ap {L : List Blk} {b sz bytes n k : Nat} {cs new : List AV} {cap : Option Nat} {src : AV} {Q : AV → Mem → Prop} (hb : L[b]? = some (.cells cs true)) (hs : srcCells false L src = some (k, new)) (hcs : cs.length = n * sz) (hnew : new.length = k * sz) (hm : (n + k) * bytes ≤ maxBytes) (hcap : cap = some 0 → n = 0)
    (hQ : ∀ L' : List Blk, L'.length = L.length + 1 → (∀ i, i ≠ b → i < L.length → L'[i]? = L[i]?) → L'[L.length]? = some (.cells (cs ++ new) true) → (∀ H0, Grown H0 L → H0.length ≤ b → Grown H0 L') → Q (.slice (some (L.length, 0)) sz (n + k) none) ⟨L', e⟩) :
    Wc (appendV L e false sz bytes (.slice (some (b, 0)) sz n cap) src) Q := by
  refine Wc.of_eq (apG hb hs hcs hnew hm hcap) (hQ _ ?_ ?_ ?_ ?_)
  · rw [List.length_append, killL_length]; rfl
  · intro i h1 h2
    rw [List.getElem?_append_left (by rw [killL_length]; exact h2), killL_get _ h1]
  · have hl := killL_length L b (decide (cap = some 0 ∧ 0 < k))
    rw [List.getElem?_append_right (by omega), hl, Nat.sub_self]
    rfl
  · exact fun H0 hg hb => (hg.kill hb _).more _

theorem set_self_at {L : List Blk} {q : Nat} {x : Blk} (h : L[q]? = some x) : L.set q x = L := by
  obtain ⟨hlt, he⟩ := List.getElem?_eq_some_iff.mp h
  rw [← he, List.set_getElem_self]

/-- the end of a call that hands back one list, of a memory that has grown -/
theorem finish_sl {L : List Blk} {b sz n : Nat} {c : Option Nat} {cs : List AV} {w : Bool} (hL : Grown H L) (e0 e1 : Option Nat) (hc : clean H.length e1 = true) (hb : H.length ≤ b) (hG : L[b]? = some (.cells cs w)) (hu : (cs.all fun c => c.under H.length) = true) :
    finish 2 H.length e0 (.slice (some (b, 0)) sz n c) ⟨L, e1⟩ = some (.slice (some (H.length, 0)) sz n c, ⟨H ++ [.cells cs w], e0⟩) := by
  obtain ⟨G, rfl⟩ := hL
  obtain ⟨j, rfl⟩ : ∃ j, b = H.length + j := ⟨b - H.length, by omega⟩
  have hlt : ¬ H.length + j < H.length := by omega
  have hr : dedup (AV.roots H.length (.slice (some (H.length + j, 0)) sz n c)) = [H.length + j] := by simp [AV.roots, dedup, hlt]
  unfold finish
  simp only [hr]
  have h2 : ([H.length + j].all fun b => flatBlk H.length (H ++ G)[b]?) = true := by
    simp only [List.all_cons, List.all_nil, Bool.and_true, hG, flatBlk, hu]
  simp only [hc, h2, and_self, if_true]
  simp [AV.rename, renum, hlt, hG]

theorem finish_sl_set {q : Nat} {X : Blk} {L : List Blk} {b sz n : Nat} {c : Option Nat} {cs : List AV} {w : Bool} (hL : Grown (H.set q X) L) (e0 e1 : Option Nat) (hc : clean H.length e1 = true) (hb : H.length ≤ b) (hG : L[b]? = some (.cells cs w)) (hu : (cs.all fun c => c.under H.length) = true) :
    finish 2 H.length e0 (.slice (some (b, 0)) sz n c) ⟨L, e1⟩ = some (.slice (some (H.length, 0)) sz n c, ⟨H.set q X ++ [.cells cs w], e0⟩) := by
  have hl : (H.set q X).length = H.length := List.length_set
  have := finish_sl (H := H.set q X) (sz := sz) (n := n) (c := c) hL e0 e1 (by rw [hl]; exact hc) (by rw [hl]; exact hb) hG (by rw [hl]; exact hu)
  rw [hl] at this
  exact this

/-- the end of a call that hands back something plain and two lists -/
theorem finish_sl2 {L : List Blk} {b1 b2 s1 s2 n1 n2 : Nat} {c1 c2 : Option Nat} {cs1 cs2 : List AV} {w1 w2 : Bool} (v0 : AV) (h0 : AV.roots H.length v0 = []) (h0' : ∀ f, AV.rename f v0 = v0) (hL : Grown H L) (e0 e1 : Option Nat) (hc : clean H.length e1 = true) (hb1 : H.length ≤ b1) (hb2 : H.length ≤ b2) (hne : b1 ≠ b2)
    (h1 : L[b1]? = some (.cells cs1 w1)) (h2 : L[b2]? = some (.cells cs2 w2)) (u1 : (cs1.all fun c => c.under H.length) = true) (u2 : (cs2.all fun c => c.under H.length) = true) :
    finish 2 H.length e0 (.tup [v0, .slice (some (b1, 0)) s1 n1 c1, .slice (some (b2, 0)) s2 n2 c2]) ⟨L, e1⟩ = some (.tup [v0, .slice (some (H.length, 0)) s1 n1 c1, .slice (some (H.length + 1, 0)) s2 n2 c2], ⟨H ++ [.cells cs1 w1, .cells cs2 w2], e0⟩) := by
  obtain ⟨G, rfl⟩ := hL
  have hlt1 : ¬ b1 < H.length := by omega
  have hlt2 : ¬ b2 < H.length := by omega
  have hr : dedup (AV.roots H.length (.tup [v0, .slice (some (b1, 0)) s1 n1 c1, .slice (some (b2, 0)) s2 n2 c2])) = [b1, b2] := by
    simp only [AV.roots, AV.roots.go, h0, if_neg hlt1, if_neg hlt2, List.nil_append, List.cons_append, List.append_nil]
    simp [dedup, hne, Ne.symm hne]
  unfold finish
  simp only [hr]
  have h3 : ([b1, b2].all fun b => flatBlk H.length (H ++ G)[b]?) = true := by
    simp only [List.all_cons, List.all_nil, Bool.and_true, h1, h2, flatBlk, u1, u2, Bool.and_self]
  simp only [hc, h3, and_self, if_true]
  have hq : (b1 == b2) = false := by simpa using hne
  have hq' : (b2 == b1) = false := by simpa using Ne.symm hne
  simp [AV.rename, AV.rename.go, h0', renum, h1, h2, hlt1, hlt2, List.idxOf_cons, hq, hq']

/-- the end of a call that hands back something plain and a list -/
theorem finish_sl1 {L : List Blk} {b1 s1 n1 : Nat} {c1 : Option Nat} {cs1 : List AV} {w1 : Bool} (v0 : AV) (h0 : AV.roots H.length v0 = []) (h0' : ∀ f, AV.rename f v0 = v0) (hL : Grown H L) (e0 e1 : Option Nat) (hc : clean H.length e1 = true) (hb1 : H.length ≤ b1)
    (h1 : L[b1]? = some (.cells cs1 w1)) (u1 : (cs1.all fun c => c.under H.length) = true) :
    finish 2 H.length e0 (.tup [v0, .slice (some (b1, 0)) s1 n1 c1]) ⟨L, e1⟩ = some (.tup [v0, .slice (some (H.length, 0)) s1 n1 c1], ⟨H ++ [.cells cs1 w1], e0⟩) := by
  obtain ⟨G, rfl⟩ := hL
  have hlt1 : ¬ b1 < H.length := by omega
  have hr : dedup (AV.roots H.length (.tup [v0, .slice (some (b1, 0)) s1 n1 c1])) = [b1] := by
    simp only [AV.roots, AV.roots.go, h0, if_neg hlt1, List.nil_append, List.cons_append, List.append_nil]
    simp [dedup]
  unfold finish
  simp only [hr]
  have h3 : ([b1].all fun b => flatBlk H.length (H ++ G)[b]?) = true := by
    simp only [List.all_cons, List.all_nil, Bool.and_true, h1, flatBlk, u1, Bool.and_self]
  simp only [hc, h3, and_self, if_true]
  simp [AV.rename, AV.rename.go, h0', renum, h1, hlt1]

theorem e_l_rBig (p : Option (Nat × Nat)) (sz n : Nat) (c : Option Nat) : call T pr f_l_rBig [.slice p sz n c] ⟨H, e⟩ = some (.bool (decide ((65536 : Int) < (n : Int))), ⟨H, e⟩) := by
  rw [call_eq t_l_rBig]
  simp +contextual only [a_l_rBig, c_l_rBig, gt_iff_lt, go_sem, entry, joinEsc, if_pos, reduceIte, Nat.reduceAdd, Nat.reduceLeDiff, Nat.reduceLT, Nat.reduceEqDiff]

end Go.Proofs.Ytlcklonakjhoiaa.Slim
