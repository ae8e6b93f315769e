/- Rafts: in how many ways the rest can be loaded, on both sides. -/
import Derived.Test.YtlcklonakjhoiaaSlimE17
namespace Go.Proofs.Ytlcklonakjhoiaa.Slim

open Go

set_option linter.unusedSimpArgs false

set_option linter.unusedVariables false

variable {pr : Prims} {H : List Blk} {e : Option Nat}

theorem pow_facts : ∀ n : Nat, n < 9 → (shlI .i64 1 (n : Int) = ((2 ^ n : Nat) : Int) ∧ 2 ^ n ≤ 256 ∧ 0 < 2 ^ n) := by decide +kernel

theorem set_facts : ∀ n : Nat, n < 9 → ∀ c : Nat, c < 2 ^ n → ∀ i : Nat, i < n → (c.testBit i = false → c + 2 ^ i < 2 ^ n) ∧ (c + 1 = 2 ^ n → c.testBit i = true) := by decide +kernel

theorem getD_get {W : List Int} {c : Nat} (h : c < W.length) : W[c]? = some (W.getD c 0) := by
  rw [List.getD_eq_getElem?_getD, List.getElem?_eq_getElem h]; rfl

/-- c's ways, grown by those of the items from i on -/
def waysIn (c : Nat) : Nat → Nat → List Int → List Int
  | 0, _, W => W
  | k + 1, i, W => waysIn c k (i + 1) (if c.testBit i = true then W else W.set c (wr (W.getD c 0 + W.getD (c + 2 ^ i) 0)))

theorem waysIn_length {c : Nat} : ∀ (k i : Nat) (W : List Int), (waysIn c k i W).length = W.length
  | 0, _, W => rfl
  | k + 1, i, W => by
    rw [waysIn, waysIn_length k]
    split <;> simp

theorem waysIn_full {c : Nat} : ∀ (k i : Nat) (W : List Int), (∀ j, i ≤ j → j < i + k → c.testBit j = true) → waysIn c k i W = W
  | 0, _, W, _ => rfl
  | k + 1, i, W, h => by
    rw [waysIn, if_pos (h i (by omega) (by omega)), waysIn_full k _ _ (fun j h1 h2 => h j (by omega) (by omega))]

def waysStep (safe : Nat → Bool) (n c : Nat) (W : List Int) : List Int := if safe c = true then (if c + 1 = 2 ^ n then W.set c 1 else waysIn c n 0 W) else W

theorem waysStep_length (safe : Nat → Bool) (n c : Nat) (W : List Int) : (waysStep safe n c W).length = W.length := by
  unfold waysStep
  split
  · split
    · simp
    · exact waysIn_length _ _ _
  · rfl

/-- the sets below c, from the last one to the first -/
def waysDown (safe : Nat → Bool) (n : Nat) : Nat → List Int → List Int
  | 0, W => W
  | c + 1, W => waysDown safe n c (waysStep safe n c W)

theorem waysDown_length (safe : Nat → Bool) (n : Nat) : ∀ (c : Nat) (W : List Int), (waysDown safe n c W).length = W.length
  | 0, W => rfl
  | c + 1, W => by rw [waysDown, waysDown_length safe n c, waysStep_length]

def waysW (a b o : Int) (ls : List Ld) : List Int := waysDown (fun c => safeW a b o ls (c : Int)) ls.length (2 ^ ls.length) (List.replicate (2 ^ ls.length) 0)

theorem waysW_length (a b o : Int) (ls : List Ld) : (waysW a b o ls).length = 2 ^ ls.length := by
  unfold waysW
  rw [waysDown_length]
  simp

theorem bit_clear {c i : Nat} (hc : c < 256) (hi : i < 8) (h : c.testBit i = false) : andI .i64 (shrI .i64 c (i : Int)) 1 = 0 := by
  have : ∀ c : Nat, c < 256 → ∀ i : Nat, i < 8 → c.testBit i = false → andI .i64 (shrI .i64 c (i : Int)) 1 = 0 := by decide +kernel
  exact this c hc i hi h

theorem bit_set {c i : Nat} (hc : c < 256) (hi : i < 8) (h : c.testBit i = true) : andI .i64 (shrI .i64 c (i : Int)) 1 = 1 := by
  have : ∀ c : Nat, c < 256 → ∀ i : Nat, i < 8 → c.testBit i = true → andI .i64 (shrI .i64 c (i : Int)) 1 = 1 := by decide +kernel
  exact this c hc i hi h

theorem loop_s_l10Ways_1 {rv p y3 y4 y8 y9 y10 : AV} {q : Nat} {c : Option Nat} {n F C : Nat} (hn8 : n ≤ 8) (hF : F = 2 ^ n) (hC : C < F) :
    ∀ (k i : Nat) (W : List Int) (y11 y12 : AV), k + i = n → W.length = F → ∃ (z11 z12 : AV), run T pr (.loop w_s_l10Ways_1) ⟨[rv, slL q n c, p, y3, y4, slI H.length F (some F), .int .i64 C, .int .i64 i, y8, y9, y10, y11, y12], ⟨H ++ [.cells (encI W) true], e⟩⟩ =
      some (Ex.exit 2, ⟨[rv, slL q n c, p, y3, y4, slI H.length F (some F), .int .i64 C, .int .i64 n, y8, y9, y10, z11, z12], ⟨H ++ [.cells (encI (waysIn C k i W)) true], e⟩⟩)
  | 0, i, W, y11, y12, hk, hW => by
    have hi : i = n := by omega
    subst hi
    refine ⟨.bool false, y12, ?_⟩
    rw [run_loop]
    generalize run T pr (.loop w_s_l10Ways_1) = R
    simp +contextual only [w_s_l10Ways_1, Nat.lt_irrefl, decide_false, waysIn, go_sem, entry, joinEsc, if_pos, reduceIte, Nat.reduceAdd, Nat.reduceLeDiff, Nat.reduceLT, Nat.reduceEqDiff]
  | k + 1, i, W, y11, y12, hk, hW => by
    have hi : i < n := by omega
    obtain ⟨p1, p2, p3⟩ := pow_facts n (by omega)
    obtain ⟨s1, s2⟩ := set_facts n (by omega) C (by omega) i hi
    obtain ⟨_, _, f3⟩ := bits_facts C (by omega) i (by omega)
    rw [run_loop, waysIn]
    cases h1 : C.testBit i with
    | true =>
      obtain ⟨z11, z12, ih⟩ := loop_s_l10Ways_1 (rv := rv) (p := p) (y3 := y3) (y4 := y4) (y8 := y8) (y9 := y9) (y10 := y10) (q := q) (c := c) hn8 hF hC k (i + 1) W (.bool true) (.bool false) (by omega) hW
      refine ⟨z11, z12, ?_⟩
      generalize run T pr (.loop w_s_l10Ways_1) = R at ih ⊢
      have hb := bit_set (c := C) (i := i) (by omega) (by omega) h1
      simp +contextual only [w_s_l10Ways_1, hi, shr_nat, hb, show ¬ ((1 : Int) = 0) by omega, decide_false, wrap_succ (show i < 9223372036854775807 by omega), decide_true, go_sem, entry, joinEsc, if_pos, reduceIte, Nat.reduceAdd, Nat.reduceLeDiff, Nat.reduceLT, Nat.reduceEqDiff]
      exact ih
    | false =>
      obtain ⟨_, g2, g3, g4⟩ := f3 h1
      have hlt := s1 h1
      have hb := bit_clear (c := C) (i := i) (by omega) (by omega) h1
      have g2' : IntKind.i64.wrap ((C : Int) + shlI .i64 1 (i : Int)) = ((C + 2 ^ i : Nat) : Int) := g2
      have hlt' : C + 2 ^ i < F := by omega
      have e1 := part_encI (ls := W) 1 (getD_get (W := W) (c := C) (by omega))
      have e2 := part_encI (ls := W) 1 (getD_get (W := W) (c := C + 2 ^ i) (by omega))
      have hle : C + 1 ≤ (encI W).length := by rw [List.length_map]; omega
      obtain ⟨z11, z12, ih⟩ := loop_s_l10Ways_1 (rv := rv) (p := p) (y3 := y3) (y4 := y4) (y8 := y8) (y9 := y9) (y10 := y10) (q := q) (c := c) hn8 hF hC k (i + 1) (W.set C (wr (W.getD C 0 + W.getD (C + 2 ^ i) 0))) (.bool true) (.bool true) (by omega) (by simpa using hW)
      refine ⟨z11, z12, ?_⟩
      generalize run T pr (.loop w_s_l10Ways_1) = R at ih ⊢
      simp +contextual only [w_s_l10Ways_1, hi, hC, hlt', shr_nat, shl_nat, hb, g2', e1, e2, hle, setRange_encI (show C < W.length by omega), wrap_succ (show i < 9223372036854775807 by omega), Nat.mul_one, decide_true, go_sem, entry, joinEsc, if_pos, reduceIte, Nat.reduceAdd, Nat.reduceLeDiff, Nat.reduceLT, Nat.reduceEqDiff]
      exact ih

theorem loop_i_Raft_waysOf_1 {rv p y3 y4 y8 y13 y14 : AV} {q : Nat} {c : Option Nat} {n F C : Nat} (hn8 : n ≤ 8) (hF : F = 2 ^ n) (hC : C < F) :
    ∀ (k i : Nat) (W : List Int) (y7 y11 y12 : AV), k + i = n → W.length = F → ∃ (z7 z11 z12 : AV), run T pr (.loop w_i_Raft_waysOf_1) ⟨[rv, slL q n c, p, y3, y4, slI H.length F (some F), .int .i64 C, y7, y8, .int .i64 n, .int .i64 i, y11, y12, y13, y14], ⟨H ++ [.cells (encI W) true], e⟩⟩ =
      some (Ex.exit 3, ⟨[rv, slL q n c, p, y3, y4, slI H.length F (some F), .int .i64 C, z7, y8, .int .i64 n, .int .i64 n, z11, z12, y13, y14], ⟨H ++ [.cells (encI (waysIn C k i W)) true], e⟩⟩)
  | 0, i, W, y7, y11, y12, hk, hW => by
    have hi : i = n := by omega
    subst hi
    refine ⟨y7, .bool false, y12, ?_⟩
    rw [run_loop]
    generalize run T pr (.loop w_i_Raft_waysOf_1) = R
    simp +contextual only [w_i_Raft_waysOf_1, Nat.lt_irrefl, decide_false, waysIn, go_sem, entry, joinEsc, if_pos, reduceIte, Nat.reduceAdd, Nat.reduceLeDiff, Nat.reduceLT, Nat.reduceEqDiff]
  | k + 1, i, W, y7, y11, y12, hk, hW => by
    have hi : i < n := by omega
    obtain ⟨p1, p2, p3⟩ := pow_facts n (by omega)
    obtain ⟨s1, s2⟩ := set_facts n (by omega) C (by omega) i hi
    obtain ⟨_, _, f3⟩ := bits_facts C (by omega) i (by omega)
    rw [run_loop, waysIn]
    cases h1 : C.testBit i with
    | true =>
      obtain ⟨z7, z11, z12, ih⟩ := loop_i_Raft_waysOf_1 (rv := rv) (p := p) (y3 := y3) (y4 := y4) (y8 := y8) (y13 := y13) (y14 := y14) (q := q) (c := c) hn8 hF hC k (i + 1) W (.int .i64 i) (.bool true) (.bool false) (by omega) hW
      refine ⟨z7, z11, z12, ?_⟩
      generalize run T pr (.loop w_i_Raft_waysOf_1) = R at ih ⊢
      have hb := bit_set (c := C) (i := i) (by omega) (by omega) h1
      simp +contextual only [w_i_Raft_waysOf_1, hi, shr_nat, hb, show ¬ ((1 : Int) = 0) by omega, decide_false, wrap_succ (show i < 9223372036854775807 by omega), decide_true, go_sem, entry, joinEsc, if_pos, reduceIte, Nat.reduceAdd, Nat.reduceLeDiff, Nat.reduceLT, Nat.reduceEqDiff]
      exact ih
    | false =>
      obtain ⟨g1, _, g3, g4⟩ := f3 h1
      have hlt := s1 h1
      have hb := bit_clear (c := C) (i := i) (by omega) (by omega) h1
      have hlt' : C + 2 ^ i < F := by omega
      have e1 := part_encI (ls := W) 1 (getD_get (W := W) (c := C) (by omega))
      have e2 := part_encI (ls := W) 1 (getD_get (W := W) (c := C + 2 ^ i) (by omega))
      have hle : C + 1 ≤ (encI W).length := by rw [List.length_map]; omega
      obtain ⟨z7, z11, z12, ih⟩ := loop_i_Raft_waysOf_1 (rv := rv) (p := p) (y3 := y3) (y4 := y4) (y8 := y8) (y13 := y13) (y14 := y14) (q := q) (c := c) hn8 hF hC k (i + 1) (W.set C (wr (W.getD C 0 + W.getD (C + 2 ^ i) 0))) (.int .i64 i) (.bool true) (.bool true) (by omega) (by simpa using hW)
      refine ⟨z7, z11, z12, ?_⟩
      generalize run T pr (.loop w_i_Raft_waysOf_1) = R at ih ⊢
      simp +contextual only [w_i_Raft_waysOf_1, hi, hC, hlt', shr_nat, shl_nat, hb, g1, e1, e2, hle, setRange_encI (show C < W.length by omega), wrap_succ (show i < 9223372036854775807 by omega), Nat.mul_one, decide_true, go_sem, entry, joinEsc, if_pos, reduceIte, Nat.reduceAdd, Nat.reduceLeDiff, Nat.reduceLT, Nat.reduceEqDiff]
      exact ih

theorem loop_s_l10Ways_2 {rv y3 : AV} {q u : Nat} {c : Option Nat} {ls : List Ld} {n F : Nat} {a b o : Int} (hls : ls.length = n) (hn8 : n ≤ 8) (hF : F = 2 ^ n) (h : cellsAt H q = some (encL ls)) (hu : cellsAt H u = some [.int .i64 a, .int .i64 b, .int .i64 o]) :
    ∀ (C : Nat) (x : Int) (W : List Int) (y7 y8 y9 y10 y11 y12 : AV), x = (C : Int) - 1 → C ≤ F → W.length = F → ∃ (z6 z7 z8 z9 z10 z11 z12 : AV), run T pr (.loop w_s_l10Ways_2) ⟨[rv, slL q n c, .ptr (some (u, 0)), y3, .int .i64 ((F - 1 : Nat) : Int), slI H.length F (some F), .int .i64 x, y7, y8, y9, y10, y11, y12], ⟨H ++ [.cells (encI W) true], none⟩⟩ =
      some (Ex.exit 0, ⟨[rv, slL q n c, .ptr (some (u, 0)), y3, .int .i64 ((F - 1 : Nat) : Int), slI H.length F (some F), z6, z7, z8, z9, z10, z11, z12], ⟨H ++ [.cells (encI (waysDown (fun c => safeW a b o ls (c : Int)) n C W)) true], none⟩⟩)
  | 0, x, W, y7, y8, y9, y10, y11, y12, hx, hC, hW => by
    subst hx
    refine ⟨.int .i64 (((0 : Nat) : Int) - 1), y7, .bool false, y9, y10, y11, y12, ?_⟩
    rw [run_loop]
    generalize run T pr (.loop w_s_l10Ways_2) = R
    simp +contextual only [w_s_l10Ways_2, show ¬ (0 ≤ ((0 : Nat) : Int) - 1) by omega, decide_false, waysDown, go_sem, entry, joinEsc, if_pos, reduceIte, Nat.reduceAdd, Nat.reduceLeDiff, Nat.reduceLT, Nat.reduceEqDiff]
  | C + 1, x, W, y7, y8, y9, y10, y11, y12, hx, hC, hW => by
    obtain rfl : x = (C : Int) := by omega
    obtain ⟨p1, p2, p3⟩ := pow_facts n (by omega)
    have hw : IntKind.i64.wrap ((C : Int) - 1) = (C : Int) - 1 := wrap64 (by omega) (by omega)
    have hsafe := fun G => e_s_l10Safe (pr := pr) (e := none) (c := c) (cells_mono h G) (show ls.length ≤ 9223372036854775806 by omega) a b o (C : Int)
    rw [hls] at hsafe
    rw [run_loop, waysDown, waysStep]
    have h0 : ((0 : Nat) : Int) = 0 := rfl
    cases h1 : safeW a b o ls (C : Int) with
    | false =>
      obtain ⟨z6, z7, z8, z9, z10, z11, z12, ih⟩ := loop_s_l10Ways_2 (rv := rv) (y3 := y3) (c := c) hls hn8 hF h hu C ((C : Int) - 1) W y7 (.bool true) (.bool true) y10 y11 y12 rfl (by omega) hW
      refine ⟨z6, z7, z8, z9, z10, z11, z12, ?_⟩
      generalize run T pr (.loop w_s_l10Ways_2) = R at ih ⊢
      simp +contextual only [w_s_l10Ways_2, cells_mono hu, hsafe, h1, hw, decide_true, go_sem, entry, joinEsc, if_pos, reduceIte, Nat.reduceAdd, Nat.reduceLeDiff, Nat.reduceLT, Nat.reduceEqDiff]
      exact ih
    | true =>
      by_cases hc : C + 1 = F
      · have hfull : waysIn C n 0 (W.set C 1) = W.set C 1 := waysIn_full n 0 _ (fun j h2 h3 => (set_facts n (by omega) C (by omega) j (by omega)).2 (by omega))
        obtain ⟨z11, z12, hl⟩ := loop_s_l10Ways_1 (pr := pr) (e := none) (H := H) (rv := rv) (p := .ptr (some (u, 0))) (y3 := y3) (y4 := .int .i64 ((F - 1 : Nat) : Int)) (y8 := .bool true) (y9 := .bool false) (y10 := .bool true) (q := q) (c := c) hn8 hF (show C < F by omega) n 0 (W.set C 1) y11 y12 rfl (by simpa using hW)
        rw [hfull, h0] at hl
        obtain ⟨w6, w7, w8, w9, w10, w11, w12, ih⟩ := loop_s_l10Ways_2 (rv := rv) (y3 := y3) (c := c) hls hn8 hF h hu C ((C : Int) - 1) (W.set C 1) (.int .i64 n) (.bool true) (.bool false) (.bool true) z11 z12 rfl (by omega) (by simpa using hW)
        refine ⟨w6, w7, w8, w9, w10, w11, w12, ?_⟩
        generalize run T pr (.loop w_s_l10Ways_2) = R at ih ⊢
        have hq : decide ((C : Int) = ((F - 1 : Nat) : Int)) = true := decide_eq_true (by omega)
        have hc' : C + 1 = 2 ^ n := by omega
        have hCF : C < F := by omega
        have hle : 2 ^ n ≤ (encI W).length := by rw [List.length_map]; omega
        simp +contextual only [w_s_l10Ways_2, cells_mono hu, hsafe, h1, hw, hq, hc', hCF, hle, hl, setRange_encI (show C < W.length by omega), Nat.mul_one, decide_true, go_sem, entry, joinEsc, if_pos, reduceIte, Nat.reduceAdd, Nat.reduceLeDiff, Nat.reduceLT, Nat.reduceEqDiff]
        exact ih
      · obtain ⟨z11, z12, hl⟩ := loop_s_l10Ways_1 (pr := pr) (e := none) (H := H) (rv := rv) (p := .ptr (some (u, 0))) (y3 := y3) (y4 := .int .i64 ((F - 1 : Nat) : Int)) (y8 := .bool true) (y9 := .bool false) (y10 := .bool false) (q := q) (c := c) hn8 hF (show C < F by omega) n 0 W y11 y12 rfl hW
        rw [h0] at hl
        obtain ⟨w6, w7, w8, w9, w10, w11, w12, ih⟩ := loop_s_l10Ways_2 (rv := rv) (y3 := y3) (c := c) hls hn8 hF h hu C ((C : Int) - 1) (waysIn C n 0 W) (.int .i64 n) (.bool true) (.bool false) (.bool false) z11 z12 rfl (by omega) (by rw [waysIn_length]; exact hW)
        refine ⟨w6, w7, w8, w9, w10, w11, w12, ?_⟩
        generalize run T pr (.loop w_s_l10Ways_2) = R at ih ⊢
        have hq : decide ((C : Int) = ((F - 1 : Nat) : Int)) = false := decide_eq_false (by omega)
        have hc' : ¬ C + 1 = 2 ^ n := by omega
        simp +contextual only [w_s_l10Ways_2, cells_mono hu, hsafe, h1, hw, hq, hc', hl, decide_true, go_sem, entry, joinEsc, if_pos, reduceIte, Nat.reduceAdd, Nat.reduceLeDiff, Nat.reduceLT, Nat.reduceEqDiff]
        exact ih

theorem loop_i_Raft_waysOf_2 {rv y3 : AV} {q u : Nat} {c : Option Nat} {ls : List Ld} {n F : Nat} {a b o : Int} (hls : ls.length = n) (hn8 : n ≤ 8) (hF : F = 2 ^ n) (h : cellsAt H q = some (encL ls)) (hu : cellsAt H u = some [.int .i64 a, .int .i64 b, .int .i64 o]) :
    ∀ (C : Nat) (x : Int) (W : List Int) (y7 y8 y9 y10 y11 y12 y13 y14 : AV), x = (C : Int) - 1 → C ≤ F → W.length = F → ∃ (z6 z7 z8 z9 z10 z11 z12 z13 z14 : AV), run T pr (.loop w_i_Raft_waysOf_2) ⟨[rv, slL q n c, .ptr (some (u, 0)), y3, .int .i64 ((F - 1 : Nat) : Int), slI H.length F (some F), .int .i64 x, y7, y8, y9, y10, y11, y12, y13, y14], ⟨H ++ [.cells (encI W) true], none⟩⟩ =
      some (Ex.exit 0, ⟨[rv, slL q n c, .ptr (some (u, 0)), y3, .int .i64 ((F - 1 : Nat) : Int), slI H.length F (some F), z6, z7, z8, z9, z10, z11, z12, z13, z14], ⟨H ++ [.cells (encI (waysDown (fun c => safeW a b o ls (c : Int)) n C W)) true], none⟩⟩)
  | 0, x, W, y7, y8, y9, y10, y11, y12, y13, y14, hx, hC, hW => by
    subst hx
    refine ⟨.int .i64 (((0 : Nat) : Int) - 1), y7, .bool false, y9, y10, y11, y12, y13, y14, ?_⟩
    rw [run_loop]
    generalize run T pr (.loop w_i_Raft_waysOf_2) = R
    simp +contextual only [w_i_Raft_waysOf_2, show ¬ (0 ≤ ((0 : Nat) : Int) - 1) by omega, decide_false, waysDown, go_sem, entry, joinEsc, if_pos, reduceIte, Nat.reduceAdd, Nat.reduceLeDiff, Nat.reduceLT, Nat.reduceEqDiff]
  | C + 1, x, W, y7, y8, y9, y10, y11, y12, y13, y14, hx, hC, hW => by
    obtain rfl : x = (C : Int) := by omega
    obtain ⟨p1, p2, p3⟩ := pow_facts n (by omega)
    have hw : IntKind.i64.wrap ((C : Int) - 1) = (C : Int) - 1 := wrap64 (by omega) (by omega)
    have hsafe := fun G => e_i_Raft_isSafe (pr := pr) (e := none) (c := c) (cells_mono h G) (show ls.length ≤ 9223372036854775806 by omega) a b o (C : Int)
    rw [hls] at hsafe
    rw [run_loop, waysDown, waysStep]
    have h0 : ((0 : Nat) : Int) = 0 := rfl
    cases h1 : safeW a b o ls (C : Int) with
    | false =>
      obtain ⟨z6, z7, z8, z9, z10, z11, z12, z13, z14, ih⟩ := loop_i_Raft_waysOf_2 (rv := rv) (y3 := y3) (c := c) hls hn8 hF h hu C ((C : Int) - 1) W y7 (.bool true) y9 y10 y11 y12 (.bool true) y14 rfl (by omega) hW
      refine ⟨z6, z7, z8, z9, z10, z11, z12, z13, z14, ?_⟩
      generalize run T pr (.loop w_i_Raft_waysOf_2) = R at ih ⊢
      simp +contextual only [w_i_Raft_waysOf_2, cells_mono hu, hsafe, h1, hw, decide_true, go_sem, entry, joinEsc, if_pos, reduceIte, Nat.reduceAdd, Nat.reduceLeDiff, Nat.reduceLT, Nat.reduceEqDiff]
      exact ih
    | true =>
      by_cases hc : C + 1 = F
      · obtain ⟨w6, w7, w8, w9, w10, w11, w12, w13, w14, ih⟩ := loop_i_Raft_waysOf_2 (rv := rv) (y3 := y3) (c := c) hls hn8 hF h hu C ((C : Int) - 1) (W.set C 1) y7 (.bool true) y9 y10 y11 y12 (.bool false) (.bool true) rfl (by omega) (by simpa using hW)
        refine ⟨w6, w7, w8, w9, w10, w11, w12, w13, w14, ?_⟩
        generalize run T pr (.loop w_i_Raft_waysOf_2) = R at ih ⊢
        have hq : decide ((C : Int) = ((F - 1 : Nat) : Int)) = true := decide_eq_true (by omega)
        have hc' : C + 1 = 2 ^ n := by omega
        have hCF : C < F := by omega
        have hle : 2 ^ n ≤ (encI W).length := by rw [List.length_map]; omega
        simp +contextual only [w_i_Raft_waysOf_2, cells_mono hu, hsafe, h1, hw, hq, hc', hCF, hle, setRange_encI (show C < W.length by omega), Nat.mul_one, decide_true, go_sem, entry, joinEsc, if_pos, reduceIte, Nat.reduceAdd, Nat.reduceLeDiff, Nat.reduceLT, Nat.reduceEqDiff]
        exact ih
      · obtain ⟨z7, z11, z12, hl⟩ := loop_i_Raft_waysOf_1 (pr := pr) (e := none) (H := H) (rv := rv) (p := .ptr (some (u, 0))) (y3 := y3) (y4 := .int .i64 ((F - 1 : Nat) : Int)) (y8 := .bool true) (y13 := .bool false) (y14 := .bool false) (q := q) (c := c) hn8 hF (show C < F by omega) n 0 W y7 y11 y12 rfl hW
        rw [h0] at hl
        obtain ⟨w6, w7, w8, w9, w10, w11, w12, w13, w14, ih⟩ := loop_i_Raft_waysOf_2 (rv := rv) (y3 := y3) (c := c) hls hn8 hF h hu C ((C : Int) - 1) (waysIn C n 0 W) z7 (.bool true) (.int .i64 n) (.int .i64 n) z11 z12 (.bool false) (.bool false) rfl (by omega) (by rw [waysIn_length]; exact hW)
        refine ⟨w6, w7, w8, w9, w10, w11, w12, w13, w14, ?_⟩
        generalize run T pr (.loop w_i_Raft_waysOf_2) = R at ih ⊢
        have hq : decide ((C : Int) = ((F - 1 : Nat) : Int)) = false := decide_eq_false (by omega)
        have hc' : ¬ C + 1 = 2 ^ n := by omega
        simp +contextual only [w_i_Raft_waysOf_2, cells_mono hu, hsafe, h1, hw, hq, hc', hl, decide_true, go_sem, entry, joinEsc, if_pos, reduceIte, Nat.reduceAdd, Nat.reduceLeDiff, Nat.reduceLT, Nat.reduceEqDiff]
        exact ih

theorem fin_ways (x : Blk) (W : List Int) (n : Nat) (c : Option Nat) (e0 : Option Nat) : finish 2 H.length e0 (slI (H.length + 1) n c) ⟨H ++ [x, Blk.cells (encI W) true], none⟩ = some (slI H.length n c, ⟨H ++ [Blk.cells (encI W) true], e0⟩) :=
  finish_two_at e0 rfl (under_encI _ _)

theorem e_s_l10Ways {q : Nat} {c : Option Nat} {ls : List Ld} (h : cellsAt H q = some (encL ls)) (hn8 : ls.length ≤ 8) (a b o : Int) : call T pr f_s_l10Ways [rfV a b o, slL q ls.length c] ⟨H, e⟩ =
    some (slI H.length (2 ^ ls.length) (some (2 ^ ls.length)), ⟨H ++ [.cells (encI (waysW a b o ls)) true], e⟩) := by
  obtain ⟨p1, p2, p3⟩ := pow_facts ls.length (by omega)
  unfold waysW
  generalize hF : 2 ^ ls.length = F at *
  have hu : cellsAt (H ++ [Blk.cells [.int .i64 a, .int .i64 b, .int .i64 o] true]) H.length = some [.int .i64 a, .int .i64 b, .int .i64 o] := by simp [cellsAt, List.getElem?_append_right]
  have hx : ((F - 1 : Nat) : Int) = (F : Int) - 1 := by omega
  obtain ⟨z6, z7, z8, z9, z10, z11, z12, hl⟩ := loop_s_l10Ways_2 (pr := pr) (c := c) (rv := rfV a b o) (y3 := .slice none 0 0 none) rfl hn8 hF.symm (cells_mono h [Blk.cells [.int .i64 a, .int .i64 b, .int .i64 o] true]) hu F ((F - 1 : Nat) : Int) (List.replicate F 0) .undef .undef .undef .undef .undef .undef hx (Nat.le_refl _) (by simp)
  rw [← zeros_encI, List.append_assoc, List.append_assoc] at hl
  simp only [List.length_append, List.length_cons, List.length_nil, Nat.zero_add, List.cons_append, List.nil_append] at hl
  have w1 : IntKind.i64.wrap ((F : Int) - 1) = ((F - 1 : Nat) : Int) := by rw [hx]; exact wrap64 (by omega) (by omega)
  have w2 : IntKind.i64.wrap (((F - 1 : Nat) : Int) + 1) = (F : Int) := by rw [hx, show (F : Int) - 1 + 1 = F by omega]; exact wrap64 (by omega) (by omega)
  have hmb : (F : Int) * ((8 : Nat) : Int) ≤ ((maxBytes : Nat) : Int) := by unfold maxBytes; omega
  rw [call_eq t_s_l10Ways]
  simp +contextual only [a_s_l10Ways, c_s_l10Ways, shl_nat, p1, w1, w2, hmb, hl, fin_ways, go_sem, entry, joinEsc, if_pos, reduceIte, Nat.reduceAdd, Nat.reduceLeDiff, Nat.reduceLT, Nat.reduceEqDiff]

theorem e_i_Raft_waysOf {q : Nat} {c : Option Nat} {ls : List Ld} (h : cellsAt H q = some (encL ls)) (hn8 : ls.length ≤ 8) (a b o : Int) : call T pr f_i_Raft_waysOf [rfV a b o, slL q ls.length c] ⟨H, e⟩ =
    some (slI H.length (2 ^ ls.length) (some (2 ^ ls.length)), ⟨H ++ [.cells (encI (waysW a b o ls)) true], e⟩) := by
  obtain ⟨p1, p2, p3⟩ := pow_facts ls.length (by omega)
  unfold waysW
  generalize hF : 2 ^ ls.length = F at *
  have hu : cellsAt (H ++ [Blk.cells [.int .i64 a, .int .i64 b, .int .i64 o] true]) H.length = some [.int .i64 a, .int .i64 b, .int .i64 o] := by simp [cellsAt, List.getElem?_append_right]
  have hx : ((F - 1 : Nat) : Int) = (F : Int) - 1 := by omega
  obtain ⟨z6, z7, z8, z9, z10, z11, z12, z13, z14, hl⟩ := loop_i_Raft_waysOf_2 (pr := pr) (c := c) (rv := rfV a b o) (y3 := .slice none 0 0 none) rfl hn8 hF.symm (cells_mono h [Blk.cells [.int .i64 a, .int .i64 b, .int .i64 o] true]) hu F ((F - 1 : Nat) : Int) (List.replicate F 0) .undef .undef .undef .undef .undef .undef .undef .undef hx (Nat.le_refl _) (by simp)
  rw [← zeros_encI, List.append_assoc, List.append_assoc] at hl
  simp only [List.length_append, List.length_cons, List.length_nil, Nat.zero_add, List.cons_append, List.nil_append] at hl
  have w1 : IntKind.i64.wrap ((F : Int) - 1) = ((F - 1 : Nat) : Int) := by rw [hx]; exact wrap64 (by omega) (by omega)
  have w2 : IntKind.i64.wrap (((F - 1 : Nat) : Int) + 1) = (F : Int) := by rw [hx, show (F : Int) - 1 + 1 = F by omega]; exact wrap64 (by omega) (by omega)
  have hmb : (F : Int) * ((8 : Nat) : Int) ≤ ((maxBytes : Nat) : Int) := by unfold maxBytes; omega
  rw [call_eq t_i_Raft_waysOf]
  simp +contextual only [a_i_Raft_waysOf, c_i_Raft_waysOf, shl_nat, p1, w1, w2, hmb, hl, fin_ways, go_sem, entry, joinEsc, if_pos, reduceIte, Nat.reduceAdd, Nat.reduceLeDiff, Nat.reduceLT, Nat.reduceEqDiff]

end Go.Proofs.Ytlcklonakjhoiaa.Slim
