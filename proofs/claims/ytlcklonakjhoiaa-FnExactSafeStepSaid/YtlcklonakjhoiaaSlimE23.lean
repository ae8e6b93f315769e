/- Rafts: from which sets all can be taken, on both sides. -/
import Derived.Test.YtlcklonakjhoiaaSlimE22
namespace Go.Proofs.Ytlcklonakjhoiaa.Slim

open Go

set_option linter.unusedSimpArgs false

set_option linter.unusedVariables false

variable {pr : Prims} {H : List Blk} {e : Option Nat}

theorem bits_down : ∀ m : Nat, m < 256 → ∀ x : Nat, x < 8 → m.testBit x = true → (andNotI .i64 m (shlI .i64 1 (x : Int)) = ((m - 2 ^ x : Nat) : Int) ∧ wr ((m : Int) - shlI .i64 1 (x : Int)) = ((m - 2 ^ x : Nat) : Int) ∧ 2 ^ x ≤ m) := by decide +kernel

/-- the items that are in c -/
def nu (n c : Nat) : Nat := ((List.range n).filter fun i => c.testBit i).length

theorem nu_facts : ∀ n : Nat, n < 9 → ∀ c : Nat, c < 2 ^ n → ((nu n c = 0 ↔ c = 0) ∧ (c + 1 = 2 ^ n → nu n c = n) ∧ ∀ i : Nat, i < n → c.testBit i = true → nu n c = nu n (c - 2 ^ i) + 1) := by decide +kernel

abbrev encB (ls : List Bool) : List AV := ls.map AV.bool

theorem getB {B : List Bool} {c : Nat} (h : c < B.length) : B[c]? = some (B.getD c false) := by
  rw [List.getD_eq_getElem?_getD, List.getElem?_eq_getElem h]; rfl

theorem part_encB {B : List Bool} {i : Nat} (sz : Nat) (h : i < B.length) : part false (encB B) i sz = some (.bool (B.getD i false)) := by
  rw [part_false, List.getElem?_map, getB h]; rfl

theorem under_encB (n : Nat) : ∀ ls : List Bool, ((encB ls).all fun c => c.under n) = true
  | [] => rfl
  | l :: ls => by simp [encB, AV.under]

theorem zeros_encB : ∀ n, zeros n [.bool false] = encB (List.replicate n false)
  | 0 => rfl
  | n + 1 => by
    have := zeros_encB n
    unfold zeros encB at *
    simp only [List.replicate_succ, List.flatten_cons, List.map_cons, List.cons_append, List.nil_append, this]

theorem setRange_midB (P R : List Bool) (r a : Bool) : setRange (encB (P ++ r :: R)) P.length [.bool a] = encB (P ++ a :: R) := by
  induction P with
  | nil => simp [encB, setRange]
  | cons p P ih =>
    simp only [encB, List.cons_append, List.length_cons, List.map_cons] at *
    rw [setRange_k, ih]

theorem getD_pre {P R : List Bool} {d : Nat} (h : d < P.length) : (P ++ R).getD d false = P.getD d false := by
  rw [List.getD_eq_getElem?_getD, List.getD_eq_getElem?_getD, List.getElem?_append_left h]

/-- item i can be taken from c, and the rest in some way behind it -/
def okDown (W : List Bool) (c i : Nat) : Bool := c.testBit i && W.getD (c - 2 ^ i) false

def backV (safe : Nat → Bool) (n c : Nat) (B : List Bool) : Bool := safe c && (decide (c = 0) || (List.range n).any (okDown B c))

/-- the sets below c: can all be taken from them? -/
def backL (safe : Nat → Bool) (n : Nat) : Nat → List Bool
  | 0 => []
  | c + 1 => backL safe n c ++ [backV safe n c (backL safe n c)]

theorem backL_length (safe : Nat → Bool) (n : Nat) : ∀ c, (backL safe n c).length = c
  | 0 => rfl
  | c + 1 => by rw [backL, List.length_append, backL_length]; rfl

theorem backL_getD (safe : Nat → Bool) (n : Nat) {c d : Nat} : ∀ F, c < F → d < c → (backL safe n F).getD d false = (backL safe n c).getD d false
  | 0, h, _ => by omega
  | F + 1, h, hd => by
    rw [backL]
    by_cases hc : c = F
    · subst hc; exact getD_pre (by rw [backL_length]; exact hd)
    · rw [getD_pre (by rw [backL_length]; omega)]
      exact backL_getD safe n F (by omega) hd

theorem backL_val (safe : Nat → Bool) (n : Nat) {c : Nat} : ∀ F, c < F → (backL safe n F).getD c false = backV safe n c (backL safe n c)
  | 0, h => by omega
  | F + 1, h => by
    rw [backL]
    by_cases hc : c = F
    · subst hc
      rw [List.getD_eq_getElem?_getD, List.getElem?_append_right (by rw [backL_length]; exact Nat.le_refl _), backL_length, Nat.sub_self]
      rfl
    · rw [getD_pre (by rw [backL_length]; omega)]
      exact backL_val safe n F (by omega)

theorem back_good {safe : Nat → Bool} {n F c : Nat} (hF : F = 2 ^ n) (hn8 : n ≤ 8) (hc : c < F) (h : (backL safe n F).getD c false = true) (h0 : c ≠ 0) : ∃ i, i < n ∧ okDown (backL safe n F) c i = true := by
  rw [backL_val safe n F hc] at h
  unfold backV at h
  simp only [Bool.and_eq_true, Bool.or_eq_true, decide_eq_true_eq, List.any_eq_true, List.mem_range] at h
  rcases h.2 with h | ⟨i, i1, i2⟩
  · exact absurd h h0
  · refine ⟨i, i1, ?_⟩
    unfold okDown at i2 ⊢
    rw [Bool.and_eq_true] at i2 ⊢
    have := Nat.two_pow_pos i
    rw [backL_getD safe n F hc (by omega)]
    exact i2

def backW (a b o : Int) (ls : List Ld) : List Bool := backL (fun c => safeW a b o ls (c : Int)) ls.length (2 ^ ls.length)

theorem loop_s_l10Back_1 {rv p y3 y8 : AV} {q w n F C : Nat} {c cw : Option Nat} {B R : List Bool} (hn8 : n ≤ 8) (hF : F = 2 ^ n) (hC : C < F) (hw : cellsAt H w = some (encB (B ++ R))) (hB : B.length = C) (hR : B.length + R.length = F) :
    ∀ (k i : Nat) (g : Bool) (y9 : AV), k + i = n → ∃ (z9 : AV), run T pr (.loop w_s_l10Back_1) ⟨[rv, slL q n c, p, y3, slI w F cw, .int .i64 C, .bool g, .int .i64 i, y8, y9], ⟨H, e⟩⟩ =
      some (Ex.exit 2, ⟨[rv, slL q n c, p, y3, slI w F cw, .int .i64 C, .bool (g || (List.range' i k).any (okDown B C)), .int .i64 n, y8, z9], ⟨H, e⟩⟩)
  | 0, i, g, y9, hk => by
    have hi : i = n := by omega
    subst hi
    refine ⟨.bool false, ?_⟩
    have h0 : (g || (List.range' i 0).any (okDown B C)) = g := by simp
    rw [run_loop, h0]
    generalize run T pr (.loop w_s_l10Back_1) = R'
    simp +contextual only [w_s_l10Back_1, Nat.lt_irrefl, decide_false, go_sem, entry, joinEsc, if_pos, reduceIte, Nat.reduceAdd, Nat.reduceLeDiff, Nat.reduceLT, Nat.reduceEqDiff]
  | k + 1, i, g, y9, hk => by
    have hi : i < n := by omega
    obtain ⟨p1, p2, p3⟩ := pow_facts n (by omega)
    rw [run_loop, List.range'_succ, List.any_cons]
    cases g with
    | true =>
      obtain ⟨z9, ih⟩ := loop_s_l10Back_1 (rv := rv) (p := p) (y3 := y3) (y8 := y8) (q := q) (c := c) (cw := cw) hn8 hF hC hw hB hR k (i + 1) true (.bool true) (by omega)
      refine ⟨z9, ?_⟩
      generalize run T pr (.loop w_s_l10Back_1) = R' at ih ⊢
      rw [Bool.true_or] at ih ⊢
      simp +contextual only [w_s_l10Back_1, hi, wrap_succ (show i < 9223372036854775807 by omega), decide_true, go_sem, entry, joinEsc, if_pos, reduceIte, Nat.reduceAdd, Nat.reduceLeDiff, Nat.reduceLT, Nat.reduceEqDiff]
      exact ih
    | false =>
      rw [Bool.false_or]
      obtain ⟨z9, ih⟩ := loop_s_l10Back_1 (rv := rv) (p := p) (y3 := y3) (y8 := y8) (q := q) (c := c) (cw := cw) hn8 hF hC hw hB hR k (i + 1) (okDown B C i) (.bool true) (by omega)
      refine ⟨z9, ?_⟩
      generalize run T pr (.loop w_s_l10Back_1) = R' at ih ⊢
      unfold okDown at ih ⊢
      cases h1 : C.testBit i with
      | false =>
        have hb := bit_clear (c := C) (i := i) (by omega) (by omega) h1
        rw [h1, Bool.false_and] at ih
        rw [Bool.false_and]
        simp +contextual only [w_s_l10Back_1, hi, shr_nat, hb, show ¬ ((0 : Int) = 1) by omega, wrap_succ (show i < 9223372036854775807 by omega), decide_true, decide_false, go_sem, entry, joinEsc, if_pos, reduceIte, Nat.reduceAdd, Nat.reduceLeDiff, Nat.reduceLT, Nat.reduceEqDiff]
        exact ih
      | true =>
        have hb := bit_set (c := C) (i := i) (by omega) (by omega) h1
        obtain ⟨d1, d2, d3⟩ := bits_down C (by omega) i (by omega) h1
        have d2' : IntKind.i64.wrap ((C : Int) - shlI .i64 1 (i : Int)) = ((C - 2 ^ i : Nat) : Int) := d2
        have hp := Nat.two_pow_pos i
        have hlt : C - 2 ^ i < F := by omega
        have hg : part false (encB (B ++ R)) (C - 2 ^ i) 1 = some (.bool (B.getD (C - 2 ^ i) false)) := by rw [part_encB _ (by simp; omega), getD_pre (by omega)]
        rw [h1, Bool.true_and] at ih
        rw [Bool.true_and]
        simp +contextual only [w_s_l10Back_1, hw, hi, hlt, shr_nat, shl_nat, hb, d2', hg, wrap_succ (show i < 9223372036854775807 by omega), decide_true, go_sem, entry, joinEsc, if_pos, reduceIte, Nat.reduceAdd, Nat.reduceLeDiff, Nat.reduceLT, Nat.reduceEqDiff]
        exact ih

theorem loop_s_l10Back_2 {rv y3 : AV} {q u : Nat} {c : Option Nat} {ls : List Ld} {n F : Nat} {a b o : Int} (hls : ls.length = n) (hn8 : n ≤ 8) (hF : F = 2 ^ n) (h : cellsAt H q = some (encL ls)) (hu : cellsAt H u = some [.int .i64 a, .int .i64 b, .int .i64 o]) :
    ∀ (k C : Nat) (y6 y7 y8 y9 : AV), k + C = F → ∃ (z6 z7 z8 z9 : AV), run T pr (.loop w_s_l10Back_2) ⟨[rv, slL q n c, .ptr (some (u, 0)), y3, slI H.length F (some F), .int .i64 C, y6, y7, y8, y9], ⟨H ++ [.cells (encB (backL (fun c => safeW a b o ls (c : Int)) n C ++ List.replicate k false)) true], none⟩⟩ =
      some (Ex.exit 0, ⟨[rv, slL q n c, .ptr (some (u, 0)), y3, slI H.length F (some F), .int .i64 F, z6, z7, z8, z9], ⟨H ++ [.cells (encB (backL (fun c => safeW a b o ls (c : Int)) n F)) true], none⟩⟩)
  | 0, C, y6, y7, y8, y9, hk => by
    have hi : C = F := by omega
    subst hi
    refine ⟨y6, y7, .bool false, y9, ?_⟩
    rw [run_loop, List.replicate_zero, List.append_nil]
    generalize run T pr (.loop w_s_l10Back_2) = R
    simp +contextual only [w_s_l10Back_2, Nat.lt_irrefl, decide_false, go_sem, entry, joinEsc, if_pos, reduceIte, Nat.reduceAdd, Nat.reduceLeDiff, Nat.reduceLT, Nat.reduceEqDiff]
  | k + 1, C, y6, y7, y8, y9, hk => by
    have hC : C < F := by omega
    obtain ⟨p1, p2, p3⟩ := pow_facts n (by omega)
    have hsafe := fun G => e_s_l10Safe (pr := pr) (e := none) (c := c) (cells_mono h G) (show ls.length ≤ 9223372036854775806 by omega) a b o (C : Int)
    rw [hls] at hsafe
    have h0 : ((0 : Nat) : Int) = 0 := rfl
    have hz : decide ((C : Int) = 0) = decide (C = 0) := decide_eq_decide.mpr (by omega)
    rw [run_loop, List.replicate_succ]
    obtain ⟨z9, hl⟩ := loop_s_l10Back_1 (pr := pr) (e := none) (H := H ++ [.cells (encB (backL (fun c => safeW a b o ls (c : Int)) n C ++ (false :: List.replicate k false))) true]) (rv := rv) (p := .ptr (some (u, 0))) (y3 := y3) (y8 := .bool true) (q := q) (w := H.length) (c := c) (cw := some F) (B := backL (fun c => safeW a b o ls (c : Int)) n C) (R := false :: List.replicate k false) hn8 hF hC (by simp [cellsAt, List.getElem?_append_right]) (backL_length _ _ _) (by rw [backL_length]; simp; omega) n 0 (decide (C = 0)) y9 rfl
    rw [h0, ← List.range_eq_range'] at hl
    obtain ⟨w6, w7, w8, w9, ih⟩ := loop_s_l10Back_2 (rv := rv) (y3 := y3) (c := c) hls hn8 hF h hu k (C + 1) (.bool (decide (C = 0) || (List.range n).any (okDown (backL (fun c => safeW a b o ls (c : Int)) n C) C))) (.int .i64 n) (.bool true) z9 (by omega)
    refine ⟨w6, w7, w8, w9, ?_⟩
    generalize run T pr (.loop w_s_l10Back_2) = R at ih ⊢
    rw [backL, backV, List.append_assoc, List.singleton_append] at ih
    have hlen := backL_length (fun c => safeW a b o ls (c : Int)) n C
    generalize backL (fun c => safeW a b o ls (c : Int)) n C = B at *
    have hset : ∀ x, setRange (encB (B ++ false :: List.replicate k false)) C [.bool x] = encB (B ++ x :: List.replicate k false) := fun x => by
      conv => lhs; rw [← hlen]
      exact setRange_midB B _ false x
    have hle : C + 1 ≤ (encB (B ++ false :: List.replicate k false)).length := by simp; omega
    generalize (decide (C = 0) || (List.range n).any (okDown B C)) = g at *
    cases g with
    | false =>
      rw [Bool.and_false] at ih
      simp +contextual only [w_s_l10Back_2, cells_mono hu, hsafe, hz, hl, hC, hle, hset, wrap_succ (show C < 9223372036854775807 by omega), Nat.mul_one, decide_true, go_sem, entry, joinEsc, if_pos, reduceIte, Nat.reduceAdd, Nat.reduceLeDiff, Nat.reduceLT, Nat.reduceEqDiff]
      exact ih
    | true =>
      rw [Bool.and_true] at ih
      simp +contextual only [w_s_l10Back_2, cells_mono hu, hsafe, hz, hl, hC, hle, hset, wrap_succ (show C < 9223372036854775807 by omega), Nat.mul_one, decide_true, go_sem, entry, joinEsc, if_pos, reduceIte, Nat.reduceAdd, Nat.reduceLeDiff, Nat.reduceLT, Nat.reduceEqDiff]
      exact ih

theorem fin_back (x : Blk) (W : List Bool) (n : Nat) (c : Option Nat) (e0 : Option Nat) : finish 2 H.length e0 (slI (H.length + 1) n c) ⟨H ++ [x, Blk.cells (encB W) true], none⟩ = some (slI H.length n c, ⟨H ++ [Blk.cells (encB W) true], e0⟩) :=
  finish_two_at e0 rfl (under_encB _ _)

theorem e_s_l10Back {q : Nat} {c : Option Nat} {ls : List Ld} (h : cellsAt H q = some (encL ls)) (hn8 : ls.length ≤ 8) (a b o : Int) : call T pr f_s_l10Back [rfV a b o, slL q ls.length c] ⟨H, e⟩ =
    some (slI H.length (2 ^ ls.length) (some (2 ^ ls.length)), ⟨H ++ [.cells (encB (backW a b o ls)) true], e⟩) := by
  obtain ⟨p1, p2, p3⟩ := pow_facts ls.length (by omega)
  unfold backW
  generalize hF : 2 ^ ls.length = F at *
  have hu : cellsAt (H ++ [Blk.cells [.int .i64 a, .int .i64 b, .int .i64 o] true]) H.length = some [.int .i64 a, .int .i64 b, .int .i64 o] := by simp [cellsAt, List.getElem?_append_right]
  obtain ⟨z6, z7, z8, z9, hl⟩ := loop_s_l10Back_2 (pr := pr) (c := c) (rv := rfV a b o) (y3 := .slice none 0 0 none) rfl hn8 hF.symm (cells_mono h [Blk.cells [.int .i64 a, .int .i64 b, .int .i64 o] true]) hu F 0 .undef .undef .undef .undef (by omega)
  have h0 : ((0 : Nat) : Int) = 0 := rfl
  rw [backL, List.nil_append, ← zeros_encB, List.append_assoc, List.append_assoc, h0] at hl
  simp only [List.length_append, List.length_cons, List.length_nil, Nat.zero_add, List.cons_append, List.nil_append] at hl
  have hmb : (F : Int) * ((1 : Nat) : Int) ≤ ((maxBytes : Nat) : Int) := by unfold maxBytes; omega
  rw [call_eq t_s_l10Back]
  simp +contextual only [a_s_l10Back, c_s_l10Back, shl_nat, p1, hmb, hl, fin_back, go_sem, entry, joinEsc, if_pos, reduceIte, Nat.reduceAdd, Nat.reduceLeDiff, Nat.reduceLT, Nat.reduceEqDiff]

end Go.Proofs.Ytlcklonakjhoiaa.Slim
