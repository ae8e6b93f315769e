/- Slices of numbers. -/
import Derived.Test.YthkgpblohjpcdaaSlimE7
namespace Go.Proofs.Ythkgpblohjpcdaa.Slim

open Go

set_option linter.unusedSimpArgs false

set_option linter.unusedVariables false

variable {pr : Prims} {H : List Blk} {e : Option Nat}

abbrev encI (ls : List Int) : List AV := ls.map (AV.int .i64)

abbrev slI (b n : Nat) (c : Option Nat) : AV := .slice (some (b, 0)) 1 n c

theorem part_encI {ls : List Int} {i : Nat} {x : Int} (sz : Nat) (h : ls[i]? = some x) : part false (encI ls) i sz = some (.int .i64 x) := by
  rw [part_false, List.getElem?_map, h]; rfl

theorem under_encI (n : Nat) : ∀ ls : List Int, ((encI ls).all fun c => c.under n) = true
  | [] => rfl
  | l :: ls => by simp [encI, AV.under]

theorem zeros_encI : ∀ n, zeros n [.int .i64 0] = encI (List.replicate n 0)
  | 0 => rfl
  | n + 1 => by
    have := zeros_encI n
    unfold zeros encI at *
    simp only [List.replicate_succ, List.flatten_cons, List.map_cons, List.cons_append, List.nil_append, this]

theorem setRange_encI {X : List Int} {i : Nat} {a : Int} (h : i < X.length) : setRange (encI X) i [.int .i64 a] = encI (X.set i a) := by
  induction X generalizing i with
  | nil => simp at h
  | cons x X ih =>
    cases i with
    | zero => simp [encI, setRange]
    | succ i =>
      have := ih (i := i) (by simpa using h)
      simp only [encI, List.map_cons, List.set_cons_succ] at *
      rw [setRange_k, this]

theorem take_set_succ' {X ls : List Int} {i : Nat} (hi : i < ls.length) (hX : X.length = ls.length) (h : X.take i = ls.take i) : (X.set i ls[i]).take (i + 1) = ls.take (i + 1) := by
  rw [List.take_succ_eq_append_getElem (by rw [List.length_set]; omega), List.take_succ_eq_append_getElem hi]
  rw [List.take_set_of_le (Nat.le_refl _), h]
  simp

/-- a slice of numbers, as a law is handed it -/
def ArgI (H : List Blk) (av : AV) (ls : List Int) : Prop :=
  ∃ p sz c, av = .slice p sz ls.length c ∧ ls.length ≤ maxLen ∧ (ls ≠ [] → sz = 1 ∧ ∃ b, p = some (b, 0) ∧ cellsAt H b = some (encI ls))

theorem ArgI.more {av : AV} {ls : List Int} (h : ArgI H av ls) (G : List Blk) : ArgI (H ++ G) av ls := by
  obtain ⟨p, sz, c, h1, h2, h3⟩ := h
  refine ⟨p, sz, c, h1, h2, fun hne => ?_⟩
  obtain ⟨h4, b, h5, h6⟩ := h3 hne
  exact ⟨h4, b, h5, cells_mono h6 G⟩

theorem ints_of : ∀ (es : List (List Int)), (∀ e ∈ es, e.length = 1) → ∃ ls : List Int, es.flatten = ls ∧ ls.length = es.length
  | [], _ => ⟨[], rfl, rfl⟩
  | e :: es, h => by
    obtain ⟨ls, h1, h2⟩ := ints_of es (fun e' h' => h e' (by simp [h']))
    have h0 := h e (by simp)
    match e, h0 with
    | [x], _ => exact ⟨x :: ls, by simp [h1], by simp [h2]⟩

theorem argI_of {av : AV} {es : List (List Int)} (h : IsArg H av .i64 1 es) : ∃ ls, ArgI H av ls := by
  obtain ⟨h1, h2⟩ := h
  rcases h2 with ⟨rfl, rfl⟩ | ⟨b, cap, rfl, h3, h4, h5⟩
  · exact ⟨[], none, 0, none, rfl, Nat.zero_le _, fun h => absurd rfl h⟩
  · obtain ⟨ls, h6, h7⟩ := ints_of es (fun e he => (h1 e he).1)
    refine ⟨ls, some (b, 0), 1, some cap, by rw [h7], by omega, fun _ => ⟨rfl, b, rfl, ?_⟩⟩
    unfold cellsAt
    rw [h5, h6]

theorem loop_l_toIntS {p : Option (Nat × Nat)} {sz : Nat} {c : Option Nat} {ls : List Int} {r : AV} (ha : ls ≠ [] → sz = 1 ∧ ∃ b, p = some (b, 0) ∧ cellsAt H b = some (encI ls)) (hn : ls.length ≤ 1048576) :
    ∀ (k i : Nat) (X : List Int) (y4 : AV), k + i = ls.length → X.length = ls.length → X.take i = ls.take i → ∃ z4, run T pr (.loop w_l_toIntS_1) ⟨[.slice p sz ls.length c, r, slI H.length ls.length (some ls.length), .int .i64 i, y4], ⟨H ++ [.cells (encI X) true], e⟩⟩ =
      some (Ex.exit 0, ⟨[.slice p sz ls.length c, r, slI H.length ls.length (some ls.length), .int .i64 ls.length, z4], ⟨H ++ [.cells (encI ls) true], e⟩⟩)
  | 0, i, X, y4, hk, hX, ht => by
    have hi : i = ls.length := by omega
    subst hi
    rw [List.take_of_length_le (by omega), List.take_of_length_le (by omega)] at ht
    subst ht
    refine ⟨.bool false, ?_⟩
    rw [run_loop]
    generalize run T pr (.loop w_l_toIntS_1) = R
    simp +contextual only [w_l_toIntS_1, Nat.lt_irrefl, decide_false, go_sem, entry, joinEsc, if_pos, reduceIte, Nat.reduceAdd, Nat.reduceLeDiff, Nat.reduceLT, Nat.reduceEqDiff]
  | k + 1, i, X, y4, hk, hX, ht => by
    have hi : i < ls.length := by omega
    have hl : ls[i]? = some ls[i] := List.getElem?_eq_getElem hi
    obtain ⟨rfl, b, rfl, hb⟩ := ha (by intro h; subst h; simp at hi)
    obtain ⟨z4, ih⟩ := loop_l_toIntS (c := c) (r := r) ha hn k (i + 1) (X.set i ls[i]) (.bool true) (by omega) (by simpa using hX) (take_set_succ' hi hX ht)
    refine ⟨z4, ?_⟩
    rw [run_loop]
    generalize run T pr (.loop w_l_toIntS_1) = R at ih ⊢
    have hle : i + 1 ≤ (encI X).length := by rw [List.length_map]; omega
    simp +contextual only [w_l_toIntS_1, cells_mono hb, hi, hl, part_encI _ hl, hle, setRange_encI (show i < X.length by omega), wrap_succ (show i < 9223372036854775807 by omega), decide_true, go_sem, entry, joinEsc, if_pos, reduceIte, Nat.reduceAdd, Nat.reduceLeDiff, Nat.reduceLT, Nat.reduceEqDiff]
    exact ih

theorem e_l_toIntS {av : AV} {ls : List Int} (ha : ArgI H av ls) (hn : ls.length ≤ 1048576) : call T pr f_l_toIntS [av] ⟨H, e⟩ = some (slI H.length ls.length (some ls.length), ⟨H ++ [.cells (encI ls) true], e⟩) := by
  obtain ⟨p, sz, c, rfl, _, ha⟩ := ha
  obtain ⟨z4, hl⟩ := loop_l_toIntS (pr := pr) (e := none) (c := c) (r := .slice none 0 0 none) ha hn ls.length 0 (List.replicate ls.length 0) .undef (by omega) (by simp) (by simp)
  rw [call_eq t_l_toIntS]
  have h0 : ((0 : Nat) : Int) = 0 := rfl
  have hmb : (ls.length : Int) * ((8 : Nat) : Int) ≤ ((maxBytes : Nat) : Int) := by unfold maxBytes; omega
  rw [h0, ← zeros_encI] at hl
  simp +contextual only [a_l_toIntS, c_l_toIntS, hmb, hl, under_encI, go_sem, entry, joinEsc, if_pos, reduceIte, Nat.reduceAdd, Nat.reduceLeDiff, Nat.reduceLT, Nat.reduceEqDiff]

theorem loop_l_eqIntS {b1 b2 : Nat} {c1 c2 : Option Nat} {ls : List Int} {x4 : AV} (h1 : cellsAt H b1 = some (encI ls)) (h2 : cellsAt H b2 = some (encI ls)) (hn : ls.length ≤ 9223372036854775806) :
    ∀ (k i : Nat) (x5 x6 : AV), k + i = ls.length → ∃ y5 y6, run T pr (.loop w_l_eqIntS_1) ⟨[slI b1 ls.length c1, slI b2 ls.length c2, .bool false, .int .i64 i, x4, x5, x6], ⟨H, e⟩⟩ =
      some (.exit 0, ⟨[slI b1 ls.length c1, slI b2 ls.length c2, .bool false, .int .i64 ls.length, x4, y5, y6], ⟨H, e⟩⟩)
  | 0, i, x5, x6, hk => by
    have hi : i = ls.length := by omega
    subst hi
    refine ⟨.bool false, x6, ?_⟩
    rw [run_loop]
    generalize run T pr (.loop w_l_eqIntS_1) = R
    simp +contextual only [w_l_eqIntS_1, Nat.lt_irrefl, decide_false, go_sem, entry, joinEsc, if_pos, reduceIte, Nat.reduceAdd, Nat.reduceLeDiff, Nat.reduceLT, Nat.reduceEqDiff]
  | k + 1, i, x5, x6, hk => by
    have hi : i < ls.length := by omega
    obtain ⟨y5, y6, ih⟩ := loop_l_eqIntS (c1 := c1) (c2 := c2) (x4 := x4) h1 h2 hn k (i + 1) (.bool true) (.bool false) (by omega)
    refine ⟨y5, y6, ?_⟩
    rw [run_loop]
    have hl : ls[i]? = some ls[i] := List.getElem?_eq_getElem hi
    generalize run T pr (.loop w_l_eqIntS_1) = R at ih ⊢
    simp +contextual only [w_l_eqIntS_1, h1, h2, hi, hl, part_encI _ hl, wrap_succ (show i < 9223372036854775807 by omega), decide_true, Bool.not_true, go_sem, entry, joinEsc, if_pos, reduceIte, Nat.reduceAdd, Nat.reduceLeDiff, Nat.reduceLT, Nat.reduceEqDiff]
    exact ih

theorem e_l_eqIntS {b1 b2 : Nat} {c1 c2 : Option Nat} {ls : List Int} (h1 : cellsAt H b1 = some (encI ls)) (h2 : cellsAt H b2 = some (encI ls)) (hn : ls.length ≤ 9223372036854775806) :
    call T pr f_l_eqIntS [slI b1 ls.length c1, slI b2 ls.length c2] ⟨H, e⟩ = some (.bool true, ⟨H, e⟩) := by
  obtain ⟨z5, z6, hl⟩ := loop_l_eqIntS (pr := pr) (e := none) (c1 := c1) (c2 := c2) (x4 := .bool false) h1 h2 hn ls.length 0 .undef .undef rfl
  have h0 : ((0 : Nat) : Int) = 0 := rfl
  rw [h0] at hl
  rw [call_eq t_l_eqIntS]
  simp +contextual only [a_l_eqIntS, c_l_eqIntS, hl, decide_true, go_sem, entry, joinEsc, if_pos, reduceIte, Nat.reduceAdd, Nat.reduceLeDiff, Nat.reduceLT, Nat.reduceEqDiff]

end Go.Proofs.Ythkgpblohjpcdaa.Slim
