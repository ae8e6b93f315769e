/- FnExactHardestItem returns true for all arguments, without conditions: the law holds as it is stated; the arguments read as they did. -/
import Derived.Test.YtlcklonakjhoiaaSlimZ4
import Derived.Test.YtlcklonakjhoiaaRows
import Derived.SizedLaws
import Derived.ChangeOld
import Derived.Handed
import Derived.JoinedOf
/- Stands: what is valid, copies, new ones; their laws. -/
namespace Go.Proofs.Ytlcklonakjhoiaa.Slim

open Go

set_option linter.unusedSimpArgs false

set_option linter.unusedVariables false

variable {pr : Prims} {H : List Blk} {e : Option Nat}

abbrev stV (row : AV) (a b : Int) (chain : AV) (t k : Int) : AV := .agg [row, .int .i64 a, .int .i64 b, chain, .int .i64 t, .int .i64 k]

theorem clean_minEsc (lim b : Nat) (e : Option Nat) : clean lim (minEsc e b) = (clean lim e && decide (lim ≤ b)) := by
  cases e with
  | none => simp [clean, minEsc]
  | some x => simp [clean, minEsc, Nat.le_min]

theorem clean_none (lim : Nat) : clean lim none = true := Eq.trans rfl rfl

theorem under_slice (n b o sz k : Nat) (c : Option Nat) : (AV.slice (some (b, o)) sz k c).under n = decide (b < n) := by simp [AV.under]

theorem under_sliceN (n sz k : Nat) (c : Option Nat) : (AV.slice none sz k c).under n = true := by simp [AV.under]

theorem finish_stand {G : List Blk} {j1 j2 n1 n2 : Nat} {c1 c2 : Option Nat} {cs1 cs2 : List AV} {w1 w2 : Bool} (a b t k : Int) (e0 e1 : Option Nat) (hc : clean H.length e1 = true) (h1 : G[j1]? = some (.cells cs1 w1)) (h2 : G[j2]? = some (.cells cs2 w2)) (hne : j1 ≠ j2)
    (u1 : (cs1.all fun c => c.under H.length) = true) (u2 : (cs2.all fun c => c.under H.length) = true) :
    finish 2 H.length e0 (stV (slL (H.length + j1) n1 c1) a b (slS (H.length + j2) n2 c2) t k) ⟨H ++ G, e1⟩ = some (stV (slL H.length n1 c1) a b (slS (H.length + 1) n2 c2) t k, ⟨H ++ [.cells cs1 w1, .cells cs2 w2], e0⟩) := by
  have hlt1 : ¬ H.length + j1 < H.length := by omega
  have hlt2 : ¬ H.length + j2 < H.length := by omega
  have hne' : ¬ H.length + j2 = H.length + j1 := by omega
  have hr : dedup (AV.roots H.length (stV (slL (H.length + j1) n1 c1) a b (slS (H.length + j2) n2 c2) t k)) = [H.length + j1, H.length + j2] := by
    simp only [AV.roots, AV.roots.go, if_neg hlt1, if_neg hlt2, List.nil_append, List.cons_append, List.append_nil]
    simp [dedup, hne', hne, Ne.symm hne]
  have hb1 : (H ++ G)[H.length + j1]? = some (.cells cs1 w1) := by rw [List.getElem?_append_right (by omega)]; simpa using h1
  have hb2 : (H ++ G)[H.length + j2]? = some (.cells cs2 w2) := by rw [List.getElem?_append_right (by omega)]; simpa using h2
  unfold finish
  simp only [hr]
  have h3 : ([H.length + j1, H.length + j2].all fun b => flatBlk H.length (H ++ G)[b]?) = true := by
    simp only [List.all_cons, List.all_nil, Bool.and_true, hb1, hb2, flatBlk, u1, u2, Bool.and_self]
  simp only [hc, h3, and_self, if_true]
  have hq : (H.length + j1 == H.length + j2) = false := by simpa using hne
  simp [AV.rename, AV.rename.go, renum, hb1, hb2, List.idxOf_cons]
  refine ⟨fun h => by omega, ?_⟩
  rw [if_neg hlt2, hq]
  rfl

theorem finish_standB {G : List Blk} {j1 j2 n1 n2 : Nat} {c1 c2 : Option Nat} {cs1 cs2 : List AV} {w1 w2 : Bool} (a b t k : Int) (x : Bool) (e0 e1 : Option Nat) (hc : clean H.length e1 = true) (h1 : G[j1]? = some (.cells cs1 w1)) (h2 : G[j2]? = some (.cells cs2 w2)) (hne : j1 ≠ j2)
    (u1 : (cs1.all fun c => c.under H.length) = true) (u2 : (cs2.all fun c => c.under H.length) = true) :
    finish 2 H.length e0 (.tup [stV (slL (H.length + j1) n1 c1) a b (slS (H.length + j2) n2 c2) t k, .bool x]) ⟨H ++ G, e1⟩ = some (.tup [stV (slL H.length n1 c1) a b (slS (H.length + 1) n2 c2) t k, .bool x], ⟨H ++ [.cells cs1 w1, .cells cs2 w2], e0⟩) := by
  have hlt1 : ¬ H.length + j1 < H.length := by omega
  have hlt2 : ¬ H.length + j2 < H.length := by omega
  have hne' : ¬ H.length + j2 = H.length + j1 := by omega
  have hr : dedup (AV.roots H.length (.tup [stV (slL (H.length + j1) n1 c1) a b (slS (H.length + j2) n2 c2) t k, .bool x])) = [H.length + j1, H.length + j2] := by
    simp only [AV.roots, AV.roots.go, if_neg hlt1, if_neg hlt2, List.nil_append, List.cons_append, List.append_nil]
    simp [dedup, hne', hne, Ne.symm hne]
  have hb1 : (H ++ G)[H.length + j1]? = some (.cells cs1 w1) := by rw [List.getElem?_append_right (by omega)]; simpa using h1
  have hb2 : (H ++ G)[H.length + j2]? = some (.cells cs2 w2) := by rw [List.getElem?_append_right (by omega)]; simpa using h2
  unfold finish
  simp only [hr]
  have h3 : ([H.length + j1, H.length + j2].all fun b => flatBlk H.length (H ++ G)[b]?) = true := by
    simp only [List.all_cons, List.all_nil, Bool.and_true, hb1, hb2, flatBlk, u1, u2, Bool.and_self]
  simp only [hc, h3, and_self, if_true]
  have hq : (H.length + j1 == H.length + j2) = false := by simpa using hne
  simp [AV.rename, AV.rename.go, renum, hb1, hb2, List.idxOf_cons]
  refine ⟨fun h => by omega, ?_⟩
  rw [if_neg hlt2, hq]
  rfl

theorem finish_standN {G : List Blk} {s1 s2 n1 n2 : Nat} {c1 c2 : Option Nat} (a b t k : Int) (x : Bool) (e0 e1 : Option Nat) (hc : clean H.length e1 = true) :
    finish 2 H.length e0 (.tup [stV (.slice none s1 n1 c1) a b (.slice none s2 n2 c2) t k, .bool x]) ⟨H ++ G, e1⟩ = some (.tup [stV (.slice none s1 n1 c1) a b (.slice none s2 n2 c2) t k, .bool x], ⟨H, e0⟩) := by
  have hr : dedup (AV.roots H.length (.tup [stV (.slice none s1 n1 c1) a b (.slice none s2 n2 c2) t k, .bool x])) = [] := rfl
  unfold finish
  simp only [hr]
  simp [AV.rename, AV.rename.go, hc]

theorem e_l_eqLoadS_none {p1 p2 : Option (Nat × Nat)} {s1 s2 : Nat} {c1 c2 : Option Nat} : call T pr f_l_eqLoadS [.slice p1 s1 0 c1, .slice p2 s2 0 c2] ⟨H, e⟩ = some (.bool true, ⟨H, e⟩) := by
  have h0 : ((0 : Nat) : Int) = 0 := rfl
  rw [call_eq t_l_eqLoadS]
  have hl : run T pr (.loop w_l_eqLoadS_1) ⟨[.slice p1 s1 0 c1, .slice p2 s2 0 c2, .bool false, .int .i64 0, .bool false, .undef, .undef], ⟨H, none⟩⟩ = some (.exit 0, ⟨[.slice p1 s1 0 c1, .slice p2 s2 0 c2, .bool false, .int .i64 0, .bool false, .bool false, .undef], ⟨H, none⟩⟩) := by
    rw [run_loop]
    generalize run T pr (.loop w_l_eqLoadS_1) = R
    simp +contextual only [w_l_eqLoadS_1, h0, Int.lt_irrefl, decide_false, go_sem, entry, joinEsc, if_pos, reduceIte, Nat.reduceAdd, Nat.reduceLeDiff, Nat.reduceLT, Nat.reduceEqDiff]
  simp +contextual only [a_l_eqLoadS, c_l_eqLoadS, hl, h0, decide_true, go_sem, entry, joinEsc, if_pos, reduceIte, Nat.reduceAdd, Nat.reduceLeDiff, Nat.reduceLT, Nat.reduceEqDiff]

theorem e_l_markLoadS_none {p1 : Option (Nat × Nat)} {s1 : Nat} {c1 : Option Nat} (x : Int) : call T pr f_l_markLoadS [.slice p1 s1 0 c1, .int .i64 x] ⟨H, e⟩ = some (.int .i64 x, ⟨H, e⟩) := by
  have h0 : ((0 : Nat) : Int) = 0 := rfl
  rw [call_eq t_l_markLoadS]
  have hl : run T pr (.loop w_l_markLoadS_1) ⟨[.slice p1 s1 0 c1, .int .i64 x, .int .i64 0, .int .i64 0, .undef], ⟨H, none⟩⟩ = some (.exit 0, ⟨[.slice p1 s1 0 c1, .int .i64 x, .int .i64 0, .int .i64 0, .bool false], ⟨H, none⟩⟩) := by
    rw [run_loop]
    generalize run T pr (.loop w_l_markLoadS_1) = R
    simp +contextual only [w_l_markLoadS_1, h0, Int.lt_irrefl, decide_false, go_sem, entry, joinEsc, if_pos, reduceIte, Nat.reduceAdd, Nat.reduceLeDiff, Nat.reduceLT, Nat.reduceEqDiff]
  simp +contextual only [a_l_markLoadS, c_l_markLoadS, hl, h0, decide_true, go_sem, entry, joinEsc, if_pos, reduceIte, Nat.reduceAdd, Nat.reduceLeDiff, Nat.reduceLT, Nat.reduceEqDiff]

theorem e_i_IsRow_none {p1 : Option (Nat × Nat)} {s1 : Nat} {c1 : Option Nat} : call T pr f_i_IsRow [.slice p1 s1 0 c1] ⟨H, e⟩ = some (.bool true, ⟨H, e⟩) := by
  have h0 : ((0 : Nat) : Int) = 0 := rfl
  have hl : run T pr (.loop w_slices_IndexFunc_Si_Load_i_Load_1) ⟨[.slice p1 s1 0 c1, .fn f_i_IsRow_1 [] [], .int .i64 0, .undef, .int .i64 0, .int .i64 0, .undef, .undef], ⟨H, none⟩⟩ = some (.exit 0, ⟨[.slice p1 s1 0 c1, .fn f_i_IsRow_1 [] [], .int .i64 0, .undef, .int .i64 0, .int .i64 0, .bool false, .undef], ⟨H, none⟩⟩) := by
    rw [run_loop]
    generalize run T pr (.loop w_slices_IndexFunc_Si_Load_i_Load_1) = R
    simp +contextual only [w_slices_IndexFunc_Si_Load_i_Load_1, h0, Int.lt_irrefl, decide_false, go_sem, entry, joinEsc, if_pos, reduceIte, Nat.reduceAdd, Nat.reduceLeDiff, Nat.reduceLT, Nat.reduceEqDiff]
  have h1 : ∀ e', call T pr f_slices_IndexFunc_Si_Load_i_Load [.slice p1 s1 0 c1, .fn f_i_IsRow_1 [] []] ⟨H, e'⟩ = some (.int .i64 (-1), ⟨H, e'⟩) := by
    intro e'
    rw [call_eq t_slices_IndexFunc_Si_Load_i_Load]
    simp +contextual only [a_slices_IndexFunc_Si_Load_i_Load, c_slices_IndexFunc_Si_Load_i_Load, hl, h0, go_sem, entry, joinEsc, if_pos, reduceIte, Nat.reduceAdd, Nat.reduceLeDiff, Nat.reduceLT, Nat.reduceEqDiff]
  have h2 : ∀ e', call T pr f_slices_ContainsFunc_Si_Load_i_Load [.slice p1 s1 0 c1, .fn f_i_IsRow_1 [] []] ⟨H, e'⟩ = some (.bool false, ⟨H, e'⟩) := by
    intro e'
    rw [call_eq t_slices_ContainsFunc_Si_Load_i_Load]
    simp +contextual only [a_slices_ContainsFunc_Si_Load_i_Load, c_slices_ContainsFunc_Si_Load_i_Load, h1, show ¬ ((0 : Int) ≤ -1) by omega, decide_false, go_sem, entry, joinEsc, if_pos, reduceIte, Nat.reduceAdd, Nat.reduceLeDiff, Nat.reduceLT, Nat.reduceEqDiff]
  rw [call_eq t_i_IsRow]
  simp +contextual only [a_i_IsRow, c_i_IsRow, h2, h0, show ¬ ((12 : Int) < 0) by omega, decide_false, go_sem, entry, joinEsc, if_pos, reduceIte, Nat.reduceAdd, Nat.reduceLeDiff, Nat.reduceLT, Nat.reduceEqDiff]

/-- the rest of a stand -/
def restOk (a b t k : Int) : Bool := baseOk a b && ((decide (0 ≤ k) && decide (k ≤ 1000)) && (decide (0 ≤ t) && decide (t ≤ k)))

end Go.Proofs.Ytlcklonakjhoiaa.Slim

/- Fractions, the gain of a chain, and the pull of a row; the law. -/
namespace Go.Proofs.Ytlcklonakjhoiaa.Slim

open Go

set_option linter.unusedSimpArgs false

set_option linter.unusedVariables false

variable {pr : Prims} {H : List Blk} {e : Option Nat}

theorem wrapN {x : Nat} (h : x ≤ 9223372036854775807) : IntKind.i64.wrap (x : Int) = (x : Int) := wrap64 (by omega) (by omega)

theorem e_s_l1Most (a b : Int) : call T pr f_s_l1Most [.int .i64 a, .int .i64 b] ⟨H, e⟩ = some (.int .i64 (if b < a then a else b), ⟨H, e⟩) := by
  rw [call_eq t_s_l1Most]
  by_cases h : b < a <;> simp +contextual only [a_s_l1Most, c_s_l1Most, h, decide_true, decide_false, go_sem, entry, joinEsc, if_pos, reduceIte, Nat.reduceAdd, Nat.reduceLeDiff, Nat.reduceLT, Nat.reduceEqDiff]

/-- a fraction in lowest terms -/
def fracA (x y : Nat) : Nat := x / Nat.gcd y x
def fracB (x y : Nat) : Nat := y / Nat.gcd y x

abbrev fvV (x y : Nat) : AV := .agg [.int .i64 x, .int .i64 y]

theorem frac_facts {x y : Nat} (hy : 0 < y) (hx1 : x ≤ 4611686018427387904) (hy1 : y ≤ 4611686018427387904) :
    ¬ ((Nat.gcd y x : Nat) : Int) = 0 ∧ IntKind.i64.wrap (Int.tdiv (x : Int) (Nat.gcd y x : Nat)) = (fracA x y : Int) ∧ IntKind.i64.wrap (Int.tdiv (y : Int) (Nat.gcd y x : Nat)) = (fracB x y : Int) := by
  have hg : 0 < Nat.gcd y x := Nat.gcd_pos_of_pos_left _ hy
  have h1 : fracA x y ≤ x := Nat.div_le_self _ _
  have h2 : fracB x y ≤ y := Nat.div_le_self _ _
  refine ⟨by omega, ?_, ?_⟩
  · have : Int.tdiv (x : Int) (Nat.gcd y x : Nat) = (fracA x y : Int) := rfl
    rw [this]; exact wrapN (by omega)
  · have : Int.tdiv (y : Int) (Nat.gcd y x : Nat) = (fracB x y : Int) := rfl
    rw [this]; exact wrapN (by omega)

theorem frac_pos {x y : Nat} (hx : 0 < x) (hy : 0 < y) : 0 < fracA x y ∧ 0 < fracB x y ∧ fracA x y ≤ x ∧ fracB x y ≤ y := by
  have hg : 0 < Nat.gcd y x := Nat.gcd_pos_of_pos_left _ hy
  refine ⟨Nat.div_pos (Nat.le_of_dvd hx (Nat.gcd_dvd_right _ _)) hg, Nat.div_pos (Nat.le_of_dvd hy (Nat.gcd_dvd_left _ _)) hg, Nat.div_le_self _ _, Nat.div_le_self _ _⟩

/-- the gain of a valid stage -/
def gainA (s : Sg) : Nat := if s.1 = 2 then s.2.1.toNat else if s.1 = 5 then fracA (2 * s.2.1.toNat) (s.2.1.toNat - s.2.2.toNat) else fracA s.2.1.toNat s.2.2.toNat
def gainB (s : Sg) : Nat := if s.1 = 2 then 1 else if s.1 = 5 then fracB (2 * s.2.1.toNat) (s.2.1.toNat - s.2.2.toNat) else fracB s.2.1.toNat s.2.2.toNat

theorem stage_cases {s : Sg} (h : stageOk s = true) : (1 ≤ s.2.1 ∧ s.2.1 ≤ 24) ∧ (s.1 ≠ 2 → 1 ≤ s.2.2 ∧ s.2.2 ≤ 24) ∧ (s.1 = 5 → s.2.2 < s.2.1) := by
  unfold stageOk ratioOk at h
  by_cases h1 : s.1 = 1
  · rw [if_pos h1] at h
    simp at h
    exact ⟨h.1, fun _ => h.2, fun h5 => by omega⟩
  rw [if_neg h1] at h
  by_cases h3 : s.1 = 3
  · rw [if_pos h3] at h
    simp at h
    exact ⟨h.1, fun _ => h.2, fun h5 => by omega⟩
  rw [if_neg h3] at h
  by_cases h2 : s.1 = 2
  · rw [if_pos h2] at h
    simp at h
    exact ⟨h.1, fun hn => absurd h2 hn, fun h5 => by omega⟩
  rw [if_neg h2] at h
  by_cases h4 : s.1 = 4
  · rw [if_pos h4] at h
    simp at h
    exact ⟨h.1.1, fun _ => h.1.2, fun h5 => by omega⟩
  rw [if_neg h4] at h
  by_cases h5 : s.1 = 5
  · rw [if_pos h5] at h
    simp at h
    exact ⟨h.1.1, fun _ => h.1.2, fun _ => h.2⟩
  rw [if_neg h5] at h
  cases h

theorem gain_bounds {s : Sg} (h : stageOk s = true) : 0 < gainA s ∧ gainA s ≤ 48 ∧ 0 < gainB s ∧ gainB s ≤ 24 := by
  obtain ⟨h1, h2, h3⟩ := stage_cases h
  unfold gainA gainB
  by_cases k2 : s.1 = 2
  · simp only [if_pos k2]; omega
  · simp only [if_neg k2]
    have := h2 k2
    by_cases k5 : s.1 = 5
    · simp only [if_pos k5]
      have := h3 k5
      obtain ⟨f1, f2, f3, f4⟩ := frac_pos (x := 2 * s.2.1.toNat) (y := s.2.1.toNat - s.2.2.toNat) (by omega) (by omega)
      omega
    · simp only [if_neg k5]
      obtain ⟨f1, f2, f3, f4⟩ := frac_pos (x := s.2.1.toNat) (y := s.2.2.toNat) (by omega) (by omega)
      omega

/-- the gain of stages, from some gain on -/
def chainA : Nat → Nat → List Sg → Nat
  | P, _, [] => P
  | P, Q, s :: ss => chainA (fracA (P * gainA s) (Q * gainB s)) (fracB (P * gainA s) (Q * gainB s)) ss
def chainB : Nat → Nat → List Sg → Nat
  | _, Q, [] => Q
  | P, Q, s :: ss => chainB (fracA (P * gainA s) (Q * gainB s)) (fracB (P * gainA s) (Q * gainB s)) ss

theorem gain_step {s : Sg} {P Q i : Nat} (h : stageOk s = true) (hP : 0 < P ∧ P ≤ 48 ^ i) (hQ : 0 < Q ∧ Q ≤ 24 ^ i) (hi : i < 5) :
    (0 < P * gainA s ∧ P * gainA s ≤ 48 ^ (i + 1)) ∧ (0 < Q * gainB s ∧ Q * gainB s ≤ 24 ^ (i + 1)) ∧ 48 ^ (i + 1) ≤ 254803968 ∧ 24 ^ (i + 1) ≤ 254803968 := by
  obtain ⟨g1, g2, g3, g4⟩ := gain_bounds h
  refine ⟨⟨Nat.mul_pos hP.1 g1, ?_⟩, ⟨Nat.mul_pos hQ.1 g3, ?_⟩, ?_, ?_⟩
  · rw [Nat.pow_succ]; exact Nat.mul_le_mul hP.2 g2
  · rw [Nat.pow_succ]; exact Nat.mul_le_mul hQ.2 g4
  · have : 48 ^ (i + 1) ≤ 48 ^ 5 := Nat.pow_le_pow_right (by omega) (by omega)
    have h2 : (48 : Nat) ^ 5 = 254803968 := by decide
    omega
  · have : 24 ^ (i + 1) ≤ 24 ^ 5 := Nat.pow_le_pow_right (by omega) (by omega)
    have h2 : (24 : Nat) ^ 5 = 7962624 := by decide
    omega

theorem chain_bounds : ∀ (ss : List Sg) (i P Q : Nat), ss.all stageOk = true → ss.length + i ≤ 5 → (0 < P ∧ P ≤ 48 ^ i) → (0 < Q ∧ Q ≤ 24 ^ i) → 0 < chainA P Q ss ∧ chainA P Q ss ≤ 254803968 ∧ 0 < chainB P Q ss ∧ chainB P Q ss ≤ 254803968
  | [], i, P, Q, _, hi, hP, hQ => by
    have h1 : 48 ^ i ≤ 48 ^ 5 := Nat.pow_le_pow_right (by omega) (by simpa using hi)
    have h2 : (48 : Nat) ^ 5 = 254803968 := by decide
    have h3 : 24 ^ i ≤ 24 ^ 5 := Nat.pow_le_pow_right (by omega) (by simpa using hi)
    have h4 : (24 : Nat) ^ 5 = 7962624 := by decide
    rw [chainA, chainB]
    omega
  | s :: ss, i, P, Q, ha, hi, hP, hQ => by
    rw [List.all_cons, Bool.and_eq_true] at ha
    rw [List.length_cons] at hi
    obtain ⟨⟨g1, g2⟩, ⟨g3, g4⟩, _, _⟩ := gain_step ha.1 hP hQ (by omega)
    obtain ⟨f1, f2, f3, f4⟩ := frac_pos g1 g3
    rw [chainA, chainB]
    exact chain_bounds ss (i + 1) _ _ ha.2 (by omega) ⟨f1, by omega⟩ ⟨f2, by omega⟩

theorem ix02 : (0 : Int) < ((2 : Nat) : Int) := by omega
theorem ix12 : (1 : Int) < ((2 : Nat) : Int) := by omega
theorem ix01 : (0 : Int) ≤ 1 := by omega

end Go.Proofs.Ytlcklonakjhoiaa.Slim

/- Marks on stands, copies of stands. -/
namespace Go.Proofs.Ytlcklonakjhoiaa.Slim

open Go

set_option linter.unusedSimpArgs false

set_option linter.unusedVariables false

variable {pr : Prims} {H : List Blk} {e : Option Nat}

theorem markedL_get : ∀ (n k i : Nat), i < n → (markedL k n)[i]? = some (((k + i * 2 : Nat) : Int), ((k + i * 2 + 1 : Nat) : Int))
  | 0, k, i, h => by omega
  | n + 1, k, 0, h => by simp [markedL]
  | n + 1, k, i + 1, h => by
    rw [markedL, List.getElem?_cons_succ, markedL_get n (k + 2) i (by omega), show k + 2 + i * 2 = k + (i + 1) * 2 by omega]

theorem markedL_length : ∀ (n k : Nat), (markedL k n).length = n
  | 0, k => rfl
  | n + 1, k => by rw [markedL, List.length_cons, markedL_length n (k + 2)]

def markedS (k : Nat) : Nat → List Sg
  | 0 => []
  | n + 1 => ((k : Int), ((k + 1 : Nat) : Int), ((k + 2 : Nat) : Int)) :: markedS (k + 3) n

theorem markedS_get : ∀ (n k i : Nat), i < n → (markedS k n)[i]? = some (((k + i * 3 : Nat) : Int), ((k + i * 3 + 1 : Nat) : Int), ((k + i * 3 + 2 : Nat) : Int))
  | 0, k, i, h => by omega
  | n + 1, k, 0, h => by simp [markedS]
  | n + 1, k, i + 1, h => by
    rw [markedS, List.getElem?_cons_succ, markedS_get n (k + 3) i (by omega), show k + 3 + i * 3 = k + (i + 1) * 3 by omega]

theorem part_encS0 {ss : List Sg} {i : Nat} {s : Sg} (sz : Nat) (h : ss[i]? = some s) : part false (encS ss) (i * 3) sz = some (.int .i64 s.1) := by
  induction ss generalizing i with
  | nil => simp at h
  | cons a ss ih =>
    cases i with
    | zero => simp at h; subst h; simp [encS, part]
    | succ i =>
      simp at h
      rw [show (i + 1) * 3 = i * 3 + 1 + 1 + 1 by omega, encS, part_fk, part_fk, part_fk]
      exact ih h

theorem part_encS1 {ss : List Sg} {i : Nat} {s : Sg} (sz : Nat) (h : ss[i]? = some s) : part false (encS ss) (i * 3 + 1) sz = some (.int .i64 s.2.1) := by
  induction ss generalizing i with
  | nil => simp at h
  | cons a ss ih =>
    cases i with
    | zero => simp at h; subst h; simp [encS, part]
    | succ i =>
      simp at h
      rw [show (i + 1) * 3 + 1 = i * 3 + 1 + 1 + 1 + 1 by omega, encS, part_fk, part_fk, part_fk]
      exact ih h

theorem part_encS2 {ss : List Sg} {i : Nat} {s : Sg} (sz : Nat) (h : ss[i]? = some s) : part false (encS ss) (i * 3 + 2) sz = some (.int .i64 s.2.2) := by
  induction ss generalizing i with
  | nil => simp at h
  | cons a ss ih =>
    cases i with
    | zero => simp at h; subst h; simp [encS, part]
    | succ i =>
      simp at h
      rw [show (i + 1) * 3 + 2 = i * 3 + 2 + 1 + 1 + 1 by omega, encS, part_fk, part_fk, part_fk]
      exact ih h

theorem setRange_midS0 (P R : List Sg) (r : Sg) (a : Int) : setRange (encS (P ++ r :: R)) (P.length * 3) [.int .i64 a] = encS (P ++ (a, r.2) :: R) := by
  induction P with
  | nil => simp [encS, setRange]
  | cons p P ih =>
    simp only [encS, List.cons_append, List.length_cons, Nat.add_mul, Nat.one_mul] at *
    rw [show P.length * 3 + 3 = P.length * 3 + 1 + 1 + 1 by omega, setRange_k, setRange_k, setRange_k, ih]

theorem setRange_midS1 (P R : List Sg) (r : Sg) (a : Int) : setRange (encS (P ++ r :: R)) (P.length * 3 + 1) [.int .i64 a] = encS (P ++ (r.1, a, r.2.2) :: R) := by
  induction P with
  | nil => simp [encS, setRange]
  | cons p P ih =>
    simp only [encS, List.cons_append, List.length_cons, Nat.add_mul, Nat.one_mul] at *
    rw [show P.length * 3 + 3 + 1 = P.length * 3 + 1 + 1 + 1 + 1 by omega, setRange_k, setRange_k, setRange_k, ih]

theorem setRange_midS2 (P R : List Sg) (r : Sg) (a : Int) : setRange (encS (P ++ r :: R)) (P.length * 3 + 2) [.int .i64 a] = encS (P ++ (r.1, r.2.1, a) :: R) := by
  induction P with
  | nil => simp [encS, setRange]
  | cons p P ih =>
    simp only [encS, List.cons_append, List.length_cons, Nat.add_mul, Nat.one_mul] at *
    rw [show P.length * 3 + 3 + 2 = P.length * 3 + 2 + 1 + 1 + 1 by omega, setRange_k, setRange_k, setRange_k, ih]

theorem finish_one_len {L' l : List Blk} {n : Nat} (v : AV) (e0 : Option Nat) (hl : L'.length = n) (h : v.under n = true) : finish 1 n e0 v ⟨L' ++ l, none⟩ = some (v, ⟨L', e0⟩) := by
  subst hl
  simp [finish, h, clean]

theorem set_left {L l : List Blk} {q : Nat} {x : Blk} (h : q < L.length) : (L ++ l).set q x = L.set q x ++ l := by
  rw [List.set_append_left _ _ h]

/-- what marking leaves of memory -/
def markMem (L : List Blk) (q1 q2 n m x : Nat) : List Blk := (L.set q1 (.cells (encL (markedL x n)) true)).set q2 (.cells (encS (markedS (x + n * 2) m)) true)

theorem binop_nil (p : Nat × Nat) (sz n : Nat) (c : Option Nat) : binop 3 .eql (.slice (some p) sz n c) (.slice none 0 0 none) = some (.bool false) := Eq.trans rfl rfl

/-- an append of none leaves a dead block -/
def kill0 (n b : Nat) (L : List Blk) : List Blk := if n = 0 then L.set b .dead else L

theorem kill0_length (n b : Nat) (L : List Blk) : (kill0 n b L).length = L.length := by unfold kill0; split <;> simp

theorem kill0_new (n k : Nat) (l : List Blk) : kill0 n (H.length + k) (H ++ l) = H ++ kill0 n k l := by
  unfold kill0
  split
  · rw [set_newk]
  · rfl

theorem kill0_new0 (n : Nat) (l : List Blk) : kill0 n H.length (H ++ l) = H ++ kill0 n 0 l := kill0_new n 0 l

theorem kill0_cons (n k : Nat) (x : Blk) (l : List Blk) : kill0 n (k + 1) (x :: l) = x :: kill0 n k l := by
  unfold kill0
  split <;> rfl

theorem kill0_0 (n : Nat) (x : Blk) (l : List Blk) : kill0 n 0 (x :: l) = (if n = 0 then Blk.dead else x) :: l := by
  unfold kill0
  split <;> rfl

theorem append_all {L : List Blk} {b q n sz bytes : Nat} {c : Option Nat} {cs : List AV} (hb : L[b]? = some (.cells [] true)) (hq : cellsAt L q = some cs) (hl : cs.length = n * sz) (hm : n * bytes ≤ maxBytes) :
    appendV L e false sz bytes (.slice (some (b, 0)) sz 0 (some 0)) (.slice (some (q, 0)) sz n c) = some (.slice (some (L.length, 0)) sz n none, ⟨kill0 n b L ++ [.cells cs true], e⟩) := by
  unfold appendV
  have hs := srcCells_new L n sz c cs q hq hl
  simp only [hb, hs]
  rw [if_pos (by simp [hm, hl])]
  unfold kill0
  by_cases hn : n = 0
  · subst hn
    have : cs = [] := by simpa using hl
    subst this
    simp
  · rw [if_pos ⟨trivial, by omega⟩, if_neg hn]
    simp

theorem e_Clone_Load {q : Nat} {c : Option Nat} {ls : List Ld} (h : cellsAt H q = some (encL ls)) (hn : ls.length ≤ 1048576) : call T pr f_slices_Clone_Si_Load_i_Load [slL q ls.length c] ⟨H, e⟩ = some (slL H.length ls.length none, ⟨H ++ [.cells (encL ls) true], e⟩) := by
  have ha := fun L b e' (hb : L[b]? = some (.cells [] true)) hq => append_all (e := e') (L := L) (b := b) (q := q) (n := ls.length) (sz := 2) (bytes := 16) (c := c) (cs := encL ls) hb hq (encL_length ls) (by unfold maxBytes; omega)
  have hf : ∀ (B : Blk) (e0 : Option Nat), finish 2 H.length e0 (slL (H.length + 1) ls.length none) ⟨H ++ [B, .cells (encL ls) true], none⟩ = some (slL H.length ls.length none, ⟨H ++ [.cells (encL ls) true], e0⟩) :=
    fun B e0 => finish_two_at e0 rfl (under_encL _ _)
  rw [call_eq t_slices_Clone_Si_Load_i_Load]
  simp +contextual only [a_slices_Clone_Si_Load_i_Load, c_slices_Clone_Si_Load_i_Load, binop_nil, fillParts, ha, cells_mono h, kill0_new0, kill0_0, hf, go_sem, entry, joinEsc, if_pos, reduceIte, Nat.reduceAdd, Nat.reduceLeDiff, Nat.reduceLT, Nat.reduceEqDiff]

theorem cellsAt_lt {L : List Blk} {w : Nat} {cs : List AV} (h : cellsAt L w = some cs) : w < L.length := by
  unfold cellsAt at h
  cases hb : L[w]? with
  | none => rw [hb] at h; cases h
  | some x => exact (List.getElem?_eq_some_iff.mp hb).1

end Go.Proofs.Ytlcklonakjhoiaa.Slim

/- People at other places. -/
namespace Go.Proofs.Ytlcklonakjhoiaa.Slim

open Go

set_option linter.unusedSimpArgs false

set_option linter.unusedVariables false

variable {pr : Prims} {H : List Blk} {e : Option Nat}

/-- people at other places -/
def putL : List Ld → List Int → List Ld
  | [], _ => []
  | l :: ls, ss => (ss.headD 0, l.2) :: putL ls ss.tail

theorem putL_length : ∀ (ls : List Ld) (ss : List Int), (putL ls ss).length = ls.length
  | [], _ => rfl
  | l :: ls, ss => by simp [putL, putL_length ls]

theorem drop_head (ss : List Int) (i : Nat) (h : i < ss.length) : ss[i]? = some ((ss.drop i).headD 0) ∧ (ss.drop i).tail = ss.drop (i + 1) := by
  rw [List.drop_eq_getElem_cons h]
  exact ⟨List.getElem?_eq_getElem h, rfl⟩

theorem cellsAt_set_ne {L : List Blk} {b u : Nat} {x : Blk} {cs : List AV} (h : cellsAt L u = some cs) (hne : b ≠ u) : cellsAt (L.set b x) u = some cs := by
  unfold cellsAt at *
  rw [List.getElem?_set_ne hne]
  exact h

theorem cellsAt_get {L : List Blk} {j : Nat} {cs : List AV} {w : Bool} (h : L[j]? = some (.cells cs w)) : cellsAt L j = some cs := by
  unfold cellsAt
  rw [h]

abbrev spV (s0 s1 s2 : Int) : AV := .agg [.int .i64 s0, .int .i64 s1, .int .i64 s2]

/-- the digits of a number, the last one first -/
def digs (m : Nat) : Nat → Nat → List Nat
  | 0, _ => []
  | n + 1, k => k % m :: digs m n (k / m)

theorem digs_length (m : Nat) : ∀ n k, (digs m n k).length = n
  | 0, _ => rfl
  | n + 1, k => by simp [digs, digs_length m n]

def ints (l : List Nat) : List Int := l.map fun (i : Nat) => (i : Int)

theorem tmodN (k m : Nat) : Int.tmod (k : Int) (m : Int) = ((k % m : Nat) : Int) := rfl

theorem tdivN (k m : Nat) : Int.tdiv (k : Int) (m : Int) = ((k / m : Nat) : Int) := rfl

theorem putL_app : ∀ (P : List Ld) (Q : List Ld) (ss ts : List Int), P.length = ss.length → putL (P ++ Q) (ss ++ ts) = putL P ss ++ putL Q ts
  | [], Q, [], ts, _ => rfl
  | p :: P, Q, s :: ss, ts, h => by simp [putL, putL_app P Q ss ts (by simpa using h)]

end Go.Proofs.Ytlcklonakjhoiaa.Slim

/- The safe moves of a party. -/
namespace Go.Proofs.Ytlcklonakjhoiaa.Slim

open Go

set_option linter.unusedSimpArgs false

set_option linter.unusedVariables false

variable {pr : Prims} {H : List Blk} {e : Option Nat}

/-- one person at another place -/
def movd : List Ld → Nat → Int → List Ld
  | [], _, _ => []
  | l :: ls, 0, p => (p, l.2) :: ls
  | l :: ls, i + 1, p => l :: movd ls i p

theorem movd_length : ∀ (ls : List Ld) (i : Nat) (p : Int), (movd ls i p).length = ls.length
  | [], _, _ => rfl
  | l :: ls, 0, p => rfl
  | l :: ls, i + 1, p => by simp [movd, movd_length ls i p]

theorem movd_split {ls : List Ld} {i : Nat} (p : Int) (hi : i < ls.length) : ∃ P l R, ls = P ++ l :: R ∧ P.length = i ∧ ls[i]? = some l ∧ movd ls i p = P ++ (p, l.2) :: R := by
  induction ls generalizing i with
  | nil => simp at hi
  | cons l ls ih =>
    cases i with
    | zero => exact ⟨[], l, ls, rfl, rfl, rfl, rfl⟩
    | succ i =>
      obtain ⟨P, l', R, h1, h2, h3, h4⟩ := ih (by simpa using hi)
      exact ⟨l :: P, l', R, by rw [h1]; rfl, by simp [h2], by simpa using h3, by rw [movd, h4]; rfl⟩

theorem putL_set : ∀ (ls : List Ld) (ss : List Int) (i : Nat) (p : Int), i < ls.length → ls.length ≤ ss.length → putL ls (ss.set i p) = movd (putL ls ss) i p
  | [], ss, i, p, hi, hl => by simp at hi
  | l :: ls, [], i, p, hi, hl => by simp at hl
  | l :: ls, s :: ss, 0, p, hi, hl => rfl
  | l :: ls, s :: ss, i + 1, p, hi, hl => by
    have := putL_set ls ss i p (by simpa using hi) (by simpa using hl)
    simp [putL, movd, this]

theorem setRange_movd {ls : List Ld} {i : Nat} (p : Int) (hi : i < ls.length) : setRange (encL ls) (i * 2) [.int .i64 p] = encL (movd ls i p) := by
  obtain ⟨P, l, R, h1, h2, _, h4⟩ := movd_split p hi
  rw [h4, h1, ← h2]
  exact setRange_midL0 P R l p

/-- is it a place on the plank, and do they rest there? -/
def okMv (x a b : Int) (ls : List Ld) (i : Nat) (p : Int) : Bool := (decide (0 ≤ p) && decide (p ≤ x)) && decide (sideW (movd ls i p) a b = 0)

def plOf (ls : List Ld) (i : Nat) : Int := (ls[i]?.getD (0, 0)).1

/-- is a move safe? -/
def safeMv (x a b : Int) (ls : List Ld) (s i p : Int) : Bool := ((decide (0 ≤ i) && decide (i ≤ (ls.length : Int) - 1)) && (decide (0 ≤ p) && decide (p ≤ x))) && ((decide (wr (p - plOf ls i.toNat) = s) || decide (wr (p - plOf ls i.toNat) = wr (0 - s))) && decide (sideW (movd ls i.toNat p) a b = 0))

theorem at02 : ((0 : Int) ≤ 0 ∧ (0 : Int) < ((2 : Nat) : Int)) = True := by simp

theorem at12 : ((0 : Int) ≤ 1 ∧ (1 : Int) < ((2 : Nat) : Int)) = True := by simp

theorem toNat0 : Int.toNat 0 = 0 := rfl

theorem toNat1 : Int.toNat 1 = 1 := rfl

theorem append_ld2 {G : List Blk} {B : Blk} {j : Nat} {o : List Ld} {cap : Option Nat} (hG : G[j]? = some (.cells (encL o) true)) (hcap : cap = some 0 → o = []) (hmb : (o.length + 1) * 16 ≤ maxBytes) (a b : Int) :
    appendV (H ++ (G ++ [B, .cells [.int .i64 a, .int .i64 b] true])) e false 2 16 (slL (H.length + j) o.length cap) (.slice (some (H.length + (G.length + 1), 0)) 2 1 (some 1)) =
      some (slL (H.length + (G.length + 2)) (o.length + 1) none, ⟨H ++ (killIf cap j (G ++ [B, .cells [.int .i64 a, .int .i64 b] true]) ++ [.cells (encL o ++ [.int .i64 a, .int .i64 b]) true]), e⟩) := by
  have hj : j < G.length := (List.getElem?_eq_some_iff.mp hG).1
  have h := append_ld (H := H) (e := e) (G := G ++ [B]) (j := j) (o := o) (cap := cap) (by rw [List.getElem?_append_left hj]; exact hG) hcap hmb a b
  simpa [Nat.add_assoc] using h

/-- the safe ones of some moves of one person -/
def selM (x a b : Int) (ls : List Ld) (i : Nat) (ps : List Int) : List Ld := (ps.filter (okMv x a b ls i)).map fun p => ((i : Int), p)

theorem selM_cons (x a b : Int) (ls : List Ld) (i : Nat) (p : Int) (ps : List Int) : selM x a b ls i (p :: ps) = if okMv x a b ls i p = true then ((i : Int), p) :: selM x a b ls i ps else selM x a b ls i ps := by
  unfold selM
  cases h : okMv x a b ls i p <;> simp [h]

theorem set3 {s0 s1 s2 p : Int} {i : Nat} (hi : i < 3) : ∃ t0 t1 t2, [s0, s1, s2].set i p = [t0, t1, t2] ∧ setRange [.int .i64 s0, .int .i64 s1, .int .i64 s2] i [.int .i64 p] = [.int .i64 t0, .int .i64 t1, .int .i64 t2] := by
  match i, hi with
  | 0, _ => exact ⟨p, s1, s2, rfl, rfl⟩
  | 1, _ => exact ⟨s0, p, s2, rfl, rfl⟩
  | 2, _ => exact ⟨s0, s1, p, rfl, rfl⟩

/-- all safe moves -/
def mvsFrom (x a b s : Int) (ls : List Ld) : Nat → Nat → List Ld
  | 0, _ => []
  | k + 1, i => selM x a b ls i [wr (plOf ls i - s), wr (plOf ls i + s)] ++ mvsFrom x a b s ls k (i + 1)

theorem selM_le (x a b : Int) (ls : List Ld) (i : Nat) (ps : List Int) : (selM x a b ls i ps).length ≤ ps.length := by
  unfold selM
  rw [List.length_map]
  exact List.length_filter_le _ _

theorem plOf_putL : ∀ (ls : List Ld) (ss : List Int) (i : Nat) (p : Int), i < ls.length → ss[i]? = some p → plOf (putL ls ss) i = p
  | [], ss, i, p, hi, hp => by simp at hi
  | l :: ls, [], i, p, hi, hp => by simp at hp
  | l :: ls, s :: ss, 0, p, hi, hp => by simp at hp; subst hp; rfl
  | l :: ls, s :: ss, i + 1, p, hi, hp => plOf_putL ls ss i p (by simpa using hi) (by simpa using hp)

/-- how a party's places are bounded -/
def plB (ls : List Ld) : Prop := ∀ i, i < ls.length → 0 ≤ plOf ls i ∧ plOf ls i ≤ 60

theorem safe_ok {x a b s : Int} {ls : List Ld} {i : Nat} (hi : i < ls.length) (hpl : plB ls) (hs : 1 ≤ s ∧ s ≤ 4) {p : Int} (hp : p = wr (plOf ls i - s) ∨ p = wr (plOf ls i + s)) : safeMv x a b ls s i p = okMv x a b ls i p := by
  obtain ⟨h1, h2⟩ := hpl i hi
  have w1 : wr (plOf ls i - s) = plOf ls i - s := wrap64 (by omega) (by omega)
  have w2 : wr (plOf ls i + s) = plOf ls i + s := wrap64 (by omega) (by omega)
  have w3 : wr (0 - s) = - s := by show IntKind.i64.wrap (0 - s) = - s; rw [wrap64 (by omega) (by omega)]; omega
  have w4 : wr (p - plOf ls i) = p - plOf ls i := wrap64 (by omega) (by omega)
  have hr : (decide (0 ≤ (i : Int)) && decide ((i : Int) ≤ (ls.length : Int) - 1)) = true := by simp; omega
  unfold safeMv okMv
  rw [hr, Int.toNat_natCast, w3, w4, Bool.true_and]
  have : (decide (p - plOf ls i = s) || decide (p - plOf ls i = -s)) = true := by
    rw [w1, w2] at hp
    simp
    omega
  rw [this, Bool.true_and]

end Go.Proofs.Ytlcklonakjhoiaa.Slim

/- Tasks of a stand: what they make. -/
namespace Go.Proofs.Ytlcklonakjhoiaa.Slim

open Go

set_option linter.unusedSimpArgs false

set_option linter.unusedVariables false

variable {pr : Prims} {H : List Blk} {e : Option Nat}

def sliceHiV (sz : Nat) (v h : AV) : Option AV := match v with
  | .slice p sz' n cap => (match natOf h with
    | some h => sliceVal sz p sz' n cap 0 h none
    | none => none)
  | _ => none

def sliceLoV (sz : Nat) (v l : AV) : Option AV := match v with
  | .slice p sz' n cap => (match natOf l with
    | some l => sliceVal sz p sz' n cap l n none
    | none => none)
  | _ => none

section

variable {C : FuncId → List AV → Mem → Option (AV × Mem)} {g : X → AV} {m : Mem}

theorem aop_sliceHi (sz : Nat) (x h : X) : aop C g m (.sliceSl sz x none (some h) none) = valOf m (sliceHiV sz (g x) (g h)) := by
  rw [aop_of_light rfl]
  simp only [light, sliceHiV, bound, optNat]
  generalize g x = v
  generalize natOf (g h) = o
  cases v <;> cases o <;> simp

theorem aop_sliceLo (sz : Nat) (x l : X) : aop C g m (.sliceSl sz x (some l) none none) = valOf m (sliceLoV sz (g x) (g l)) := by
  rw [aop_of_light rfl]
  simp only [light, sliceLoV, bound, optNat]
  generalize g x = v
  generalize natOf (g l) = o
  cases v <;> cases o <;> simp

end

theorem sliceHiV_at (sz b o n h : Nat) (cap : Option Nat) (hh : h ≤ n) : sliceHiV sz (.slice (some (b, o)) sz n cap) (.int .i64 h) = some (.slice (some (b, o)) sz h cap) := by
  unfold sliceHiV natOf sliceVal
  simp [hh]

theorem sliceLoV_at (sz b o n l : Nat) (hl : l ≤ n) : sliceLoV sz (.slice (some (b, o)) sz n none) (.int .i64 l) = some (.slice (some (b, o + l * sz)) sz (n - l) none) := by
  unfold sliceLoV natOf sliceVal
  simp [hl]

theorem encL_take : ∀ (ls : List Ld) (i : Nat), (encL ls).take (i * 2) = encL (ls.take i)
  | ls, 0 => by simp [encL]
  | [], i + 1 => by simp [encL]
  | l :: ls, i + 1 => by
    rw [show (i + 1) * 2 = i * 2 + 1 + 1 by omega]
    simp [encL, encL_take ls i]

theorem encL_drop : ∀ (ls : List Ld) (i : Nat), (encL ls).drop (i * 2) = encL (ls.drop i)
  | ls, 0 => by simp
  | [], i + 1 => by simp [encL]
  | l :: ls, i + 1 => by
    rw [show (i + 1) * 2 = i * 2 + 1 + 1 by omega]
    simp [encL, encL_drop ls i]

theorem encS_take : ∀ (ls : List Sg) (i : Nat), (encS ls).take (i * 3) = encS (ls.take i)
  | ls, 0 => by simp [encS]
  | [], i + 1 => by simp [encS]
  | l :: ls, i + 1 => by
    rw [show (i + 1) * 3 = i * 3 + 1 + 1 + 1 by omega]
    simp [encS, encS_take ls i]

theorem encS_drop : ∀ (ls : List Sg) (i : Nat), (encS ls).drop (i * 3) = encS (ls.drop i)
  | ls, 0 => by simp
  | [], i + 1 => by simp [encS]
  | l :: ls, i + 1 => by
    rw [show (i + 1) * 3 = i * 3 + 1 + 1 + 1 by omega]
    simp [encS, encS_drop ls i]

theorem encS_append : ∀ a b : List Sg, encS (a ++ b) = encS a ++ encS b
  | [], b => rfl
  | l :: a, b => by simp [encS, encS_append a b]

theorem encL_erase (ls : List Ld) (i : Nat) : (encL ls).take (i * 2) ++ (encL ls).drop ((i + 1) * 2) = encL (ls.eraseIdx i) := by
  rw [encL_take, encL_drop, List.eraseIdx_eq_take_drop_succ, encL_append]

theorem encS_erase (ls : List Sg) (i : Nat) : (encS ls).take (i * 3) ++ (encS ls).drop ((i + 1) * 3) = encS (ls.eraseIdx i) := by
  rw [encS_take, encS_drop, List.eraseIdx_eq_take_drop_succ, encS_append]

/-- an element taken out of a slice that has its block alone -/
theorem append_del {L : List Blk} {b n sz bytes i : Nat} {cs : List AV} (hb : L[b]? = some (.cells cs true)) (hcs : cs.length = n * sz) (hi : i < n) (hm : n * bytes ≤ maxBytes) :
    appendV L e false sz bytes (.slice (some (b, 0)) sz i none) (.slice (some (b, (i + 1) * sz)) sz (n - (i + 1)) none) = some (.slice (some (L.length, 0)) sz (n - 1) none, ⟨L.set b .dead ++ [.cells (cs.take (i * sz) ++ cs.drop ((i + 1) * sz)) true], e⟩) := by
  have e1 : (i + 1) * sz + (n - (i + 1)) * sz = n * sz := by rw [← Nat.add_mul]; congr 1; omega
  have e2 : (i + 1) * sz = i * sz + sz := by rw [Nat.add_mul, Nat.one_mul]
  have hs : srcCells false L (.slice (some (b, (i + 1) * sz)) sz (n - (i + 1)) none) = some (n - (i + 1), cs.drop ((i + 1) * sz)) := by
    unfold srcCells
    have hc : cellsAt L b = some cs := by unfold cellsAt; rw [hb]
    simp only [Bool.false_eq_true, if_false, hc]
    rw [if_pos (by omega), List.take_of_length_le (by rw [List.length_drop]; omega)]
  have e3 : i + (n - (i + 1)) = n - 1 := by omega
  unfold appendV
  simp only [hb, hs]
  rw [if_pos ⟨trivial, by rw [e3]; exact Nat.le_trans (Nat.mul_le_mul_right _ (by omega)) hm, by rw [List.length_drop]; omega, by omega⟩]
  rw [if_neg (by simp), if_pos trivial, e3, List.drop_zero]

/-- an element more on a slice that has its block alone -/
theorem append_gen {L : List Blk} {b q n sz bytes : Nat} {cs new : List AV} {c : Option Nat} (hb : L[b]? = some (.cells cs true)) (hq : cellsAt L q = some new) (hcs : cs.length = n * sz) (hnew : new.length = sz) (hm : (n + 1) * bytes ≤ maxBytes) :
    appendV L e false sz bytes (.slice (some (b, 0)) sz n none) (.slice (some (q, 0)) sz 1 c) = some (.slice (some (L.length, 0)) sz (n + 1) none, ⟨L.set b .dead ++ [.cells (cs ++ new) true], e⟩) := by
  have hs := srcCells_new L 1 sz c new q hq (by omega)
  unfold appendV
  simp only [hb, hs]
  rw [if_pos ⟨trivial, hm, by omega, by omega⟩, if_neg (by simp), if_pos trivial, List.drop_zero, ← hcs, List.take_length]

abbrev tkV (k x y z : Int) : AV := .agg [.int .i64 k, .int .i64 x, .int .i64 y, .int .i64 z]

/-- may a task be made? -/
def mayT (ls : List Ld) (ss : List Sg) (k x y z : Int) : Bool :=
  if k = 1 ∨ k = 4 then decide (z = 0)
  else if k = 2 then ((decide (0 ≤ x) && decide (x ≤ (ls.length : Int) - 1)) && decide (y = 0)) && decide (z = 0)
  else if k = 3 then (decide (0 ≤ x) && decide (x ≤ (ls.length : Int) - 1)) && decide (z = 0)
  else if k = 6 then ((decide (0 ≤ x) && decide (x ≤ (ss.length : Int) - 1)) && decide (y = 0)) && decide (z = 0)
  else decide (k = 5)

/-- what a task makes of a row and a chain -/
def rowT (ls : List Ld) (k x y : Int) : List Ld :=
  if k = 1 then ls ++ [(x, y)] else if k = 2 then ls.eraseIdx x.toNat else if k = 3 then movd ls x.toNat y else ls

def chainT (ss : List Sg) (k x y z : Int) : List Sg :=
  if k = 5 then ss ++ [(x, y, z)] else if k = 6 then ss.eraseIdx x.toNat else ss

def baseA (a k x : Int) : Int := if k = 4 then x else a

end Go.Proofs.Ytlcklonakjhoiaa.Slim

/- The slim machine: walking by what holds at the end; loops by invariants. -/
namespace Go.Proofs.Ytlcklonakjhoiaa.Slim
open Go
set_option linter.unusedVariables false
set_option linter.unusedSimpArgs false

section
variable {T : Table} {pr : Prims} {H : List Blk} {e : Option Nat}

/-- code comes to an end, of which this holds -/
def Wp (r : Option (Ex × St)) (Q : Ex → St → Prop) : Prop := ∃ ex st, r = some (ex, st) ∧ Q ex st
/-- a call (or an operation) comes to an end, of which this holds -/
def Wc (r : Option (AV × Mem)) (Q : AV → Mem → Prop) : Prop := ∃ v m, r = some (v, m) ∧ Q v m

theorem Wp.mono {r : Option (Ex × St)} {P Q : Ex → St → Prop} (h : Wp r P) (k : ∀ ex st, P ex st → Q ex st) : Wp r Q := by
  obtain ⟨ex, st, h1, h2⟩ := h
  exact ⟨ex, st, h1, k _ _ h2⟩
theorem Wc.mono {r : Option (AV × Mem)} {P Q : AV → Mem → Prop} (h : Wc r P) (k : ∀ v m, P v m → Q v m) : Wc r Q := by
  obtain ⟨v, m, h1, h2⟩ := h
  exact ⟨v, m, h1, k _ _ h2⟩
theorem Wc.eq {r : Option (AV × Mem)} {v : AV} {m : Mem} (h : Wc r fun v' m' => v' = v ∧ m' = m) : r = some (v, m) := by
  obtain ⟨_, _, h1, rfl, rfl⟩ := h
  exact h1
theorem Wc.of_eq {r : Option (AV × Mem)} {v : AV} {m : Mem} {Q : AV → Mem → Prop} (h : r = some (v, m)) (k : Q v m) : Wc r Q := ⟨v, m, h, k⟩

@[congr] theorem Wp_congr {r r' : Option (Ex × St)} {Q : Ex → St → Prop} (h : r = r') : Wp r Q = Wp r' Q := by rw [h]
@[congr] theorem Wc_congr {r r' : Option (AV × Mem)} {Q : AV → Mem → Prop} (h : r = r') : Wc r Q = Wc r' Q := by rw [h]

theorem Wp_some (ex : Ex) (st : St) (Q : Ex → St → Prop) : Wp (some (ex, st)) Q = Q ex st := by
  apply propext
  constructor
  · rintro ⟨_, _, h1, h2⟩; cases h1; exact h2
  · exact fun h => ⟨_, _, rfl, h⟩
theorem Wp_none (Q : Ex → St → Prop) : Wp none Q = False := by
  apply propext
  constructor
  · rintro ⟨_, _, h1, _⟩; cases h1
  · exact False.elim
theorem Wp_ite (c : Prop) [Decidable c] (a b : Option (Ex × St)) (Q : Ex → St → Prop) : Wp (if c then a else b) Q = ((c → Wp a Q) ∧ (¬ c → Wp b Q)) := by
  by_cases h : c <;> simp [h]
theorem Wc_some (v : AV) (m : Mem) (Q : AV → Mem → Prop) : Wc (some (v, m)) Q = Q v m := by
  apply propext
  constructor
  · rintro ⟨_, _, h1, h2⟩; cases h1; exact h2
  · exact fun h => ⟨_, _, rfl, h⟩
theorem Wc_none (Q : AV → Mem → Prop) : Wc none Q = False := by
  apply propext
  constructor
  · rintro ⟨_, _, h1, _⟩; cases h1
  · exact False.elim
theorem Wc_ite (c : Prop) [Decidable c] (a b : Option (AV × Mem)) (Q : AV → Mem → Prop) : Wc (if c then a else b) Q = ((c → Wc a Q) ∧ (¬ c → Wc b Q)) := by
  by_cases h : c <;> simp [h]

def seqQ (f : St → Option (Ex × St)) (Q : Ex → St → Prop) : Ex → St → Prop
  | .normal, st => Wp (f st) Q
  | ex, st => Q ex st
theorem seqQ_normal (f : St → Option (Ex × St)) (Q : Ex → St → Prop) (st : St) : seqQ f Q .normal st = Wp (f st) Q := Eq.trans rfl rfl
theorem seqQ_exit (f : St → Option (Ex × St)) (Q : Ex → St → Prop) (k : Nat) (st : St) : seqQ f Q (.exit k) st = Q (.exit k) st := Eq.trans rfl rfl
theorem seqQ_ret (f : St → Option (Ex × St)) (Q : Ex → St → Prop) (st : St) : seqQ f Q .ret st = Q .ret st := Eq.trans rfl rfl
theorem Wp_thenRun (r : Option (Ex × St)) (f : St → Option (Ex × St)) (Q : Ex → St → Prop) : Wp (thenRun r f) Q = Wp r (seqQ f Q) := by
  cases r with
  | none => simp only [thenRun_none, Wp_none]
  | some p =>
    obtain ⟨ex, st⟩ := p
    cases ex <;> simp only [thenRun_normal, thenRun_ret, thenRun_exit, Wp_some, seqQ]

def blkQ (id : Nat) (Q : Ex → St → Prop) : Ex → St → Prop
  | .exit k, st => if k = id then Q .normal st else Q (.exit k) st
  | ex, st => Q ex st
theorem blkQ_normal (id : Nat) (Q : Ex → St → Prop) (st : St) : blkQ id Q .normal st = Q .normal st := Eq.trans rfl rfl
theorem blkQ_ret (id : Nat) (Q : Ex → St → Prop) (st : St) : blkQ id Q .ret st = Q .ret st := Eq.trans rfl rfl
theorem blkQ_same (id : Nat) (Q : Ex → St → Prop) (st : St) : blkQ id Q (.exit id) st = Q .normal st := by simp [blkQ]
theorem blkQ_exit (id k : Nat) (Q : Ex → St → Prop) (st : St) : blkQ id Q (.exit k) st = if k = id then Q .normal st else Q (.exit k) st := Eq.trans rfl rfl
theorem Wp_inBlock (id : Nat) (r : Option (Ex × St)) (Q : Ex → St → Prop) : Wp (inBlock id r) Q = Wp r (blkQ id Q) := by
  cases r with
  | none => simp only [inBlock_none, Wp_none]
  | some p =>
    obtain ⟨ex, st⟩ := p
    cases ex with
    | normal => simp only [inBlock_normal, Wp_some, blkQ]
    | ret => simp only [inBlock_ret, Wp_some, blkQ]
    | exit k => by_cases h : k = id <;> simp only [inBlock_exit, h, if_true, if_false, Wp_some, blkQ]

/-- behind a region's operation -/
def opQ (tm : List AV) (outs : List (Nat × Nat)) (f : AV → Mem → Option (List AV × Mem)) (Q : Ex → St → Prop) : AV → Mem → Prop := fun v m => Wp (outRun tm outs (f v m)) Q
theorem opQ_at (tm : List AV) (outs : List (Nat × Nat)) (f : AV → Mem → Option (List AV × Mem)) (Q : Ex → St → Prop) (v : AV) (m : Mem) : opQ tm outs f Q v m = Wp (outRun tm outs (f v m)) Q := Eq.trans rfl rfl
theorem Wp_opThen (tm : List AV) (outs : List (Nat × Nat)) (r : Option (AV × Mem)) (f : AV → Mem → Option (List AV × Mem)) (Q : Ex → St → Prop) :
    Wp (outRun tm outs (opThen r f)) Q = Wc r (opQ tm outs f Q) := by
  cases r with
  | none => simp only [opThen_none, outRun_none, Wp_none, Wc_none]
  | some p =>
    obtain ⟨v, m⟩ := p
    simp only [opThen_some, Wc_some, opQ]

/-- behind a guarded operation -/
theorem Wp_guardP (tm : List AV) (outs : List (Nat × Nat)) (p : Prop) [Decidable p] (r : Option (AV × Mem)) (m : Mem) (f : AV → Mem → Option (List AV × Mem)) (Q : Ex → St → Prop) :
    Wp (outRun tm outs (guardP p r m f)) Q = ((p → Wc r (opQ tm outs f Q)) ∧ (¬ p → Wp (outRun tm outs (f (.tup []) m)) Q)) := by
  by_cases h : p
  · simp only [h, guardP_true, Wp_opThen, true_imp_iff, not_true_eq_false, false_imp_iff, and_true]
  · simp only [h, guardP_false, not_false_eq_true, true_imp_iff, false_imp_iff, true_and]

/-- behind a call's code -/
def retQ (F : AFun) (m : Mem) (Q : AV → Mem → Prop) : Ex → St → Prop
  | .exit _, _ => False
  | _, st => Wc (finRun F m st) Q
theorem retQ_normal (F : AFun) (m : Mem) (Q : AV → Mem → Prop) (st : St) : retQ F m Q .normal st = Wc (finRun F m st) Q := Eq.trans rfl rfl
theorem retQ_ret (F : AFun) (m : Mem) (Q : AV → Mem → Prop) (st : St) : retQ F m Q .ret st = Wc (finRun F m st) Q := Eq.trans rfl rfl
theorem Wc_endCall (F : AFun) (m : Mem) (r : Option (Ex × St)) (Q : AV → Mem → Prop) : Wc (endCall F m r) Q = Wp r (retQ F m Q) := by
  cases r with
  | none => simp only [endCall_none, Wc_none, Wp_none]
  | some p =>
    obtain ⟨ex, st⟩ := p
    cases ex <;> simp only [endCall_normal, endCall_ret, endCall_exit, Wc_none, Wp_some, retQ]

theorem call_wc {f : FuncId} {F : AFun} (h : T f = some F) (args : List AV) (m : Mem) (Q : AV → Mem → Prop) : Wc (call T pr f args m) Q = Wp (run T pr F.code ⟨entry F args, { m with esc := none }⟩) (retQ F m Q) := by
  rw [call_eq h, Wc_endCall]

/-! loops -/
/-- what a loop's round must bring -/
abbrev Holds (I : St → Prop) (st : St) : Prop := I st
@[congr] theorem Holds_congr {I : St → Prop} {st st' : St} (h : st = st') : Holds I st = Holds I st' := by rw [h]
def loopQ (I : St → Prop) (Q : Ex → St → Prop) : Ex → St → Prop
  | .normal, st => Holds I st
  | ex, st => Q ex st
theorem loopQ_normal (I : St → Prop) (Q : Ex → St → Prop) (st : St) : loopQ I Q .normal st = Holds I st := Eq.trans rfl rfl
theorem loopQ_exit (I : St → Prop) (Q : Ex → St → Prop) (k : Nat) (st : St) : loopQ I Q (.exit k) st = Q (.exit k) st := Eq.trans rfl rfl
theorem loopQ_ret (I : St → Prop) (Q : Ex → St → Prop) (st : St) : loopQ I Q .ret st = Q .ret st := Eq.trans rfl rfl

theorem Wp_loop {b : ACode} {Q : Ex → St → Prop} (I : Nat → St → Prop) (hs : ∀ k st, I k st → Wp (run T pr b st) (loopQ (fun st' => ∃ j, j < k ∧ I j st') Q)) :
    ∀ (n : Nat) (st : St), I n st → Wp (run T pr (.loop b) st) Q := by
  intro n
  induction n using Nat.strongRecOn with
  | _ n ih =>
    intro st h
    rw [run_loop, Wp_thenRun]
    refine (hs n st h).mono fun ex st' h' => ?_
    cases ex with
    | normal =>
      obtain ⟨j, hj, hI⟩ := h'
      exact ih j hj st' hI
    | exit k => exact h'
    | ret => exact h'

/-! the end of a call that keeps what its result names -/
theorem roots_slice_new (sz n o k : Nat) (c : Option Nat) : AV.roots H.length (.slice (some (H.length + k, o)) sz n c) = [H.length + k] := by simp [AV.roots]
theorem roots_slice_new0 (sz n o : Nat) (c : Option Nat) : AV.roots H.length (.slice (some (H.length, o)) sz n c) = [H.length] := by simp [AV.roots]
theorem roots_slice_none (lim sz n : Nat) (c : Option Nat) : AV.roots lim (.slice none sz n c) = [] := by simp [AV.roots]
theorem roots_slice_old {lim b : Nat} (sz n o : Nat) (c : Option Nat) (h : b < lim) : AV.roots lim (.slice (some (b, o)) sz n c) = [] := by simp [AV.roots, h]
theorem roots_ptr_new (o k : Nat) : AV.roots H.length (.ptr (some (H.length + k, o))) = [H.length + k] := by simp [AV.roots]
theorem roots_ptr_new0 (o : Nat) : AV.roots H.length (.ptr (some (H.length, o))) = [H.length] := by simp [AV.roots]
theorem roots_int (lim : Nat) (k : IntKind) (x : Int) : AV.roots lim (.int k x) = [] := by simp [AV.roots]
theorem roots_bool (lim : Nat) (x : Bool) : AV.roots lim (.bool x) = [] := by simp [AV.roots]
theorem roots_str (lim : Nat) (x : ByteArray) : AV.roots lim (.str x) = [] := by simp [AV.roots]
theorem roots_agg (lim : Nat) (cs : List AV) : AV.roots lim (.agg cs) = AV.roots.go lim cs := by simp [AV.roots]
theorem roots_tup (lim : Nat) (cs : List AV) : AV.roots lim (.tup cs) = AV.roots.go lim cs := by simp [AV.roots]
theorem roots_cons (lim : Nat) (c : AV) (cs : List AV) : AV.roots.go lim (c :: cs) = AV.roots lim c ++ AV.roots.go lim cs := by simp [AV.roots.go]
theorem roots_nil (lim : Nat) : AV.roots.go lim [] = [] := by simp [AV.roots.go]
theorem rename_slice (f : Nat → Nat) (b o sz n : Nat) (c : Option Nat) : AV.rename f (.slice (some (b, o)) sz n c) = .slice (some (f b, o)) sz n c := by simp [AV.rename]
theorem rename_slice_none (f : Nat → Nat) (sz n : Nat) (c : Option Nat) : AV.rename f (.slice none sz n c) = .slice none sz n c := by simp [AV.rename]
theorem rename_ptr (f : Nat → Nat) (b o : Nat) : AV.rename f (.ptr (some (b, o))) = .ptr (some (f b, o)) := by simp [AV.rename]
theorem rename_int (f : Nat → Nat) (k : IntKind) (x : Int) : AV.rename f (.int k x) = .int k x := by simp [AV.rename]
theorem rename_bool (f : Nat → Nat) (x : Bool) : AV.rename f (.bool x) = .bool x := by simp [AV.rename]
theorem rename_str (f : Nat → Nat) (x : ByteArray) : AV.rename f (.str x) = .str x := by simp [AV.rename]
theorem rename_agg (f : Nat → Nat) (cs : List AV) : AV.rename f (.agg cs) = .agg (AV.rename.go f cs) := by simp [AV.rename]
theorem rename_tup (f : Nat → Nat) (cs : List AV) : AV.rename f (.tup cs) = .tup (AV.rename.go f cs) := by simp [AV.rename]
theorem rename_cons (f : Nat → Nat) (c : AV) (cs : List AV) : AV.rename.go f (c :: cs) = AV.rename f c :: AV.rename.go f cs := by simp [AV.rename.go]
theorem rename_nil (f : Nat → Nat) : AV.rename.go f [] = [] := by simp [AV.rename.go]

def keepBlks (L : List Blk) (rs : List Nat) : List Blk := rs.map fun b => (L[b]?).getD .dead
theorem keepBlks_nil (L : List Blk) : keepBlks L [] = [] := Eq.trans rfl rfl
theorem keepBlks_cons (L : List Blk) (b : Nat) (rs : List Nat) : keepBlks L (b :: rs) = (L[b]?).getD .dead :: keepBlks L rs := Eq.trans rfl rfl
def flatAll (lim : Nat) (L : List Blk) (rs : List Nat) : Bool := rs.all fun b => flatBlk lim L[b]?
theorem flatAll_nil (lim : Nat) (L : List Blk) : flatAll lim L [] = true := Eq.trans rfl rfl
theorem flatAll_cons (lim : Nat) (L : List Blk) (b : Nat) (rs : List Nat) : flatAll lim L (b :: rs) = (flatBlk lim L[b]? && flatAll lim L rs) := Eq.trans rfl rfl
theorem flatBlk_cells (lim : Nat) (cs : List AV) (w : Bool) : flatBlk lim (some (.cells cs w)) = cs.all fun c => c.under lim := Eq.trans rfl rfl
theorem finish_two_eq (G : List Blk) (e0 e1 : Option Nat) (v : AV) : finish 2 H.length e0 v ⟨H ++ G, e1⟩ =
    if clean H.length e1 = true ∧ flatAll H.length (H ++ G) (dedup (v.roots H.length)) = true then some (v.rename (renum H.length (dedup (v.roots H.length))), ⟨H ++ keepBlks (H ++ G) (dedup (v.roots H.length)), e0⟩) else none := by
  unfold finish keepBlks flatAll
  simp
theorem finish_two_eq0 (e0 e1 : Option Nat) (v : AV) : finish 2 H.length e0 v ⟨H, e1⟩ =
    if clean H.length e1 = true ∧ flatAll H.length H (dedup (v.roots H.length)) = true then some (v.rename (renum H.length (dedup (v.roots H.length))), ⟨H ++ keepBlks H (dedup (v.roots H.length)), e0⟩) else none := by
  unfold finish keepBlks flatAll
  simp
theorem finish_one_eq (G : List Blk) (e0 e1 : Option Nat) (v : AV) : finish 1 H.length e0 v ⟨H ++ G, e1⟩ = if v.under H.length = true ∧ clean H.length e1 = true then some (v, ⟨H, e0⟩) else none := by
  unfold finish
  simp
theorem finish_one_eq0 (e0 e1 : Option Nat) (v : AV) : finish 1 H.length e0 v ⟨H, e1⟩ = if v.under H.length = true ∧ clean H.length e1 = true then some (v, ⟨H, e0⟩) else none := by
  unfold finish
  simp
theorem dedup_nil : dedup [] = [] := Eq.trans rfl rfl
theorem dedup_one (b : Nat) : dedup [b] = [b] := Eq.trans rfl rfl
theorem dedup_two (a b : Nat) : dedup [a, b] = if a = b then [a] else [a, b] := by
  by_cases h : a = b
  · simp [dedup, h]
  · have : ¬ b = a := fun h' => h h'.symm
    simp [dedup, h, this]
theorem renum_old {lim b : Nat} (rs : List Nat) (h : b < lim) : renum lim rs b = b := by simp [renum, h]
theorem renum_one (k : Nat) : renum H.length [H.length + k] (H.length + k) = H.length := by
  have h1 : ¬ H.length + k < H.length := by omega
  simp only [renum, h1, if_false, List.idxOf_cons_self, Nat.add_zero]
theorem renum_one0 : renum H.length [H.length] H.length = H.length := by simp [renum]
theorem renum_two0 {a b : Nat} (h : H.length ≤ a) : renum H.length [a, b] a = H.length := by
  have h1 : ¬ a < H.length := by omega
  simp [renum, h1]
theorem renum_two1 {a b : Nat} (h : H.length ≤ b) (hne : a ≠ b) : renum H.length [a, b] b = H.length + 1 := by
  have h1 : ¬ b < H.length := by omega
  have h2 : (a == b) = false := by simpa using hne
  simp [renum, h1, h2, List.idxOf_cons]

theorem finV_wc (F : AFun) (m : Mem) (st : St) (Q : AV → Mem → Prop) : Wc (finRun F m st) Q = Wc (finV F m (resultList st.tm st.m.H F.results) st.m) Q := Eq.trans rfl rfl

theorem clean_none' (n : Nat) : clean n none = true := Eq.trans rfl rfl
theorem clean_some (n k : Nat) : clean n (some k) = decide (n ≤ k) := Eq.trans rfl rfl
theorem clean_ite (c : Prop) [Decidable c] (n : Nat) (a b : Option Nat) : clean n (if c then a else b) = if c then clean n a else clean n b := by split <;> rfl
theorem minEsc_none (b : Nat) : minEsc none b = some b := Eq.trans rfl rfl
theorem minEsc_some (a b : Nat) : minEsc (some a) b = some (min a b) := Eq.trans rfl rfl
end

end Go.Proofs.Ytlcklonakjhoiaa.Slim

/- Rafts: the item without which the others have the most orders, and its law. -/
namespace Go.Proofs.Ytlcklonakjhoiaa.Slim

open Go

set_option linter.unusedSimpArgs false

set_option linter.unusedVariables false

variable {pr : Prims} {H : List Blk} {e : Option Nat}

theorem sliceLoV_c (sz b o n l : Nat) (cap : Option Nat) (hl : l ≤ n) : sliceLoV sz (.slice (some (b, o)) sz n cap) (.int .i64 l) = some (.slice (some (b, o + l * sz)) sz (n - l) (cap.map (· - l))) := by
  unfold sliceLoV natOf sliceVal
  simp [hl]

theorem srcCells_part {L : List Blk} {q sz n o k : Nat} {cs : List AV} (c : Option Nat) (h : cellsAt L q = some cs) (hl : o * sz + k * sz ≤ cs.length) : srcCells false L (.slice (some (q, o * sz)) sz k c) = some (k, (cs.drop (o * sz)).take (k * sz)) := by
  unfold srcCells
  simp [h, hl]

theorem append_hd {L : List Blk} {b q sz bytes n i : Nat} {cs : List AV} {c : Option Nat} (hq : cellsAt L q = some cs) (hb : L[b]? = some (.cells [] true)) (hcs : cs.length = n * sz) (hi : i ≤ n) (hm : n * bytes ≤ maxBytes) :
    appendV L e false sz bytes (.slice (some (b, 0)) sz 0 (some 0)) (.slice (some (q, 0)) sz i c) = some (.slice (some (L.length, 0)) sz i none, ⟨L.set b (if i = 0 then .dead else .cells [] true) ++ [.cells (cs.take (i * sz)) true], e⟩) := by
  have h1 : i * sz ≤ n * sz := Nat.mul_le_mul_right _ hi
  have h2 : i * bytes ≤ n * bytes := Nat.mul_le_mul_right _ hi
  have hs := srcCells_part (o := 0) (k := i) (sz := sz) (n := n) c hq (by omega)
  rw [Nat.zero_mul, List.drop_zero] at hs
  unfold appendV
  simp only [hb, hs]
  have h3 : (List.take (i * sz) cs).length = i * sz := by rw [List.length_take]; omega
  rw [if_pos ⟨trivial, by rw [Nat.zero_add]; omega, h3, by simp⟩]
  by_cases h : i = 0
  · subst h
    simp
  · rw [if_pos ⟨trivial, by omega⟩, if_neg h, set_same hb]
    simp

theorem append_tl {L : List Blk} {b q sz bytes n i : Nat} {cs : List AV} {c : Option Nat} (hq : cellsAt L q = some cs) (hb : L[b]? = some (.cells (cs.take (i * sz)) true)) (hcs : cs.length = n * sz) (hi : i < n) (hm : n * bytes ≤ maxBytes) :
    appendV L e false sz bytes (.slice (some (b, 0)) sz i none) (.slice (some (q, (i + 1) * sz)) sz (n - (i + 1)) c) = some (.slice (some (L.length, 0)) sz (n - 1) none, ⟨L.set b .dead ++ [.cells (cs.take (i * sz) ++ cs.drop ((i + 1) * sz)) true], e⟩) := by
  have e1 : (i + 1) * sz + (n - (i + 1)) * sz = n * sz := by rw [← Nat.add_mul]; congr 1; omega
  have e2 : (i + 1) * sz = i * sz + sz := by rw [Nat.add_mul, Nat.one_mul]
  have hs := srcCells_part (o := i + 1) (k := n - (i + 1)) (sz := sz) (n := n) c hq (by omega)
  have h4 : (cs.drop ((i + 1) * sz)).take ((n - (i + 1)) * sz) = cs.drop ((i + 1) * sz) := List.take_of_length_le (by rw [List.length_drop]; omega)
  rw [h4] at hs
  unfold appendV
  simp only [hb, hs]
  have h3 : (cs.drop ((i + 1) * sz)).length = (n - (i + 1)) * sz := by rw [List.length_drop]; omega
  have h5 : (List.take (i * sz) cs).length = i * sz := by rw [List.length_take]; omega
  have h6 : i + (n - (i + 1)) = n - 1 := by omega
  have h7 : (n - 1) * bytes ≤ n * bytes := Nat.mul_le_mul_right _ (by omega)
  rw [h6, if_pos ⟨trivial, by omega, h3, by omega⟩]
  simp [List.take_take]

/-- the best of some numbers -/
def bestW (f : Nat → Int) : Nat → Nat → Int → Int → Int
  | 0, i, best, most => best
  | k + 1, i, best, most => if most < f i then bestW f k (i + 1) i (f i) else bestW f k (i + 1) best most

def hardW (a b o : Int) (ls : List Ld) (i : Nat) : Int := (waysW a b o (ls.eraseIdx i)).getD 0 0

theorem e_i_HardestItem_no {q : Nat} {c : Option Nat} {ls : List Ld} (h : cellsAt H q = some (encL ls)) (a b o : Int) (hno : (cargoOk a b o ls && !decide (ls.length = 0)) = false) :
    call T pr f_i_HardestItem [rfV a b o, slL q ls.length c] ⟨H, e⟩ = some (.tup [.int .i64 0, .bool false], ⟨H, e⟩) := by
  rw [call_eq t_i_HardestItem]
  have hz : decide ((ls.length : Int) = 0) = decide (ls.length = 0) := decide_eq_decide.mpr (by omega)
  cases h1 : cargoOk a b o ls with
  | false => simp +contextual only [a_i_HardestItem, c_i_HardestItem, e_i_areCargo (cells_mono h _), h1, decide_true, go_sem, entry, joinEsc, if_pos, reduceIte, Nat.reduceAdd, Nat.reduceLeDiff, Nat.reduceLT, Nat.reduceEqDiff]
  | true =>
    rw [h1, Bool.true_and] at hno
    have hz' : decide ((ls.length : Int) = 0) = true := by rw [hz]; simpa using hno
    simp +contextual only [a_i_HardestItem, c_i_HardestItem, e_i_areCargo (cells_mono h _), h1, hz', decide_true, go_sem, entry, joinEsc, if_pos, reduceIte, Nat.reduceAdd, Nat.reduceLeDiff, Nat.reduceLT, Nat.reduceEqDiff]

theorem e_s_HardestItem_no {q : Nat} {c : Option Nat} {ls : List Ld} (h : cellsAt H q = some (encL ls)) (a b o : Int) (hno : (cargoOk a b o ls && !decide (ls.length = 0)) = false) :
    call T pr f_s_HardestItem [rfV a b o, slL q ls.length c] ⟨H, e⟩ = some (.tup [.int .i64 0, .bool false], ⟨H, e⟩) := by
  rw [call_eq t_s_HardestItem]
  have hz : decide ((ls.length : Int) = 0) = decide (ls.length = 0) := decide_eq_decide.mpr (by omega)
  cases h1 : cargoOk a b o ls with
  | false => simp +contextual only [a_s_HardestItem, c_s_HardestItem, e_s_l10Cargo (cells_mono h _), h1, decide_true, go_sem, entry, joinEsc, if_pos, reduceIte, Nat.reduceAdd, Nat.reduceLeDiff, Nat.reduceLT, Nat.reduceEqDiff]
  | true =>
    rw [h1, Bool.true_and] at hno
    have hz' : decide ((ls.length : Int) = 0) = true := by rw [hz]; simpa using hno
    simp +contextual only [a_s_HardestItem, c_s_HardestItem, e_s_l10Cargo (cells_mono h _), h1, hz', decide_true, go_sem, entry, joinEsc, if_pos, reduceIte, Nat.reduceAdd, Nat.reduceLeDiff, Nat.reduceLT, Nat.reduceEqDiff]

theorem e_i_HardestItem (hp : HasDelete pr) {q : Nat} {c : Option Nat} {ls : List Ld} (h : cellsAt H q = some (encL ls)) (a b o : Int) (hok : (cargoOk a b o ls && !decide (ls.length = 0)) = true) :
    call T pr f_i_HardestItem [rfV a b o, slL q ls.length c] ⟨H, e⟩ = some (.tup [.int .i64 (bestW (hardW a b o ls) ls.length 0 0 (-1)), .bool true], ⟨H, e⟩) := by
  obtain ⟨h1, h2⟩ := Bool.and_eq_true_iff.mp hok
  have h8 := cargo_le h1
  have hz' : decide ((ls.length : Int) = 0) = false := by
    have h3 : ¬ ls.length = 0 := by simpa using h2
    exact decide_eq_false (by omega)
  apply Wc.eq
  rw [call_wc t_i_HardestItem]
  simp +contextual only [a_i_HardestItem, c_i_HardestItem, e_i_areCargo (cells_mono h _), h1, hz', Wp_some, Wp_none, Wp_ite, Wc_some, Wc_none, Wc_ite, Wp_thenRun, seqQ_normal, seqQ_exit, seqQ_ret, Wp_inBlock, blkQ_normal, blkQ_ret, blkQ_same, blkQ_exit, Wp_opThen, opQ_at, Wp_guardP, retQ_normal, retQ_ret, loopQ_normal, loopQ_exit, loopQ_ret, go_sem, entry, joinEsc, if_pos, reduceIte, Nat.reduceAdd, Nat.reduceLeDiff, Nat.reduceLT, Nat.reduceEqDiff]
  refine Wp_loop (fun k st => ∃ (i : Nat) (best most : Int) (G : List Blk) (e' : Option Nat) (y3 y4 y7 y8 y9 y12 y13 : AV), k + i = ls.length ∧ bestW (hardW a b o ls) k i best most = bestW (hardW a b o ls) ls.length 0 0 (-1) ∧ clean H.length e' = true ∧
      st = ⟨[rfV a b o, slL q ls.length c, .ptr (some (H.length, 0)), y3, y4, .int .i64 best, .int .i64 most, y7, y8, y9, .int .i64 ls.length, .int .i64 i, y12, y13], ⟨H ++ (.cells [.int .i64 a, .int .i64 b, .int .i64 o] true :: G), e'⟩⟩) ?_ ls.length _
    ⟨0, 0, -1, [], none, _, _, _, _, _, _, _, by omega, rfl, rfl, rfl⟩
  rintro k _ ⟨i, best, most, G, e', y3, y4, y7, y8, y9, y12, y13, hk, hb, he', rfl⟩
  by_cases hi : i < ls.length
  · obtain ⟨k, rfl⟩ : ∃ k', k = k' + 1 := ⟨k - 1, by omega⟩
    have hel : (ls.eraseIdx i).length = ls.length - 1 := by rw [List.length_eraseIdx, if_pos hi]
    have hcl := fun L e' (hL : cellsAt L q = some (encL ls)) => e_Clone_Load (pr := pr) (H := L) (e := e') (c := c) hL (by omega)
    have hde := fun L e' b cap (hL : L[b]? = some (.cells (encL ls) true)) => hp L e' b ls.length i cap (encL ls) hL (encL_length ls) hi
    simp only [encL_erase] at hde
    have hwy := fun L e' q c (hL : cellsAt L q = some (encL (ls.eraseIdx i))) => e_i_Raft_waysOf (pr := pr) (H := L) (e := e') (c := c) hL (by omega) a b o
    rw [hel] at hwy
    have hpow : (0 : Int) < ((2 ^ (ls.length - 1) : Nat) : Int) := by
      have := Nat.two_pow_pos (ls.length - 1); omega
    have h0 : (encI (waysW a b o (ls.eraseIdx i)))[0]? = some (.int .i64 (hardW a b o ls i)) := ways0
    rw [bestW] at hb
    cases hm : decide (most < hardW a b o ls i) with
    | true =>
      rw [if_pos (of_decide_eq_true hm)] at hb
      simp +contextual only [w_i_HardestItem_1, cells_mono h, hi, hcl, hde, hwy, hpow, h0, hm, part_false, wrap_succ (show i < 9223372036854775807 by omega), Int.toNat_zero, Nat.zero_mul, Int.le_refl, Nat.add_assoc, decide_true, Wp_some, Wp_none, Wp_ite, Wc_some, Wc_none, Wc_ite, Wp_thenRun, seqQ_normal, seqQ_exit, seqQ_ret, Wp_inBlock, blkQ_normal, blkQ_ret, blkQ_same, blkQ_exit, Wp_opThen, opQ_at, Wp_guardP, retQ_normal, retQ_ret, loopQ_normal, loopQ_exit, loopQ_ret, go_sem, entry, joinEsc, if_pos, reduceIte, Nat.reduceAdd, Nat.reduceLeDiff, Nat.reduceLT, Nat.reduceEqDiff]
      exact ⟨k, by omega, i + 1, _, _, _, _, _, _, _, _, _, _, _, by omega, hb, he', rfl⟩
    | false =>
      rw [if_neg (of_decide_eq_false hm)] at hb
      simp +contextual only [w_i_HardestItem_1, cells_mono h, hi, hcl, hde, hwy, hpow, h0, hm, part_false, wrap_succ (show i < 9223372036854775807 by omega), Int.toNat_zero, Nat.zero_mul, Int.le_refl, Nat.add_assoc, decide_true, Wp_some, Wp_none, Wp_ite, Wc_some, Wc_none, Wc_ite, Wp_thenRun, seqQ_normal, seqQ_exit, seqQ_ret, Wp_inBlock, blkQ_normal, blkQ_ret, blkQ_same, blkQ_exit, Wp_opThen, opQ_at, Wp_guardP, retQ_normal, retQ_ret, loopQ_normal, loopQ_exit, loopQ_ret, go_sem, entry, joinEsc, if_pos, reduceIte, Nat.reduceAdd, Nat.reduceLeDiff, Nat.reduceLT, Nat.reduceEqDiff]
      exact ⟨k, by omega, i + 1, _, _, _, _, _, _, _, _, _, _, _, by omega, hb, he', rfl⟩
  · obtain rfl : i = ls.length := by omega
    obtain rfl : k = 0 := by omega
    rw [← hb, bestW]
    simp +contextual only [w_i_HardestItem_1, hi, decide_false, he', Wp_some, Wp_none, Wp_ite, Wc_some, Wc_none, Wc_ite, Wp_thenRun, seqQ_normal, seqQ_exit, seqQ_ret, Wp_inBlock, blkQ_normal, blkQ_ret, blkQ_same, blkQ_exit, Wp_opThen, opQ_at, Wp_guardP, retQ_normal, retQ_ret, loopQ_normal, loopQ_exit, loopQ_ret, finish_one_eq, finish_one_eq0, finish_two_eq, finish_two_eq0, roots_slice_new, roots_slice_new0, roots_slice_none, roots_ptr_new, roots_ptr_new0, roots_int, roots_bool, roots_str, roots_agg, roots_tup, roots_cons, roots_nil, rename_slice, rename_slice_none, rename_ptr, rename_int, rename_bool, rename_str, rename_agg, rename_tup, rename_cons, rename_nil, keepBlks_nil, keepBlks_cons, flatAll_nil, flatAll_cons, flatBlk_cells, dedup_nil, dedup_one, dedup_two, renum_one, renum_one0, renum_two0, renum_two1, clean_none', clean_some, minEsc_none, minEsc_some, Nat.add_left_cancel_iff, Nat.le_add_right, Nat.le_refl, decide_true, go_sem, entry, joinEsc, if_pos, reduceIte, Nat.reduceAdd, Nat.reduceLeDiff, Nat.reduceLT, Nat.reduceEqDiff]

theorem e_s_HardestItem {q : Nat} {c : Option Nat} {ls : List Ld} (h : cellsAt H q = some (encL ls)) (a b o : Int) (hok : (cargoOk a b o ls && !decide (ls.length = 0)) = true) :
    call T pr f_s_HardestItem [rfV a b o, slL q ls.length c] ⟨H, e⟩ = some (.tup [.int .i64 (bestW (hardW a b o ls) ls.length 0 0 (-1)), .bool true], ⟨H, e⟩) := by
  obtain ⟨h1, h2⟩ := Bool.and_eq_true_iff.mp hok
  have h8 := cargo_le h1
  have hz' : decide ((ls.length : Int) = 0) = false := by
    have h3 : ¬ ls.length = 0 := by simpa using h2
    exact decide_eq_false (by omega)
  apply Wc.eq
  rw [call_wc t_s_HardestItem]
  simp +contextual only [a_s_HardestItem, c_s_HardestItem, e_s_l10Cargo (cells_mono h _), h1, hz', Wp_some, Wp_none, Wp_ite, Wc_some, Wc_none, Wc_ite, Wp_thenRun, seqQ_normal, seqQ_exit, seqQ_ret, Wp_inBlock, blkQ_normal, blkQ_ret, blkQ_same, blkQ_exit, Wp_opThen, opQ_at, Wp_guardP, retQ_normal, retQ_ret, loopQ_normal, loopQ_exit, loopQ_ret, go_sem, entry, joinEsc, if_pos, reduceIte, Nat.reduceAdd, Nat.reduceLeDiff, Nat.reduceLT, Nat.reduceEqDiff]
  refine Wp_loop (fun k st => ∃ (i : Nat) (best most : Int) (G : List Blk) (e' : Option Nat) (y3 y4 y8 y9 y10 y11 y12 : AV), k + i = ls.length ∧ bestW (hardW a b o ls) k i best most = bestW (hardW a b o ls) ls.length 0 0 (-1) ∧ clean H.length e' = true ∧
      st = ⟨[rfV a b o, slL q ls.length c, .ptr (some (H.length, 0)), y3, y4, .int .i64 best, .int .i64 most, .int .i64 i, y8, y9, y10, y11, y12], ⟨H ++ (.cells [.int .i64 a, .int .i64 b, .int .i64 o] true :: G), e'⟩⟩) ?_ ls.length _
    ⟨0, 0, -1, [], none, _, _, _, _, _, _, _, by omega, rfl, rfl, rfl⟩
  rintro k _ ⟨i, best, most, G, e', y3, y4, y8, y9, y10, y11, y12, hk, hb, he', rfl⟩
  by_cases hi : i < ls.length
  · obtain ⟨k, rfl⟩ : ∃ k', k = k' + 1 := ⟨k - 1, by omega⟩
    have hel : (ls.eraseIdx i).length = ls.length - 1 := by rw [List.length_eraseIdx, if_pos hi]
    have hi1 : i ≤ ls.length := by omega
    have hi2 : i + 1 ≤ ls.length := by omega
    have hap1 := fun L b e' (hL : cellsAt L q = some (encL ls)) (hb : L[b]? = some (.cells [] true)) => append_hd (e := e') (L := L) (b := b) (q := q) (c := c) (bytes := 16) hL hb (encL_length ls) hi1 (by unfold maxBytes; omega)
    have hap2 := fun L b e' c (hL : cellsAt L q = some (encL ls)) (hb : L[b]? = some (.cells ((encL ls).take (i * 2)) true)) => append_tl (e := e') (L := L) (b := b) (q := q) (c := c) (bytes := 16) hL hb (encL_length ls) hi (by unfold maxBytes; omega)
    simp only [encL_erase] at hap2
    have hwy := fun L e' q c (hL : cellsAt L q = some (encL (ls.eraseIdx i))) => e_s_l10Ways (pr := pr) (H := L) (e := e') (c := c) hL (by omega) a b o
    rw [hel] at hwy
    have hpow : (0 : Int) < ((2 ^ (ls.length - 1) : Nat) : Int) := by
      have := Nat.two_pow_pos (ls.length - 1); omega
    have h0 : (encI (waysW a b o (ls.eraseIdx i)))[0]? = some (.int .i64 (hardW a b o ls i)) := ways0
    rw [bestW] at hb
    cases hm : decide (most < hardW a b o ls i) with
    | true =>
      rw [if_pos (of_decide_eq_true hm)] at hb
      simp +contextual only [w_s_HardestItem_1, fillParts, cells_mono h, hi, aop_sliceHi, aop_sliceLo, sliceHiV_at, sliceLoV_c, hi1, hi2, hap1, hap2, hwy, hpow, h0, hm, part_false, wrap_succ (show i < 9223372036854775807 by omega), Int.toNat_zero, Nat.zero_mul, Int.le_refl, Nat.add_assoc, decide_true, Wp_some, Wp_none, Wp_ite, Wc_some, Wc_none, Wc_ite, Wp_thenRun, seqQ_normal, seqQ_exit, seqQ_ret, Wp_inBlock, blkQ_normal, blkQ_ret, blkQ_same, blkQ_exit, Wp_opThen, opQ_at, Wp_guardP, retQ_normal, retQ_ret, loopQ_normal, loopQ_exit, loopQ_ret, go_sem, entry, joinEsc, if_pos, reduceIte, Nat.reduceAdd, Nat.reduceLeDiff, Nat.reduceLT, Nat.reduceEqDiff]
      exact ⟨k, by omega, i + 1, _, _, _, _, _, _, _, _, _, _, _, by omega, hb, he', rfl⟩
    | false =>
      rw [if_neg (of_decide_eq_false hm)] at hb
      simp +contextual only [w_s_HardestItem_1, fillParts, cells_mono h, hi, aop_sliceHi, aop_sliceLo, sliceHiV_at, sliceLoV_c, hi1, hi2, hap1, hap2, hwy, hpow, h0, hm, part_false, wrap_succ (show i < 9223372036854775807 by omega), Int.toNat_zero, Nat.zero_mul, Int.le_refl, Nat.add_assoc, decide_true, Wp_some, Wp_none, Wp_ite, Wc_some, Wc_none, Wc_ite, Wp_thenRun, seqQ_normal, seqQ_exit, seqQ_ret, Wp_inBlock, blkQ_normal, blkQ_ret, blkQ_same, blkQ_exit, Wp_opThen, opQ_at, Wp_guardP, retQ_normal, retQ_ret, loopQ_normal, loopQ_exit, loopQ_ret, go_sem, entry, joinEsc, if_pos, reduceIte, Nat.reduceAdd, Nat.reduceLeDiff, Nat.reduceLT, Nat.reduceEqDiff]
      exact ⟨k, by omega, i + 1, _, _, _, _, _, _, _, _, _, _, _, by omega, hb, he', rfl⟩
  · obtain rfl : i = ls.length := by omega
    obtain rfl : k = 0 := by omega
    rw [← hb, bestW]
    simp +contextual only [w_s_HardestItem_1, hi, decide_false, he', Wp_some, Wp_none, Wp_ite, Wc_some, Wc_none, Wc_ite, Wp_thenRun, seqQ_normal, seqQ_exit, seqQ_ret, Wp_inBlock, blkQ_normal, blkQ_ret, blkQ_same, blkQ_exit, Wp_opThen, opQ_at, Wp_guardP, retQ_normal, retQ_ret, loopQ_normal, loopQ_exit, loopQ_ret, finish_one_eq, finish_one_eq0, finish_two_eq, finish_two_eq0, roots_slice_new, roots_slice_new0, roots_slice_none, roots_ptr_new, roots_ptr_new0, roots_int, roots_bool, roots_str, roots_agg, roots_tup, roots_cons, roots_nil, rename_slice, rename_slice_none, rename_ptr, rename_int, rename_bool, rename_str, rename_agg, rename_tup, rename_cons, rename_nil, keepBlks_nil, keepBlks_cons, flatAll_nil, flatAll_cons, flatBlk_cells, dedup_nil, dedup_one, dedup_two, renum_one, renum_one0, renum_two0, renum_two1, clean_none', clean_some, minEsc_none, minEsc_some, Nat.add_left_cancel_iff, Nat.le_add_right, Nat.le_refl, decide_true, go_sem, entry, joinEsc, if_pos, reduceIte, Nat.reduceAdd, Nat.reduceLeDiff, Nat.reduceLT, Nat.reduceEqDiff]

theorem law_HardestItem (hp : HasDelete pr) {av : AV} {ls : List Ld} (ha : ArgL H av ls) (a b o : Int) : ∃ m', call T pr f_l_FnExactHardestItem [rfV a b o, av] ⟨H, none⟩ = some (.bool true, m') := by
  refine ⟨⟨H, none⟩, ?_⟩
  have hsz : ∀ G e', call T pr f_l_szLoadS [av, .int .i64 1048576] ⟨G, e'⟩ = some (.int .i64 (if ls.length ≤ 1048576 then 1048576 - ls.length else -1), ⟨G, e'⟩) := by
    obtain ⟨p, sz, c, rfl, h2, h3⟩ := ha
    exact fun G e' => e_l_szLoadS ls.length p sz c h2
  rw [call_eq t_l_FnExactHardestItem]
  by_cases hn : ls.length ≤ 1048576
  · have hn' : ls.length ≤ 9223372036854775806 := by omega
    have hneg : ¬ (1048576 - (ls.length : Int) < 0) := by omega
    have hcopy := fun G => e_l_toLoadS (pr := pr) (e := none) (ha.more G) hn
    cases hok : (cargoOk a b o ls && !decide (ls.length = 0)) with
    | false =>
      have hsi := fun L q c h1 => e_s_HardestItem_no (pr := pr) (H := L) (e := none) (q := q) (c := c) (ls := ls) h1 a b o hok
      have hii := fun L q c h1 => e_i_HardestItem_no (pr := pr) (H := L) (e := none) (q := q) (c := c) (ls := ls) h1 a b o hok
      simp +contextual only [a_l_FnExactHardestItem, c_l_FnExactHardestItem, hsz, hn, hneg, decide_false, decide_true, e_l_toRaft, hcopy, hsi, hii, e_l_eqLoadS, hn', beq_self_eq_true, go_sem, entry, joinEsc, if_pos, reduceIte, Nat.reduceAdd, Nat.reduceLeDiff, Nat.reduceLT, Nat.reduceEqDiff]
    | true =>
      have hsi := fun L q c h1 => e_s_HardestItem (pr := pr) (H := L) (e := none) (q := q) (c := c) (ls := ls) h1 a b o hok
      have hii := fun L q c h1 => e_i_HardestItem (pr := pr) (H := L) (e := none) hp (q := q) (c := c) (ls := ls) h1 a b o hok
      simp +contextual only [a_l_FnExactHardestItem, c_l_FnExactHardestItem, hsz, hn, hneg, decide_false, decide_true, e_l_toRaft, hcopy, hsi, hii, e_l_eqLoadS, hn', beq_self_eq_true, go_sem, entry, joinEsc, if_pos, reduceIte, Nat.reduceAdd, Nat.reduceLeDiff, Nat.reduceLT, Nat.reduceEqDiff]
  · simp +contextual only [a_l_FnExactHardestItem, c_l_FnExactHardestItem, hsz, hn, decide_true, show ((-1 : Int) < 0) by omega, go_sem, entry, joinEsc, if_pos, reduceIte, Nat.reduceAdd, Nat.reduceLeDiff, Nat.reduceLT, Nat.reduceEqDiff]

end Go.Proofs.Ytlcklonakjhoiaa.Slim

/- FnExactHardestItem returns true for all arguments, without conditions: the law holds as it is stated; the arguments read as they did. -/
namespace Go.Proofs.Ytlcklonakjhoiaa.fnExactHardestItem
open Go.ChangeShapes Go.WideShapes Go.ChangeAt Go.RowKit Go.Joins Go.Deep Slim
set_option linter.unusedVariables false

theorem main {H : List Blk} {av1 : AV} {es1 : List (List Int)} (h1 : IsArg H av1 .i64 2 es1) (x0_0 : Int) (x0_1 : Int) (x0_2 : Int) : ∃ m', call T prC 4 [.agg [.int .i64 x0_0, .int .i64 x0_1, .int .i64 x0_2], av1] ⟨H, none⟩ = some (.bool true, m') := by
  obtain ⟨ls1, ha1⟩ := argL_of h1
  exact law_HardestItem prC_has ha1  x0_0 x0_1 x0_2

theorem own : ownKnob Try.prog.godebug = none := by kernel_rfl
theorem laidOut : laidOutB Try.prog = true := by kernel_rfl

set_option maxRecDepth 100000 in
theorem lifted (os : Os) (started : os.Started) (H : Type) (enc : TypeId × Value → H) :
    ReturnsInHanded {} Try.checked os 4 .any (Rows.fnExactHardestItemSpec.pre6 enc Try.prog Try.f4 Rows.fnExactHardestItemRow.domain false) (Rows.fnExactHardestItemSpec.post enc Try.prog Try.f4 false true false false) := by
  refine returnsInHanded_of_change_sized (C := Try.checked) own started (by kernel_rfl) Try.func4
    (ChangeSpec.witness6 (enc := enc) (C := Try.checked) false ⟨#[], #[.agg #[.int .i64 0, .int .i64 0, .int .i64 0], .slice none 0 0], []⟩ 8 (by kernel_rfl) (by kernel_rfl) (by kernel_rfl) (by kernel_rfl)) ?_
  intro W base args ds gs before hval0 hW hcnd hsz0 _
  have hval : ∀ (j : Nat) t v, Try.f4.params[j]? = some t → args[j]? = some v → Value.okWide Try.prog W .any base t v := hval0
  have hW' := hW
  obtain ⟨p, q, hA0, hV, rfl, hfz, hnd⟩ := hW
  have hA : DataW.TrodAll enc Try.prog W 0 (fun _ => true) true Try.f4.params.toList args.toList ds p := hA0
  rw [Try.params4] at hA hval
  obtain ⟨v0, vs0, d0, ds0, p0, q0, hargs, rfl, rfl, h0, r0⟩ := trodAll_cons hA
  obtain ⟨v1, vs1, d1, ds1, p1, q1, rfl, rfl, rfl, h1, r1⟩ := trodAll_cons r0
  obtain ⟨rfl, rfl, rfl⟩ := trodAll_nil r1
  obtain rfl : args = #[v0, v1] := by cases args; simp_all
  obtain ⟨rfl, rfl⟩ := trodVars_none hV
  have o0 := hval 0 23 v0 rfl rfl
  have o1 := hval 1 24 v1 rfl rfl
  have k0 := h0
  have k1 := h1
  have lt0 : ∀ x ∈ p0, x.block < W.heap.size := by obtain ⟨m, hm⟩ := k0; exact DataW.trod_lt m _ _ _ hm
  have lt1 : ∀ x ∈ p1, x.block < W.heap.size := by obtain ⟨m, hm⟩ := k1; exact DataW.trod_lt m _ _ _ hm
  obtain ⟨f0_0, f0_1, f0_2, y0_0, y0_1, y0_2, n0, rfl, _, _, g0_0, g0_1, g0_2⟩ := open_agg3 Try.underlying23 (by kernel_rfl) (by kernel_rfl) o0 h0
  obtain ⟨a0_0, e0_0, _, _⟩ := DataW.trod_int Try.underlying3 g0_0
  obtain ⟨a0_1, e0_1, _, _⟩ := DataW.trod_int Try.underlying3 g0_1
  obtain ⟨a0_2, e0_2, _, _⟩ := DataW.trod_int Try.underlying3 g0_2
  cases e0_0; cases e0_1; cases e0_2
  obtain ⟨sa1, sl1, sc1, rfl⟩ := okWide_slice Try.underlying24 o1
  obtain ⟨fu1, hf1⟩ := h1
  obtain ⟨ι1, H1, av1, es1, O1, hv1, ha1⟩ := open_arg (Opened.nil W) (k := .i64) (nf := 2) Try.underlying24 (by kernel_rfl) (by decide)
    (intsAt_struct Try.underlying62 (by kernel_rfl) (by kernel_rfl) (fun j f hj => by
      match j with
      | 0 => cases hj; exact Try.underlying3
      | 1 => cases hj; exact Try.underlying3
      | j + 2 => simp at hj)) (by simpa [Value.okWide, Try.underlying24] using o1) hf1
  have hw1 := hv1
  have hb1 := ha1
  obtain ⟨m', hm⟩ := main hb1  a0_0 a0_1 a0_2
  have hvl : VL _ W [.agg [.int .i64 a0_0, .int .i64 a0_1, .int .i64 a0_2], av1] [.agg #[.int .i64 a0_0, .int .i64 a0_1, .int .i64 a0_2], .slice sa1 sl1 sc1] :=
    ⟨_, _, rfl, ⟨[.int .i64 a0_0, .int .i64 a0_1, .int .i64 a0_2], rfl, ⟨_, _, rfl, rfl, _, _, rfl, rfl, _, _, rfl, rfl, rfl⟩, rfl⟩, _, _, rfl, hw1, rfl⟩
  refine (law_told (P := Try.prog) (Checked.mixed Try.checked) tabOk prC_ok O1 hvl hm).mono fun e W' ⟨he, bel⟩ => ?_
  subst he
  exact ⟨_, rfl, _, _, _, [], _, [], hW', trodAll_mk1 (shut_bool Try.underlying4 _), (trodAll_cons_mk (Below.trod laidOut (by kernel_rfl) (of_decide_eq_true (by kernel_rfl)) k0 bel lt0) (trodAll_cons_mk (Below.trod laidOut (by kernel_rfl) (of_decide_eq_true (by kernel_rfl)) k1 bel lt1) trodAll_mk0)), rfl, bel.frame _, fun h => by cases h⟩

theorem over : Rows.fnExactHardestItemRow.holds Try.pinned (OpenSpec.ofChange Rows.fnExactHardestItemSpec) :=
  OpenClaim.holds_of_wide 4 Try.f4 rfl rfl rfl rfl rfl rfl rfl ⟨rfl, rfl, rfl, rfl, rfl⟩ rfl rfl rfl rfl rfl (by kernel_rfl) Try.func4 (by kernel_rfl)
    (of_decide_eq_true (by kernel_rfl)) (by unfold Func.isWrapper; first | (rw [if_pos (by decide +kernel)]; kernel_rfl) | (rw [if_neg (by decide +kernel)]; exact ⟨rfl, rfl⟩))
    (fun os started H enc _ => lifted os started H enc)
theorem proved : Rows.FnExactHardestItemSaid := over
#print axioms proved
end Go.Proofs.Ytlcklonakjhoiaa.fnExactHardestItem
