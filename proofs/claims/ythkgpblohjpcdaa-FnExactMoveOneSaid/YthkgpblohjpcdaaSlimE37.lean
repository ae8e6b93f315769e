/- People at other places. -/
import Derived.Test.YthkgpblohjpcdaaSlimE35
namespace Go.Proofs.Ythkgpblohjpcdaa.Slim

open Go

set_option linter.unusedSimpArgs false

set_option linter.unusedVariables false

variable {pr : Prims} {H : List Blk} {e : Option Nat}

/-- people at other places -/
def putL : List Ld → List Int → List Ld
  | [], _ => []
  | l :: ls, ss => (ss.headD 0, l.2) :: putL ls ss.tail

theorem putL_length : ∀ (ls : List Ld) (ss : List Int), (putL ls ss).length = ls.length
  | [], _ => rfl
  | l :: ls, ss => by simp [putL, putL_length ls]

theorem drop_head (ss : List Int) (i : Nat) (h : i < ss.length) : ss[i]? = some ((ss.drop i).headD 0) ∧ (ss.drop i).tail = ss.drop (i + 1) := by
  rw [List.drop_eq_getElem_cons h]
  exact ⟨List.getElem?_eq_getElem h, rfl⟩

theorem cellsAt_set_ne {L : List Blk} {b u : Nat} {x : Blk} {cs : List AV} (h : cellsAt L u = some cs) (hne : b ≠ u) : cellsAt (L.set b x) u = some cs := by
  unfold cellsAt at *
  rw [List.getElem?_set_ne hne]
  exact h

theorem loop_i_Party_at {L : List Blk} {b u o pb rb n : Nat} {x a a2 s : Int} {c : Option Nat} {ss : List Int} {y0 y1 : AV} (hb : b < L.length) (hu : cellsAt L u = some (encI ss)) (hss : ss.length = 3) (ho : cellsAt L o = some [.int .i64 x, .int .i64 a, .int .i64 a2, slL b n c, .int .i64 s]) (hn : n ≤ 3) (hne : b ≠ u) (hne2 : b ≠ o) :
    ∀ (R P : List Ld) (y6 y9 : AV), P.length + R.length = n → ∃ z6 z9, run T pr (.loop w_i_Party_at_1) ⟨[y0, y1, .ptr (some (pb, 0)), .ptr (some (u, 0)), .ptr (some (rb, 0)), .ptr (some (o, 0)), y6, .int .i64 n, .int .i64 P.length, y9], ⟨L.set b (.cells (encL (P ++ R)) true), e⟩⟩ =
      some (Ex.exit 0, ⟨[y0, y1, .ptr (some (pb, 0)), .ptr (some (u, 0)), .ptr (some (rb, 0)), .ptr (some (o, 0)), z6, .int .i64 n, .int .i64 n, z9], ⟨L.set b (.cells (encL (P ++ putL R (ss.drop P.length))) true), e⟩⟩)
  | [], P, y6, y9, hP => by
    refine ⟨y6, .bool false, ?_⟩
    obtain rfl : n = P.length := by simp at hP; omega
    rw [run_loop]
    generalize run T pr (.loop w_i_Party_at_1) = R'
    simp +contextual only [w_i_Party_at_1, Nat.lt_irrefl, decide_false, putL, go_sem, entry, joinEsc, if_pos, reduceIte, Nat.reduceAdd, Nat.reduceLeDiff, Nat.reduceLT, Nat.reduceEqDiff]
  | l :: R, P, y6, y9, hP => by
    simp only [List.length_cons] at hP
    have hi : P.length < n := by omega
    obtain ⟨hs1, hs2⟩ := drop_head ss P.length (by omega)
    obtain ⟨z6, z9, ih⟩ := loop_i_Party_at (c := c) (pb := pb) (rb := rb) (y0 := y0) (y1 := y1) hb hu hss ho hn hne hne2 R (P ++ [((ss.drop P.length).headD 0, l.2)]) (.int .i64 P.length) (.bool true) (by simp; omega)
    refine ⟨z6, z9, ?_⟩
    rw [run_loop]
    generalize run T pr (.loop w_i_Party_at_1) = R' at ih ⊢
    have hg : ∀ y : Ld, (L.set b (.cells (encL (P ++ y :: R)) true))[b]? = some (.cells (encL (P ++ y :: R)) true) := fun y => List.getElem?_set_self hb
    have hle : ∀ y : Ld, P.length * 2 + 1 ≤ (encL (P ++ y :: R)).length := by intro y; rw [encL_length]; simp; omega
    have hle2 : ∀ y : Ld, P.length * 2 + 2 ≤ (encL (P ++ y :: R)).length := by intro y; rw [encL_length]; simp; omega
    have hu' := fun y => cellsAt_set_ne (x := y) hu hne
    have ho' := fun y => cellsAt_set_ne (x := y) ho hne2
    have hi3 : P.length < 3 := by omega
    simp only [List.append_assoc, List.singleton_append, List.length_append, List.length_cons, List.length_nil, Nat.zero_add] at ih
    simp +contextual only [w_i_Party_at_1, hi, hi3, hg, hle, hle2, hu', ho', part_encI _ hs1, setRange_midL0, List.set_set, putL, hs2, wrap_succ (show P.length < 9223372036854775807 by omega), decide_true, go_sem, entry, joinEsc, if_pos, reduceIte, Nat.reduceAdd, Nat.reduceLeDiff, Nat.reduceLT, Nat.reduceEqDiff]
    exact ih

abbrev spV (s0 s1 s2 : Int) : AV := .agg [.int .i64 s0, .int .i64 s1, .int .i64 s2]

theorem e_i_Party_at {q : Nat} {c : Option Nat} {ls : List Ld} (h : cellsAt H q = some (encL ls)) (hn : ls.length ≤ 3) (x a b s s0 s1 s2 : Int) : call T pr f_i_Party_at [ptV x a b (slL q ls.length c) s, spV s0 s1 s2] ⟨H, e⟩ =
    some (ptV x a b (slL H.length ls.length none) s, ⟨H ++ [.cells (encL (putL ls [s0, s1, s2])) true], e⟩) := by
  have hf : ∀ (B0 B1 B2 B4 : Blk) (e0 e1 : Option Nat), clean H.length e1 = true → finish 2 H.length e0 (ptV x a b (slL (H.length + 3) ls.length none) s) ⟨H ++ [B0, B1, B2, .cells (encL (putL ls [s0, s1, s2])) true, B4], e1⟩ = some (ptV x a b (slL H.length ls.length none) s, ⟨H ++ [.cells (encL (putL ls [s0, s1, s2])) true], e0⟩) :=
    fun B0 B1 B2 B4 e0 e1 hc => finish_party x a b s e0 e1 hc rfl (under_encL _ _)
  obtain ⟨z6, z9, hl⟩ := loop_i_Party_at (pr := pr) (e := none) (L := H ++ [.cells [.int .i64 x, .int .i64 a, .int .i64 b, slL q ls.length c, .int .i64 s] true, .cells (encI [s0, s1, s2]) true, .cells [.int .i64 0, .int .i64 0, .int .i64 0, .slice none 0 0 none, .int .i64 0] true, .cells (encL ls) true, .cells [.int .i64 x, .int .i64 a, .int .i64 b, slL (H.length + 3) ls.length none, .int .i64 s] true])
    (b := H.length + 3) (u := H.length + 1) (o := H.length + 4) (pb := H.length) (rb := H.length + 2) (x := x) (a := a) (a2 := b) (s := s) (c := none) (ss := [s0, s1, s2]) (y0 := ptV x a b (slL q ls.length c) s) (y1 := spV s0 s1 s2) (by simp) (by rw [cellsAt_newk]; rfl) rfl (by rw [cellsAt_newk]; rfl) hn (by omega) (by omega) ls [] .undef .undef (by simp)
  have h0 : ((0 : Nat) : Int) = 0 := rfl
  simp only [set_newk, List.set_cons_succ, List.set_cons_zero, List.nil_append, List.length_nil, List.drop_zero, encI, List.map_cons, List.map_nil, h0] at hl
  rw [call_eq t_i_Party_at]
  simp +contextual only [a_i_Party_at, c_i_Party_at, fillParts, hl, hf, e_Clone_Load (cells_mono h _) (Nat.le_trans hn (by omega)), under_slice, Nat.add_assoc, Nat.add_lt_add_iff_left, Nat.lt_irrefl, decide_false, clean_minEsc, clean_none, Nat.le_add_right, Nat.le_refl, decide_true, go_sem, entry, joinEsc, if_pos, reduceIte, Nat.reduceAdd, Nat.reduceLeDiff, Nat.reduceLT, Nat.reduceEqDiff]

theorem e_i_Party_rests {q : Nat} {c : Option Nat} {ls : List Ld} (h : cellsAt H q = some (encL ls)) (hn : ls.length ≤ 3) (x a b s s0 s1 s2 : Int) : call T pr f_i_Party_rests [ptV x a b (slL q ls.length c) s, spV s0 s1 s2] ⟨H, e⟩ =
    some (.bool (decide (sideW (putL ls [s0, s1, s2]) a b = 0)), ⟨H, e⟩) := by
  have hat := fun G => e_i_Party_at (pr := pr) (e := none) (c := c) (cells_mono h G) hn x a b s s0 s1 s2
  have hr := fun L q' c' (h : cellsAt L q' = some (encL (putL ls [s0, s1, s2]))) => e_i_Beam_rests (pr := pr) (e := none) (c := c') h (by rw [putL_length]; omega) x a b
  simp only [putL_length] at hr
  rw [call_eq t_i_Party_rests]
  simp +contextual only [a_i_Party_rests, c_i_Party_rests, hat, hr, under_slice, Nat.add_assoc, Nat.add_lt_add_iff_left, Nat.lt_irrefl, decide_false, clean_minEsc, clean_none, Nat.le_add_right, Nat.le_refl, decide_true, go_sem, entry, joinEsc, if_pos, reduceIte, Nat.reduceAdd, Nat.reduceLeDiff, Nat.reduceLT, Nat.reduceEqDiff]

/-- the digits of a number, the last one first -/
def digs (m : Nat) : Nat → Nat → List Nat
  | 0, _ => []
  | n + 1, k => k % m :: digs m n (k / m)

theorem digs_length (m : Nat) : ∀ n k, (digs m n k).length = n
  | 0, _ => rfl
  | n + 1, k => by simp [digs, digs_length m n]

def ints (l : List Nat) : List Int := l.map fun (i : Nat) => (i : Int)

theorem loop_s_l11Size {L : List Blk} {u n d : Nat} {a a2 s : Int} {p : Option (Nat × Nat)} {sz : Nat} {c : Option Nat} {y0 y2 : AV} (hu : cellsAt L u = some [.int .i64 (d : Int), .int .i64 a, .int .i64 a2, .slice p sz n c, .int .i64 s]) (hn : n ≤ 3) (hd : d ≤ 12) :
    ∀ (k i v : Nat) (y5 : AV), k + i = n → v * (d + 1) ^ k ≤ 2197 → ∃ z5, run T pr (.loop w_s_l11Size_1) ⟨[y0, .ptr (some (u, 0)), y2, .int .i64 v, .int .i64 i, y5], ⟨L, e⟩⟩ =
      some (Ex.exit 0, ⟨[y0, .ptr (some (u, 0)), y2, .int .i64 ((v * (d + 1) ^ k : Nat) : Int), .int .i64 n, z5], ⟨L, e⟩⟩)
  | 0, i, v, y5, hk, hv => by
    refine ⟨.bool false, ?_⟩
    obtain rfl : i = n := by omega
    rw [run_loop, Nat.pow_zero, Nat.mul_one]
    generalize run T pr (.loop w_s_l11Size_1) = R'
    simp +contextual only [w_s_l11Size_1, hu, Nat.lt_irrefl, decide_false, go_sem, entry, joinEsc, if_pos, reduceIte, Nat.reduceAdd, Nat.reduceLeDiff, Nat.reduceLT, Nat.reduceEqDiff]
  | k + 1, i, v, y5, hk, hv => by
    have hi : i < n := by omega
    have hvv : v * (d + 1) ^ (k + 1) = v * (d + 1) * (d + 1) ^ k := by rw [Nat.pow_succ, Nat.mul_assoc, Nat.mul_comm (d + 1) ((d + 1) ^ k)]
    rw [hvv] at hv ⊢
    have h1 : v * (d + 1) ≤ 2197 := Nat.le_trans (Nat.le_mul_of_pos_right _ (Nat.pow_pos (Nat.succ_pos d))) hv
    obtain ⟨z5, ih⟩ := loop_s_l11Size (y0 := y0) (y2 := y2) hu hn hd k (i + 1) (v * (d + 1)) (.bool true) (by omega) hv
    refine ⟨z5, ?_⟩
    rw [run_loop]
    generalize run T pr (.loop w_s_l11Size_1) = R' at ih ⊢
    have hw : IntKind.i64.wrap ((v : Int) * ((d + 1 : Nat) : Int)) = ((v * (d + 1) : Nat) : Int) := by rw [← Int.natCast_mul]; exact wrapN (by omega)
    simp +contextual only [w_s_l11Size_1, hu, hi, wrap_succ (show d < 9223372036854775807 by omega), wrap_succ (show i < 9223372036854775807 by omega), hw, decide_true, go_sem, entry, joinEsc, if_pos, reduceIte, Nat.reduceAdd, Nat.reduceLeDiff, Nat.reduceLT, Nat.reduceEqDiff]
    exact ih

theorem e_s_l11Size {p : Option (Nat × Nat)} {sz n d : Nat} {c : Option Nat} (hn : n ≤ 3) (hd : d ≤ 12) (a b s : Int) : call T pr f_s_l11Size [ptV (d : Int) a b (.slice p sz n c) s] ⟨H, e⟩ =
    some (.int .i64 (((d + 1) ^ n : Nat) : Int), ⟨H, e⟩) := by
  have hp : 1 * (d + 1) ^ n ≤ 2197 := by
    rw [Nat.one_mul]
    have h1 : (d + 1) ^ n ≤ (d + 1) ^ 3 := Nat.pow_le_pow_right (by omega) hn
    have h2 : (d + 1) ^ 3 ≤ 13 ^ 3 := Nat.pow_le_pow_left (by omega) 3
    omega
  obtain ⟨z5, hl⟩ := loop_s_l11Size (pr := pr) (e := none) (L := H ++ [.cells [.int .i64 (d : Int), .int .i64 a, .int .i64 b, .slice p sz n c, .int .i64 s] true]) (u := H.length) (y0 := ptV (d : Int) a b (.slice p sz n c) s) (y2 := .int .i64 0) (by rw [cellsAt_new0]; rfl) hn hd n 0 1 .undef rfl hp
  have h0 : ((0 : Nat) : Int) = 0 := rfl
  have h1 : ((1 : Nat) : Int) = 1 := rfl
  rw [h0, h1, Nat.one_mul] at hl
  rw [call_eq t_s_l11Size]
  simp +contextual only [a_s_l11Size, c_s_l11Size, hl, go_sem, entry, joinEsc, if_pos, reduceIte, Nat.reduceAdd, Nat.reduceLeDiff, Nat.reduceLT, Nat.reduceEqDiff]

theorem tmodN (k m : Nat) : Int.tmod (k : Int) (m : Int) = ((k % m : Nat) : Int) := rfl

theorem tdivN (k m : Nat) : Int.tdiv (k : Int) (m : Int) = ((k / m : Nat) : Int) := rfl

theorem putL_app : ∀ (P : List Ld) (Q : List Ld) (ss ts : List Int), P.length = ss.length → putL (P ++ Q) (ss ++ ts) = putL P ss ++ putL Q ts
  | [], Q, [], ts, _ => rfl
  | p :: P, Q, s :: ss, ts, h => by simp [putL, putL_app P Q ss ts (by simpa using h)]

theorem loop_s_l11At {L : List Blk} {b o u rb d : Nat} {x a a2 s a' a2' s' : Int} {n : Nat} {c : Option Nat} {pl : AV} {y0 : AV} (hb : b < L.length) (hu : cellsAt L u = some [.int .i64 (d : Int), .int .i64 a', .int .i64 a2', pl, .int .i64 s']) (hd : d ≤ 12) (ho : cellsAt L o = some [.int .i64 x, .int .i64 a, .int .i64 a2, slL b n c, .int .i64 s]) (hn : n ≤ 3) (hne : b ≠ u) (hne2 : b ≠ o) :
    ∀ (j : Nat) (P Q : List Ld) (k : Nat) (y6 : AV), P.length = j → P.length + Q.length = n → k ≤ 2197 → ∃ z1 z5 z6, run T pr (.loop w_s_l11At_1) ⟨[y0, .int .i64 k, .ptr (some (u, 0)), .ptr (some (rb, 0)), .ptr (some (o, 0)), .int .i64 ((P.length : Int) - 1), y6], ⟨L.set b (.cells (encL (P ++ Q)) true), e⟩⟩ =
      some (Ex.exit 0, ⟨[y0, z1, .ptr (some (u, 0)), .ptr (some (rb, 0)), .ptr (some (o, 0)), z5, z6], ⟨L.set b (.cells (encL (putL P (ints (digs (d + 1) P.length k).reverse) ++ Q)) true), e⟩⟩)
  | 0, P, Q, k, y6, hj, hP, hk => by
    obtain rfl := List.length_eq_zero_iff.mp hj
    refine ⟨.int .i64 k, .int .i64 (-1), .bool false, ?_⟩
    have h1 : (((([] : List Ld).length : Nat) : Int) - 1) = -1 := rfl
    rw [run_loop, h1]
    generalize run T pr (.loop w_s_l11At_1) = R'
    have h2 : ¬ (0 : Int) ≤ -1 := by omega
    simp +contextual only [w_s_l11At_1, h2, decide_false, putL, go_sem, entry, joinEsc, if_pos, reduceIte, Nat.reduceAdd, Nat.reduceLeDiff, Nat.reduceLT, Nat.reduceEqDiff]
  | j + 1, P, Q, k, y6, hj, hP, hk => by
    obtain ⟨P', l, rfl⟩ : ∃ P' l, P = P' ++ [l] := ⟨P.dropLast, P.getLast (by intro h; subst h; simp at hj), (List.dropLast_concat_getLast _).symm⟩
    simp only [List.length_append, List.length_cons, List.length_nil, Nat.zero_add] at hj hP
    obtain ⟨z1, z5, z6, ih⟩ := loop_s_l11At (c := c) (rb := rb) (y0 := y0) hb hu hd ho hn hne hne2 j P' ((((k % (d + 1) : Nat) : Int), l.2) :: Q) (k / (d + 1)) (.bool true) (by omega) (by simp; omega) (Nat.le_trans (Nat.div_le_self _ _) hk)
    refine ⟨z1, z5, z6, ?_⟩
    have e1 : (((P' ++ [l]).length : Nat) : Int) - 1 = (P'.length : Int) := by simp
    have e2 : putL (P' ++ [l]) (ints (digs (d + 1) (P' ++ [l]).length k).reverse) = putL P' (ints (digs (d + 1) P'.length (k / (d + 1))).reverse) ++ [(((k % (d + 1) : Nat) : Int), l.2)] := by
      rw [List.length_append]
      show putL (P' ++ [l]) (ints (digs (d + 1) (P'.length + 1) k).reverse) = _
      rw [digs, List.reverse_cons, ints, List.map_append, putL_app _ _ _ _ (by simp [digs_length])]
      rfl
    rw [run_loop, e1, e2, List.append_assoc, List.append_assoc]
    generalize run T pr (.loop w_s_l11At_1) = R' at ih ⊢
    have hi : P'.length < n := by omega
    have h0 : (0 : Int) ≤ (P'.length : Int) := by omega
    have hg : ∀ y : Ld, (L.set b (.cells (encL (P' ++ y :: Q)) true))[b]? = some (.cells (encL (P' ++ y :: Q)) true) := fun y => List.getElem?_set_self hb
    have hle : ∀ y : Ld, P'.length * 2 + 1 ≤ (encL (P' ++ y :: Q)).length := by intro y; rw [encL_length]; simp; omega
    have hle2 : ∀ y : Ld, P'.length * 2 + 2 ≤ (encL (P' ++ y :: Q)).length := by intro y; rw [encL_length]; simp; omega
    have hu' := fun y => cellsAt_set_ne (x := y) hu hne
    have ho' := fun y => cellsAt_set_ne (x := y) ho hne2
    have hz : ¬ ((d + 1 : Nat) : Int) = 0 := by omega
    have hw1 : IntKind.i64.wrap ((P'.length : Int) - 1) = (P'.length : Int) - 1 := wrap64 (by omega) (by omega)
    have hw2 : IntKind.i64.wrap (((k / (d + 1) : Nat) : Int)) = ((k / (d + 1) : Nat) : Int) := wrapN (by have := Nat.div_le_self k (d + 1); omega)
    simp +contextual only [w_s_l11At_1, List.singleton_append, hi, h0, hg, hle, hle2, hu', ho', hz, tmodN, tdivN, setRange_midL0, List.set_set, hw1, hw2, wrap_succ (show d < 9223372036854775807 by omega), decide_true, decide_false, go_sem, entry, joinEsc, if_pos, reduceIte, Nat.reduceAdd, Nat.reduceLeDiff, Nat.reduceLT, Nat.reduceEqDiff]
    exact ih

theorem e_s_l11At {q : Nat} {c : Option Nat} {ls : List Ld} {d k : Nat} (h : cellsAt H q = some (encL ls)) (hn : ls.length ≤ 3) (hd : d ≤ 12) (hk : k ≤ 2197) (a b s : Int) : call T pr f_s_l11At [ptV (d : Int) a b (slL q ls.length c) s, .int .i64 k] ⟨H, e⟩ =
    some (ptV (d : Int) a b (slL H.length ls.length none) s, ⟨H ++ [.cells (encL (putL ls (ints (digs (d + 1) ls.length k).reverse))) true], e⟩) := by
  have ha1 := fun L b e' (hb : L[b]? = some (.cells [] true)) hq => append_all (e := e') (L := L) (b := b) (q := q) (n := ls.length) (sz := 2) (bytes := 16) (c := c) (cs := encL ls) hb hq (encL_length ls) (by unfold maxBytes; omega)
  have hf : ∀ (B0 B1 B2 B4 : Blk) (e0 e1 : Option Nat), clean H.length e1 = true → finish 2 H.length e0 (ptV (d : Int) a b (slL (H.length + 3) ls.length none) s) ⟨H ++ [B0, B1, B2, .cells (encL (putL ls (ints (digs (d + 1) ls.length k).reverse))) true, B4], e1⟩ = some (ptV (d : Int) a b (slL H.length ls.length none) s, ⟨H ++ [.cells (encL (putL ls (ints (digs (d + 1) ls.length k).reverse))) true], e0⟩) :=
    fun B0 B1 B2 B4 e0 e1 hc => finish_party _ a b s e0 e1 hc rfl (under_encL _ _)
  have ql : q < H.length + 2 := by have := cellsAt_lt h; omega
  obtain ⟨z1, z5, z6, hl⟩ := loop_s_l11At (pr := pr) (e := none) (L := H ++ [.cells [.int .i64 (d : Int), .int .i64 a, .int .i64 b, slL q ls.length c, .int .i64 s] true, .cells [.int .i64 0, .int .i64 0, .int .i64 0, .slice none 0 0 none, .int .i64 0] true, (if ls.length = 0 then Blk.dead else .cells [] true), .cells (encL ls) true, .cells [.int .i64 d, .int .i64 a, .int .i64 b, slL (H.length + 3) ls.length none, .int .i64 s] true])
    (b := H.length + 3) (u := H.length) (o := H.length + 4) (rb := H.length + 1) (d := d) (x := d) (a := a) (a2 := b) (s := s) (c := none) (pl := slL q ls.length c) (a' := a) (a2' := b) (s' := s) (n := ls.length) (y0 := ptV d a b (slL q ls.length c) s) (by simp) (by rw [cellsAt_new0]; rfl) hd (by rw [cellsAt_newk]; rfl) hn (by omega) (by omega) ls.length ls [] k .undef rfl (by simp) hk
  simp only [set_newk, List.set_cons_succ, List.set_cons_zero, List.append_nil] at hl
  have hw : IntKind.i64.wrap ((ls.length : Int) - 1) = (ls.length : Int) - 1 := wrap64 (by omega) (by omega)
  rw [call_eq t_s_l11At]
  simp +contextual only [a_s_l11At, c_s_l11At, fillParts, ha1, hl, hw, cells_mono h, kill0_new, kill0_cons, kill0_0, hf, ql, under_slice, Nat.add_assoc, Nat.add_lt_add_iff_left, Nat.lt_irrefl, decide_false, clean_minEsc, clean_none, Nat.le_add_right, Nat.le_refl, decide_true, go_sem, entry, joinEsc, if_pos, reduceIte, Nat.reduceAdd, Nat.reduceLeDiff, Nat.reduceLT, Nat.reduceEqDiff]

end Go.Proofs.Ythkgpblohjpcdaa.Slim
