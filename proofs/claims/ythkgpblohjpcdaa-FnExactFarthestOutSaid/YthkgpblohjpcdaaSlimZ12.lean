/- The safe moves of a party. -/
import Derived.Test.YthkgpblohjpcdaaSlimZ11
/- The safe moves of a party. -/
namespace Go.Proofs.Ythkgpblohjpcdaa.Slim

open Go

set_option linter.unusedSimpArgs false

set_option linter.unusedVariables false

variable {pr : Prims} {H : List Blk} {e : Option Nat}

/-- one person at another place -/
def movd : List Ld → Nat → Int → List Ld
  | [], _, _ => []
  | l :: ls, 0, p => (p, l.2) :: ls
  | l :: ls, i + 1, p => l :: movd ls i p

theorem movd_length : ∀ (ls : List Ld) (i : Nat) (p : Int), (movd ls i p).length = ls.length
  | [], _, _ => rfl
  | l :: ls, 0, p => rfl
  | l :: ls, i + 1, p => by simp [movd, movd_length ls i p]

theorem movd_split {ls : List Ld} {i : Nat} (p : Int) (hi : i < ls.length) : ∃ P l R, ls = P ++ l :: R ∧ P.length = i ∧ ls[i]? = some l ∧ movd ls i p = P ++ (p, l.2) :: R := by
  induction ls generalizing i with
  | nil => simp at hi
  | cons l ls ih =>
    cases i with
    | zero => exact ⟨[], l, ls, rfl, rfl, rfl, rfl⟩
    | succ i =>
      obtain ⟨P, l', R, h1, h2, h3, h4⟩ := ih (by simpa using hi)
      exact ⟨l :: P, l', R, by rw [h1]; rfl, by simp [h2], by simpa using h3, by rw [movd, h4]; rfl⟩

theorem putL_set : ∀ (ls : List Ld) (ss : List Int) (i : Nat) (p : Int), i < ls.length → ls.length ≤ ss.length → putL ls (ss.set i p) = movd (putL ls ss) i p
  | [], ss, i, p, hi, hl => by simp at hi
  | l :: ls, [], i, p, hi, hl => by simp at hl
  | l :: ls, s :: ss, 0, p, hi, hl => rfl
  | l :: ls, s :: ss, i + 1, p, hi, hl => by
    have := putL_set ls ss i p (by simpa using hi) (by simpa using hl)
    simp [putL, movd, this]

theorem setRange_movd {ls : List Ld} {i : Nat} (p : Int) (hi : i < ls.length) : setRange (encL ls) (i * 2) [.int .i64 p] = encL (movd ls i p) := by
  obtain ⟨P, l, R, h1, h2, _, h4⟩ := movd_split p hi
  rw [h4, h1, ← h2]
  exact setRange_midL0 P R l p

/-- is it a place on the plank, and do they rest there? -/
def okMv (x a b : Int) (ls : List Ld) (i : Nat) (p : Int) : Bool := (decide (0 ≤ p) && decide (p ≤ x)) && decide (sideW (movd ls i p) a b = 0)

def plOf (ls : List Ld) (i : Nat) : Int := (ls[i]?.getD (0, 0)).1

/-- is a move safe? -/
def safeMv (x a b : Int) (ls : List Ld) (s i p : Int) : Bool := ((decide (0 ≤ i) && decide (i ≤ (ls.length : Int) - 1)) && (decide (0 ≤ p) && decide (p ≤ x))) && ((decide (wr (p - plOf ls i.toNat) = s) || decide (wr (p - plOf ls i.toNat) = wr (0 - s))) && decide (sideW (movd ls i.toNat p) a b = 0))

theorem at02 : ((0 : Int) ≤ 0 ∧ (0 : Int) < ((2 : Nat) : Int)) = True := by simp

theorem at12 : ((0 : Int) ≤ 1 ∧ (1 : Int) < ((2 : Nat) : Int)) = True := by simp

theorem toNat0 : Int.toNat 0 = 0 := rfl

theorem toNat1 : Int.toNat 1 = 1 := rfl

theorem e_s_l11Moved {q : Nat} {c : Option Nat} {ls : List Ld} (h : cellsAt H q = some (encL ls)) (hn : ls.length ≤ 3) (x a b s p : Int) {i : Nat} (hi : i < ls.length) : call T pr f_s_l11Moved [ptV x a b (slL q ls.length c) s, .agg [.int .i64 i, .int .i64 p]] ⟨H, e⟩ =
    some (ptV x a b (slL H.length ls.length none) s, ⟨H ++ [.cells (encL (movd ls i p)) true], e⟩) := by
  have ha1 := fun L b e' (hb : L[b]? = some (.cells [] true)) hq => append_all (e := e') (L := L) (b := b) (q := q) (n := ls.length) (sz := 2) (bytes := 16) (c := c) (cs := encL ls) hb hq (encL_length ls) (by unfold maxBytes; omega)
  have hf : ∀ (B0 B1 B2 B3 B5 : Blk) (e0 e1 : Option Nat), clean H.length e1 = true → finish 2 H.length e0 (ptV x a b (slL (H.length + 4) ls.length none) s) ⟨H ++ [B0, B1, B2, B3, .cells (encL (movd ls i p)) true, B5], e1⟩ = some (ptV x a b (slL H.length ls.length none) s, ⟨H ++ [.cells (encL (movd ls i p)) true], e0⟩) :=
    fun B0 B1 B2 B3 B5 e0 e1 hc => finish_party _ a b s e0 e1 hc rfl (under_encL _ _)
  have ql : q < H.length + 3 := by have := cellsAt_lt h; omega
  have hle : i * 2 + 1 ≤ (encL ls).length := by rw [encL_length]; omega
  have hle2 : i * 2 + 2 ≤ (encL ls).length := by rw [encL_length]; omega
  rw [call_eq t_s_l11Moved]
  simp +contextual only [at02, at12, toNat0, toNat1, a_s_l11Moved, c_s_l11Moved, fillParts, ha1, hi, hle, hle2, setRange_movd p hi, cells_mono h, kill0_new, kill0_cons, kill0_0, hf, ql, under_slice, Nat.add_assoc, Nat.add_lt_add_iff_left, Nat.lt_irrefl, decide_false, clean_minEsc, clean_none, Nat.le_add_right, Nat.le_refl, decide_true, go_sem, entry, joinEsc, if_pos, reduceIte, Nat.reduceAdd, Nat.reduceLeDiff, Nat.reduceLT, Nat.reduceEqDiff]

theorem e_s_l11Safe {q : Nat} {c : Option Nat} {ls : List Ld} (h : cellsAt H q = some (encL ls)) (hn : ls.length ≤ 3) (x a b s i p : Int) : call T pr f_s_l11Safe [ptV x a b (slL q ls.length c) s, .agg [.int .i64 i, .int .i64 p]] ⟨H, e⟩ =
    some (.bool (safeMv x a b ls s i p), ⟨H, e⟩) := by
  have hw1 : IntKind.i64.wrap ((ls.length : Int) - 1) = (ls.length : Int) - 1 := wrap64 (by omega) (by omega)
  rw [call_eq t_s_l11Safe]
  unfold safeMv
  cases h1 : (decide (0 ≤ i) && decide (i ≤ (ls.length : Int) - 1)) with
  | false => simp +contextual only [at02, at12, toNat0, toNat1, a_s_l11Safe, c_s_l11Safe, e_s_l1In, hw1, h1, go_sem, entry, joinEsc, if_pos, reduceIte, Nat.reduceAdd, Nat.reduceLeDiff, Nat.reduceLT, Nat.reduceEqDiff]
  | true =>
    cases h2 : (decide (0 ≤ p) && decide (p ≤ x)) with
    | false => simp +contextual only [at02, at12, toNat0, toNat1, a_s_l11Safe, c_s_l11Safe, e_s_l1In, hw1, h1, h2, Bool.and_false, go_sem, entry, joinEsc, if_pos, reduceIte, Nat.reduceAdd, Nat.reduceLeDiff, Nat.reduceLT, Nat.reduceEqDiff]
    | true =>
      have hb : 0 ≤ i ∧ i ≤ (ls.length : Int) - 1 := by simpa using h1
      obtain ⟨k, rfl⟩ : ∃ k : Nat, i = k := ⟨i.toNat, by omega⟩
      have hi : k < ls.length := by omega
      have hl : ls[k]? = some ls[k] := List.getElem?_eq_getElem hi
      have hp : plOf ls k = ls[k].1 := by unfold plOf; rw [hl]; rfl
      have hmv := fun G => e_s_l11Moved (pr := pr) (e := none) (c := c) (cells_mono h G) hn x a b s p hi
      have hrs := fun L q' c' (h : cellsAt L q' = some (encL (movd ls k p))) => e_s_l11Rests (pr := pr) (e := none) (c := c') h (by rw [movd_length]; omega) x a b s
      simp only [movd_length] at hrs
      rw [Int.toNat_natCast, hp]
      unfold wr
      generalize hfar : IntKind.i64.wrap (p - ls[k].1) = far
      cases h3 : decide (far = s) with
      | true =>
        simp +contextual only [at02, at12, toNat0, toNat1, a_s_l11Safe, c_s_l11Safe, e_s_l1In, hw1, hb.2, h1, h2, hi, cells_mono h, part_encL0 _ hl, hfar, h3, hmv, hrs, Nat.add_assoc, decide_true, Bool.true_or, go_sem, entry, joinEsc, if_pos, reduceIte, Nat.reduceAdd, Nat.reduceLeDiff, Nat.reduceLT, Nat.reduceEqDiff]
      | false =>
        cases h4 : decide (far = IntKind.i64.wrap (0 - s)) with
        | true =>
          simp +contextual only [at02, at12, toNat0, toNat1, a_s_l11Safe, c_s_l11Safe, e_s_l1In, hw1, hb.2, h1, h2, hi, cells_mono h, part_encL0 _ hl, hfar, h3, h4, hmv, hrs, Nat.add_assoc, decide_true, Bool.false_or, go_sem, entry, joinEsc, if_pos, reduceIte, Nat.reduceAdd, Nat.reduceLeDiff, Nat.reduceLT, Nat.reduceEqDiff]
        | false =>
          simp +contextual only [at02, at12, toNat0, toNat1, a_s_l11Safe, c_s_l11Safe, e_s_l1In, hw1, hb.2, h1, h2, hi, cells_mono h, part_encL0 _ hl, hfar, h3, h4, Nat.add_assoc, decide_true, Bool.false_or, go_sem, entry, joinEsc, if_pos, reduceIte, Nat.reduceAdd, Nat.reduceLeDiff, Nat.reduceLT, Nat.reduceEqDiff]

theorem append_ld2 {G : List Blk} {B : Blk} {j : Nat} {o : List Ld} {cap : Option Nat} (hG : G[j]? = some (.cells (encL o) true)) (hcap : cap = some 0 → o = []) (hmb : (o.length + 1) * 16 ≤ maxBytes) (a b : Int) :
    appendV (H ++ (G ++ [B, .cells [.int .i64 a, .int .i64 b] true])) e false 2 16 (slL (H.length + j) o.length cap) (.slice (some (H.length + (G.length + 1), 0)) 2 1 (some 1)) =
      some (slL (H.length + (G.length + 2)) (o.length + 1) none, ⟨H ++ (killIf cap j (G ++ [B, .cells [.int .i64 a, .int .i64 b] true]) ++ [.cells (encL o ++ [.int .i64 a, .int .i64 b]) true]), e⟩) := by
  have hj : j < G.length := (List.getElem?_eq_some_iff.mp hG).1
  have h := append_ld (H := H) (e := e) (G := G ++ [B]) (j := j) (o := o) (cap := cap) (by rw [List.getElem?_append_left hj]; exact hG) hcap hmb a b
  simpa [Nat.add_assoc] using h

/-- the safe ones of some moves of one person -/
def selM (x a b : Int) (ls : List Ld) (i : Nat) (ps : List Int) : List Ld := (ps.filter (okMv x a b ls i)).map fun p => ((i : Int), p)

theorem selM_cons (x a b : Int) (ls : List Ld) (i : Nat) (p : Int) (ps : List Int) : selM x a b ls i (p :: ps) = if okMv x a b ls i p = true then ((i : Int), p) :: selM x a b ls i ps else selM x a b ls i ps := by
  unfold selM
  cases h : okMv x a b ls i p <;> simp [h]

theorem set3 {s0 s1 s2 p : Int} {i : Nat} (hi : i < 3) : ∃ t0 t1 t2, [s0, s1, s2].set i p = [t0, t1, t2] ∧ setRange [.int .i64 s0, .int .i64 s1, .int .i64 s2] i [.int .i64 p] = [.int .i64 t0, .int .i64 t1, .int .i64 t2] := by
  match i, hi with
  | 0, _ => exact ⟨p, s1, s2, rfl, rfl⟩
  | 1, _ => exact ⟨s0, p, s2, rfl, rfl⟩
  | 2, _ => exact ⟨s0, s1, p, rfl, rfl⟩

theorem loop_i_moves_1 {q u sb i n : Nat} {c : Option Nat} {ls : List Ld} {x a b s s0 s1 s2 p0 p1 : Int} {y0 y1 y4 y9 y10 y11 : AV} (h : cellsAt H q = some (encL ls)) (hn : ls.length ≤ 3) (hi : i < ls.length) (hu : cellsAt H u = some [.int .i64 x, .int .i64 a, .int .i64 b, slL q ls.length c, .int .i64 s]) (hs : cellsAt H sb = some [.int .i64 s0, .int .i64 s1, .int .i64 s2]) :
    ∀ (k j : Nat) (o : List Ld) (jb : Nat) (cap : Option Nat) (G : List Blk) (y7 y8 y14 y15 : AV), k + j = 2 → o.length + k ≤ 1000 → G[jb]? = some (.cells (encL o) true) → (cap = some 0 → o = []) →
      ∃ (jb' : Nat) (cap' : Option Nat) (G' : List Blk) (z7 z8 z14 z15 : AV), G'[jb']? = some (.cells (encL (o ++ selM x a b (putL ls [s0, s1, s2]) i ([p0, p1].drop j))) true) ∧ (cap' = some 0 → o ++ selM x a b (putL ls [s0, s1, s2]) i ([p0, p1].drop j) = []) ∧
      run T pr (.loop w_i_Party_moves_1) ⟨[y0, y1, .ptr (some (u, 0)), .ptr (some (sb, 0)), y4, slL (H.length + jb) o.length cap, .int .i64 i, y7, y8, y9, y10, y11, .agg [.int .i64 p0, .int .i64 p1], .int .i64 j, y14, y15], ⟨H ++ G, e⟩⟩ =
        some (Ex.exit 2, ⟨[y0, y1, .ptr (some (u, 0)), .ptr (some (sb, 0)), y4, slL (H.length + jb') (o ++ selM x a b (putL ls [s0, s1, s2]) i ([p0, p1].drop j)).length cap', .int .i64 i, z7, z8, y9, y10, y11, .agg [.int .i64 p0, .int .i64 p1], .int .i64 (2 : Nat), z14, z15], ⟨H ++ G', e⟩⟩)
  | 0, j, o, jb, cap, G, y7, y8, y14, y15, hk, ho, hG, hcap => by
    obtain rfl : j = 2 := by omega
    have h0 : o ++ selM x a b (putL ls [s0, s1, s2]) i ([p0, p1].drop 2) = o := by simp [selM]
    rw [h0]
    refine ⟨jb, cap, G, y7, y8, .bool false, y15, hG, hcap, ?_⟩
    rw [run_loop]
    generalize run T pr (.loop w_i_Party_moves_1) = R
    have h2 : ¬ ((2 : Nat) : Int) < 2 := by omega
    simp +contextual only [w_i_Party_moves_1, h2, decide_false, go_sem, entry, joinEsc, if_pos, reduceIte, Nat.reduceAdd, Nat.reduceLeDiff, Nat.reduceLT, Nat.reduceEqDiff]
  | k + 1, j, o, jb, cap, G, y7, y8, y14, y15, hk, ho, hG, hcap => by
    have hj : j < 2 := by omega
    have hj2 : (j : Int) < 2 := by omega
    obtain ⟨p, hdrop, hpart⟩ : ∃ p, [p0, p1].drop j = p :: [p0, p1].drop (j + 1) ∧ part false [AV.int .i64 p0, AV.int .i64 p1] j 1 = some (.int .i64 p) := by
      match j, hj with
      | 0, _ => exact ⟨p0, rfl, rfl⟩
      | 1, _ => exact ⟨p1, rfl, rfl⟩
    obtain ⟨t0, t1, t2, ht, hset⟩ := set3 (s0 := s0) (s1 := s1) (s2 := s2) (p := p) (show i < 3 by omega)
    have hput : putL ls [t0, t1, t2] = movd (putL ls [s0, s1, s2]) i p := by rw [← ht]; exact putL_set ls _ i p hi hn
    have hrest := fun G' => e_i_Party_rests (pr := pr) (e := e) (c := c) (cells_mono h G') hn x a b s t0 t1 t2
    rw [hput] at hrest
    have hi3 : i < 3 := by omega
    have hle : i + 1 ≤ 3 := by omega
    have hmb : (o.length + 1) * 16 ≤ maxBytes := by unfold maxBytes; omega
    rw [run_loop, hdrop, selM_cons]
    have hokd : okMv x a b (putL ls [s0, s1, s2]) i p = ((decide (0 ≤ p) && decide (p ≤ x)) && decide (sideW (movd (putL ls [s0, s1, s2]) i p) a b = 0)) := rfl
    by_cases hok : okMv x a b (putL ls [s0, s1, s2]) i p = true
    · rw [if_pos hok]
      obtain ⟨jb', cap', G', z7, z8, z14, z15, h1, h2, ih⟩ := loop_i_moves_1 (y0 := y0) (y1 := y1) (y4 := y4) (y9 := y9) (y10 := y10) (y11 := y11) (p0 := p0) (p1 := p1) (n := n) h hn hi hu hs k (j + 1) (o ++ [((i : Int), p)]) (G.length + 2) none
        (killIf cap jb (G ++ [.cells [.int .i64 t0, .int .i64 t1, .int .i64 t2] true, .cells [.int .i64 i, .int .i64 p] true]) ++ [.cells (encL (o ++ [((i : Int), p)])) true]) (.int .i64 p) (.ptr (some (H.length + G.length, 0))) (.bool true) (.bool true) (by omega) (by simp; omega) (by
          rw [List.getElem?_append_right (by simp [killIf_length])]; simp [killIf_length]) (by simp)
      rw [List.append_assoc, List.singleton_append] at h1 ih h2
      refine ⟨jb', cap', G', z7, z8, z14, z15, h1, h2, ?_⟩
      rw [hokd] at hok
      obtain ⟨hok1, hok2⟩ := Bool.and_eq_true_iff.mp hok
      rw [hok2] at hrest
      generalize run T pr (.loop w_i_Party_moves_1) = R at ih ⊢
      simp +contextual only [w_i_Party_moves_1, fillParts, hj, hj2, hpart, cells_mono hu, cells_mono hs, hi3, hle, hset, e_i_within, hok1, hrest, cells_end, set_end, append_ld2 hG hcap hmb, wrap_succ (show j < 9223372036854775807 by omega), decide_true, decide_false, go_sem, entry, joinEsc, if_pos, reduceIte, Nat.reduceAdd, Nat.reduceLeDiff, Nat.reduceLT, Nat.reduceEqDiff]
      simp only [List.length_append, List.length_cons, List.length_nil, Nat.zero_add, encL_append, encL] at ih
      exact ih
    · rw [if_neg hok]
      have hfalse : okMv x a b (putL ls [s0, s1, s2]) i p = false := by simpa using hok
      obtain ⟨jb', cap', G', z7, z8, z14, z15, h1, h2, ih⟩ := loop_i_moves_1 (y0 := y0) (y1 := y1) (y4 := y4) (y9 := y9) (y10 := y10) (y11 := y11) (p0 := p0) (p1 := p1) (n := n) h hn hi hu hs k (j + 1) o jb cap
        (G ++ [.cells [.int .i64 t0, .int .i64 t1, .int .i64 t2] true]) (.int .i64 p) (.ptr (some (H.length + G.length, 0))) (.bool true) (.bool false) (by omega) (by omega) (by
          rw [List.getElem?_append_left (List.getElem?_eq_some_iff.mp hG).1]; exact hG) hcap
      refine ⟨jb', cap', G', z7, z8, z14, z15, h1, h2, ?_⟩
      rw [hokd] at hfalse
      generalize run T pr (.loop w_i_Party_moves_1) = R at ih ⊢
      cases hok1 : (decide (0 ≤ p) && decide (p ≤ x)) with
      | false =>
        simp +contextual only [w_i_Party_moves_1, fillParts, hj, hj2, hpart, cells_mono hu, cells_mono hs, hi3, hle, hset, e_i_within, hok1, cells_end, set_end, wrap_succ (show j < 9223372036854775807 by omega), decide_true, decide_false, go_sem, entry, joinEsc, if_pos, reduceIte, Nat.reduceAdd, Nat.reduceLeDiff, Nat.reduceLT, Nat.reduceEqDiff]
        simp only [List.length_append] at ih
        exact ih
      | true =>
        rw [hok1, Bool.true_and] at hfalse
        rw [hfalse] at hrest
        simp +contextual only [w_i_Party_moves_1, fillParts, hj, hj2, hpart, cells_mono hu, cells_mono hs, hi3, hle, hset, e_i_within, hok1, hrest, cells_end, set_end, wrap_succ (show j < 9223372036854775807 by omega), decide_true, decide_false, go_sem, entry, joinEsc, if_pos, reduceIte, Nat.reduceAdd, Nat.reduceLeDiff, Nat.reduceLT, Nat.reduceEqDiff]
        simp only [List.length_append] at ih
        exact ih

/-- all safe moves -/
def mvsFrom (x a b s : Int) (ls : List Ld) : Nat → Nat → List Ld
  | 0, _ => []
  | k + 1, i => selM x a b ls i [wr (plOf ls i - s), wr (plOf ls i + s)] ++ mvsFrom x a b s ls k (i + 1)

theorem selM_le (x a b : Int) (ls : List Ld) (i : Nat) (ps : List Int) : (selM x a b ls i ps).length ≤ ps.length := by
  unfold selM
  rw [List.length_map]
  exact List.length_filter_le _ _

theorem plOf_putL : ∀ (ls : List Ld) (ss : List Int) (i : Nat) (p : Int), i < ls.length → ss[i]? = some p → plOf (putL ls ss) i = p
  | [], ss, i, p, hi, hp => by simp at hi
  | l :: ls, [], i, p, hi, hp => by simp at hp
  | l :: ls, s :: ss, 0, p, hi, hp => by simp at hp; subst hp; rfl
  | l :: ls, s :: ss, i + 1, p, hi, hp => plOf_putL ls ss i p (by simpa using hi) (by simpa using hp)

theorem loop_i_moves_2 {q u sb : Nat} {c : Option Nat} {ls : List Ld} {x a b s s0 s1 s2 : Int} {y0 y1 y4 : AV} (h : cellsAt H q = some (encL ls)) (hn : ls.length ≤ 3) (hu : cellsAt H u = some [.int .i64 x, .int .i64 a, .int .i64 b, slL q ls.length c, .int .i64 s]) (hs : cellsAt H sb = some [.int .i64 s0, .int .i64 s1, .int .i64 s2]) :
    ∀ (k i : Nat) (o : List Ld) (jb : Nat) (cap : Option Nat) (G : List Blk) (y6 y7 y8 y11 y12 y13 y14 y15 : AV), k + i = ls.length → o.length + k * 2 ≤ 100 → G[jb]? = some (.cells (encL o) true) → (cap = some 0 → o = []) →
      ∃ (jb' : Nat) (cap' : Option Nat) (G' : List Blk) (z6 z7 z8 z11 z12 z13 z14 z15 : AV), G'[jb']? = some (.cells (encL (o ++ mvsFrom x a b s (putL ls [s0, s1, s2]) k i)) true) ∧
      run T pr (.loop w_i_Party_moves_2) ⟨[y0, y1, .ptr (some (u, 0)), .ptr (some (sb, 0)), y4, slL (H.length + jb) o.length cap, y6, y7, y8, .int .i64 ls.length, .int .i64 i, y11, y12, y13, y14, y15], ⟨H ++ G, e⟩⟩ =
        some (Ex.exit 0, ⟨[y0, y1, .ptr (some (u, 0)), .ptr (some (sb, 0)), y4, slL (H.length + jb') (o ++ mvsFrom x a b s (putL ls [s0, s1, s2]) k i).length cap', z6, z7, z8, .int .i64 ls.length, .int .i64 ls.length, z11, z12, z13, z14, z15], ⟨H ++ G', e⟩⟩)
  | 0, i, o, jb, cap, G, y6, y7, y8, y11, y12, y13, y14, y15, hk, ho, hG, hcap => by
    obtain rfl : i = ls.length := by omega
    refine ⟨jb, cap, G, y6, y7, y8, .bool false, y12, y13, y14, y15, by simpa [mvsFrom] using hG, ?_⟩
    rw [run_loop, mvsFrom, List.append_nil]
    generalize run T pr (.loop w_i_Party_moves_2) = R
    simp +contextual only [w_i_Party_moves_2, Nat.lt_irrefl, decide_false, go_sem, entry, joinEsc, if_pos, reduceIte, Nat.reduceAdd, Nat.reduceLeDiff, Nat.reduceLT, Nat.reduceEqDiff]
  | k + 1, i, o, jb, cap, G, y6, y7, y8, y11, y12, y13, y14, y15, hk, ho, hG, hcap => by
    have hi : i < ls.length := by omega
    have hi3 : i < 3 := by omega
    have hsi : [s0, s1, s2][i]? = some (plOf (putL ls [s0, s1, s2]) i) := by
      have h1 : [s0, s1, s2][i]? = some ([s0, s1, s2][i]'hi3) := List.getElem?_eq_getElem hi3
      rw [plOf_putL ls _ i _ hi h1, h1]
    have hpart : part false [AV.int .i64 s0, AV.int .i64 s1, AV.int .i64 s2] i 1 = some (.int .i64 (plOf (putL ls [s0, s1, s2]) i)) := part_encI 1 hsi
    obtain ⟨jb1, cap1, G1, w7, w8, w14, w15, g1, g2, hl⟩ := loop_i_moves_1 (pr := pr) (e := e) (n := ls.length) (y0 := y0) (y1 := y1) (y4 := y4) (y9 := .int .i64 ls.length) (y10 := .int .i64 i) (y11 := .bool true) (p0 := wr (plOf (putL ls [s0, s1, s2]) i - s)) (p1 := wr (plOf (putL ls [s0, s1, s2]) i + s)) h hn hi hu hs 2 0 o jb cap G y7 y8 y14 y15 rfl (by omega) hG hcap
    rw [List.drop_zero] at g1 g2 hl
    have hsel := selM_le x a b (putL ls [s0, s1, s2]) i [wr (plOf (putL ls [s0, s1, s2]) i - s), wr (plOf (putL ls [s0, s1, s2]) i + s)]
    simp only [List.length_cons, List.length_nil, Nat.zero_add] at hsel
    obtain ⟨jb', cap', G', z6, z7, z8, z11, z12, z13, z14, z15, h1, ih⟩ := loop_i_moves_2 (y0 := y0) (y1 := y1) (y4 := y4) h hn hu hs k (i + 1) (o ++ selM x a b (putL ls [s0, s1, s2]) i [wr (plOf (putL ls [s0, s1, s2]) i - s), wr (plOf (putL ls [s0, s1, s2]) i + s)]) jb1 cap1 G1 (.int .i64 i) w7 w8 (.bool true) (.agg [.int .i64 (wr (plOf (putL ls [s0, s1, s2]) i - s)), .int .i64 (wr (plOf (putL ls [s0, s1, s2]) i + s))]) (.int .i64 (2 : Nat)) w14 w15 (by omega) (by rw [List.length_append]; omega) g1 g2
    rw [List.append_assoc] at h1 ih
    refine ⟨jb', cap', G', z6, z7, z8, z11, z12, z13, z14, z15, h1, ?_⟩
    have h0 : ((0 : Nat) : Int) = 0 := rfl
    rw [run_loop, mvsFrom]
    unfold wr at *
    rw [h0] at hl
    generalize run T pr (.loop w_i_Party_moves_2) = R at ih ⊢
    generalize selM x a b (putL ls [s0, s1, s2]) i [IntKind.i64.wrap (plOf (putL ls [s0, s1, s2]) i - s), IntKind.i64.wrap (plOf (putL ls [s0, s1, s2]) i + s)] = sel at *
    generalize mvsFrom x a b s (putL ls [s0, s1, s2]) k (i + 1) = rest at *
    simp +contextual only [w_i_Party_moves_2, fillParts, hi, hi3, hpart, cells_mono hu, cells_mono hs, hl, wrap_succ (show i < 9223372036854775807 by omega), decide_true, decide_false, go_sem, entry, joinEsc, if_pos, reduceIte, Nat.reduceAdd, Nat.reduceLeDiff, Nat.reduceLT, Nat.reduceEqDiff]
    simp only [List.length_append] at ih
    exact ih

/-- how a party's places are bounded -/
def plB (ls : List Ld) : Prop := ∀ i, i < ls.length → 0 ≤ plOf ls i ∧ plOf ls i ≤ 60

theorem safe_ok {x a b s : Int} {ls : List Ld} {i : Nat} (hi : i < ls.length) (hpl : plB ls) (hs : 1 ≤ s ∧ s ≤ 4) {p : Int} (hp : p = wr (plOf ls i - s) ∨ p = wr (plOf ls i + s)) : safeMv x a b ls s i p = okMv x a b ls i p := by
  obtain ⟨h1, h2⟩ := hpl i hi
  have w1 : wr (plOf ls i - s) = plOf ls i - s := wrap64 (by omega) (by omega)
  have w2 : wr (plOf ls i + s) = plOf ls i + s := wrap64 (by omega) (by omega)
  have w3 : wr (0 - s) = - s := by show IntKind.i64.wrap (0 - s) = - s; rw [wrap64 (by omega) (by omega)]; omega
  have w4 : wr (p - plOf ls i) = p - plOf ls i := wrap64 (by omega) (by omega)
  have hr : (decide (0 ≤ (i : Int)) && decide ((i : Int) ≤ (ls.length : Int) - 1)) = true := by simp; omega
  unfold safeMv okMv
  rw [hr, Int.toNat_natCast, w3, w4, Bool.true_and]
  have : (decide (p - plOf ls i = s) || decide (p - plOf ls i = -s)) = true := by
    rw [w1, w2] at hp
    simp
    omega
  rw [this, Bool.true_and]

theorem loop_s_moves_1 {q u i : Nat} {c : Option Nat} {ls : List Ld} {x a b s : Int} {y0 y2 y7 : AV} (h : cellsAt H q = some (encL ls)) (hn : ls.length ≤ 3) (hi : i < ls.length) (hpl : plB ls) (hsb : 1 ≤ s ∧ s ≤ 4) (hu : cellsAt H u = some [.int .i64 x, .int .i64 a, .int .i64 b, slL q ls.length c, .int .i64 s]) :
    ∀ (k j : Nat) (o : List Ld) (jb : Nat) (cap : Option Nat) (G : List Blk) (y6 y8 y9 : AV), k + j = 2 → o.length + k ≤ 1000 → G[jb]? = some (.cells (encL o) true) → (cap = some 0 → o = []) →
      ∃ (jb' : Nat) (cap' : Option Nat) (G' : List Blk) (z5 z6 z8 z9 : AV), G'[jb']? = some (.cells (encL (o ++ selM x a b ls i ([wr (plOf ls i - s), wr (plOf ls i + s)].drop j))) true) ∧ (cap' = some 0 → o ++ selM x a b ls i ([wr (plOf ls i - s), wr (plOf ls i + s)].drop j) = []) ∧
      run T pr (.loop w_s_l11Moves_1) ⟨[y0, .ptr (some (u, 0)), y2, slL (H.length + jb) o.length cap, .int .i64 i, .int .i64 (2 * (j : Int) - 1), y6, y7, y8, y9], ⟨H ++ G, e⟩⟩ =
        some (Ex.exit 2, ⟨[y0, .ptr (some (u, 0)), y2, slL (H.length + jb') (o ++ selM x a b ls i ([wr (plOf ls i - s), wr (plOf ls i + s)].drop j)).length cap', .int .i64 i, z5, z6, y7, z8, z9], ⟨H ++ G', e⟩⟩)
  | 0, j, o, jb, cap, G, y6, y8, y9, hk, ho, hG, hcap => by
    obtain rfl : j = 2 := by omega
    have h0 : o ++ selM x a b ls i ([wr (plOf ls i - s), wr (plOf ls i + s)].drop 2) = o := by simp [selM]
    rw [h0]
    refine ⟨jb, cap, G, .int .i64 3, y6, .bool false, y9, hG, hcap, ?_⟩
    have h3 : 2 * ((2 : Nat) : Int) - 1 = 3 := rfl
    rw [run_loop, h3]
    generalize run T pr (.loop w_s_l11Moves_1) = R
    have h2 : ¬ (3 : Int) < 2 := by omega
    simp +contextual only [w_s_l11Moves_1, h2, decide_false, go_sem, entry, joinEsc, if_pos, reduceIte, Nat.reduceAdd, Nat.reduceLeDiff, Nat.reduceLT, Nat.reduceEqDiff]
  | k + 1, j, o, jb, cap, G, y6, y8, y9, hk, ho, hG, hcap => by
    have hj : j < 2 := by omega
    have hj2 : 2 * (j : Int) - 1 < 2 := by omega
    have hl : ls[i]? = some ls[i] := List.getElem?_eq_getElem hi
    have hp : plOf ls i = ls[i].1 := by unfold plOf; rw [hl]; rfl
    obtain ⟨p, hdrop, hpp, hpor⟩ : ∃ p, [wr (plOf ls i - s), wr (plOf ls i + s)].drop j = p :: [wr (plOf ls i - s), wr (plOf ls i + s)].drop (j + 1) ∧ IntKind.i64.wrap (ls[i].1 + IntKind.i64.wrap ((2 * (j : Int) - 1) * s)) = p ∧ (p = wr (plOf ls i - s) ∨ p = wr (plOf ls i + s)) := by
      rw [← hp]
      match j, hj with
      | 0, _ =>
        refine ⟨_, rfl, ?_, .inl rfl⟩
        have e1 : IntKind.i64.wrap ((2 * ((0 : Nat) : Int) - 1) * s) = -s := by
          rw [show (2 * ((0 : Nat) : Int) - 1) * s = -s by simp]
          exact wrap64 (by omega) (by omega)
        rw [e1]
        rfl
      | 1, _ =>
        refine ⟨_, rfl, ?_, .inr rfl⟩
        have e1 : IntKind.i64.wrap ((2 * ((1 : Nat) : Int) - 1) * s) = s := by
          rw [show (2 * ((1 : Nat) : Int) - 1) * s = s by simp]
          exact wrap64 (by omega) (by omega)
        rw [e1]
    have hsafe := fun G' => e_s_l11Safe (pr := pr) (e := e) (c := c) (cells_mono h G') hn x a b s i p
    rw [safe_ok hi hpl hsb hpor] at hsafe
    have hmb : (o.length + 1) * 16 ≤ maxBytes := by unfold maxBytes; omega
    have hw3 : IntKind.i64.wrap (2 * (j : Int) - 1 + 2) = 2 * ((j + 1 : Nat) : Int) - 1 := by rw [wrap64 (by omega) (by omega)]; omega
    rw [run_loop, hdrop, selM_cons]
    by_cases hok : okMv x a b ls i p = true
    · rw [if_pos hok]
      rw [hok] at hsafe
      obtain ⟨jb', cap', G', z5, z6, z8, z9, h1, h2, ih⟩ := loop_s_moves_1 (y0 := y0) (y2 := y2) (y7 := y7) h hn hi hpl hsb hu k (j + 1) (o ++ [((i : Int), p)]) (G.length + 2) none
        (killIf cap jb (G ++ [.cells [.int .i64 i, .int .i64 p] true, .cells [.int .i64 i, .int .i64 p] true]) ++ [.cells (encL (o ++ [((i : Int), p)])) true]) (.ptr (some (H.length + G.length, 0))) (.bool true) (.bool true) (by omega) (by simp; omega) (by
          rw [List.getElem?_append_right (by simp [killIf_length])]; simp [killIf_length]) (by simp)
      rw [List.append_assoc, List.singleton_append] at h1 ih h2
      refine ⟨jb', cap', G', z5, z6, z8, z9, h1, h2, ?_⟩
      generalize run T pr (.loop w_s_l11Moves_1) = R at ih ⊢
      simp +contextual only [w_s_l11Moves_1, fillParts, hj2, hi, hl, part_encL0 _ hl, hpp, hw3, cells_mono h, cells_mono hu, hsafe, cells_end, set_end, append_ld2 hG hcap hmb, decide_true, decide_false, go_sem, entry, joinEsc, if_pos, reduceIte, Nat.reduceAdd, Nat.reduceLeDiff, Nat.reduceLT, Nat.reduceEqDiff]
      simp only [List.length_append, List.length_cons, List.length_nil, Nat.zero_add, encL_append, encL] at ih
      exact ih
    · rw [if_neg hok]
      have hfalse : okMv x a b ls i p = false := by simpa using hok
      rw [hfalse] at hsafe
      obtain ⟨jb', cap', G', z5, z6, z8, z9, h1, h2, ih⟩ := loop_s_moves_1 (y0 := y0) (y2 := y2) (y7 := y7) h hn hi hpl hsb hu k (j + 1) o jb cap
        (G ++ [.cells [.int .i64 i, .int .i64 p] true]) (.ptr (some (H.length + G.length, 0))) (.bool true) (.bool false) (by omega) (by omega) (by
          rw [List.getElem?_append_left (List.getElem?_eq_some_iff.mp hG).1]; exact hG) hcap
      refine ⟨jb', cap', G', z5, z6, z8, z9, h1, h2, ?_⟩
      generalize run T pr (.loop w_s_l11Moves_1) = R at ih ⊢
      simp +contextual only [w_s_l11Moves_1, fillParts, hj2, hi, hl, part_encL0 _ hl, hpp, hw3, cells_mono h, cells_mono hu, hsafe, cells_end, set_end, decide_true, decide_false, go_sem, entry, joinEsc, if_pos, reduceIte, Nat.reduceAdd, Nat.reduceLeDiff, Nat.reduceLT, Nat.reduceEqDiff]
      simp only [List.length_append] at ih
      exact ih

theorem loop_s_moves_2 {q u : Nat} {c : Option Nat} {ls : List Ld} {x a b s : Int} {y0 y2 : AV} (h : cellsAt H q = some (encL ls)) (hn : ls.length ≤ 3) (hpl : plB ls) (hsb : 1 ≤ s ∧ s ≤ 4) (hu : cellsAt H u = some [.int .i64 x, .int .i64 a, .int .i64 b, slL q ls.length c, .int .i64 s]) :
    ∀ (k i : Nat) (o : List Ld) (jb : Nat) (cap : Option Nat) (G : List Blk) (y5 y6 y7 y8 y9 : AV), k + i = ls.length → o.length + k * 2 ≤ 100 → G[jb]? = some (.cells (encL o) true) → (cap = some 0 → o = []) →
      ∃ (jb' : Nat) (cap' : Option Nat) (G' : List Blk) (z5 z6 z7 z8 z9 : AV), G'[jb']? = some (.cells (encL (o ++ mvsFrom x a b s ls k i)) true) ∧
      run T pr (.loop w_s_l11Moves_2) ⟨[y0, .ptr (some (u, 0)), y2, slL (H.length + jb) o.length cap, .int .i64 i, y5, y6, y7, y8, y9], ⟨H ++ G, e⟩⟩ =
        some (Ex.exit 0, ⟨[y0, .ptr (some (u, 0)), y2, slL (H.length + jb') (o ++ mvsFrom x a b s ls k i).length cap', .int .i64 ls.length, z5, z6, z7, z8, z9], ⟨H ++ G', e⟩⟩)
  | 0, i, o, jb, cap, G, y5, y6, y7, y8, y9, hk, ho, hG, hcap => by
    obtain rfl : i = ls.length := by omega
    refine ⟨jb, cap, G, y5, y6, .bool false, y8, y9, by simpa [mvsFrom] using hG, ?_⟩
    rw [run_loop, mvsFrom, List.append_nil]
    generalize run T pr (.loop w_s_l11Moves_2) = R
    simp +contextual only [w_s_l11Moves_2, cells_mono hu, Nat.lt_irrefl, decide_false, go_sem, entry, joinEsc, if_pos, reduceIte, Nat.reduceAdd, Nat.reduceLeDiff, Nat.reduceLT, Nat.reduceEqDiff]
  | k + 1, i, o, jb, cap, G, y5, y6, y7, y8, y9, hk, ho, hG, hcap => by
    have hi : i < ls.length := by omega
    obtain ⟨jb1, cap1, G1, w5, w6, w8, w9, g1, g2, hl⟩ := loop_s_moves_1 (pr := pr) (e := e) (y0 := y0) (y2 := y2) (y7 := .bool true) h hn hi hpl hsb hu 2 0 o jb cap G y6 y8 y9 rfl (by omega) hG hcap
    rw [List.drop_zero] at g1 g2 hl
    have hsel := selM_le x a b ls i [wr (plOf ls i - s), wr (plOf ls i + s)]
    simp only [List.length_cons, List.length_nil, Nat.zero_add] at hsel
    obtain ⟨jb', cap', G', z5, z6, z7, z8, z9, h1, ih⟩ := loop_s_moves_2 (y0 := y0) (y2 := y2) h hn hpl hsb hu k (i + 1) (o ++ selM x a b ls i [wr (plOf ls i - s), wr (plOf ls i + s)]) jb1 cap1 G1 w5 w6 (.bool true) w8 w9 (by omega) (by rw [List.length_append]; omega) g1 g2
    rw [List.append_assoc] at h1 ih
    refine ⟨jb', cap', G', z5, z6, z7, z8, z9, h1, ?_⟩
    have h0 : 2 * ((0 : Nat) : Int) - 1 = -1 := rfl
    rw [run_loop, mvsFrom]
    rw [h0] at hl
    generalize run T pr (.loop w_s_l11Moves_2) = R at ih ⊢
    generalize selM x a b ls i [wr (plOf ls i - s), wr (plOf ls i + s)] = sel at *
    generalize mvsFrom x a b s ls k (i + 1) = rest at *
    simp +contextual only [w_s_l11Moves_2, hi, cells_mono hu, hl, wrap_succ (show i < 9223372036854775807 by omega), decide_true, decide_false, go_sem, entry, joinEsc, if_pos, reduceIte, Nat.reduceAdd, Nat.reduceLeDiff, Nat.reduceLT, Nat.reduceEqDiff]
    simp only [List.length_append] at ih
    exact ih

end Go.Proofs.Ythkgpblohjpcdaa.Slim

/- Moves as a law handles them: pairs and slices of pairs. -/
namespace Go.Proofs.Ythkgpblohjpcdaa.Slim

open Go

set_option linter.unusedSimpArgs false

set_option linter.unusedVariables false

variable {pr : Prims} {H : List Blk} {e : Option Nat}

theorem w01 : IntKind.i64.wrap (0 + 1) = 1 := by decide

theorem w11 : IntKind.i64.wrap (1 + 1) = 2 := by decide

theorem l02 : ((0 : Int) < 2) = True := by simp

theorem l12 : ((1 : Int) < 2) = True := by simp

theorem l22 : ((2 : Int) < 2) = False := by simp

abbrev prV (x a : Int) : AV := .agg [.int .i64 x, .int .i64 a]

theorem e_l_eqIntA2 (x a y b : Int) : call T pr f_l_eqIntA2 [prV x a, prV y b] ⟨H, e⟩ = some (.bool (decide (x = y) && decide (a = b)), ⟨H, e⟩) := by
  have hs : ∀ L b1 b2 y0 y1 y6 y7 e', cellsAt L b1 = some [.int .i64 x, .int .i64 a] → cellsAt L b2 = some [.int .i64 y, .int .i64 b] → ∃ z5 z6 z7, run T pr (.loop w_l_eqIntA2_1) ⟨[y0, y1, .ptr (some (b1, 0)), .ptr (some (b2, 0)), .bool false, .int .i64 0, y6, y7], ⟨L, e'⟩⟩ =
      some (if (decide (x = y) && decide (a = b)) = true then Ex.exit 0 else Ex.ret, ⟨[y0, y1, .ptr (some (b1, 0)), .ptr (some (b2, 0)), .bool false, z5, z6, z7], ⟨L, e'⟩⟩) := by
    intro L b1 b2 y0 y1 y6 y7 e' h1 h2
    by_cases hx : x = y
    · have s1 : run T pr (.loop w_l_eqIntA2_1) ⟨[y0, y1, .ptr (some (b1, 0)), .ptr (some (b2, 0)), .bool false, .int .i64 0, y6, y7], ⟨L, e'⟩⟩ = run T pr (.loop w_l_eqIntA2_1) ⟨[y0, y1, .ptr (some (b1, 0)), .ptr (some (b2, 0)), .bool false, .int .i64 1, .bool true, .bool false], ⟨L, e'⟩⟩ := by
        rw [run_loop]
        generalize run T pr (.loop w_l_eqIntA2_1) = R
        simp +contextual only [w_l_eqIntA2_1, h1, h2, hx, at02, at12, toNat0, toNat1, w01, l02, not_true_eq_false, decide_false, decide_true, go_sem, entry, joinEsc, if_pos, reduceIte, Nat.reduceAdd, Nat.reduceLeDiff, Nat.reduceLT, Nat.reduceEqDiff]
      rw [s1]
      by_cases ha : a = b
      · have s2 : run T pr (.loop w_l_eqIntA2_1) ⟨[y0, y1, .ptr (some (b1, 0)), .ptr (some (b2, 0)), .bool false, .int .i64 1, .bool true, .bool false], ⟨L, e'⟩⟩ = run T pr (.loop w_l_eqIntA2_1) ⟨[y0, y1, .ptr (some (b1, 0)), .ptr (some (b2, 0)), .bool false, .int .i64 2, .bool true, .bool false], ⟨L, e'⟩⟩ := by
          rw [run_loop]
          generalize run T pr (.loop w_l_eqIntA2_1) = R
          simp +contextual only [w_l_eqIntA2_1, h1, h2, ha, at02, at12, toNat0, toNat1, w11, l12, not_true_eq_false, decide_false, decide_true, go_sem, entry, joinEsc, if_pos, reduceIte, Nat.reduceAdd, Nat.reduceLeDiff, Nat.reduceLT, Nat.reduceEqDiff]
        rw [s2]
        refine ⟨.int .i64 2, .bool false, .bool false, ?_⟩
        rw [run_loop]
        generalize run T pr (.loop w_l_eqIntA2_1) = R
        simp +contextual only [w_l_eqIntA2_1, hx, ha, l22, decide_false, decide_true, go_sem, entry, joinEsc, if_pos, reduceIte, Nat.reduceAdd, Nat.reduceLeDiff, Nat.reduceLT, Nat.reduceEqDiff]
      · refine ⟨.int .i64 1, .bool true, .bool true, ?_⟩
        rw [run_loop]
        generalize run T pr (.loop w_l_eqIntA2_1) = R
        simp +contextual only [w_l_eqIntA2_1, h1, h2, ha, hx, at02, at12, toNat0, toNat1, w11, l12, not_false_eq_true, decide_false, decide_true, go_sem, entry, joinEsc, if_pos, reduceIte, Nat.reduceAdd, Nat.reduceLeDiff, Nat.reduceLT, Nat.reduceEqDiff]
    · refine ⟨.int .i64 0, .bool true, .bool true, ?_⟩
      rw [run_loop]
      generalize run T pr (.loop w_l_eqIntA2_1) = R
      simp +contextual only [w_l_eqIntA2_1, h1, h2, hx, at02, at12, toNat0, toNat1, w11, l02, not_false_eq_true, decide_false, decide_true, go_sem, entry, joinEsc, if_pos, reduceIte, Nat.reduceAdd, Nat.reduceLeDiff, Nat.reduceLT, Nat.reduceEqDiff]
  obtain ⟨z5, z6, z7, hl⟩ := hs (H ++ [.cells [.int .i64 x, .int .i64 a] true, .cells [.int .i64 y, .int .i64 b] true]) H.length (H.length + 1) (prV x a) (prV y b) .undef .undef none (by rw [cellsAt_new0]; rfl) (by rw [cellsAt_newk]; rfl)
  rw [call_eq t_l_eqIntA2]
  cases hc : (decide (x = y) && decide (a = b)) <;> rw [hc] at hl <;> simp +contextual only [a_l_eqIntA2, c_l_eqIntA2, hl, go_sem, entry, joinEsc, if_pos, reduceIte, Nat.reduceAdd, Nat.reduceLeDiff, Nat.reduceLT, Nat.reduceEqDiff]

theorem e_l_toIntA2 (x a : Int) : call T pr f_l_toIntA2 [prV x a] ⟨H, e⟩ = some (prV x a, ⟨H, e⟩) := by
  have s0 : run T pr (.loop w_l_toIntA2_1) ⟨[prV x a, .ptr (some (H.length, 0)), .ptr (some (H.length + 1, 0)), .ptr (some (H.length + 2, 0)), .int .i64 0, .undef], ⟨H ++ [.cells [.int .i64 x, .int .i64 a] true, .cells [.int .i64 0, .int .i64 0] true, .cells [.int .i64 0, .int .i64 0] true], none⟩⟩ =
      run T pr (.loop w_l_toIntA2_1) ⟨[prV x a, .ptr (some (H.length, 0)), .ptr (some (H.length + 1, 0)), .ptr (some (H.length + 2, 0)), .int .i64 1, .bool true], ⟨H ++ [.cells [.int .i64 x, .int .i64 a] true, .cells [.int .i64 0, .int .i64 0] true, .cells [.int .i64 x, .int .i64 0] true], none⟩⟩ := by
    rw [run_loop]
    generalize run T pr (.loop w_l_toIntA2_1) = R
    simp +contextual only [w_l_toIntA2_1, at02, at12, toNat0, toNat1, w01, l02, decide_true, go_sem, entry, joinEsc, if_pos, reduceIte, Nat.reduceAdd, Nat.reduceLeDiff, Nat.reduceLT, Nat.reduceEqDiff]
  have s1 : run T pr (.loop w_l_toIntA2_1) ⟨[prV x a, .ptr (some (H.length, 0)), .ptr (some (H.length + 1, 0)), .ptr (some (H.length + 2, 0)), .int .i64 1, .bool true], ⟨H ++ [.cells [.int .i64 x, .int .i64 a] true, .cells [.int .i64 0, .int .i64 0] true, .cells [.int .i64 x, .int .i64 0] true], none⟩⟩ =
      run T pr (.loop w_l_toIntA2_1) ⟨[prV x a, .ptr (some (H.length, 0)), .ptr (some (H.length + 1, 0)), .ptr (some (H.length + 2, 0)), .int .i64 2, .bool true], ⟨H ++ [.cells [.int .i64 x, .int .i64 a] true, .cells [.int .i64 0, .int .i64 0] true, .cells [.int .i64 x, .int .i64 a] true], none⟩⟩ := by
    rw [run_loop]
    generalize run T pr (.loop w_l_toIntA2_1) = R
    simp +contextual only [w_l_toIntA2_1, at02, at12, toNat0, toNat1, w11, l12, decide_true, go_sem, entry, joinEsc, if_pos, reduceIte, Nat.reduceAdd, Nat.reduceLeDiff, Nat.reduceLT, Nat.reduceEqDiff]
  have s2 : run T pr (.loop w_l_toIntA2_1) ⟨[prV x a, .ptr (some (H.length, 0)), .ptr (some (H.length + 1, 0)), .ptr (some (H.length + 2, 0)), .int .i64 2, .bool true], ⟨H ++ [.cells [.int .i64 x, .int .i64 a] true, .cells [.int .i64 0, .int .i64 0] true, .cells [.int .i64 x, .int .i64 a] true], none⟩⟩ =
      some (Ex.exit 0, ⟨[prV x a, .ptr (some (H.length, 0)), .ptr (some (H.length + 1, 0)), .ptr (some (H.length + 2, 0)), .int .i64 2, .bool false], ⟨H ++ [.cells [.int .i64 x, .int .i64 a] true, .cells [.int .i64 0, .int .i64 0] true, .cells [.int .i64 x, .int .i64 a] true], none⟩⟩) := by
    rw [run_loop]
    generalize run T pr (.loop w_l_toIntA2_1) = R
    simp +contextual only [w_l_toIntA2_1, l22, decide_false, go_sem, entry, joinEsc, if_pos, reduceIte, Nat.reduceAdd, Nat.reduceLeDiff, Nat.reduceLT, Nat.reduceEqDiff]
  rw [s1, s2] at s0
  rw [call_eq t_l_toIntA2]
  simp +contextual only [a_l_toIntA2, c_l_toIntA2, s0, go_sem, entry, joinEsc, if_pos, reduceIte, Nat.reduceAdd, Nat.reduceLeDiff, Nat.reduceLT, Nat.reduceEqDiff]

theorem e_l_szIntA2S (n : Nat) (p : Option (Nat × Nat)) (sz : Nat) (c : Option Nat) (hn : n ≤ maxLen) (k : Nat) (hk : k ≤ 1048576) : call T pr f_l_szIntA2S [.slice p sz n c, .int .i64 k] ⟨H, e⟩ = some (.int .i64 (if n ≤ k then (k : Int) - n else -1), ⟨H, e⟩) := by
  rw [call_eq t_l_szIntA2S]
  have hm : maxLen = 9223372036854775807 := by decide
  simp +contextual only [a_l_szIntA2S, c_l_szIntA2S, go_sem, entry, joinEsc, if_pos, reduceIte, Nat.reduceAdd, Nat.reduceLeDiff, Nat.reduceLT, Nat.reduceEqDiff]
  rw [wrap64 (by omega) (by omega)]
  by_cases h1 : n ≤ k
  · rw [if_neg (by omega), if_pos h1]
  · rw [if_pos (by omega), if_neg h1]

theorem loop_l_toIntA2S {p : Option (Nat × Nat)} {sz : Nat} {c : Option Nat} {ls : List Ld} {r : AV} (ha : ls ≠ [] → sz = 2 ∧ ∃ b, p = some (b, 0) ∧ cellsAt H b = some (encL ls)) (hn : ls.length ≤ 1048576) :
    ∀ (k i : Nat) (X : List Ld) (y4 : AV), k + i = ls.length → X.length = ls.length → X.take i = ls.take i → ∃ z4, run T pr (.loop w_l_toIntA2S_1) ⟨[.slice p sz ls.length c, r, slL H.length ls.length (some ls.length), .int .i64 i, y4], ⟨H ++ [.cells (encL X) true], e⟩⟩ =
      some (Ex.exit 0, ⟨[.slice p sz ls.length c, r, slL H.length ls.length (some ls.length), .int .i64 ls.length, z4], ⟨H ++ [.cells (encL ls) true], e⟩⟩)
  | 0, i, X, y4, hk, hX, ht => by
    have hi : i = ls.length := by omega
    subst hi
    rw [List.take_of_length_le (by omega), List.take_of_length_le (by omega)] at ht
    subst ht
    refine ⟨.bool false, ?_⟩
    rw [run_loop]
    generalize run T pr (.loop w_l_toIntA2S_1) = R
    simp +contextual only [w_l_toIntA2S_1, Nat.lt_irrefl, decide_false, go_sem, entry, joinEsc, if_pos, reduceIte, Nat.reduceAdd, Nat.reduceLeDiff, Nat.reduceLT, Nat.reduceEqDiff]
  | k + 1, i, X, y4, hk, hX, ht => by
    have hi : i < ls.length := by omega
    obtain ⟨rfl, b, rfl, hb⟩ := ha (fun h => by rw [h] at hi; simp at hi)
    have hl : ls[i]? = some ls[i] := List.getElem?_eq_getElem hi
    obtain ⟨z4, ih⟩ := loop_l_toIntA2S (c := c) (r := r) ha hn k (i + 1) (X.set i ls[i]) (.bool true) (by omega) (by simpa using hX) (take_set_succ hi hX ht)
    refine ⟨z4, ?_⟩
    rw [run_loop]
    generalize run T pr (.loop w_l_toIntA2S_1) = R at ih ⊢
    have hle : i * 2 + 2 ≤ (encL X).length := by rw [encL_length]; omega
    simp +contextual only [w_l_toIntA2S_1, cells_mono hb, hi, hl, part_encL hl, e_l_toIntA2, hle, setRange_encL (show i < X.length by omega), wrap_succ (show i < 9223372036854775807 by omega), decide_true, go_sem, entry, joinEsc, if_pos, reduceIte, Nat.reduceAdd, Nat.reduceLeDiff, Nat.reduceLT, Nat.reduceEqDiff]
    exact ih

theorem e_l_toIntA2S {av : AV} {ls : List Ld} (ha : ArgL H av ls) (hn : ls.length ≤ 1048576) : call T pr f_l_toIntA2S [av] ⟨H, e⟩ = some (slL H.length ls.length (some ls.length), ⟨H ++ [.cells (encL ls) true], e⟩) := by
  obtain ⟨p, sz, c, rfl, _, ha⟩ := ha
  obtain ⟨z4, hl⟩ := loop_l_toIntA2S (pr := pr) (e := none) (c := c) (r := .slice none 0 0 none) ha hn ls.length 0 (List.replicate ls.length (0, 0)) .undef (by omega) (by simp) (by simp)
  rw [call_eq t_l_toIntA2S]
  have h0 : ((0 : Nat) : Int) = 0 := rfl
  have hmb : (ls.length : Int) * ((16 : Nat) : Int) ≤ ((maxBytes : Nat) : Int) := by unfold maxBytes; omega
  rw [h0, ← zeros_encL] at hl
  simp +contextual only [a_l_toIntA2S, c_l_toIntA2S, hmb, hl, under_encL, go_sem, entry, joinEsc, if_pos, reduceIte, Nat.reduceAdd, Nat.reduceLeDiff, Nat.reduceLT, Nat.reduceEqDiff]

theorem loop_l_eqIntA2S {b1 b2 : Nat} {c1 c2 : Option Nat} {ls : List Ld} {y4 : AV} (h1 : cellsAt H b1 = some (encL ls)) (h2 : cellsAt H b2 = some (encL ls)) (hn : ls.length ≤ 9223372036854775806) :
    ∀ (k i : Nat) (x5 x6 : AV), k + i = ls.length → ∃ y5 y6, run T pr (.loop w_l_eqIntA2S_1) ⟨[slL b1 ls.length c1, slL b2 ls.length c2, .bool false, .int .i64 i, y4, x5, x6], ⟨H, e⟩⟩ =
      some (.exit 0, ⟨[slL b1 ls.length c1, slL b2 ls.length c2, .bool false, .int .i64 ls.length, y4, y5, y6], ⟨H, e⟩⟩)
  | 0, i, x5, x6, hk => by
    have hi : i = ls.length := by omega
    subst hi
    refine ⟨.bool false, x6, ?_⟩
    rw [run_loop]
    generalize run T pr (.loop w_l_eqIntA2S_1) = R
    simp +contextual only [w_l_eqIntA2S_1, Nat.lt_irrefl, decide_false, go_sem, entry, joinEsc, if_pos, reduceIte, Nat.reduceAdd, Nat.reduceLeDiff, Nat.reduceLT, Nat.reduceEqDiff]
  | k + 1, i, x5, x6, hk => by
    have hi : i < ls.length := by omega
    obtain ⟨y5, y6, ih⟩ := loop_l_eqIntA2S (c1 := c1) (c2 := c2) (y4 := y4) h1 h2 hn k (i + 1) (.bool true) (.bool false) (by omega)
    refine ⟨y5, y6, ?_⟩
    rw [run_loop]
    generalize run T pr (.loop w_l_eqIntA2S_1) = R at ih ⊢
    have hl : ls[i]? = some ls[i] := List.getElem?_eq_getElem hi
    simp +contextual only [w_l_eqIntA2S_1, h1, h2, hi, hl, part_encL hl, e_l_eqIntA2, wrap_succ (show i < 9223372036854775807 by omega), decide_true, Bool.not_true, go_sem, entry, joinEsc, if_pos, reduceIte, Nat.reduceAdd, Nat.reduceLeDiff, Nat.reduceLT, Nat.reduceEqDiff]
    exact ih

theorem e_l_eqIntA2S {b1 b2 : Nat} {c1 c2 : Option Nat} {ls : List Ld} (h1 : cellsAt H b1 = some (encL ls)) (h2 : cellsAt H b2 = some (encL ls)) (hn : ls.length ≤ 9223372036854775806) :
    call T pr f_l_eqIntA2S [slL b1 ls.length c1, slL b2 ls.length c2] ⟨H, e⟩ = some (.bool true, ⟨H, e⟩) := by
  obtain ⟨z5, z6, hl⟩ := loop_l_eqIntA2S (pr := pr) (e := none) (c1 := c1) (c2 := c2) (y4 := .bool false) h1 h2 hn ls.length 0 .undef .undef rfl
  have h0 : ((0 : Nat) : Int) = 0 := rfl
  rw [h0] at hl
  rw [call_eq t_l_eqIntA2S]
  simp +contextual only [a_l_eqIntA2S, c_l_eqIntA2S, hl, decide_true, not_true_eq_false, decide_false, go_sem, entry, joinEsc, if_pos, reduceIte, Nat.reduceAdd, Nat.reduceLeDiff, Nat.reduceLT, Nat.reduceEqDiff]

theorem e_l_eqIntA2S_none {p1 p2 : Option (Nat × Nat)} {s1 s2 : Nat} {c1 c2 : Option Nat} : call T pr f_l_eqIntA2S [.slice p1 s1 0 c1, .slice p2 s2 0 c2] ⟨H, e⟩ = some (.bool true, ⟨H, e⟩) := by
  have h0 : ((0 : Nat) : Int) = 0 := rfl
  rw [call_eq t_l_eqIntA2S]
  have hl : run T pr (.loop w_l_eqIntA2S_1) ⟨[.slice p1 s1 0 c1, .slice p2 s2 0 c2, .bool false, .int .i64 0, .bool false, .undef, .undef], ⟨H, none⟩⟩ = some (.exit 0, ⟨[.slice p1 s1 0 c1, .slice p2 s2 0 c2, .bool false, .int .i64 0, .bool false, .bool false, .undef], ⟨H, none⟩⟩) := by
    rw [run_loop]
    generalize run T pr (.loop w_l_eqIntA2S_1) = R
    simp +contextual only [w_l_eqIntA2S_1, h0, Int.lt_irrefl, decide_false, go_sem, entry, joinEsc, if_pos, reduceIte, Nat.reduceAdd, Nat.reduceLeDiff, Nat.reduceLT, Nat.reduceEqDiff]
  simp +contextual only [a_l_eqIntA2S, c_l_eqIntA2S, hl, h0, decide_true, go_sem, entry, joinEsc, if_pos, reduceIte, Nat.reduceAdd, Nat.reduceLeDiff, Nat.reduceLT, Nat.reduceEqDiff]

theorem loop_l_markIntA2S_1 {L : List Blk} {b n k : Nat} {c : Option Nat} {r y5 y6 : AV} {P R : List Ld} {x : Ld} (hb : b < L.length) (hi : P.length < n) (hk : k ≤ 16777216) :
    run T pr (.loop w_l_markIntA2S_1) ⟨[slL b n c, .int .i64 k, r, .int .i64 P.length, .int .i64 0, y5, y6], ⟨L.set b (.cells (encL (P ++ x :: R)) true), e⟩⟩ =
      some (Ex.exit 2, ⟨[slL b n c, .int .i64 (k + 2 : Nat), r, .int .i64 P.length, .int .i64 2, y5, .bool false], ⟨L.set b (.cells (encL (P ++ ((k : Int), ((k + 1 : Nat) : Int)) :: R)) true), e⟩⟩) := by
  have hg : ∀ y : Ld, (L.set b (.cells (encL (P ++ y :: R)) true))[b]? = some (.cells (encL (P ++ y :: R)) true) := fun y => List.getElem?_set_self hb
  have hle : ∀ y : Ld, P.length * 2 + 1 ≤ (encL (P ++ y :: R)).length := by intro y; rw [encL_length]; simp; omega
  have hle' : ∀ y : Ld, P.length * 2 + 1 + 1 ≤ (encL (P ++ y :: R)).length := by intro y; rw [encL_length]; simp; omega
  have hw1 : IntKind.i64.wrap ((k : Int) + 1) = ((k + 1 : Nat) : Int) := wrap_succ (show k < 9223372036854775807 by omega)
  have hw2 : IntKind.i64.wrap (((k + 1 : Nat) : Int) + 1) = ((k + 2 : Nat) : Int) := wrap_succ (show k + 1 < 9223372036854775807 by omega)
  have s0 : run T pr (.loop w_l_markIntA2S_1) ⟨[slL b n c, .int .i64 k, r, .int .i64 P.length, .int .i64 0, y5, y6], ⟨L.set b (.cells (encL (P ++ x :: R)) true), e⟩⟩ =
      run T pr (.loop w_l_markIntA2S_1) ⟨[slL b n c, .int .i64 (k + 1 : Nat), r, .int .i64 P.length, .int .i64 1, y5, .bool true], ⟨L.set b (.cells (encL (P ++ ((k : Int), x.2) :: R)) true), e⟩⟩ := by
    rw [run_loop]
    generalize run T pr (.loop w_l_markIntA2S_1) = R'
    simp +contextual only [w_l_markIntA2S_1, hi, hg, hle, hle', setRange_midL0, List.set_set, at02, toNat0, w01, l02, hw1, decide_true, go_sem, entry, joinEsc, if_pos, reduceIte, Nat.reduceAdd, Nat.reduceLeDiff, Nat.reduceLT, Nat.reduceEqDiff]
  have s1 : run T pr (.loop w_l_markIntA2S_1) ⟨[slL b n c, .int .i64 (k + 1 : Nat), r, .int .i64 P.length, .int .i64 1, y5, .bool true], ⟨L.set b (.cells (encL (P ++ ((k : Int), x.2) :: R)) true), e⟩⟩ =
      run T pr (.loop w_l_markIntA2S_1) ⟨[slL b n c, .int .i64 (k + 2 : Nat), r, .int .i64 P.length, .int .i64 2, y5, .bool true], ⟨L.set b (.cells (encL (P ++ ((k : Int), ((k + 1 : Nat) : Int)) :: R)) true), e⟩⟩ := by
    rw [run_loop]
    generalize run T pr (.loop w_l_markIntA2S_1) = R'
    simp +contextual only [w_l_markIntA2S_1, hi, hg, hle, hle', setRange_midL1, List.set_set, at12, toNat1, w11, l12, hw2, decide_true, go_sem, entry, joinEsc, if_pos, reduceIte, Nat.reduceAdd, Nat.reduceLeDiff, Nat.reduceLT, Nat.reduceEqDiff]
  rw [s0, s1, run_loop]
  generalize run T pr (.loop w_l_markIntA2S_1) = R'
  simp +contextual only [w_l_markIntA2S_1, l22, decide_false, go_sem, entry, joinEsc, if_pos, reduceIte, Nat.reduceAdd, Nat.reduceLeDiff, Nat.reduceLT, Nat.reduceEqDiff]

theorem loop_l_markIntA2S {L : List Blk} {b n : Nat} {c : Option Nat} {r : AV} (hb : b < L.length) (hn : n ≤ 4194304) :
    ∀ (R P : List Ld) (k : Nat) (y4 y5 y6 : AV), P.length + R.length = n → k + R.length * 2 ≤ 16777216 → ∃ z4 z5 z6, run T pr (.loop w_l_markIntA2S_2) ⟨[slL b n c, .int .i64 k, r, .int .i64 P.length, y4, y5, y6], ⟨L.set b (.cells (encL (P ++ R)) true), e⟩⟩ =
      some (Ex.exit 0, ⟨[slL b n c, .int .i64 ((k + R.length * 2 : Nat) : Int), r, .int .i64 n, z4, z5, z6], ⟨L.set b (.cells (encL (P ++ markedL k R.length)) true), e⟩⟩)
  | [], P, k, y4, y5, y6, hP, hk => by
    refine ⟨y4, .bool false, y6, ?_⟩
    obtain rfl : n = P.length := by simp at hP; omega
    rw [run_loop]
    generalize run T pr (.loop w_l_markIntA2S_2) = R'
    simp +contextual only [w_l_markIntA2S_2, Nat.lt_irrefl, decide_false, markedL, Nat.zero_mul, go_sem, entry, joinEsc, if_pos, reduceIte, Nat.reduceAdd, Nat.reduceLeDiff, Nat.reduceLT, Nat.reduceEqDiff]
  | x :: R, P, k, y4, y5, y6, hP, hk => by
    simp only [List.length_cons] at hP hk
    have hi : P.length < n := by omega
    obtain ⟨z4, z5, z6, ih⟩ := loop_l_markIntA2S (c := c) (r := r) hb hn R (P ++ [((k : Int), ((k + 1 : Nat) : Int))]) (k + 2) (.int .i64 2) (.bool true) (.bool false) (by simp; omega) (by omega)
    refine ⟨z4, z5, z6, ?_⟩
    have hl := fun y6 => loop_l_markIntA2S_1 (pr := pr) (e := e) (c := c) (r := r) (y5 := .bool true) (y6 := y6) (P := P) (R := R) (x := x) hb hi (show k ≤ 16777216 by omega)
    rw [run_loop]
    generalize run T pr (.loop w_l_markIntA2S_2) = R' at ih ⊢
    rw [show k + 2 + R.length * 2 = k + (R.length + 1) * 2 by omega] at ih
    simp only [List.append_assoc, List.singleton_append, List.length_append, List.length_cons, List.length_nil, Nat.zero_add] at ih
    simp +contextual only [w_l_markIntA2S_2, hi, hl, markedL, wrap_succ (show P.length < 9223372036854775807 by omega), decide_true, go_sem, entry, joinEsc, if_pos, reduceIte, Nat.reduceAdd, Nat.reduceLeDiff, Nat.reduceLT, Nat.reduceEqDiff]
    exact ih

theorem e_l_markIntA2S {L : List Blk} {b : Nat} {c : Option Nat} {ls : List Ld} (h : L[b]? = some (.cells (encL ls) true)) (hn : ls.length ≤ 4194304) (k : Nat) (hk : k ≤ 4194304) : call T pr f_l_markIntA2S [slL b ls.length c, .int .i64 k] ⟨L, e⟩ =
    some (.int .i64 ((k + ls.length * 2 : Nat) : Int), ⟨L.set b (.cells (encL (markedL k ls.length)) true), e⟩) := by
  have hb := (List.getElem?_eq_some_iff.mp h).1
  obtain ⟨z4, z5, z6, hl⟩ := loop_l_markIntA2S (pr := pr) (e := none) (c := c) (r := .int .i64 0) hb hn ls [] k .undef .undef .undef (by simp) (by omega)
  have h0 : ((0 : Nat) : Int) = 0 := rfl
  rw [List.length_nil, h0, List.nil_append, List.nil_append, set_same h] at hl
  rw [call_eq t_l_markIntA2S]
  simp +contextual only [a_l_markIntA2S, c_l_markIntA2S, hl, finish_one_set, go_sem, entry, joinEsc, if_pos, reduceIte, Nat.reduceAdd, Nat.reduceLeDiff, Nat.reduceLT, Nat.reduceEqDiff]

theorem e_l_markIntA2S_none {p1 : Option (Nat × Nat)} {s1 : Nat} {c1 : Option Nat} (x : Int) : call T pr f_l_markIntA2S [.slice p1 s1 0 c1, .int .i64 x] ⟨H, e⟩ = some (.int .i64 x, ⟨H, e⟩) := by
  have h0 : ((0 : Nat) : Int) = 0 := rfl
  rw [call_eq t_l_markIntA2S]
  have hl : run T pr (.loop w_l_markIntA2S_2) ⟨[.slice p1 s1 0 c1, .int .i64 x, .int .i64 0, .int .i64 0, .undef, .undef, .undef], ⟨H, none⟩⟩ = some (.exit 0, ⟨[.slice p1 s1 0 c1, .int .i64 x, .int .i64 0, .int .i64 0, .undef, .bool false, .undef], ⟨H, none⟩⟩) := by
    rw [run_loop]
    generalize run T pr (.loop w_l_markIntA2S_2) = R
    simp +contextual only [w_l_markIntA2S_2, h0, Int.lt_irrefl, decide_false, go_sem, entry, joinEsc, if_pos, reduceIte, Nat.reduceAdd, Nat.reduceLeDiff, Nat.reduceLT, Nat.reduceEqDiff]
  simp +contextual only [a_l_markIntA2S, c_l_markIntA2S, hl, h0, decide_true, go_sem, entry, joinEsc, if_pos, reduceIte, Nat.reduceAdd, Nat.reduceLeDiff, Nat.reduceLT, Nat.reduceEqDiff]

theorem loop_l_heldIntA2S_1 {q n i K : Nat} {l : Ld} {ls : List Ld} {c : Option Nat} {r y5 y6 y7 : AV} (h : cellsAt H q = some (encL ls)) (hi : i < n) (hl : ls[i]? = some ((K : Int), ((K + 1 : Nat) : Int))) (hk : K ≤ 33554432) :
    ∃ z7, run T pr (.loop w_l_heldIntA2S_1) ⟨[slL q n c, .int .i64 K, r, .int .i64 i, .int .i64 0, y5, y6, y7], ⟨H, e⟩⟩ =
      some (Ex.exit 2, ⟨[slL q n c, .int .i64 (K + 2 : Nat), r, .int .i64 i, .int .i64 2, y5, .bool false, z7], ⟨H, e⟩⟩) := by
  have hw1 : IntKind.i64.wrap ((K : Int) + 1) = ((K + 1 : Nat) : Int) := wrap_succ (show K < 9223372036854775807 by omega)
  have hw2 : IntKind.i64.wrap (((K + 1 : Nat) : Int) + 1) = ((K + 2 : Nat) : Int) := wrap_succ (show K + 1 < 9223372036854775807 by omega)
  have s0 : run T pr (.loop w_l_heldIntA2S_1) ⟨[slL q n c, .int .i64 K, r, .int .i64 i, .int .i64 0, y5, y6, y7], ⟨H, e⟩⟩ =
      run T pr (.loop w_l_heldIntA2S_1) ⟨[slL q n c, .int .i64 (K + 1 : Nat), r, .int .i64 i, .int .i64 1, y5, .bool true, .bool false], ⟨H, e⟩⟩ := by
    rw [run_loop]
    generalize run T pr (.loop w_l_heldIntA2S_1) = R'
    simp +contextual only [w_l_heldIntA2S_1, hi, h, part_encL0 _ hl, at02, toNat0, w01, l02, hw1, not_true_eq_false, decide_false, decide_true, go_sem, entry, joinEsc, if_pos, reduceIte, Nat.reduceAdd, Nat.reduceLeDiff, Nat.reduceLT, Nat.reduceEqDiff]
  have s1 : run T pr (.loop w_l_heldIntA2S_1) ⟨[slL q n c, .int .i64 (K + 1 : Nat), r, .int .i64 i, .int .i64 1, y5, .bool true, .bool false], ⟨H, e⟩⟩ =
      run T pr (.loop w_l_heldIntA2S_1) ⟨[slL q n c, .int .i64 (K + 2 : Nat), r, .int .i64 i, .int .i64 2, y5, .bool true, .bool false], ⟨H, e⟩⟩ := by
    rw [run_loop]
    generalize run T pr (.loop w_l_heldIntA2S_1) = R'
    simp +contextual only [w_l_heldIntA2S_1, hi, h, part_encL1 _ hl, at12, toNat1, w11, l12, hw2, not_true_eq_false, decide_false, decide_true, go_sem, entry, joinEsc, if_pos, reduceIte, Nat.reduceAdd, Nat.reduceLeDiff, Nat.reduceLT, Nat.reduceEqDiff]
  refine ⟨.bool false, ?_⟩
  rw [s0, s1, run_loop]
  generalize run T pr (.loop w_l_heldIntA2S_1) = R'
  simp +contextual only [w_l_heldIntA2S_1, l22, decide_false, go_sem, entry, joinEsc, if_pos, reduceIte, Nat.reduceAdd, Nat.reduceLeDiff, Nat.reduceLT, Nat.reduceEqDiff]

theorem loop_l_heldIntA2S {q n k0 : Nat} {c : Option Nat} {r : AV} (h : cellsAt H q = some (encL (markedL k0 n))) (hn : n ≤ 4194304) (hk0 : k0 ≤ 16777216) :
    ∀ (k i : Nat) (y4 y5 y6 y7 : AV), k + i = n → ∃ z4 z5 z6 z7, run T pr (.loop w_l_heldIntA2S_2) ⟨[slL q n c, .int .i64 ((k0 + i * 2 : Nat) : Int), r, .int .i64 i, y4, y5, y6, y7], ⟨H, e⟩⟩ =
      some (Ex.exit 0, ⟨[slL q n c, .int .i64 ((k0 + n * 2 : Nat) : Int), r, .int .i64 n, z4, z5, z6, z7], ⟨H, e⟩⟩)
  | 0, i, y4, y5, y6, y7, hk => by
    have hi : i = n := by omega
    subst hi
    refine ⟨y4, .bool false, y6, y7, ?_⟩
    rw [run_loop]
    generalize run T pr (.loop w_l_heldIntA2S_2) = R
    simp +contextual only [w_l_heldIntA2S_2, Nat.lt_irrefl, decide_false, go_sem, entry, joinEsc, if_pos, reduceIte, Nat.reduceAdd, Nat.reduceLeDiff, Nat.reduceLT, Nat.reduceEqDiff]
  | k + 1, i, y4, y5, y6, y7, hk => by
    have hi : i < n := by omega
    have hl := markedL_get n k0 i hi
    obtain ⟨w7, hin⟩ := loop_l_heldIntA2S_1 (pr := pr) (e := e) (c := c) (r := r) (y5 := .bool true) (y6 := y6) (y7 := y7) (l := (0, 0)) h hi hl (by omega)
    obtain ⟨z4, z5, z6, z7, ih⟩ := loop_l_heldIntA2S (c := c) (r := r) h hn hk0 k (i + 1) (.int .i64 2) (.bool true) (.bool false) w7 (by omega)
    refine ⟨z4, z5, z6, z7, ?_⟩
    rw [run_loop]
    rw [show k0 + (i + 1) * 2 = k0 + i * 2 + 2 by omega] at ih
    generalize k0 + i * 2 = K at hin ih ⊢
    generalize run T pr (.loop w_l_heldIntA2S_2) = R at ih ⊢
    simp +contextual only [w_l_heldIntA2S_2, hi, hin, wrap_succ (show i < 9223372036854775807 by omega), decide_true, go_sem, entry, joinEsc, if_pos, reduceIte, Nat.reduceAdd, Nat.reduceLeDiff, Nat.reduceLT, Nat.reduceEqDiff]
    exact ih

theorem e_l_heldIntA2S {q n k : Nat} {c : Option Nat} (h : cellsAt H q = some (encL (markedL k n))) (hn : n ≤ 4194304) (hk : k ≤ 16777216) : call T pr f_l_heldIntA2S [slL q n c, .int .i64 k] ⟨H, e⟩ = some (.int .i64 ((k + n * 2 : Nat) : Int), ⟨H, e⟩) := by
  obtain ⟨z4, z5, z6, z7, hl⟩ := loop_l_heldIntA2S (pr := pr) (e := none) (c := c) (r := .int .i64 0) h hn hk n 0 .undef .undef .undef .undef rfl
  have h0 : ((0 : Nat) : Int) = 0 := rfl
  rw [h0, Nat.zero_mul, Nat.add_zero] at hl
  rw [call_eq t_l_heldIntA2S]
  simp +contextual only [a_l_heldIntA2S, c_l_heldIntA2S, hl, go_sem, entry, joinEsc, if_pos, reduceIte, Nat.reduceAdd, Nat.reduceLeDiff, Nat.reduceLT, Nat.reduceEqDiff]

theorem e_l_heldIntA2S_none {p1 : Option (Nat × Nat)} {s1 : Nat} {c1 : Option Nat} (x : Int) : call T pr f_l_heldIntA2S [.slice p1 s1 0 c1, .int .i64 x] ⟨H, e⟩ = some (.int .i64 x, ⟨H, e⟩) := by
  have h0 : ((0 : Nat) : Int) = 0 := rfl
  rw [call_eq t_l_heldIntA2S]
  have hl : run T pr (.loop w_l_heldIntA2S_2) ⟨[.slice p1 s1 0 c1, .int .i64 x, .int .i64 0, .int .i64 0, .undef, .undef, .undef, .undef], ⟨H, none⟩⟩ = some (.exit 0, ⟨[.slice p1 s1 0 c1, .int .i64 x, .int .i64 0, .int .i64 0, .undef, .bool false, .undef, .undef], ⟨H, none⟩⟩) := by
    rw [run_loop]
    generalize run T pr (.loop w_l_heldIntA2S_2) = R
    simp +contextual only [w_l_heldIntA2S_2, h0, Int.lt_irrefl, decide_false, go_sem, entry, joinEsc, if_pos, reduceIte, Nat.reduceAdd, Nat.reduceLeDiff, Nat.reduceLT, Nat.reduceEqDiff]
  simp +contextual only [a_l_heldIntA2S, c_l_heldIntA2S, hl, h0, decide_true, go_sem, entry, joinEsc, if_pos, reduceIte, Nat.reduceAdd, Nat.reduceLeDiff, Nat.reduceLT, Nat.reduceEqDiff]

end Go.Proofs.Ythkgpblohjpcdaa.Slim

/- The safe moves of a party: the functions and the law. -/
namespace Go.Proofs.Ythkgpblohjpcdaa.Slim

open Go

set_option linter.unusedSimpArgs false

set_option linter.unusedVariables false

variable {pr : Prims} {H : List Blk} {e : Option Nat}

/-- the places of all people -/
def spots (ls : List Ld) : List Int := ls.map (fun l => l.1) ++ [0, 0, 0].drop ls.length

theorem spots_length {ls : List Ld} (hn : ls.length ≤ 3) : (spots ls).length = 3 := by
  unfold spots
  rw [List.length_append, List.length_map, List.length_drop]
  simp
  omega

theorem putL_self : ∀ (ls : List Ld) (ts : List Int), putL ls (ls.map (fun l => l.1) ++ ts) = ls
  | [], ts => rfl
  | l :: ls, ts => by simp [putL, putL_self ls ts]

theorem loop_i_Party_spots {q u n : Nat} {c : Option Nat} {ls : List Ld} {B0 B1 : Blk} {y0 y1 y2 : AV} (h : cellsAt H q = some (encL ls)) (hn : ls.length ≤ 3) :
    ∀ (k i : Nat) (P R : List Int) (G : List Blk) (y4 y5 y9 : AV), k + i = ls.length → P.length = i → P.length + R.length = 3 → ∃ (G' : List Blk) (z4 z5 z9 : AV), run T pr (.loop w_i_Party_spots_1) ⟨[y0, y1, y2, .ptr (some (H.length + 2, 0)), y4, y5, slL q ls.length c, .int .i64 ls.length, .int .i64 i, y9], ⟨H ++ (B0 :: B1 :: .cells (encI (P ++ R)) true :: G), e⟩⟩ =
      some (Ex.exit 0, ⟨[y0, y1, y2, .ptr (some (H.length + 2, 0)), z4, z5, slL q ls.length c, .int .i64 ls.length, .int .i64 ls.length, z9], ⟨H ++ (B0 :: B1 :: .cells (encI (P ++ ((ls.drop i).map (fun l => l.1) ++ R.drop k))) true :: G'), e⟩⟩)
  | 0, i, P, R, G, y4, y5, y9, hk, hP, hR => by
    obtain rfl : i = ls.length := by omega
    refine ⟨G, y4, y5, .bool false, ?_⟩
    rw [run_loop, List.drop_length]
    generalize run T pr (.loop w_i_Party_spots_1) = R'
    simp +contextual only [w_i_Party_spots_1, Nat.lt_irrefl, decide_false, go_sem, entry, joinEsc, if_pos, reduceIte, Nat.reduceAdd, Nat.reduceLeDiff, Nat.reduceLT, Nat.reduceEqDiff]
  | k + 1, i, P, [], G, y4, y5, y9, hk, hP, hR => by simp at hR; omega
  | k + 1, i, P, r :: R, G, y4, y5, y9, hk, hP, hR => by
    simp only [List.length_cons] at hR
    have hi : i < ls.length := by omega
    have hl : ls[i]? = some ls[i] := List.getElem?_eq_getElem hi
    obtain ⟨G', z4, z5, z9, ih⟩ := loop_i_Party_spots (c := c) (B0 := B0) (B1 := B1) (y0 := y0) (y1 := y1) (y2 := y2) (n := n) (u := u) h hn k (i + 1) (P ++ [ls[i].1]) R (G ++ [.cells [.int .i64 ls[i].1, .int .i64 ls[i].2] true]) (.int .i64 i) (.ptr (some (H.length + (G.length + 1 + 1 + 1), 0))) (.bool true) (by omega) (by simp; omega) (by simp; omega)
    refine ⟨G', z4, z5, z9, ?_⟩
    have hi3 : i < 3 := by omega
    have hset : ∀ v, setRange (encI (P ++ r :: R)) i [.int .i64 v] = encI (P ++ v :: R) := by intro v; rw [← hP, setRange_mid]; simp
    have hle : i + 1 ≤ (encI (P ++ r :: R)).length := by simp [encI]; omega
    rw [run_loop]
    generalize run T pr (.loop w_i_Party_spots_1) = R' at ih ⊢
    simp only [List.append_assoc, List.singleton_append] at ih
    rw [List.drop_eq_getElem_cons hi, List.map_cons, List.cons_append, List.drop_succ_cons]
    simp +contextual only [w_i_Party_spots_1, cells_mono h, hi, hi3, hl, part_encL hl, hset, hle, wrap_succ (show i < 9223372036854775807 by omega), decide_true, go_sem, entry, joinEsc, if_pos, reduceIte, Nat.reduceAdd, Nat.reduceLeDiff, Nat.reduceLT, Nat.reduceEqDiff]
    exact ih

theorem e_i_Party_spots {q : Nat} {c : Option Nat} {ls : List Ld} (h : cellsAt H q = some (encL ls)) (hn : ls.length ≤ 3) (x a b s : Int) {s0 s1 s2 : Int} (hs : spots ls = [s0, s1, s2]) : call T pr f_i_Party_spots [ptV x a b (slL q ls.length c) s] ⟨H, e⟩ =
    some (spV s0 s1 s2, ⟨H, e⟩) := by
  obtain ⟨G', z4, z5, z9, hl⟩ := loop_i_Party_spots (pr := pr) (e := none) (c := c) (n := 0) (u := 0) (B0 := .cells [.int .i64 x, .int .i64 a, .int .i64 b, slL q ls.length c, .int .i64 s] true) (B1 := .cells [.int .i64 0, .int .i64 0, .int .i64 0] true) (y0 := ptV x a b (slL q ls.length c) s) (y1 := .ptr (some (H.length, 0))) (y2 := .ptr (some (H.length + 1, 0))) h hn ls.length 0 [] [0, 0, 0] [] .undef .undef .undef rfl rfl rfl
  have h0 : ((0 : Nat) : Int) = 0 := rfl
  have hs' : ls.map (fun l => l.1) ++ [0, 0, 0].drop ls.length = [s0, s1, s2] := hs
  simp only [List.drop_zero, List.nil_append, h0, hs', encI, List.map_cons, List.map_nil] at hl
  rw [call_eq t_i_Party_spots]
  simp +contextual only [a_i_Party_spots, c_i_Party_spots, fillParts, hl, go_sem, entry, joinEsc, if_pos, reduceIte, Nat.reduceAdd, Nat.reduceLeDiff, Nat.reduceLT, Nat.reduceEqDiff]

/-- all safe moves of a party -/
def mvs (x a b s : Int) (ls : List Ld) : List Ld := mvsFrom x a b s ls ls.length 0

theorem e_i_Party_moves {q : Nat} {c : Option Nat} {ls : List Ld} (h : cellsAt H q = some (encL ls)) (hn : ls.length ≤ 3) (x a b s s0 s1 s2 : Int) : ∃ cap, call T pr f_i_Party_moves [ptV x a b (slL q ls.length c) s, spV s0 s1 s2] ⟨H, e⟩ =
    some (slL H.length (mvs x a b s (putL ls [s0, s1, s2])).length cap, ⟨H ++ [.cells (encL (mvs x a b s (putL ls [s0, s1, s2]))) true], e⟩) := by
  obtain ⟨jb', cap', G', z6, z7, z8, z11, z12, z13, z14, z15, k1, hl⟩ := loop_i_moves_2 (pr := pr) (e := none) (H := H ++ [.cells [.int .i64 x, .int .i64 a, .int .i64 b, slL q ls.length c, .int .i64 s] true, .cells [.int .i64 s0, .int .i64 s1, .int .i64 s2] true]) (u := H.length) (sb := H.length + 1) (y0 := ptV x a b (slL q ls.length c) s) (y1 := spV s0 s1 s2) (y4 := .slice none 0 0 none) (cells_mono h _) hn (by rw [cellsAt_new0]; rfl) (by rw [cellsAt_newk]; rfl) ls.length 0 [] 0 (some 0) [.cells [] true] .undef .undef .undef .undef .undef .undef .undef .undef rfl (by simp; omega) rfl (fun _ => rfl)
  have h0 : ((0 : Nat) : Int) = 0 := rfl
  have hm : mvsFrom x a b s (putL ls [s0, s1, s2]) ls.length 0 = mvs x a b s (putL ls [s0, s1, s2]) := by unfold mvs; rw [putL_length]
  rw [h0, List.nil_append, hm] at hl
  rw [List.nil_append, hm] at k1
  refine ⟨cap', ?_⟩
  simp only [List.length_append, List.length_cons, List.length_nil, Nat.zero_add, Nat.add_zero, List.append_assoc, List.cons_append, List.nil_append, Nat.reduceAdd, Nat.add_assoc] at hl
  have hf : ∀ (B B' : Blk) (e0 : Option Nat), finish 2 H.length e0 (slL (H.length + (2 + jb')) (mvs x a b s (putL ls [s0, s1, s2])).length cap') ⟨H ++ (B :: B' :: G'), none⟩ = some (slL H.length (mvs x a b s (putL ls [s0, s1, s2])).length cap', ⟨H ++ [.cells (encL (mvs x a b s (putL ls [s0, s1, s2]))) true], e0⟩) :=
    fun B B' e0 => finish_two_at e0 (by rw [show 2 + jb' = jb' + 1 + 1 by omega]; exact k1) (under_encL _ _)
  rw [call_eq t_i_Party_moves]
  simp +contextual only [a_i_Party_moves, c_i_Party_moves, fillParts, hl, hf, go_sem, entry, joinEsc, if_pos, reduceIte, Nat.reduceAdd, Nat.reduceLeDiff, Nat.reduceLT, Nat.reduceEqDiff]

theorem e_s_l11Moves {q : Nat} {c : Option Nat} {ls : List Ld} (h : cellsAt H q = some (encL ls)) (hn : ls.length ≤ 3) (hpl : plB ls) (x a b s : Int) (hs : 1 ≤ s ∧ s ≤ 4) : ∃ cap, call T pr f_s_l11Moves [ptV x a b (slL q ls.length c) s] ⟨H, e⟩ =
    some (slL H.length (mvs x a b s ls).length cap, ⟨H ++ [.cells (encL (mvs x a b s ls)) true], e⟩) := by
  obtain ⟨jb', cap', G', z5, z6, z7, z8, z9, k1, hl⟩ := loop_s_moves_2 (pr := pr) (e := none) (H := H ++ [.cells [.int .i64 x, .int .i64 a, .int .i64 b, slL q ls.length c, .int .i64 s] true]) (u := H.length) (y0 := ptV x a b (slL q ls.length c) s) (y2 := .slice none 0 0 none) (cells_mono h _) hn hpl hs (by rw [cellsAt_new0]; rfl) ls.length 0 [] 0 (some 0) [.cells [] true] .undef .undef .undef .undef .undef rfl (by simp; omega) rfl (fun _ => rfl)
  have h0 : ((0 : Nat) : Int) = 0 := rfl
  have hm : mvsFrom x a b s ls ls.length 0 = mvs x a b s ls := rfl
  rw [h0, List.nil_append, hm] at hl
  rw [List.nil_append, hm] at k1
  refine ⟨cap', ?_⟩
  simp only [List.length_append, List.length_cons, List.length_nil, Nat.zero_add, Nat.add_zero, List.append_assoc, List.cons_append, List.nil_append, Nat.reduceAdd, Nat.add_assoc] at hl
  have hf : ∀ (B : Blk) (e0 : Option Nat), finish 2 H.length e0 (slL (H.length + (1 + jb')) (mvs x a b s ls).length cap') ⟨H ++ (B :: G'), none⟩ = some (slL H.length (mvs x a b s ls).length cap', ⟨H ++ [.cells (encL (mvs x a b s ls)) true], e0⟩) :=
    fun B e0 => finish_two_at e0 (by rw [show 1 + jb' = jb' + 1 by omega]; exact k1) (under_encL _ _)
  rw [call_eq t_s_l11Moves]
  simp +contextual only [a_s_l11Moves, c_s_l11Moves, fillParts, hl, hf, go_sem, entry, joinEsc, if_pos, reduceIte, Nat.reduceAdd, Nat.reduceLeDiff, Nat.reduceLT, Nat.reduceEqDiff]

theorem party_facts {x a b s : Int} {ls : List Ld} (h : partyOk x a b ls s = true) : ls.length ≤ 3 ∧ plB ls ∧ (1 ≤ s ∧ s ≤ 4) := by
  have h0 := h
  unfold partyOk onOk at h
  simp only [Bool.and_eq_true, decide_eq_true_eq] at h
  have hrow : rowOk ls = true := by
    obtain ⟨h1, h2⟩ := h
    simp_all
  refine ⟨(party_bounds h0).1, fun i hi => ?_, by omega⟩
  unfold rowOk at hrow
  have hall := (Bool.and_eq_true_iff.mp hrow).2
  have hl : ls[i]? = some ls[i] := List.getElem?_eq_getElem hi
  have := List.all_eq_true.mp hall ls[i] (List.getElem_mem hi)
  unfold okL at this
  simp only [Bool.and_eq_true, decide_eq_true_eq] at this
  have hp : plOf ls i = ls[i].1 := by unfold plOf; rw [hl]; rfl
  rw [hp]
  exact this.1

theorem e_i_SafeMoves_no {q : Nat} {c : Option Nat} {ls : List Ld} (h : cellsAt H q = some (encL ls)) (hn : ls.length ≤ 9223372036854775806) (x a b s : Int) (hp : partyOk x a b ls s = false) : call T pr f_i_SafeMoves [ptV x a b (slL q ls.length c) s] ⟨H, e⟩ =
    some (.tup [.slice none 0 0 none, .bool false], ⟨H, e⟩) := by
  rw [call_eq t_i_SafeMoves]
  simp +contextual only [a_i_SafeMoves, c_i_SafeMoves, e_i_IsParty (cells_mono h _) hn, hp, finish_two_nb, go_sem, entry, joinEsc, if_pos, reduceIte, Nat.reduceAdd, Nat.reduceLeDiff, Nat.reduceLT, Nat.reduceEqDiff]

theorem e_s_SafeMoves_no {q : Nat} {c : Option Nat} {ls : List Ld} (h : cellsAt H q = some (encL ls)) (hn : ls.length ≤ 9223372036854775806) (x a b s : Int) (hp : partyOk x a b ls s = false) : call T pr f_s_SafeMoves [ptV x a b (slL q ls.length c) s] ⟨H, e⟩ =
    some (.tup [.slice (some (H.length, 0)) 2 0 (some 0), .bool false], ⟨H ++ [.cells [] true], e⟩) := by
  have hf : ∀ (B : Blk) (e0 : Option Nat), finish 2 H.length e0 (.tup [.slice (some (H.length + 1, 0)) 2 0 (some 0), .bool false]) ⟨H ++ [B, .cells [] true], none⟩ = some (.tup [.slice (some (H.length, 0)) 2 0 (some 0), .bool false], ⟨H ++ [.cells [] true], e0⟩) :=
    fun B e0 => finish_two_sb false e0 rfl rfl
  rw [call_eq t_s_SafeMoves]
  simp +contextual only [a_s_SafeMoves, c_s_SafeMoves, fillParts, e_s_l11Party (cells_mono h _) hn, hp, hf, go_sem, entry, joinEsc, if_pos, reduceIte, Nat.reduceAdd, Nat.reduceLeDiff, Nat.reduceLT, Nat.reduceEqDiff]

theorem e_i_SafeMoves {q : Nat} {c : Option Nat} {ls : List Ld} (h : cellsAt H q = some (encL ls)) (x a b s : Int) (hp : partyOk x a b ls s = true) : ∃ cap, call T pr f_i_SafeMoves [ptV x a b (slL q ls.length c) s] ⟨H, e⟩ =
    some (.tup [slL H.length (mvs x a b s ls).length cap, .bool true], ⟨H ++ [.cells (encL (mvs x a b s ls)) true], e⟩) := by
  obtain ⟨hn, hpl, hs⟩ := party_facts hp
  have hn1 : ls.length ≤ 9223372036854775806 := by omega
  obtain ⟨s0, s1, s2, h3⟩ := three (spots_length hn)
  have hput : putL ls [s0, s1, s2] = ls := by rw [← h3]; exact putL_self ls _
  have hsp := fun G => e_i_Party_spots (pr := pr) (e := none) (c := c) (cells_mono h G) hn x a b s h3
  obtain ⟨cap, hm⟩ := e_i_Party_moves (pr := pr) (e := none) (c := c) (cells_mono h [.cells [.int .i64 x, .int .i64 a, .int .i64 b, slL q ls.length c, .int .i64 s] true]) hn x a b s s0 s1 s2
  rw [hput] at hm
  simp only [List.length_append, List.append_assoc, List.cons_append, List.nil_append, List.length_cons, List.length_nil, Nat.zero_add] at hm
  refine ⟨cap, ?_⟩
  have hf : ∀ (B : Blk) (e0 : Option Nat), finish 2 H.length e0 (.tup [slL (H.length + 1) (mvs x a b s ls).length cap, .bool true]) ⟨H ++ [B, .cells (encL (mvs x a b s ls)) true], none⟩ = some (.tup [slL H.length (mvs x a b s ls).length cap, .bool true], ⟨H ++ [.cells (encL (mvs x a b s ls)) true], e0⟩) :=
    fun B e0 => finish_two_sb true e0 rfl (under_encL _ _)
  rw [call_eq t_i_SafeMoves]
  simp +contextual only [a_i_SafeMoves, c_i_SafeMoves, e_i_IsParty (cells_mono h _) hn1, hp, hsp, hm, hf, go_sem, entry, joinEsc, if_pos, reduceIte, Nat.reduceAdd, Nat.reduceLeDiff, Nat.reduceLT, Nat.reduceEqDiff]

theorem e_s_SafeMoves {q : Nat} {c : Option Nat} {ls : List Ld} (h : cellsAt H q = some (encL ls)) (x a b s : Int) (hp : partyOk x a b ls s = true) : ∃ cap, call T pr f_s_SafeMoves [ptV x a b (slL q ls.length c) s] ⟨H, e⟩ =
    some (.tup [slL H.length (mvs x a b s ls).length cap, .bool true], ⟨H ++ [.cells (encL (mvs x a b s ls)) true], e⟩) := by
  obtain ⟨hn, hpl, hs⟩ := party_facts hp
  have hn1 : ls.length ≤ 9223372036854775806 := by omega
  obtain ⟨cap, hm⟩ := e_s_l11Moves (pr := pr) (e := none) (c := c) (cells_mono h [.cells [.int .i64 x, .int .i64 a, .int .i64 b, slL q ls.length c, .int .i64 s] true]) hn hpl x a b s hs
  simp only [List.length_append, List.append_assoc, List.cons_append, List.nil_append, List.length_cons, List.length_nil, Nat.zero_add] at hm
  refine ⟨cap, ?_⟩
  have hf : ∀ (B : Blk) (e0 : Option Nat), finish 2 H.length e0 (.tup [slL (H.length + 1) (mvs x a b s ls).length cap, .bool true]) ⟨H ++ [B, .cells (encL (mvs x a b s ls)) true], none⟩ = some (.tup [slL H.length (mvs x a b s ls).length cap, .bool true], ⟨H ++ [.cells (encL (mvs x a b s ls)) true], e0⟩) :=
    fun B e0 => finish_two_sb true e0 rfl (under_encL _ _)
  rw [call_eq t_s_SafeMoves]
  simp +contextual only [a_s_SafeMoves, c_s_SafeMoves, e_s_l11Party (cells_mono h _) hn1, hp, hm, hf, go_sem, entry, joinEsc, if_pos, reduceIte, Nat.reduceAdd, Nat.reduceLeDiff, Nat.reduceLT, Nat.reduceEqDiff]

theorem e_l_markParty {L : List Blk} {b1 : Nat} {c : Option Nat} {ls : List Ld} (h : L[b1]? = some (.cells (encL ls) true)) (hn : ls.length ≤ 4194304) (x a b s : Int) (k : Nat) (hk : k ≤ 4194304) : call T pr f_l_markParty [ptV x a b (slL b1 ls.length c) s, .int .i64 k] ⟨L, e⟩ =
    some (.int .i64 ((k + ls.length * 2 : Nat) : Int), ⟨L.set b1 (.cells (encL (markedL k ls.length)) true), e⟩) := by
  have hb := (List.getElem?_eq_some_iff.mp h).1
  have hm := fun B => e_l_markLoadS (pr := pr) (e := none) (L := L ++ [B]) (c := c) (b := b1) (ls := ls) (by rw [List.getElem?_append_left hb]; exact h) hn k hk
  have hfin : ∀ (e0 : Option Nat) (B : Blk) (v : AV), v.under L.length = true → finish 1 L.length e0 v ⟨(L ++ [B]).set b1 (.cells (encL (markedL k ls.length)) true), none⟩ = some (v, ⟨L.set b1 (.cells (encL (markedL k ls.length)) true), e0⟩) := by
    intro e0 B v hv
    rw [set_left hb]
    exact finish_one_len v e0 (by simp) hv
  rw [call_eq t_l_markParty]
  simp +contextual only [a_l_markParty, c_l_markParty, hm, hfin, go_sem, entry, joinEsc, if_pos, reduceIte, Nat.reduceAdd, Nat.reduceLeDiff, Nat.reduceLT, Nat.reduceEqDiff]

theorem mvs_le (x a b s : Int) (ls : List Ld) : ∀ (k i : Nat), (mvsFrom x a b s ls k i).length ≤ 2 * k
  | 0, i => Nat.le_refl _
  | k + 1, i => by
    have h1 := selM_le x a b ls i [wr (plOf ls i - s), wr (plOf ls i + s)]
    have h2 := mvs_le x a b s ls k (i + 1)
    rw [mvsFrom, List.length_append]
    simp at h1
    omega

theorem law_SafeMoves {people : AV} {ls : List Ld} (ha : ArgL H people ls) (x a b s : Int) : ∃ m', call T pr f_l_FnExactSafeMoves [ptV x a b people s] ⟨H, none⟩ = some (.bool true, m') := by
  refine ⟨⟨H, none⟩, ?_⟩
  have hsz : ∀ G e', call T pr f_l_szParty [ptV x a b people s, .int .i64 1048576] ⟨G, e'⟩ = some (.int .i64 (if ls.length ≤ 1048576 then 1048576 - (ls.length : Int) else -1), ⟨G, e'⟩) := by
    obtain ⟨p, sz, c, rfl, h2, h3⟩ := ha
    exact fun G e' => e_l_szParty h2 x a b s
  rw [call_eq t_l_FnExactSafeMoves]
  by_cases hn : ls.length ≤ 1048576
  · have hneg : ¬ (1048576 - (ls.length : Int) < 0) := by omega
    have hto := fun G => e_l_toParty (pr := pr) (e := none) (ha.more G) hn x a b s
    have hn1 : ls.length ≤ 9223372036854775806 := by omega
    have heq : ∀ L q1 q2 k1 k2, cellsAt L q1 = some (encL ls) → cellsAt L q2 = some (encL ls) → call T pr f_l_eqParty [ptV x a b (slL q1 ls.length k1) s, ptV x a b (slL q2 ls.length k2) s] ⟨L, none⟩ = some (.bool true, ⟨L, none⟩) :=
      fun L q1 q2 k1 k2 h1 h2 => e_l_eqParty (fun G => e_l_eqLoadS (cells_mono h1 G) (cells_mono h2 G) hn1) x a b s
    have hmark : ∀ L b1 c, L[b1]? = some (.cells (encL ls) true) → call T pr f_l_markParty [ptV x a b (slL b1 ls.length c) s, .int .i64 1] ⟨L, none⟩ = some (.int .i64 ((1 + ls.length * 2 : Nat) : Int), ⟨L.set b1 (.cells (encL (markedL 1 ls.length)) true), none⟩) :=
      fun L b1 c h => e_l_markParty h (by omega) x a b s 1 (by omega)
    have hk0 : ¬ (((1 + ls.length * 2 : Nat) : Int) < 0) := by omega
    have h10 : ¬ ((1 : Int) < 0) := by omega
    cases hcan : partyOk x a b ls s with
    | false =>
      have hsi := fun L q c h1 => e_s_SafeMoves_no (pr := pr) (H := L) (e := none) (q := q) (c := c) (ls := ls) h1 hn1 x a b s hcan
      have hii := fun L q c h1 => e_i_SafeMoves_no (pr := pr) (H := L) (e := none) (q := q) (c := c) (ls := ls) h1 hn1 x a b s hcan
      simp +contextual only [a_l_FnExactSafeMoves, c_l_FnExactSafeMoves, hsz, hn, hneg, hto, hsi, hii, heq, e_l_eqIntA2S_none, e_l_markIntA2S_none, e_l_heldIntA2S_none, hmark, hk0, h10, under_slice, under_sliceN, Nat.add_assoc, Nat.add_lt_add_iff_left, Nat.lt_add_right_iff_pos, decide_true, decide_false, beq_self_eq_true, go_sem, entry, joinEsc, if_pos, reduceIte, Nat.reduceAdd, Nat.reduceLeDiff, Nat.reduceLT, Nat.reduceEqDiff]
    | true =>
      have hl3 := (party_facts hcan).1
      have hml : (mvs x a b s ls).length ≤ 6 := Nat.le_trans (mvs_le x a b s ls _ _) (by omega)
      have hsi := fun L q c h1 => hid_tup (e_s_SafeMoves (pr := pr) (H := L) (e := none) (q := q) (c := c) (ls := ls) h1 x a b s hcan)
      have hii := fun L q c h1 => hid_tup (e_i_SafeMoves (pr := pr) (H := L) (e := none) (q := q) (c := c) (ls := ls) h1 x a b s hcan)
      generalize mvs x a b s ls = os at *
      have ho' : os.length ≤ 9223372036854775806 := by omega
      have heqm : ∀ L b1 b2 c1 c2, cellsAt L b1 = some (encL os) → cellsAt L b2 = some (encL os) → call T pr f_l_eqIntA2S [slL b1 os.length c1, slL b2 os.length c2] ⟨L, none⟩ = some (.bool true, ⟨L, none⟩) :=
        fun L b1 b2 c1 c2 h1 h2 => e_l_eqIntA2S h1 h2 ho'
      have hmi : ∀ L b c, L[b]? = some (.cells (encL os) true) → call T pr f_l_markIntA2S [slL b os.length c, .int .i64 1] ⟨L, none⟩ = some (.int .i64 ((1 + os.length * 2 : Nat) : Int), ⟨L.set b (.cells (encL (markedL 1 os.length)) true), none⟩) :=
        fun L b c h => e_l_markIntA2S h (by omega) 1 (by omega)
      have hhe : ∀ L b c, cellsAt L b = some (encL (markedL 1 os.length)) → call T pr f_l_heldIntA2S [slL b os.length c, .int .i64 1] ⟨L, none⟩ = some (.int .i64 ((1 + os.length * 2 : Nat) : Int), ⟨L, none⟩) :=
        fun L b c h => e_l_heldIntA2S (k := 1) h (by omega) (by omega)
      have hk1 : ¬ (((1 + os.length * 2 : Nat) : Int) < 0) := by omega
      simp +contextual only [a_l_FnExactSafeMoves, c_l_FnExactSafeMoves, hsz, hn, hneg, hto, hsi, hii, heq, heqm, hmi, hhe, hk1, hmark, hk0, h10, under_slice, under_sliceN, Nat.add_assoc, Nat.add_lt_add_iff_left, Nat.lt_add_right_iff_pos, decide_true, decide_false, beq_self_eq_true, go_sem, entry, joinEsc, if_pos, reduceIte, Nat.reduceAdd, Nat.reduceLeDiff, Nat.reduceLT, Nat.reduceEqDiff]
  · simp +contextual only [a_l_FnExactSafeMoves, c_l_FnExactSafeMoves, hsz, hn, decide_true, show ((-1 : Int) < 0) by omega, go_sem, entry, joinEsc, if_pos, reduceIte, Nat.reduceAdd, Nat.reduceLeDiff, Nat.reduceLT, Nat.reduceEqDiff]

end Go.Proofs.Ythkgpblohjpcdaa.Slim

/- Walks of a party. -/
namespace Go.Proofs.Ythkgpblohjpcdaa.Slim

open Go

set_option linter.unusedSimpArgs false

set_option linter.unusedVariables false

variable {pr : Prims} {H : List Blk} {e : Option Nat}

theorem eq_pair (a b c d : Int) : eqList [0, 0] [.int .i64 a, .int .i64 b] [.int .i64 c, .int .i64 d] = some (decide ((a, b) = (c, d))) := by
  by_cases h1 : a = c <;> by_cases h2 : b = d <;> simp [eqList, eqCell, h1, h2]

theorem loop_Index_pair {q u : Nat} {c : Option Nat} {os : List Ld} {m : Ld} {y0 y1 : AV} (h : cellsAt H q = some (encL os)) (hn : os.length ≤ 1048576) (hu : cellsAt H u = some [.int .i64 m.1, .int .i64 m.2]) :
    ∀ (k i : Nat) (y3 y4 y7 y8 : AV), k + i = os.length → ∃ (z3 : Int) (z4 z6 z7 z8 : AV), (m ∈ os.drop i → 0 ≤ z3) ∧ run T pr (.loop w_slices_Index_S_2int__2int_1) ⟨[slL q os.length c, y1, .ptr (some (u, 0)), y3, y4, .int .i64 os.length, .int .i64 i, y7, y8], ⟨H, e⟩⟩ =
      some (if decide (m ∈ os.drop i) = true then Ex.ret else Ex.exit 0, ⟨[slL q os.length c, y1, .ptr (some (u, 0)), if decide (m ∈ os.drop i) = true then .int .i64 z3 else y3, z4, .int .i64 os.length, z6, z7, z8], ⟨H, e⟩⟩)
  | 0, i, y3, y4, y7, y8, hk => by
    obtain rfl : i = os.length := by omega
    refine ⟨0, y4, .int .i64 os.length, .bool false, y8, fun _ => Int.le_refl _, ?_⟩
    rw [run_loop, List.drop_length]
    generalize run T pr (.loop w_slices_Index_S_2int__2int_1) = R
    have hm : decide (m ∈ ([] : List Ld)) = false := by simp
    simp +contextual only [w_slices_Index_S_2int__2int_1, hm, Nat.lt_irrefl, decide_false, go_sem, entry, joinEsc, if_pos, reduceIte, Nat.reduceAdd, Nat.reduceLeDiff, Nat.reduceLT, Nat.reduceEqDiff]
  | k + 1, i, y3, y4, y7, y8, hk => by
    have hi : i < os.length := by omega
    have hl : os[i]? = some os[i] := List.getElem?_eq_getElem hi
    have hd := List.drop_eq_getElem_cons hi
    rw [run_loop, hd]
    by_cases hm : m = os[i]
    · refine ⟨i, .int .i64 i, .int .i64 i, .bool true, .bool true, fun _ => by omega, ?_⟩
      have h1 : decide (m ∈ os[i] :: os.drop (i + 1)) = true := decide_eq_true (by rw [hm]; exact List.mem_cons_self)
      have h2 : decide ((m.1, m.2) = (os[i].1, os[i].2)) = true := by simp [← hm]
      generalize run T pr (.loop w_slices_Index_S_2int__2int_1) = R
      simp +contextual only [w_slices_Index_S_2int__2int_1, h1, h2, hi, hl, h, hu, part_encL hl, eq_pair, decide_true, decide_false, go_sem, entry, joinEsc, if_pos, reduceIte, Nat.reduceAdd, Nat.reduceLeDiff, Nat.reduceLT, Nat.reduceEqDiff]
    · obtain ⟨z3, z4, z6, z7, z8, hz, ih⟩ := loop_Index_pair (y0 := y0) (y1 := y1) (c := c) h hn hu k (i + 1) y3 (.int .i64 i) (.bool true) (.bool false) (by omega)
      have h1 : decide (m ∈ os[i] :: os.drop (i + 1)) = decide (m ∈ os.drop (i + 1)) := decide_eq_decide.mpr (by rw [List.mem_cons]; simp only [hm, false_or])
      refine ⟨z3, z4, z6, z7, z8, fun h => hz ((List.mem_cons.mp h).resolve_left hm), ?_⟩
      have h2 : decide ((m.1, m.2) = (os[i].1, os[i].2)) = false := by simp; intro h3 h4; exact hm (Prod.ext h3 h4)
      rw [h1]
      generalize decide (m ∈ os.drop (i + 1)) = B at ih ⊢
      generalize run T pr (.loop w_slices_Index_S_2int__2int_1) = R at ih ⊢
      simp +contextual only [w_slices_Index_S_2int__2int_1, h2, hi, hl, h, hu, part_encL hl, eq_pair, wrap_succ (show i < 9223372036854775807 by omega), decide_true, decide_false, go_sem, entry, joinEsc, if_pos, reduceIte, Nat.reduceAdd, Nat.reduceLeDiff, Nat.reduceLT, Nat.reduceEqDiff]
      exact ih

theorem e_Contains_pair {q : Nat} {c : Option Nat} {os : List Ld} (m : Ld) (h : cellsAt H q = some (encL os)) (hn : os.length ≤ 1048576) : call T pr f_slices_Contains_S_2int__2int [slL q os.length c, prV m.1 m.2] ⟨H, e⟩ = some (.bool (decide (m ∈ os)), ⟨H, e⟩) := by
  have hi : ∀ L : List Blk, cellsAt L q = some (encL os) → ∃ z : Int, (decide (0 ≤ z) = decide (m ∈ os)) ∧ call T pr f_slices_Index_S_2int__2int [slL q os.length c, prV m.1 m.2] ⟨L, none⟩ = some (.int .i64 z, ⟨L, none⟩) := by
    intro L h
    obtain ⟨z3, z4, z6, z7, z8, hz, hl⟩ := loop_Index_pair (pr := pr) (e := none) (H := L ++ [.cells [.int .i64 m.1, .int .i64 m.2] true]) (c := c) (u := L.length) (y0 := .undef) (y1 := prV m.1 m.2) (cells_mono h _) hn (by rw [cellsAt_new0]; rfl) os.length 0 (.int .i64 0) .undef .undef .undef rfl
    have h0 : ((0 : Nat) : Int) = 0 := rfl
    rw [h0, List.drop_zero] at hl
    rw [List.drop_zero] at hz
    by_cases hm : m ∈ os
    · refine ⟨z3, by simp [hm, hz hm], ?_⟩
      rw [decide_eq_true hm] at hl
      simp only [if_true] at hl
      rw [call_eq t_slices_Index_S_2int__2int]
      simp +contextual only [a_slices_Index_S_2int__2int, c_slices_Index_S_2int__2int, hl, go_sem, entry, joinEsc, if_pos, reduceIte, Nat.reduceAdd, Nat.reduceLeDiff, Nat.reduceLT, Nat.reduceEqDiff]
    · refine ⟨-1, by simp [hm], ?_⟩
      rw [decide_eq_false hm] at hl
      simp only [Bool.false_eq_true, if_false] at hl
      rw [call_eq t_slices_Index_S_2int__2int]
      simp +contextual only [a_slices_Index_S_2int__2int, c_slices_Index_S_2int__2int, hl, Bool.false_eq_true, if_false, go_sem, entry, joinEsc, if_pos, reduceIte, Nat.reduceAdd, Nat.reduceLeDiff, Nat.reduceLT, Nat.reduceEqDiff]
  obtain ⟨z, h1, h2⟩ := hi (H ++ [.cells [.int .i64 m.1, .int .i64 m.2] true]) (cells_mono h _)
  rw [call_eq t_slices_Contains_S_2int__2int]
  simp +contextual only [a_slices_Contains_S_2int__2int, c_slices_Contains_S_2int__2int, h1, h2, go_sem, entry, joinEsc, if_pos, reduceIte, Nat.reduceAdd, Nat.reduceLeDiff, Nat.reduceLT, Nat.reduceEqDiff]

theorem mem_selM {x a b : Int} {ls : List Ld} {i : Nat} {ps : List Int} {m : Ld} : m ∈ selM x a b ls i ps ↔ m.1 = (i : Int) ∧ m.2 ∈ ps ∧ okMv x a b ls i m.2 = true := by
  unfold selM
  rw [List.mem_map]
  constructor
  · rintro ⟨p, hp, rfl⟩
    rw [List.mem_filter] at hp
    exact ⟨rfl, hp.1, hp.2⟩
  · rintro ⟨h1, h2, h3⟩
    exact ⟨m.2, List.mem_filter.mpr ⟨h2, h3⟩, Prod.ext h1.symm rfl⟩

theorem mem_mvsFrom {x a b s : Int} {ls : List Ld} {m : Ld} : ∀ (k i : Nat), m ∈ mvsFrom x a b s ls k i ↔ ∃ j : Nat, i ≤ j ∧ j < i + k ∧ m ∈ selM x a b ls j [wr (plOf ls j - s), wr (plOf ls j + s)]
  | 0, i => by
    constructor
    · intro h; simp [mvsFrom] at h
    · rintro ⟨j, h1, h2, _⟩; omega
  | k + 1, i => by
    rw [mvsFrom, List.mem_append, mem_mvsFrom k (i + 1)]
    constructor
    · rintro (h | ⟨j, h1, h2, h3⟩)
      · exact ⟨i, Nat.le_refl _, by omega, h⟩
      · exact ⟨j, by omega, by omega, h3⟩
    · rintro ⟨j, h1, h2, h3⟩
      by_cases hj : j = i
      · subst hj; exact .inl h3
      · exact .inr ⟨j, by omega, by omega, h3⟩

theorem mem_mvs {x a b s : Int} {ls : List Ld} (hpl : plB ls) (hs : 1 ≤ s ∧ s ≤ 4) (hx : x ≤ 60) (m : Ld) : decide (m ∈ mvs x a b s ls) = safeMv x a b ls s m.1 m.2 := by
  rw [Bool.eq_iff_iff, decide_eq_true_iff]
  unfold mvs
  rw [mem_mvsFrom]
  constructor
  · rintro ⟨j, _, h2, h3⟩
    obtain ⟨h4, h5, h6⟩ := mem_selM.mp h3
    rw [h4]
    rw [safe_ok (by omega) hpl hs (by simpa using h5)]
    exact h6
  · intro h
    have h0 := h
    unfold safeMv at h
    simp only [Bool.and_eq_true, Bool.or_eq_true, decide_eq_true_eq] at h
    obtain ⟨⟨⟨h1, h2⟩, h3, h4⟩, h5, h6⟩ := h
    obtain ⟨j, hj⟩ : ∃ j : Nat, m.1 = j := ⟨m.1.toNat, by omega⟩
    rw [hj] at h0 h1 h2 h5 h6
    rw [Int.toNat_natCast] at h5
    have hjl : j < ls.length := by omega
    obtain ⟨b1, b2⟩ := hpl j hjl
    have w4 : wr (m.2 - plOf ls j) = m.2 - plOf ls j := wrap64 (by omega) (by omega)
    have w3 : wr (0 - s) = - s := by show IntKind.i64.wrap (0 - s) = - s; rw [wrap64 (by omega) (by omega)]; omega
    have w1 : wr (plOf ls j - s) = plOf ls j - s := wrap64 (by omega) (by omega)
    have w2 : wr (plOf ls j + s) = plOf ls j + s := wrap64 (by omega) (by omega)
    rw [w3, w4] at h5
    have hor : m.2 = wr (plOf ls j - s) ∨ m.2 = wr (plOf ls j + s) := by rw [w1, w2]; omega
    refine ⟨j, Nat.zero_le _, by omega, mem_selM.mpr ⟨hj, by simpa using hor, ?_⟩⟩
    rw [← safe_ok hjl hpl hs hor]
    exact h0

theorem plOf_movd : ∀ (ls : List Ld) (i j : Nat) (p : Int), plOf (movd ls i p) j = if i = j ∧ j < ls.length then p else plOf ls j
  | [], i, j, p => by simp [movd]
  | l :: ls, 0, 0, p => by simp [movd, plOf]
  | l :: ls, 0, j + 1, p => by simp [movd, plOf]
  | l :: ls, i + 1, 0, p => by simp [movd, plOf]
  | l :: ls, i + 1, j + 1, p => by
    have := plOf_movd ls i j p
    unfold plOf at this ⊢
    simpa [movd] using this

theorem plB_movd {x a b s i p : Int} {ls : List Ld} (hpl : plB ls) (hx : x ≤ 60) (h : safeMv x a b ls s i p = true) : plB (movd ls i.toNat p) := by
  intro j hj
  rw [movd_length] at hj
  rw [plOf_movd]
  unfold safeMv at h
  simp only [Bool.and_eq_true, Bool.or_eq_true, decide_eq_true_eq] at h
  split
  · omega
  · exact hpl j hj

/-- a party behind a walk -/
def walkW (x a b s : Int) : List Ld → List Ld → Option (List Ld)
  | ls, [] => some ls
  | ls, m :: ms => if safeMv x a b ls s m.1 m.2 = true then walkW x a b s (movd ls m.1.toNat m.2) ms else none

/-- the same, told by the places -/
def walkS (x a b s : Int) (ls : List Ld) : List Int → List Ld → Option (List Int)
  | ss, [] => some ss
  | ss, m :: ms => if safeMv x a b (putL ls ss) s m.1 m.2 = true then walkS x a b s ls (ss.set m.1.toNat m.2) ms else none

theorem safe_range {x a b s i p : Int} {ls : List Ld} (h : safeMv x a b ls s i p = true) : 0 ≤ i ∧ i.toNat < ls.length := by
  unfold safeMv at h
  simp only [Bool.and_eq_true, Bool.or_eq_true, decide_eq_true_eq] at h
  omega

theorem walk_eq {x a b s : Int} {ls : List Ld} : ∀ (ms : List Ld) (ss : List Int), ls.length ≤ ss.length → walkW x a b s (putL ls ss) ms = (walkS x a b s ls ss ms).map (putL ls)
  | [], ss, hl => rfl
  | m :: ms, ss, hl => by
    rw [walkW, walkS]
    cases h : safeMv x a b (putL ls ss) s m.1 m.2 with
    | false => rfl
    | true =>
      have hr := (safe_range h).2
      rw [putL_length] at hr
      simp only [if_true]
      rw [← putL_set ls ss m.1.toNat m.2 hr hl]
      exact walk_eq ms _ (by rw [List.length_set]; exact hl)

theorem walkW_length {x a b s : Int} : ∀ (ms ls : List Ld) (r : List Ld), walkW x a b s ls ms = some r → r.length = ls.length
  | [], ls, r, h => by cases h; rfl
  | m :: ms, ls, r, h => by
    rw [walkW] at h
    split at h
    · rw [walkW_length ms _ r h, movd_length]
    · cases h

theorem loop_i_Party_walk {q qw : Nat} {c cw : Option Nat} {ls ws : List Ld} {x a b s : Int} {y0 : AV} (h : cellsAt H q = some (encL ls)) (hn : ls.length ≤ 3) (hs : 1 ≤ s ∧ s ≤ 4) (hx : x ≤ 60) (hw : cellsAt H qw = some (encL ws)) (hwn : ws.length ≤ 1048576) :
    ∀ (k i : Nat) (s0 s1 s2 : Int) (G : List Blk) (y6 y10 y11 : AV), k + i = ws.length → plB (putL ls [s0, s1, s2]) → ∃ (B3 : Blk) (G' : List Blk) (z6 z9 z10 z11 : AV), 
      (∀ t0 t1 t2, walkS x a b s ls [s0, s1, s2] (ws.drop i) = some [t0, t1, t2] → B3 = .cells [.int .i64 t0, .int .i64 t1, .int .i64 t2] true) ∧
      run T pr (.loop w_i_Party_walk_1) ⟨[y0, slL qw ws.length cw, .ptr (some (H.length, 0)), .ptr (some (H.length + 1, 0)), .bool false, .ptr (some (H.length + 2, 0)), y6, slL qw ws.length cw, .int .i64 ws.length, .int .i64 i, y10, y11], ⟨H ++ (.cells [.int .i64 x, .int .i64 a, .int .i64 b, slL q ls.length c, .int .i64 s] true :: .cells [.int .i64 0, .int .i64 0, .int .i64 0] true :: .cells [.int .i64 s0, .int .i64 s1, .int .i64 s2] true :: G), e⟩⟩ =
        some (if (walkS x a b s ls [s0, s1, s2] (ws.drop i)).isSome = true then Ex.exit 0 else Ex.ret, ⟨[y0, slL qw ws.length cw, .ptr (some (H.length, 0)), .ptr (some (H.length + 1, 0)), .bool false, .ptr (some (H.length + 2, 0)), z6, slL qw ws.length cw, .int .i64 ws.length, z9, z10, z11], ⟨H ++ (.cells [.int .i64 x, .int .i64 a, .int .i64 b, slL q ls.length c, .int .i64 s] true :: .cells [.int .i64 0, .int .i64 0, .int .i64 0] true :: B3 :: G'), e⟩⟩)
  | 0, i, s0, s1, s2, G, y6, y10, y11, hk, hpl => by
    obtain rfl : i = ws.length := by omega
    have hd : walkS x a b s ls [s0, s1, s2] (ws.drop ws.length) = some [s0, s1, s2] := by rw [List.drop_length]; rfl
    refine ⟨.cells [.int .i64 s0, .int .i64 s1, .int .i64 s2] true, G, y6, .int .i64 ws.length, .bool false, y11, fun t0 t1 t2 ht => ?_, ?_⟩
    · rw [hd] at ht
      simp at ht
      obtain ⟨rfl, rfl, rfl⟩ := ht
      rfl
    · rw [run_loop, hd]
      generalize run T pr (.loop w_i_Party_walk_1) = R
      simp +contextual only [w_i_Party_walk_1, Nat.lt_irrefl, decide_false, Option.isSome_some, go_sem, entry, joinEsc, if_pos, reduceIte, Nat.reduceAdd, Nat.reduceLeDiff, Nat.reduceLT, Nat.reduceEqDiff]
  | k + 1, i, s0, s1, s2, G, y6, y10, y11, hk, hpl => by
    have hi : i < ws.length := by omega
    obtain ⟨m1, m2, hl⟩ : ∃ m1 m2, ws[i]? = some (m1, m2) := ⟨ws[i].1, ws[i].2, List.getElem?_eq_getElem hi⟩
    have hd : ws.drop i = (m1, m2) :: ws.drop (i + 1) := by
      have h1 := List.drop_eq_getElem_cons hi
      rw [List.getElem?_eq_getElem hi] at hl
      rw [h1, Option.some.inj hl]
    have hpart : part true (encL ws) (i * 2) 2 = some (.agg [.int .i64 m1, .int .i64 m2]) := part_encL hl
    obtain ⟨cap, hmv⟩ := e_i_Party_moves (pr := pr) (e := e) (c := c) (H := H ++ (.cells [.int .i64 x, .int .i64 a, .int .i64 b, slL q ls.length c, .int .i64 s] true :: .cells [.int .i64 0, .int .i64 0, .int .i64 0] true :: .cells [.int .i64 s0, .int .i64 s1, .int .i64 s2] true :: (G ++ [.cells [.int .i64 m1, .int .i64 m2] true]))) (cells_mono h _) hn x a b s s0 s1 s2
    have hmem := mem_mvs (x := x) (a := a) (b := b) hpl hs hx (m1, m2)
    have hle : (mvs x a b s (putL ls [s0, s1, s2])).length ≤ 6 := Nat.le_trans (mvs_le x a b s _ _ _) (by rw [putL_length]; omega)
    have hcon := e_Contains_pair (pr := pr) (e := e) (c := cap) (m1, m2) (H := H ++ (.cells [.int .i64 x, .int .i64 a, .int .i64 b, slL q ls.length c, .int .i64 s] true :: .cells [.int .i64 0, .int .i64 0, .int .i64 0] true :: .cells [.int .i64 s0, .int .i64 s1, .int .i64 s2] true :: (G ++ [.cells [.int .i64 m1, .int .i64 m2] true, .cells (encL (mvs x a b s (putL ls [s0, s1, s2]))) true])))
      (q := H.length + (G.length + 1 + 1 + 1 + 1)) (os := mvs x a b s (putL ls [s0, s1, s2])) (by rw [cellsAt_newk]; exact cellsAt_get (w := true) (by simp)) (by omega)
    rw [hmem] at hcon
    simp only [List.length_append, List.append_assoc, List.cons_append, List.nil_append, List.length_cons, List.length_nil, Nat.zero_add] at hmv hcon
    rw [hd]
    cases hsafe : safeMv x a b (putL ls [s0, s1, s2]) s m1 m2 with
    | false =>
      rw [hsafe] at hcon
      have hno : walkS x a b s ls [s0, s1, s2] ((m1, m2) :: ws.drop (i + 1)) = none := by rw [walkS]; simp [hsafe]
      refine ⟨.cells [.int .i64 s0, .int .i64 s1, .int .i64 s2] true, G ++ [.cells [.int .i64 m1, .int .i64 m2] true, .cells (encL (mvs x a b s (putL ls [s0, s1, s2]))) true], .ptr (some (H.length + (G.length + 1 + 1 + 1), 0)), .int .i64 i, .bool true, .bool true, fun t0 t1 t2 ht => ?_, ?_⟩
      · rw [hno] at ht
        cases ht
      · rw [run_loop, hno]
        generalize run T pr (.loop w_i_Party_walk_1) = R
        simp +contextual only [w_i_Party_walk_1, fillParts, hi, cells_mono hw, hpart, hmv, hcon, decide_true, Option.isSome_none, Bool.false_eq_true, if_false, go_sem, entry, joinEsc, if_pos, reduceIte, Nat.reduceAdd, Nat.reduceLeDiff, Nat.reduceLT, Nat.reduceEqDiff]
    | true =>
      rw [hsafe] at hcon
      obtain ⟨r1, r2⟩ := safe_range hsafe
      obtain ⟨j, rfl⟩ : ∃ j : Nat, m1 = j := ⟨m1.toNat, by omega⟩
      rw [putL_length, Int.toNat_natCast] at r2
      have hj3 : j < 3 := by omega
      obtain ⟨t0, t1, t2, ht, hset⟩ := set3 (s0 := s0) (s1 := s1) (s2 := s2) (p := m2) hj3
      have hyes : walkS x a b s ls [s0, s1, s2] (((j : Int), m2) :: ws.drop (i + 1)) = walkS x a b s ls [t0, t1, t2] (ws.drop (i + 1)) := by rw [walkS]; simp only [hsafe, if_true, Int.toNat_natCast, ht]
      have hpl' : plB (putL ls [t0, t1, t2]) := by
        have := plB_movd hpl hx hsafe
        rw [Int.toNat_natCast, ← putL_set ls [s0, s1, s2] j m2 r2 hn, ht] at this
        exact this
      obtain ⟨B3, G', z6, z9, z10, z11, k1, ih⟩ := loop_i_Party_walk (y0 := y0) (c := c) (cw := cw) h hn hs hx hw hwn k (i + 1) t0 t1 t2 (G ++ [.cells [.int .i64 j, .int .i64 m2] true, .cells (encL (mvs x a b s (putL ls [s0, s1, s2]))) true]) (.ptr (some (H.length + (G.length + 1 + 1 + 1), 0))) (.bool true) (.bool false) (by omega) hpl'
      refine ⟨B3, G', z6, z9, z10, z11, ?_, ?_⟩
      · rw [hyes]
        exact k1
      · rw [run_loop, hyes]
        have hle1 : j + 1 ≤ 3 := by omega
        generalize run T pr (.loop w_i_Party_walk_1) = R at ih ⊢
        generalize walkS x a b s ls [t0, t1, t2] (ws.drop (i + 1)) = W at ih ⊢
        simp +contextual only [w_i_Party_walk_1, fillParts, hi, cells_mono hw, hpart, hmv, hcon, at02, at12, toNat0, toNat1, hj3, hle1, hset, wrap_succ (show i < 9223372036854775807 by omega), decide_true, go_sem, entry, joinEsc, if_pos, reduceIte, Nat.reduceAdd, Nat.reduceLeDiff, Nat.reduceLT, Nat.reduceEqDiff]
        exact ih

end Go.Proofs.Ythkgpblohjpcdaa.Slim

/- Walks of a party: the functions and the laws. -/
namespace Go.Proofs.Ythkgpblohjpcdaa.Slim

open Go

set_option linter.unusedSimpArgs false

set_option linter.unusedVariables false

variable {pr : Prims} {H : List Blk} {e : Option Nat}

theorem e_i_Party_walk {q qw : Nat} {c cw : Option Nat} {ls ws : List Ld} {x a b s : Int} (h : cellsAt H q = some (encL ls)) (hw : cellsAt H qw = some (encL ws)) (hp : partyOk x a b ls s = true) (hwn : ws.length ≤ 1048576) {t0 t1 t2 : Int} (hwk : walkS x a b s ls (spots ls) ws = some [t0, t1, t2]) :
    call T pr f_i_Party_walk [ptV x a b (slL q ls.length c) s, slL qw ws.length cw] ⟨H, e⟩ = some (.tup [spV t0 t1 t2, .bool true], ⟨H, e⟩) := by
  obtain ⟨hn, hpl, hs⟩ := party_facts hp
  obtain ⟨_, hx1, hx2⟩ := party_bounds hp
  obtain ⟨s0, s1, s2, h3⟩ := three (spots_length hn)
  have hput : putL ls [s0, s1, s2] = ls := by rw [← h3]; exact putL_self ls _
  have hsp := fun G => e_i_Party_spots (pr := pr) (e := none) (c := c) (cells_mono h G) hn x a b s h3
  obtain ⟨B3, G', z6, z9, z10, z11, k1, hl⟩ := loop_i_Party_walk (pr := pr) (e := none) (c := c) (cw := cw) (y0 := ptV x a b (slL q ls.length c) s) (a := a) (b := b) h hn hs (show x ≤ 60 by omega) hw hwn ws.length 0 s0 s1 s2 [] .undef .undef .undef rfl (by rw [hput]; exact hpl)
  have h0 : ((0 : Nat) : Int) = 0 := rfl
  rw [h3] at hwk
  rw [List.drop_zero, hwk] at hl
  rw [List.drop_zero] at k1
  rw [k1 t0 t1 t2 hwk, h0, Option.isSome_some, if_pos rfl] at hl
  rw [call_eq t_i_Party_walk]
  simp +contextual only [a_i_Party_walk, c_i_Party_walk, fillParts, hsp, hl, go_sem, entry, joinEsc, if_pos, reduceIte, Nat.reduceAdd, Nat.reduceLeDiff, Nat.reduceLT, Nat.reduceEqDiff]

theorem e_i_Party_walk_no {q qw : Nat} {c cw : Option Nat} {ls ws : List Ld} {x a b s : Int} (h : cellsAt H q = some (encL ls)) (hw : cellsAt H qw = some (encL ws)) (hp : partyOk x a b ls s = true) (hwn : ws.length ≤ 1048576) (hwk : walkS x a b s ls (spots ls) ws = none) :
    call T pr f_i_Party_walk [ptV x a b (slL q ls.length c) s, slL qw ws.length cw] ⟨H, e⟩ = some (.tup [spV 0 0 0, .bool false], ⟨H, e⟩) := by
  obtain ⟨hn, hpl, hs⟩ := party_facts hp
  obtain ⟨_, hx1, hx2⟩ := party_bounds hp
  obtain ⟨s0, s1, s2, h3⟩ := three (spots_length hn)
  have hput : putL ls [s0, s1, s2] = ls := by rw [← h3]; exact putL_self ls _
  have hsp := fun G => e_i_Party_spots (pr := pr) (e := none) (c := c) (cells_mono h G) hn x a b s h3
  obtain ⟨B3, G', z6, z9, z10, z11, k1, hl⟩ := loop_i_Party_walk (pr := pr) (e := none) (c := c) (cw := cw) (y0 := ptV x a b (slL q ls.length c) s) (a := a) (b := b) h hn hs (show x ≤ 60 by omega) hw hwn ws.length 0 s0 s1 s2 [] .undef .undef .undef rfl (by rw [hput]; exact hpl)
  have h0 : ((0 : Nat) : Int) = 0 := rfl
  rw [h3] at hwk
  rw [List.drop_zero, hwk, h0, Option.isSome_none, if_neg (by simp)] at hl
  rw [call_eq t_i_Party_walk]
  simp +contextual only [a_i_Party_walk, c_i_Party_walk, fillParts, hsp, hl, go_sem, entry, joinEsc, if_pos, reduceIte, Nat.reduceAdd, Nat.reduceLeDiff, Nat.reduceLT, Nat.reduceEqDiff]

theorem walk_cases {x a b s : Int} {ls ws : List Ld} (hn : ls.length ≤ 3) : (walkS x a b s ls (spots ls) ws = none ∧ walkW x a b s ls ws = none) ∨ (∃ t0 t1 t2, walkS x a b s ls (spots ls) ws = some [t0, t1, t2] ∧ walkW x a b s ls ws = some (putL ls [t0, t1, t2])) := by
  have hput : putL ls (spots ls) = ls := putL_self ls _
  have h := walk_eq (x := x) (a := a) (b := b) (s := s) ws (spots ls) (ls := ls) (by rw [spots_length hn]; exact hn)
  rw [hput] at h
  have hlen : ∀ (ms : List Ld) (ss r : List Int), walkS x a b s ls ss ms = some r → r.length = ss.length := by
    intro ms
    induction ms with
    | nil => intro ss r hr; cases hr; rfl
    | cons m ms ih =>
      intro ss r hr
      rw [walkS] at hr
      split at hr
      · rw [ih _ _ hr, List.length_set]
      · cases hr
  cases hw : walkS x a b s ls (spots ls) ws with
  | none => exact .inl ⟨rfl, by rw [h, hw]; rfl⟩
  | some r =>
    obtain ⟨t0, t1, t2, rfl⟩ := three ((hlen _ _ _ hw).trans (spots_length hn))
    exact .inr ⟨t0, t1, t2, rfl, by rw [h, hw]; rfl⟩

theorem loop_s_l11Walk {qw n : Nat} {cw : Option Nat} {ws : List Ld} {x a b s : Int} {y0 y9 : AV} {B0 B1 B2 B3 : Blk} (hn : n ≤ 3) (hw : cellsAt H qw = some (encL ws)) (hwn : ws.length ≤ 60) (hB1 : B1 = .cells [.int .i64 0, .int .i64 0, .int .i64 0, .slice none 0 0 none, .int .i64 0] true) :
    ∀ (k i jb : Nat) (cur : List Ld) (G : List Blk) (y7 y8 : AV) (e : Option Nat), clean H.length e = true → k + i = ws.length → cur.length = n → (B0 :: B1 :: B2 :: B3 :: .cells [.int .i64 x, .int .i64 a, .int .i64 b, slL (H.length + jb) n none, .int .i64 s] true :: G)[jb]? = some (.cells (encL cur) true) →
      ∃ (B4 : Blk) (jb' : Nat) (G' : List Blk) (z6 z7 z8 : AV) (e' : Option Nat), clean H.length e' = true ∧
      (∀ r, walkW x a b s cur (ws.drop i) = some r → B4 = .cells [.int .i64 x, .int .i64 a, .int .i64 b, slL (H.length + jb') n none, .int .i64 s] true ∧ (B0 :: B1 :: B2 :: B3 :: B4 :: G')[jb']? = some (.cells (encL r) true)) ∧
      run T pr (.loop w_s_l11Walk_1) ⟨[y0, slL qw ws.length cw, .ptr (some (H.length, 0)), .ptr (some (H.length + 1, 0)), .bool false, .ptr (some (H.length + 4, 0)), .int .i64 i, y7, y8, y9], ⟨H ++ (B0 :: B1 :: B2 :: B3 :: .cells [.int .i64 x, .int .i64 a, .int .i64 b, slL (H.length + jb) n none, .int .i64 s] true :: G), e⟩⟩ =
        some (if (walkW x a b s cur (ws.drop i)).isSome = true then Ex.exit 0 else Ex.ret, ⟨[y0, slL qw ws.length cw, .ptr (some (H.length, 0)), .ptr (some (H.length + 1, 0)), .bool false, .ptr (some (H.length + 4, 0)), z6, z7, z8, y9], ⟨H ++ (B0 :: B1 :: B2 :: B3 :: B4 :: G'), e'⟩⟩)
  | 0, i, jb, cur, G, y7, y8, e, hce, hk, hc, hj => by
    obtain rfl : i = ws.length := by omega
    have hd : walkW x a b s cur (ws.drop ws.length) = some cur := by rw [List.drop_length]; rfl
    refine ⟨.cells [.int .i64 x, .int .i64 a, .int .i64 b, slL (H.length + jb) n none, .int .i64 s] true, jb, G, .int .i64 ws.length, .bool false, y8, e, hce, fun r hr => ?_, ?_⟩
    · rw [hd] at hr
      cases hr
      exact ⟨rfl, hj⟩
    · rw [run_loop, hd]
      generalize run T pr (.loop w_s_l11Walk_1) = R
      simp +contextual only [w_s_l11Walk_1, Nat.lt_irrefl, decide_false, Option.isSome_some, go_sem, entry, joinEsc, if_pos, reduceIte, Nat.reduceAdd, Nat.reduceLeDiff, Nat.reduceLT, Nat.reduceEqDiff]
  | k + 1, i, jb, cur, G, y7, y8, e, hce, hk, hc, hj => by
    have hi : i < ws.length := by omega
    have h60 : (ws.length : Int) ≤ 60 := by omega
    obtain ⟨m1, m2, hl⟩ : ∃ m1 m2, ws[i]? = some (m1, m2) := ⟨ws[i].1, ws[i].2, List.getElem?_eq_getElem hi⟩
    have hd : ws.drop i = (m1, m2) :: ws.drop (i + 1) := by
      have h1 := List.drop_eq_getElem_cons hi
      rw [List.getElem?_eq_getElem hi] at hl
      rw [h1, Option.some.inj hl]
    have hpart : part true (encL ws) (i * 2) 2 = some (.agg [.int .i64 m1, .int .i64 m2]) := part_encL hl
    have hcell : cellsAt (H ++ (B0 :: B1 :: B2 :: B3 :: .cells [.int .i64 x, .int .i64 a, .int .i64 b, slL (H.length + jb) n none, .int .i64 s] true :: G)) (H.length + jb) = some (encL cur) := by
      rw [cellsAt_newk]; exact cellsAt_get hj
    have hsf := e_s_l11Safe (pr := pr) (e := e) (c := none) hcell (by omega) x a b s m1 m2
    rw [hc] at hsf
    rw [hd]
    cases hsafe : safeMv x a b cur s m1 m2 with
    | false =>
      rw [hsafe] at hsf
      have hno : walkW x a b s cur ((m1, m2) :: ws.drop (i + 1)) = none := by rw [walkW]; simp [hsafe]
      refine ⟨.cells [.int .i64 x, .int .i64 a, .int .i64 b, slL (H.length + jb) n none, .int .i64 s] true, jb, G, .int .i64 i, .bool true, .bool true, e, hce, fun r hr => ?_, ?_⟩
      · rw [hno] at hr
        cases hr
      · subst hB1
        rw [run_loop, hno]
        generalize run T pr (.loop w_s_l11Walk_1) = R
        simp +contextual only [w_s_l11Walk_1, fillParts, hi, h60, cells_mono hw, hpart, hsf, under_sliceN, decide_true, Option.isSome_none, Bool.false_eq_true, if_false, go_sem, entry, joinEsc, if_pos, reduceIte, Nat.reduceAdd, Nat.reduceLeDiff, Nat.reduceLT, Nat.reduceEqDiff]
    | true =>
      rw [hsafe] at hsf
      obtain ⟨r1, r2⟩ := safe_range hsafe
      obtain ⟨j, rfl⟩ : ∃ j : Nat, m1 = j := ⟨m1.toNat, by omega⟩
      rw [Int.toNat_natCast] at r2
      have hmv := e_s_l11Moved (pr := pr) (e := e) (c := none) hcell (by omega) x a b s m2 r2
      rw [hc] at hmv
      simp only [List.length_append, List.append_assoc, List.cons_append, List.nil_append, List.length_cons, List.length_nil, Nat.zero_add] at hmv
      have hyes : walkW x a b s cur (((j : Int), m2) :: ws.drop (i + 1)) = walkW x a b s (movd cur j m2) (ws.drop (i + 1)) := by rw [walkW]; simp only [hsafe, if_true, Int.toNat_natCast]
      obtain ⟨B4, jb', G', z6, z7, z8, e', he', k1, ih⟩ := loop_s_l11Walk (y0 := y0) (y9 := y9) (cw := cw) (B0 := B0) (B2 := B2) (B3 := B3) hn hw hwn hB1 k (i + 1) (G.length + 1 + 1 + 1 + 1 + 1) (movd cur j m2) (G ++ [.cells (encL (movd cur j m2)) true]) (.bool true) (.bool false) (minEsc e (H.length + 4)) (by rw [clean_minEsc, hce]; simp) (by omega) (by rw [movd_length]; exact hc) (by simp)
      refine ⟨B4, jb', G', z6, z7, z8, e', he', ?_, ?_⟩
      · rw [hyes]
        exact k1
      · rw [run_loop, hyes]
        generalize run T pr (.loop w_s_l11Walk_1) = R at ih ⊢
        generalize walkW x a b s (movd cur j m2) (ws.drop (i + 1)) = W at ih ⊢
        have hlt : ¬ (H.length + (G.length + 1 + 1 + 1 + 1 + 1) < H.length + 4 + 1) := by omega
        simp +contextual only [w_s_l11Walk_1, fillParts, hi, h60, cells_mono hw, hpart, hsf, hmv, under_slice, hlt, decide_false, wrap_succ (show i < 9223372036854775807 by omega), decide_true, go_sem, entry, joinEsc, if_pos, reduceIte, Nat.reduceAdd, Nat.reduceLeDiff, Nat.reduceLT, Nat.reduceEqDiff]
        exact ih

theorem loop_s_l11Walk_long {qw : Nat} {cw : Option Nat} {ws : List Ld} {y0 y2 y3 y4 y5 y7 y8 y9 : AV} {L : List Blk} (hwn : ¬ ws.length ≤ 60) :
    run T pr (.loop w_s_l11Walk_1) ⟨[y0, slL qw ws.length cw, y2, y3, y4, y5, .int .i64 0, y7, y8, y9], ⟨L, e⟩⟩ =
        some (Ex.exit 0, ⟨[y0, slL qw ws.length cw, y2, y3, y4, y5, .int .i64 0, .bool false, y8, y9], ⟨L, e⟩⟩) := by
  have h60 : ¬ (ws.length : Int) ≤ 60 := by omega
  have h1 : (0 : Int) < (ws.length : Int) := by omega
  rw [run_loop]
  generalize run T pr (.loop w_s_l11Walk_1) = R
  simp +contextual only [w_s_l11Walk_1, h60, h1, decide_true, decide_false, go_sem, entry, joinEsc, if_pos, reduceIte, Nat.reduceAdd, Nat.reduceLeDiff, Nat.reduceLT, Nat.reduceEqDiff]

abbrev noParty : AV := ptV 0 0 0 (.slice none 0 0 none) 0

theorem e_s_l11Walk {q qw : Nat} {c cw : Option Nat} {ls ws : List Ld} {x a b s : Int} (h : cellsAt H q = some (encL ls)) (hw : cellsAt H qw = some (encL ws)) (hn : ls.length ≤ 3) (hwn : ws.length ≤ 60) {r : List Ld} (hwk : walkW x a b s ls ws = some r) :
    call T pr f_s_l11Walk [ptV x a b (slL q ls.length c) s, slL qw ws.length cw] ⟨H, e⟩ = some (.tup [ptV x a b (slL H.length ls.length none) s, .bool true], ⟨H ++ [.cells (encL r) true], e⟩) := by
  have ha1 := fun L b e' (hb : L[b]? = some (.cells [] true)) hq => append_all (e := e') (L := L) (b := b) (q := q) (n := ls.length) (sz := 2) (bytes := 16) (c := c) (cs := encL ls) hb hq (encL_length ls) (by unfold maxBytes; omega)
  have ql : q < H.length + 2 := by have := cellsAt_lt h; omega
  obtain ⟨B4, jb', G', z6, z7, z8, e', he', k1, hl⟩ := loop_s_l11Walk (pr := pr) (H := H) (cw := cw) (x := x) (a := a) (b := b) (s := s) (y0 := ptV x a b (slL q ls.length c) s) (y9 := .undef) (B0 := .cells [.int .i64 x, .int .i64 a, .int .i64 b, slL q ls.length c, .int .i64 s] true) (B2 := if ls.length = 0 then Blk.dead else .cells [] true) (B3 := .cells (encL ls) true) hn hw hwn rfl ws.length 0 3 ls [] .undef .undef none rfl rfl rfl rfl
  have h0 : ((0 : Nat) : Int) = 0 := rfl
  rw [List.drop_zero] at k1
  obtain ⟨k2, k3⟩ := k1 r hwk
  rw [List.drop_zero, hwk, k2, h0, Option.isSome_some, if_pos rfl] at hl
  rw [k2] at k3
  have h60 : ¬ (60 : Int) < (ws.length : Int) := by omega
  have h5 : ∀ (v0 v1 v2 v3 v4 : AV) (w w' : Bool), some (Blk.cells [v0, v1, v2, v3, v4] w) ≠ some (Blk.cells (encL r) w') := by
    intro v0 v1 v2 v3 v4 w w' heq
    injection heq with heq
    injection heq with heq
    have := congrArg List.length heq
    rw [encL_length] at this
    simp at this
    omega
  have hf : ∀ (B0 B1 : Blk) (e0 e1 : Option Nat), clean H.length e1 = true → finish 2 H.length e0 (.tup [ptV x a b (slL (H.length + jb') ls.length none) s, .bool true]) ⟨H ++ (B0 :: B1 :: (if ls.length = 0 then Blk.dead else .cells [] true) :: .cells (encL ls) true :: .cells [.int .i64 x, .int .i64 a, .int .i64 b, slL (H.length + jb') ls.length none, .int .i64 s] true :: G'), e1⟩ = some (.tup [ptV x a b (slL H.length ls.length none) s, .bool true], ⟨H ++ [.cells (encL r) true], e0⟩) := by
    intro B0 B1 e0 e1 hc
    refine finish_partyB x a b s true e0 e1 hc (cs := encL r) (wr := true) ?_ (under_encL _ _)
    match jb', k3 with
    | 0, k3 => exact absurd k3 (h5 _ _ _ _ _ _ _)
    | 1, k3 => exact absurd k3 (h5 _ _ _ _ _ _ _)
    | j + 2, k3 => exact k3
  have hj2 : ¬ jb' < 2 := by
    intro hlt
    match jb', k3, hlt with
    | 0, k3, _ => exact absurd k3 (h5 _ _ _ _ _ _ _)
    | 1, k3, _ => exact absurd k3 (h5 _ _ _ _ _ _ _)
  rw [call_eq t_s_l11Walk]
  simp +contextual only [a_s_l11Walk, c_s_l11Walk, fillParts, ha1, cells_mono h, kill0_new, kill0_cons, kill0_0, ql, hl, hf, h60, hj2, he', under_sliceN, under_slice, Nat.add_assoc, Nat.add_lt_add_iff_left, Nat.lt_irrefl, decide_false, clean_minEsc, clean_none, Nat.le_add_right, Nat.le_refl, decide_true, go_sem, entry, joinEsc, if_pos, reduceIte, Nat.reduceAdd, Nat.reduceLeDiff, Nat.reduceLT, Nat.reduceEqDiff]

theorem e_s_l11Walk_no {q qw : Nat} {c cw : Option Nat} {ls ws : List Ld} {x a b s : Int} (h : cellsAt H q = some (encL ls)) (hw : cellsAt H qw = some (encL ws)) (hn : ls.length ≤ 3) (hwk : ws.length ≤ 60 → walkW x a b s ls ws = none) :
    call T pr f_s_l11Walk [ptV x a b (slL q ls.length c) s, slL qw ws.length cw] ⟨H, e⟩ = some (.tup [noParty, .bool false], ⟨H, e⟩) := by
  have ha1 := fun L b e' (hb : L[b]? = some (.cells [] true)) hq => append_all (e := e') (L := L) (b := b) (q := q) (n := ls.length) (sz := 2) (bytes := 16) (c := c) (cs := encL ls) hb hq (encL_length ls) (by unfold maxBytes; omega)
  have ql : q < H.length + 2 := by have := cellsAt_lt h; omega
  have hf : ∀ (G : List Blk) (e0 e1 : Option Nat), clean H.length e1 = true → finish 2 H.length e0 (.tup [noParty, .bool false]) ⟨H ++ G, e1⟩ = some (.tup [noParty, .bool false], ⟨H, e0⟩) :=
    fun G e0 e1 hc => finish_partyN 0 0 0 0 false e0 e1 hc
  rw [call_eq t_s_l11Walk]
  by_cases hwn : ws.length ≤ 60
  · obtain ⟨B4, jb', G', z6, z7, z8, e', he', k1, hl⟩ := loop_s_l11Walk (pr := pr) (H := H) (cw := cw) (x := x) (a := a) (b := b) (s := s) (y0 := ptV x a b (slL q ls.length c) s) (y9 := .undef) (B0 := .cells [.int .i64 x, .int .i64 a, .int .i64 b, slL q ls.length c, .int .i64 s] true) (B2 := if ls.length = 0 then Blk.dead else .cells [] true) (B3 := .cells (encL ls) true) hn hw hwn rfl ws.length 0 3 ls [] .undef .undef none rfl rfl rfl rfl
    have h0 : ((0 : Nat) : Int) = 0 := rfl
    rw [List.drop_zero, hwk hwn, h0] at hl
    simp only [Option.isSome_none, Bool.false_eq_true, if_false] at hl
    simp +contextual only [a_s_l11Walk, c_s_l11Walk, fillParts, ha1, cells_mono h, kill0_new, kill0_cons, kill0_0, ql, hl, hf, he', under_sliceN, under_slice, Nat.add_assoc, Nat.add_lt_add_iff_left, Nat.lt_irrefl, decide_false, clean_minEsc, clean_none, Nat.le_add_right, Nat.le_refl, decide_true, go_sem, entry, joinEsc, if_pos, reduceIte, Nat.reduceAdd, Nat.reduceLeDiff, Nat.reduceLT, Nat.reduceEqDiff]
  · have h60 : (60 : Int) < (ws.length : Int) := by omega
    have hl := fun L y0 y2 y3 y4 y5 y7 y8 y9 => loop_s_l11Walk_long (pr := pr) (e := none) (qw := qw) (cw := cw) (ws := ws) (y0 := y0) (y2 := y2) (y3 := y3) (y4 := y4) (y5 := y5) (y7 := y7) (y8 := y8) (y9 := y9) (L := L) hwn
    simp +contextual only [a_s_l11Walk, c_s_l11Walk, fillParts, ha1, cells_mono h, kill0_new, kill0_cons, kill0_0, ql, hl, hf, h60, under_sliceN, under_slice, Nat.add_assoc, Nat.add_lt_add_iff_left, Nat.lt_irrefl, decide_false, clean_minEsc, clean_none, Nat.le_add_right, Nat.le_refl, decide_true, go_sem, entry, joinEsc, if_pos, reduceIte, Nat.reduceAdd, Nat.reduceLeDiff, Nat.reduceLT, Nat.reduceEqDiff]

/-- is it a walk? -/
def walkOk (x a b s : Int) (ls ws : List Ld) : Bool := decide (ws.length ≤ 60) && (walkW x a b s ls ws).isSome

theorem e_s_IsWalkOn {q qw : Nat} {c cw : Option Nat} {ls ws : List Ld} (h : cellsAt H q = some (encL ls)) (hw : cellsAt H qw = some (encL ws)) (hn : ls.length ≤ 9223372036854775806) (x a b s : Int) :
    call T pr f_s_IsWalkOn [ptV x a b (slL q ls.length c) s, slL qw ws.length cw] ⟨H, e⟩ = some (.tup [.bool (partyOk x a b ls s && walkOk x a b s ls ws), .bool (partyOk x a b ls s)], ⟨H, e⟩) := by
  rw [call_eq t_s_IsWalkOn]
  cases h1 : partyOk x a b ls s with
  | false => simp +contextual only [a_s_IsWalkOn, c_s_IsWalkOn, under_slice, under_sliceN, Nat.add_assoc, Nat.add_lt_add_iff_left, Nat.lt_irrefl, Nat.lt_add_right_iff_pos, decide_true, decide_false, e_s_l11Party (cells_mono h _) hn, h1, go_sem, entry, joinEsc, if_pos, reduceIte, Nat.reduceAdd, Nat.reduceLeDiff, Nat.reduceLT, Nat.reduceEqDiff]
  | true =>
    have hn3 := (party_facts h1).1
    have hm : ∀ G : List Blk, cellsAt (H ++ G) q = some (encL ls) ∧ cellsAt (H ++ G) qw = some (encL ws) := fun G => ⟨cells_mono h G, cells_mono hw G⟩
    unfold walkOk
    by_cases h2 : ws.length ≤ 60
    · cases h3 : walkW x a b s ls ws with
      | none =>
        have hwk := fun G => e_s_l11Walk_no (pr := pr) (e := none) (c := c) (cw := cw) (x := x) (a := a) (b := b) (s := s) (hm G).1 (hm G).2 hn3 (fun _ => h3)
        simp +contextual only [a_s_IsWalkOn, c_s_IsWalkOn, under_slice, under_sliceN, Nat.add_assoc, Nat.add_lt_add_iff_left, Nat.lt_irrefl, Nat.lt_add_right_iff_pos, decide_true, decide_false, e_s_l11Party (cells_mono h _) hn, h1, hwk, Option.isSome_none, Bool.and_false, go_sem, entry, joinEsc, if_pos, reduceIte, Nat.reduceAdd, Nat.reduceLeDiff, Nat.reduceLT, Nat.reduceEqDiff]
      | some r =>
        have hwk := fun G => e_s_l11Walk (pr := pr) (e := none) (c := c) (cw := cw) (x := x) (a := a) (b := b) (s := s) (hm G).1 (hm G).2 hn3 h2 h3
        simp +contextual only [a_s_IsWalkOn, c_s_IsWalkOn, under_slice, under_sliceN, Nat.add_assoc, Nat.add_lt_add_iff_left, Nat.lt_irrefl, Nat.lt_add_right_iff_pos, decide_true, decide_false, e_s_l11Party (cells_mono h _) hn, h1, hwk, h2, decide_true, Option.isSome_some, Bool.and_true, go_sem, entry, joinEsc, if_pos, reduceIte, Nat.reduceAdd, Nat.reduceLeDiff, Nat.reduceLT, Nat.reduceEqDiff]
    · have hwk := fun G => e_s_l11Walk_no (pr := pr) (e := none) (c := c) (cw := cw) (x := x) (a := a) (b := b) (s := s) (hm G).1 (hm G).2 hn3 (fun h => absurd h h2)
      simp +contextual only [a_s_IsWalkOn, c_s_IsWalkOn, under_slice, under_sliceN, Nat.add_assoc, Nat.add_lt_add_iff_left, Nat.lt_irrefl, Nat.lt_add_right_iff_pos, decide_true, decide_false, e_s_l11Party (cells_mono h _) hn, h1, hwk, h2, decide_false, Bool.false_and, Bool.and_false, go_sem, entry, joinEsc, if_pos, reduceIte, Nat.reduceAdd, Nat.reduceLeDiff, Nat.reduceLT, Nat.reduceEqDiff]

theorem e_i_IsWalkOn {q qw : Nat} {c cw : Option Nat} {ls ws : List Ld} (h : cellsAt H q = some (encL ls)) (hw : cellsAt H qw = some (encL ws)) (hn : ls.length ≤ 9223372036854775806) (hwn : ws.length ≤ 1048576) (x a b s : Int) :
    call T pr f_i_IsWalkOn [ptV x a b (slL q ls.length c) s, slL qw ws.length cw] ⟨H, e⟩ = some (.tup [.bool (partyOk x a b ls s && walkOk x a b s ls ws), .bool (partyOk x a b ls s)], ⟨H, e⟩) := by
  rw [call_eq t_i_IsWalkOn]
  cases h1 : partyOk x a b ls s with
  | false => simp +contextual only [a_i_IsWalkOn, c_i_IsWalkOn, under_slice, under_sliceN, Nat.add_assoc, Nat.add_lt_add_iff_left, Nat.lt_irrefl, Nat.lt_add_right_iff_pos, decide_true, decide_false, e_i_IsParty (cells_mono h _) hn, h1, go_sem, entry, joinEsc, if_pos, reduceIte, Nat.reduceAdd, Nat.reduceLeDiff, Nat.reduceLT, Nat.reduceEqDiff]
  | true =>
    have hn3 := (party_facts h1).1
    unfold walkOk
    by_cases h2 : ws.length ≤ 60
    · have h60 : ¬ (60 : Int) < (ws.length : Int) := by omega
      rcases walk_cases (x := x) (a := a) (b := b) (s := s) (ws := ws) hn3 with ⟨h3, h4⟩ | ⟨t0, t1, t2, h3, h4⟩
      · have hwk := fun G => e_i_Party_walk_no (pr := pr) (e := none) (c := c) (cw := cw) (cells_mono h G) (cells_mono hw G) h1 hwn h3
        rw [h4]
        simp +contextual only [a_i_IsWalkOn, c_i_IsWalkOn, under_slice, under_sliceN, Nat.add_assoc, Nat.add_lt_add_iff_left, Nat.lt_irrefl, Nat.lt_add_right_iff_pos, decide_true, decide_false, e_i_IsParty (cells_mono h _) hn, h1, hwk, h60, decide_false, Option.isSome_none, Bool.and_false, go_sem, entry, joinEsc, if_pos, reduceIte, Nat.reduceAdd, Nat.reduceLeDiff, Nat.reduceLT, Nat.reduceEqDiff]
      · have hwk := fun G => e_i_Party_walk (pr := pr) (e := none) (c := c) (cw := cw) (cells_mono h G) (cells_mono hw G) h1 hwn h3
        rw [h4]
        simp +contextual only [a_i_IsWalkOn, c_i_IsWalkOn, under_slice, under_sliceN, Nat.add_assoc, Nat.add_lt_add_iff_left, Nat.lt_irrefl, Nat.lt_add_right_iff_pos, decide_true, decide_false, e_i_IsParty (cells_mono h _) hn, h1, hwk, h60, h2, decide_true, decide_false, Option.isSome_some, Bool.and_true, go_sem, entry, joinEsc, if_pos, reduceIte, Nat.reduceAdd, Nat.reduceLeDiff, Nat.reduceLT, Nat.reduceEqDiff]
    · have h60 : (60 : Int) < (ws.length : Int) := by omega
      simp +contextual only [a_i_IsWalkOn, c_i_IsWalkOn, under_slice, under_sliceN, Nat.add_assoc, Nat.add_lt_add_iff_left, Nat.lt_irrefl, Nat.lt_add_right_iff_pos, decide_true, decide_false, e_i_IsParty (cells_mono h _) hn, h1, h60, h2, decide_true, decide_false, Bool.false_and, Bool.and_false, go_sem, entry, joinEsc, if_pos, reduceIte, Nat.reduceAdd, Nat.reduceLeDiff, Nat.reduceLT, Nat.reduceEqDiff]

theorem law_IsWalkOn {people walk : AV} {ls ws : List Ld} (ha : ArgL H people ls) (hb : ArgL H walk ws) (x a b s : Int) : ∃ m', call T pr f_l_FnExactIsWalkOn [ptV x a b people s, walk] ⟨H, none⟩ = some (.bool true, m') := by
  refine ⟨⟨H, none⟩, ?_⟩
  have hsz : ∀ G e', call T pr f_l_szParty [ptV x a b people s, .int .i64 1048576] ⟨G, e'⟩ = some (.int .i64 (if ls.length ≤ 1048576 then 1048576 - (ls.length : Int) else -1), ⟨G, e'⟩) := by
    obtain ⟨p, sz, c, rfl, h2, h3⟩ := ha
    exact fun G e' => e_l_szParty h2 x a b s
  rw [call_eq t_l_FnExactIsWalkOn]
  by_cases hn : ls.length ≤ 1048576
  · have hneg : ¬ (1048576 - (ls.length : Int) < 0) := by omega
    have hsz2 : ∀ G e', call T pr f_l_szIntA2S [walk, .int .i64 (1048576 - (ls.length : Int))] ⟨G, e'⟩ = some (.int .i64 (if ws.length ≤ 1048576 - ls.length then ((1048576 - ls.length : Nat) : Int) - (ws.length : Int) else -1), ⟨G, e'⟩) := by
      obtain ⟨p, sz, c, rfl, h2, h3⟩ := hb
      intro G e'
      rw [show 1048576 - (ls.length : Int) = ((1048576 - ls.length : Nat) : Int) by omega]
      exact e_l_szIntA2S _ _ _ _ h2 _ (by omega)
    by_cases hn2 : ws.length ≤ 1048576 - ls.length
    · have hneg2 : ¬ (((1048576 - ls.length : Nat) : Int) - (ws.length : Int) < 0) := by omega
      have hto := fun G => e_l_toParty (pr := pr) (e := none) (ha.more G) hn x a b s
      have htw := fun G => e_l_toIntA2S (pr := pr) (e := none) (hb.more G) (show ws.length ≤ 1048576 by omega)
      have hn1 : ls.length ≤ 9223372036854775806 := by omega
      have hw1 : ws.length ≤ 9223372036854775806 := by omega
      have heq : ∀ L q1 q2 k1 k2, cellsAt L q1 = some (encL ls) → cellsAt L q2 = some (encL ls) → call T pr f_l_eqParty [ptV x a b (slL q1 ls.length k1) s, ptV x a b (slL q2 ls.length k2) s] ⟨L, none⟩ = some (.bool true, ⟨L, none⟩) :=
        fun L q1 q2 k1 k2 h1 h2 => e_l_eqParty (fun G => e_l_eqLoadS (cells_mono h1 G) (cells_mono h2 G) hn1) x a b s
      have heqm : ∀ L b1 b2 c1 c2, cellsAt L b1 = some (encL ws) → cellsAt L b2 = some (encL ws) → call T pr f_l_eqIntA2S [slL b1 ws.length c1, slL b2 ws.length c2] ⟨L, none⟩ = some (.bool true, ⟨L, none⟩) :=
        fun L b1 b2 c1 c2 h1 h2 => e_l_eqIntA2S h1 h2 hw1
      have hsi := fun L q c qw cw h1 h2 => e_s_IsWalkOn (pr := pr) (H := L) (e := none) (q := q) (c := c) (qw := qw) (cw := cw) (ls := ls) (ws := ws) h1 h2 hn1 x a b s
      have hii := fun L q c qw cw h1 h2 => e_i_IsWalkOn (pr := pr) (H := L) (e := none) (q := q) (c := c) (qw := qw) (cw := cw) (ls := ls) (ws := ws) h1 h2 hn1 (by omega) x a b s
      simp +contextual only [a_l_FnExactIsWalkOn, c_l_FnExactIsWalkOn, hsz, hn, hneg, hsz2, hn2, hneg2, hto, htw, hsi, hii, heq, heqm, under_slice, under_sliceN, Nat.add_assoc, Nat.add_lt_add_iff_left, Nat.lt_add_right_iff_pos, decide_true, decide_false, beq_self_eq_true, go_sem, entry, joinEsc, if_pos, reduceIte, Nat.reduceAdd, Nat.reduceLeDiff, Nat.reduceLT, Nat.reduceEqDiff]
    · simp +contextual only [a_l_FnExactIsWalkOn, c_l_FnExactIsWalkOn, hsz, hn, hneg, hsz2, hn2, decide_true, decide_false, show ((-1 : Int) < 0) by omega, go_sem, entry, joinEsc, if_pos, reduceIte, Nat.reduceAdd, Nat.reduceLeDiff, Nat.reduceLT, Nat.reduceEqDiff]
  · simp +contextual only [a_l_FnExactIsWalkOn, c_l_FnExactIsWalkOn, hsz, hn, decide_true, show ((-1 : Int) < 0) by omega, go_sem, entry, joinEsc, if_pos, reduceIte, Nat.reduceAdd, Nat.reduceLeDiff, Nat.reduceLT, Nat.reduceEqDiff]

end Go.Proofs.Ythkgpblohjpcdaa.Slim

/- Walks and moves of a party that lead to another one: the functions and the laws. -/
namespace Go.Proofs.Ythkgpblohjpcdaa.Slim

open Go

set_option linter.unusedSimpArgs false

set_option linter.unusedVariables false

variable {pr : Prims} {H : List Blk} {e : Option Nat}

theorem e_s_WalkTo_no {q qw : Nat} {c cw : Option Nat} {ls ws : List Ld} (h : cellsAt H q = some (encL ls)) (hw : cellsAt H qw = some (encL ws)) (hn : ls.length ≤ 9223372036854775806) (x a b s : Int) (hno : (partyOk x a b ls s && walkOk x a b s ls ws) = false) :
    call T pr f_s_WalkTo [ptV x a b (slL q ls.length c) s, slL qw ws.length cw] ⟨H, e⟩ = some (.tup [noParty, .bool false], ⟨H, e⟩) := by
  have hf : ∀ (G : List Blk) (e0 e1 : Option Nat), clean H.length e1 = true → finish 2 H.length e0 (.tup [noParty, .bool false]) ⟨H ++ G, e1⟩ = some (.tup [noParty, .bool false], ⟨H, e0⟩) :=
    fun G e0 e1 hc => finish_partyN 0 0 0 0 false e0 e1 hc
  rw [call_eq t_s_WalkTo]
  cases h1 : partyOk x a b ls s with
  | false => simp +contextual only [a_s_WalkTo, c_s_WalkTo, fillParts, e_s_l11Party (cells_mono h _) hn, h1, hf, under_sliceN, clean_minEsc, clean_none, Nat.le_add_right, decide_true, go_sem, entry, joinEsc, if_pos, reduceIte, Nat.reduceAdd, Nat.reduceLeDiff, Nat.reduceLT, Nat.reduceEqDiff]
  | true =>
    have hn3 := (party_facts h1).1
    rw [h1, Bool.true_and] at hno
    have hwk := fun G => e_s_l11Walk_no (pr := pr) (e := none) (c := c) (cw := cw) (x := x) (a := a) (b := b) (s := s) (cells_mono h G) (cells_mono hw G) hn3 (fun h60 => by
      unfold walkOk at hno
      rw [decide_eq_true h60, Bool.true_and] at hno
      exact Option.isSome_eq_false_iff.mp hno |> fun h => by simpa using h)
    simp +contextual only [a_s_WalkTo, c_s_WalkTo, fillParts, e_s_l11Party (cells_mono h _) hn, h1, hwk, hf, under_sliceN, clean_minEsc, clean_none, Nat.le_add_right, decide_true, go_sem, entry, joinEsc, if_pos, reduceIte, Nat.reduceAdd, Nat.reduceLeDiff, Nat.reduceLT, Nat.reduceEqDiff]

theorem e_s_WalkTo {q qw : Nat} {c cw : Option Nat} {ls ws : List Ld} (h : cellsAt H q = some (encL ls)) (hw : cellsAt H qw = some (encL ws)) (x a b s : Int) (hp : partyOk x a b ls s = true) (hwn : ws.length ≤ 60) {r : List Ld} (hwk : walkW x a b s ls ws = some r) :
    call T pr f_s_WalkTo [ptV x a b (slL q ls.length c) s, slL qw ws.length cw] ⟨H, e⟩ = some (.tup [ptV x a b (slL H.length ls.length none) s, .bool true], ⟨H ++ [.cells (encL r) true], e⟩) := by
  have hn3 := (party_facts hp).1
  have hn : ls.length ≤ 9223372036854775806 := by omega
  have hf : ∀ (B0 B1 : Blk) (e0 e1 : Option Nat), clean H.length e1 = true → finish 2 H.length e0 (.tup [ptV x a b (slL (H.length + 2) ls.length none) s, .bool true]) ⟨H ++ [B0, B1, .cells (encL r) true], e1⟩ = some (.tup [ptV x a b (slL H.length ls.length none) s, .bool true], ⟨H ++ [.cells (encL r) true], e0⟩) :=
    fun B0 B1 e0 e1 hc => finish_partyB x a b s true e0 e1 hc rfl (under_encL _ _)
  have hwk' := fun G => e_s_l11Walk (pr := pr) (e := none) (c := c) (cw := cw) (x := x) (a := a) (b := b) (s := s) (cells_mono h G) (cells_mono hw G) hn3 hwn hwk
  rw [call_eq t_s_WalkTo]
  simp +contextual only [a_s_WalkTo, c_s_WalkTo, fillParts, e_s_l11Party (cells_mono h _) hn, hp, hwk', hf, under_slice, under_sliceN, Nat.add_assoc, Nat.add_lt_add_iff_left, Nat.lt_irrefl, decide_false, clean_minEsc, clean_none, Nat.le_add_right, decide_true, go_sem, entry, joinEsc, if_pos, reduceIte, Nat.reduceAdd, Nat.reduceLeDiff, Nat.reduceLT, Nat.reduceEqDiff]

theorem e_i_WalkTo_no {q qw : Nat} {c cw : Option Nat} {ls ws : List Ld} (h : cellsAt H q = some (encL ls)) (hw : cellsAt H qw = some (encL ws)) (hn : ls.length ≤ 9223372036854775806) (hwn : ws.length ≤ 1048576) (x a b s : Int) (hno : (partyOk x a b ls s && walkOk x a b s ls ws) = false) :
    call T pr f_i_WalkTo [ptV x a b (slL q ls.length c) s, slL qw ws.length cw] ⟨H, e⟩ = some (.tup [noParty, .bool false], ⟨H, e⟩) := by
  have hf : ∀ (G : List Blk) (e0 e1 : Option Nat), clean H.length e1 = true → finish 2 H.length e0 (.tup [noParty, .bool false]) ⟨H ++ G, e1⟩ = some (.tup [noParty, .bool false], ⟨H, e0⟩) :=
    fun G e0 e1 hc => finish_partyN 0 0 0 0 false e0 e1 hc
  rw [call_eq t_i_WalkTo]
  cases h1 : partyOk x a b ls s with
  | false => simp +contextual only [a_i_WalkTo, c_i_WalkTo, fillParts, e_i_IsParty (cells_mono h _) hn, h1, hf, under_sliceN, clean_minEsc, clean_none, Nat.le_add_right, decide_true, go_sem, entry, joinEsc, if_pos, reduceIte, Nat.reduceAdd, Nat.reduceLeDiff, Nat.reduceLT, Nat.reduceEqDiff]
  | true =>
    have hn3 := (party_facts h1).1
    rw [h1, Bool.true_and] at hno
    by_cases h60 : ws.length ≤ 60
    · have h60' : ¬ (60 : Int) < (ws.length : Int) := by omega
      unfold walkOk at hno
      rw [decide_eq_true h60, Bool.true_and] at hno
      rcases walk_cases (x := x) (a := a) (b := b) (s := s) (ws := ws) hn3 with ⟨h3, h4⟩ | ⟨t0, t1, t2, h3, h4⟩
      · have hwk := fun G => e_i_Party_walk_no (pr := pr) (e := none) (c := c) (cw := cw) (cells_mono h G) (cells_mono hw G) h1 hwn h3
        simp +contextual only [a_i_WalkTo, c_i_WalkTo, fillParts, e_i_IsParty (cells_mono h _) hn, h1, h60', hwk, hf, under_sliceN, clean_minEsc, clean_none, Nat.le_add_right, decide_true, decide_false, go_sem, entry, joinEsc, if_pos, reduceIte, Nat.reduceAdd, Nat.reduceLeDiff, Nat.reduceLT, Nat.reduceEqDiff]
      · rw [h4] at hno
        simp at hno
    · have h60' : (60 : Int) < (ws.length : Int) := by omega
      simp +contextual only [a_i_WalkTo, c_i_WalkTo, fillParts, e_i_IsParty (cells_mono h _) hn, h1, h60', hf, under_sliceN, clean_minEsc, clean_none, Nat.le_add_right, decide_true, go_sem, entry, joinEsc, if_pos, reduceIte, Nat.reduceAdd, Nat.reduceLeDiff, Nat.reduceLT, Nat.reduceEqDiff]

theorem e_i_WalkTo {q qw : Nat} {c cw : Option Nat} {ls ws : List Ld} (h : cellsAt H q = some (encL ls)) (hw : cellsAt H qw = some (encL ws)) (x a b s : Int) (hp : partyOk x a b ls s = true) (hwn : ws.length ≤ 60) {r : List Ld} (hwk : walkW x a b s ls ws = some r) :
    call T pr f_i_WalkTo [ptV x a b (slL q ls.length c) s, slL qw ws.length cw] ⟨H, e⟩ = some (.tup [ptV x a b (slL H.length ls.length none) s, .bool true], ⟨H ++ [.cells (encL r) true], e⟩) := by
  have hn3 := (party_facts hp).1
  have hn : ls.length ≤ 9223372036854775806 := by omega
  have h60' : ¬ (60 : Int) < (ws.length : Int) := by omega
  rcases walk_cases (x := x) (a := a) (b := b) (s := s) (ws := ws) hn3 with ⟨h3, h4⟩ | ⟨t0, t1, t2, h3, h4⟩
  · rw [h4] at hwk
    cases hwk
  · rw [h4] at hwk
    cases hwk
    have hf : ∀ (B0 B1 B2 : Blk) (e0 e1 : Option Nat), clean H.length e1 = true → finish 2 H.length e0 (.tup [ptV x a b (slL (H.length + 3) ls.length none) s, .bool true]) ⟨H ++ [B0, B1, B2, .cells (encL (putL ls [t0, t1, t2])) true], e1⟩ = some (.tup [ptV x a b (slL H.length ls.length none) s, .bool true], ⟨H ++ [.cells (encL (putL ls [t0, t1, t2])) true], e0⟩) :=
      fun B0 B1 B2 e0 e1 hc => finish_partyB x a b s true e0 e1 hc rfl (under_encL _ _)
    have hwk := fun G => e_i_Party_walk (pr := pr) (e := none) (c := c) (cw := cw) (cells_mono h G) (cells_mono hw G) hp (by omega) h3
    have hat := fun G => e_i_Party_at (pr := pr) (e := none) (c := c) (cells_mono h G) hn3 x a b s t0 t1 t2
    rw [call_eq t_i_WalkTo]
    simp +contextual only [a_i_WalkTo, c_i_WalkTo, fillParts, e_i_IsParty (cells_mono h _) hn, hp, h60', hwk, hat, hf, under_slice, under_sliceN, Nat.add_assoc, Nat.add_lt_add_iff_left, Nat.lt_irrefl, decide_false, clean_minEsc, clean_none, Nat.le_add_right, decide_true, go_sem, entry, joinEsc, if_pos, reduceIte, Nat.reduceAdd, Nat.reduceLeDiff, Nat.reduceLT, Nat.reduceEqDiff]

theorem e_l_eqNoParty : call T pr f_l_eqParty [noParty, noParty] ⟨H, e⟩ = some (.bool true, ⟨H, e⟩) := e_l_eqParty (fun G => e_l_eqLoadS_none) 0 0 0 0

theorem e_l_markNoParty (k : Int) : call T pr f_l_markParty [noParty, .int .i64 k] ⟨H, e⟩ = some (.int .i64 k, ⟨H, e⟩) := by
  rw [call_eq t_l_markParty]
  simp +contextual only [a_l_markParty, c_l_markParty, e_l_markLoadS_none, go_sem, entry, joinEsc, if_pos, reduceIte, Nat.reduceAdd, Nat.reduceLeDiff, Nat.reduceLT, Nat.reduceEqDiff]

theorem e_l_heldNoParty (k : Nat) : call T pr f_l_heldParty [noParty, .int .i64 k] ⟨H, e⟩ = some (.int .i64 k, ⟨H, e⟩) := by
  have h : ¬ ((k : Int) < 0) := by omega
  rw [call_eq t_l_heldParty]
  simp +contextual only [a_l_heldParty, c_l_heldParty, e_l_heldLoadS_none, h, decide_false, go_sem, entry, joinEsc, if_pos, reduceIte, Nat.reduceAdd, Nat.reduceLeDiff, Nat.reduceLT, Nat.reduceEqDiff]

theorem e_l_heldParty {q n k : Nat} {c : Option Nat} (h : cellsAt H q = some (encL (markedL k n))) (hn : n ≤ 4194304) (hk : k ≤ 16777216) (x a b s : Int) : call T pr f_l_heldParty [ptV x a b (slL q n c) s, .int .i64 k] ⟨H, e⟩ =
    some (.int .i64 ((k + n * 2 : Nat) : Int), ⟨H, e⟩) := by
  have hh : ¬ (((k + n * 2 : Nat) : Int) < 0) := by omega
  rw [call_eq t_l_heldParty]
  simp +contextual only [a_l_heldParty, c_l_heldParty, e_l_heldLoadS (cells_mono h _) hn hk, hh, decide_false, go_sem, entry, joinEsc, if_pos, reduceIte, Nat.reduceAdd, Nat.reduceLeDiff, Nat.reduceLT, Nat.reduceEqDiff]

theorem law_WalkTo {people walk : AV} {ls ws : List Ld} (ha : ArgL H people ls) (hb : ArgL H walk ws) (x a b s : Int) : ∃ m', call T pr f_l_FnExactWalkTo [ptV x a b people s, walk] ⟨H, none⟩ = some (.bool true, m') := by
  refine ⟨⟨H, none⟩, ?_⟩
  have hsz : ∀ G e', call T pr f_l_szParty [ptV x a b people s, .int .i64 1048576] ⟨G, e'⟩ = some (.int .i64 (if ls.length ≤ 1048576 then 1048576 - (ls.length : Int) else -1), ⟨G, e'⟩) := by
    obtain ⟨p, sz, c, rfl, h2, h3⟩ := ha
    exact fun G e' => e_l_szParty h2 x a b s
  rw [call_eq t_l_FnExactWalkTo]
  by_cases hn : ls.length ≤ 1048576
  · have hneg : ¬ (1048576 - (ls.length : Int) < 0) := by omega
    have hsz2 : ∀ G e', call T pr f_l_szIntA2S [walk, .int .i64 (1048576 - (ls.length : Int))] ⟨G, e'⟩ = some (.int .i64 (if ws.length ≤ 1048576 - ls.length then ((1048576 - ls.length : Nat) : Int) - (ws.length : Int) else -1), ⟨G, e'⟩) := by
      obtain ⟨p, sz, c, rfl, h2, h3⟩ := hb
      intro G e'
      rw [show 1048576 - (ls.length : Int) = ((1048576 - ls.length : Nat) : Int) by omega]
      exact e_l_szIntA2S _ _ _ _ h2 _ (by omega)
    by_cases hn2 : ws.length ≤ 1048576 - ls.length
    · have hneg2 : ¬ (((1048576 - ls.length : Nat) : Int) - (ws.length : Int) < 0) := by omega
      have hto := fun G => e_l_toParty (pr := pr) (e := none) (ha.more G) hn x a b s
      have htw := fun G => e_l_toIntA2S (pr := pr) (e := none) (hb.more G) (show ws.length ≤ 1048576 by omega)
      have hn1 : ls.length ≤ 9223372036854775806 := by omega
      have hw1 : ws.length ≤ 9223372036854775806 := by omega
      have heq : ∀ L q1 q2 k1 k2, cellsAt L q1 = some (encL ls) → cellsAt L q2 = some (encL ls) → call T pr f_l_eqParty [ptV x a b (slL q1 ls.length k1) s, ptV x a b (slL q2 ls.length k2) s] ⟨L, none⟩ = some (.bool true, ⟨L, none⟩) :=
        fun L q1 q2 k1 k2 h1 h2 => e_l_eqParty (fun G => e_l_eqLoadS (cells_mono h1 G) (cells_mono h2 G) hn1) x a b s
      have heqm : ∀ L b1 b2 c1 c2, cellsAt L b1 = some (encL ws) → cellsAt L b2 = some (encL ws) → call T pr f_l_eqIntA2S [slL b1 ws.length c1, slL b2 ws.length c2] ⟨L, none⟩ = some (.bool true, ⟨L, none⟩) :=
        fun L b1 b2 c1 c2 h1 h2 => e_l_eqIntA2S h1 h2 hw1
      have hmark : ∀ L b1 c, L[b1]? = some (.cells (encL ls) true) → call T pr f_l_markParty [ptV x a b (slL b1 ls.length c) s, .int .i64 1] ⟨L, none⟩ = some (.int .i64 ((1 + ls.length * 2 : Nat) : Int), ⟨L.set b1 (.cells (encL (markedL 1 ls.length)) true), none⟩) :=
        fun L b1 c h => e_l_markParty h (by omega) x a b s 1 (by omega)
      have hmi : ∀ L b c, L[b]? = some (.cells (encL ws) true) → call T pr f_l_markIntA2S [slL b ws.length c, .int .i64 ((1 + ls.length * 2 : Nat) : Int)] ⟨L, none⟩ = some (.int .i64 ((1 + ls.length * 2 + ws.length * 2 : Nat) : Int), ⟨L.set b (.cells (encL (markedL (1 + ls.length * 2) ws.length)) true), none⟩) :=
        fun L b c h => e_l_markIntA2S h (by omega) _ (by omega)
      have hk0 : ¬ (((1 + (ls.length * 2 + ws.length * 2) : Nat) : Int) < 0) := by omega
      have h10 : ¬ ((1 : Int) < 0) := by omega
      cases hcan : (partyOk x a b ls s && walkOk x a b s ls ws) with
      | false =>
        have hsi := fun L q c qw cw h1 h2 => e_s_WalkTo_no (pr := pr) (H := L) (e := none) (q := q) (c := c) (qw := qw) (cw := cw) (ls := ls) (ws := ws) h1 h2 hn1 x a b s hcan
        have hii := fun L q c qw cw h1 h2 => e_i_WalkTo_no (pr := pr) (H := L) (e := none) (q := q) (c := c) (qw := qw) (cw := cw) (ls := ls) (ws := ws) h1 h2 hn1 (by omega) x a b s hcan
        have hh1 : ∀ L, call T pr f_l_heldParty [noParty, .int .i64 1] ⟨L, none⟩ = some (.int .i64 1, ⟨L, none⟩) := fun L => e_l_heldNoParty 1
        simp +contextual only [a_l_FnExactWalkTo, c_l_FnExactWalkTo, hsz, hn, hneg, hsz2, hn2, hneg2, hto, htw, hsi, hii, heq, heqm, e_l_eqNoParty, e_l_markNoParty, hh1, hmark, hmi, hk0, h10, under_slice, under_sliceN, Nat.add_assoc, Nat.add_lt_add_iff_left, Nat.lt_add_right_iff_pos, decide_true, decide_false, beq_self_eq_true, go_sem, entry, joinEsc, if_pos, reduceIte, Nat.reduceAdd, Nat.reduceLeDiff, Nat.reduceLT, Nat.reduceEqDiff]
      | true =>
        obtain ⟨hp, hwo⟩ := Bool.and_eq_true_iff.mp hcan
        unfold walkOk at hwo
        obtain ⟨h60, hso⟩ := Bool.and_eq_true_iff.mp hwo
        have h60 := of_decide_eq_true h60
        obtain ⟨r, hr⟩ := Option.isSome_iff_exists.mp hso
        have hrl := walkW_length ws ls r hr
        have hsi := fun L q c qw cw h1 h2 => e_s_WalkTo (pr := pr) (H := L) (e := none) (q := q) (c := c) (qw := qw) (cw := cw) (ls := ls) (ws := ws) h1 h2 x a b s hp h60 hr
        have hii := fun L q c qw cw h1 h2 => e_i_WalkTo (pr := pr) (H := L) (e := none) (q := q) (c := c) (qw := qw) (cw := cw) (ls := ls) (ws := ws) h1 h2 x a b s hp h60 hr
        have heqr : ∀ L q1 q2 k1 k2, cellsAt L q1 = some (encL r) → cellsAt L q2 = some (encL r) → call T pr f_l_eqParty [ptV x a b (slL q1 ls.length k1) s, ptV x a b (slL q2 ls.length k2) s] ⟨L, none⟩ = some (.bool true, ⟨L, none⟩) := by
          rw [← hrl]
          exact fun L q1 q2 k1 k2 h1 h2 => e_l_eqParty (fun G => e_l_eqLoadS (cells_mono h1 G) (cells_mono h2 G) (by omega)) x a b s
        have hmarkr : ∀ L b1 c, L[b1]? = some (.cells (encL r) true) → call T pr f_l_markParty [ptV x a b (slL b1 ls.length c) s, .int .i64 1] ⟨L, none⟩ = some (.int .i64 ((1 + ls.length * 2 : Nat) : Int), ⟨L.set b1 (.cells (encL (markedL 1 ls.length)) true), none⟩) := by
          rw [← hrl]
          exact fun L b1 c h => e_l_markParty h (by omega) x a b s 1 (by omega)
        have hhe : ∀ L q c, cellsAt L q = some (encL (markedL 1 ls.length)) → call T pr f_l_heldParty [ptV x a b (slL q ls.length c) s, .int .i64 1] ⟨L, none⟩ = some (.int .i64 ((1 + ls.length * 2 : Nat) : Int), ⟨L, none⟩) :=
          fun L q c h => e_l_heldParty (k := 1) h (by omega) (by omega) x a b s
        have hk1 : ¬ (((1 + ls.length * 2 : Nat) : Int) < 0) := by omega
        simp +contextual only [a_l_FnExactWalkTo, c_l_FnExactWalkTo, hsz, hn, hneg, hsz2, hn2, hneg2, hto, htw, hsi, hii, heq, heqm, heqr, hmark, hmarkr, hhe, hmi, hk0, hk1, h10, under_slice, under_sliceN, Nat.add_assoc, Nat.add_lt_add_iff_left, Nat.lt_add_right_iff_pos, decide_true, decide_false, beq_self_eq_true, go_sem, entry, joinEsc, if_pos, reduceIte, Nat.reduceAdd, Nat.reduceLeDiff, Nat.reduceLT, Nat.reduceEqDiff]
    · simp +contextual only [a_l_FnExactWalkTo, c_l_FnExactWalkTo, hsz, hn, hneg, hsz2, hn2, decide_true, decide_false, show ((-1 : Int) < 0) by omega, go_sem, entry, joinEsc, if_pos, reduceIte, Nat.reduceAdd, Nat.reduceLeDiff, Nat.reduceLT, Nat.reduceEqDiff]
  · simp +contextual only [a_l_FnExactWalkTo, c_l_FnExactWalkTo, hsz, hn, decide_true, show ((-1 : Int) < 0) by omega, go_sem, entry, joinEsc, if_pos, reduceIte, Nat.reduceAdd, Nat.reduceLeDiff, Nat.reduceLT, Nat.reduceEqDiff]

end Go.Proofs.Ythkgpblohjpcdaa.Slim

/- One move of a party: the functions and the law. -/
namespace Go.Proofs.Ythkgpblohjpcdaa.Slim

open Go

set_option linter.unusedSimpArgs false

set_option linter.unusedVariables false

variable {pr : Prims} {H : List Blk} {e : Option Nat}

theorem walkOk_one (x a b s m1 m2 : Int) (ls : List Ld) : walkOk x a b s ls [(m1, m2)] = safeMv x a b ls s m1 m2 := by
  unfold walkOk
  rw [walkW]
  cases h : safeMv x a b ls s m1 m2 <;> simp [walkW]

theorem e_s_MoveOne_no {q : Nat} {c : Option Nat} {ls : List Ld} (h : cellsAt H q = some (encL ls)) (hn : ls.length ≤ 9223372036854775806) (x a b s m1 m2 : Int) (hno : (partyOk x a b ls s && safeMv x a b ls s m1 m2) = false) :
    call T pr f_s_MoveOne [ptV x a b (slL q ls.length c) s, prV m1 m2] ⟨H, e⟩ = some (.tup [noParty, .bool false], ⟨H, e⟩) := by
  have hf : ∀ (G : List Blk) (e0 e1 : Option Nat), clean H.length e1 = true → finish 2 H.length e0 (.tup [noParty, .bool false]) ⟨H ++ G, e1⟩ = some (.tup [noParty, .bool false], ⟨H, e0⟩) :=
    fun G e0 e1 hc => finish_partyN 0 0 0 0 false e0 e1 hc
  rw [call_eq t_s_MoveOne]
  cases h1 : partyOk x a b ls s with
  | false => simp +contextual only [a_s_MoveOne, c_s_MoveOne, fillParts, e_s_l11Party (cells_mono h _) hn, h1, hf, under_sliceN, clean_minEsc, clean_none, Nat.le_add_right, decide_true, go_sem, entry, joinEsc, if_pos, reduceIte, Nat.reduceAdd, Nat.reduceLeDiff, Nat.reduceLT, Nat.reduceEqDiff]
  | true =>
    have hn3 := (party_facts h1).1
    rw [h1, Bool.true_and] at hno
    have hsf := fun G => e_s_l11Safe (pr := pr) (e := none) (c := c) (cells_mono h G) hn3 x a b s m1 m2
    simp +contextual only [a_s_MoveOne, c_s_MoveOne, fillParts, e_s_l11Party (cells_mono h _) hn, h1, hsf, hno, hf, under_sliceN, clean_minEsc, clean_none, Nat.le_add_right, decide_true, go_sem, entry, joinEsc, if_pos, reduceIte, Nat.reduceAdd, Nat.reduceLeDiff, Nat.reduceLT, Nat.reduceEqDiff]

theorem e_s_MoveOne {q : Nat} {c : Option Nat} {ls : List Ld} (h : cellsAt H q = some (encL ls)) (x a b s m2 : Int) {j : Nat} (hp : partyOk x a b ls s = true) (hs : safeMv x a b ls s j m2 = true) :
    call T pr f_s_MoveOne [ptV x a b (slL q ls.length c) s, prV j m2] ⟨H, e⟩ = some (.tup [ptV x a b (slL H.length ls.length none) s, .bool true], ⟨H ++ [.cells (encL (movd ls j m2)) true], e⟩) := by
  have hn3 := (party_facts hp).1
  have hn : ls.length ≤ 9223372036854775806 := by omega
  have hj := (safe_range hs).2
  rw [Int.toNat_natCast] at hj
  have hf : ∀ (B0 B1 B2 : Blk) (e0 e1 : Option Nat), clean H.length e1 = true → finish 2 H.length e0 (.tup [ptV x a b (slL (H.length + 3) ls.length none) s, .bool true]) ⟨H ++ [B0, B1, B2, .cells (encL (movd ls j m2)) true], e1⟩ = some (.tup [ptV x a b (slL H.length ls.length none) s, .bool true], ⟨H ++ [.cells (encL (movd ls j m2)) true], e0⟩) :=
    fun B0 B1 B2 e0 e1 hc => finish_partyB x a b s true e0 e1 hc rfl (under_encL _ _)
  have hsf := fun G => e_s_l11Safe (pr := pr) (e := none) (c := c) (cells_mono h G) hn3 x a b s j m2
  have hmv := fun G => e_s_l11Moved (pr := pr) (e := none) (c := c) (cells_mono h G) hn3 x a b s m2 hj
  rw [hs] at hsf
  rw [call_eq t_s_MoveOne]
  simp +contextual only [a_s_MoveOne, c_s_MoveOne, fillParts, e_s_l11Party (cells_mono h _) hn, hp, hsf, hmv, hf, under_slice, under_sliceN, Nat.add_assoc, Nat.add_lt_add_iff_left, Nat.lt_irrefl, decide_false, clean_minEsc, clean_none, Nat.le_add_right, decide_true, go_sem, entry, joinEsc, if_pos, reduceIte, Nat.reduceAdd, Nat.reduceLeDiff, Nat.reduceLT, Nat.reduceEqDiff]

theorem e_i_MoveOne_no {q : Nat} {c : Option Nat} {ls : List Ld} (h : cellsAt H q = some (encL ls)) (hn : ls.length ≤ 9223372036854775806) (x a b s m1 m2 : Int) (hno : (partyOk x a b ls s && safeMv x a b ls s m1 m2) = false) :
    call T pr f_i_MoveOne [ptV x a b (slL q ls.length c) s, prV m1 m2] ⟨H, e⟩ = some (.tup [noParty, .bool false], ⟨H, e⟩) := by
  have hf : ∀ (G : List Blk) (e0 e1 : Option Nat), clean H.length e1 = true → finish 2 H.length e0 (.tup [noParty, .bool false]) ⟨H ++ G, e1⟩ = some (.tup [noParty, .bool false], ⟨H, e0⟩) :=
    fun G e0 e1 hc => finish_partyN 0 0 0 0 false e0 e1 hc
  rw [← walkOk_one] at hno
  have hwk : ∀ (L : List Blk) (qw : Nat) (cw : Option Nat), cellsAt L q = some (encL ls) → cellsAt L qw = some [.int .i64 m1, .int .i64 m2] → call T pr f_i_WalkTo [ptV x a b (slL q ls.length c) s, .slice (some (qw, 0)) 2 1 cw] ⟨L, none⟩ = some (.tup [noParty, .bool false], ⟨L, none⟩) :=
    fun L qw cw h1 h2 => e_i_WalkTo_no (ws := [(m1, m2)]) h1 h2 hn (by simp) x a b s hno
  rw [call_eq t_i_MoveOne]
  simp +contextual only [a_i_MoveOne, c_i_MoveOne, fillParts, cells_mono h, hwk, hf, under_sliceN, clean_minEsc, clean_none, Nat.le_add_right, decide_true, go_sem, entry, joinEsc, if_pos, reduceIte, Nat.reduceAdd, Nat.reduceLeDiff, Nat.reduceLT, Nat.reduceEqDiff]

theorem e_i_MoveOne {q : Nat} {c : Option Nat} {ls : List Ld} (h : cellsAt H q = some (encL ls)) (x a b s m2 : Int) {j : Nat} (hp : partyOk x a b ls s = true) (hs : safeMv x a b ls s j m2 = true) :
    call T pr f_i_MoveOne [ptV x a b (slL q ls.length c) s, prV j m2] ⟨H, e⟩ = some (.tup [ptV x a b (slL H.length ls.length none) s, .bool true], ⟨H ++ [.cells (encL (movd ls j m2)) true], e⟩) := by
  have hr : walkW x a b s ls [((j : Int), m2)] = some (movd ls j m2) := by
    rw [walkW]
    simp [hs, walkW]
  have hf : ∀ (B0 B1 B2 B3 : Blk) (e0 e1 : Option Nat), clean H.length e1 = true → finish 2 H.length e0 (.tup [ptV x a b (slL (H.length + 4) ls.length none) s, .bool true]) ⟨H ++ [B0, B1, B2, B3, .cells (encL (movd ls j m2)) true], e1⟩ = some (.tup [ptV x a b (slL H.length ls.length none) s, .bool true], ⟨H ++ [.cells (encL (movd ls j m2)) true], e0⟩) :=
    fun B0 B1 B2 B3 e0 e1 hc => finish_partyB x a b s true e0 e1 hc rfl (under_encL _ _)
  have hwk : ∀ (L : List Blk) (qw : Nat) (cw : Option Nat), cellsAt L q = some (encL ls) → cellsAt L qw = some [.int .i64 j, .int .i64 m2] → call T pr f_i_WalkTo [ptV x a b (slL q ls.length c) s, .slice (some (qw, 0)) 2 1 cw] ⟨L, none⟩ = some (.tup [ptV x a b (slL L.length ls.length none) s, .bool true], ⟨L ++ [.cells (encL (movd ls j m2)) true], none⟩) :=
    fun L qw cw h1 h2 => e_i_WalkTo (ws := [((j : Int), m2)]) h1 h2 x a b s hp (by simp) hr
  rw [call_eq t_i_MoveOne]
  simp +contextual only [a_i_MoveOne, c_i_MoveOne, fillParts, cells_mono h, hwk, hf, under_slice, under_sliceN, Nat.add_assoc, Nat.add_lt_add_iff_left, Nat.lt_irrefl, decide_false, clean_minEsc, clean_none, Nat.le_add_right, decide_true, go_sem, entry, joinEsc, if_pos, reduceIte, Nat.reduceAdd, Nat.reduceLeDiff, Nat.reduceLT, Nat.reduceEqDiff]

theorem law_MoveOne {people : AV} {ls : List Ld} (ha : ArgL H people ls) (x a b s m1 m2 : Int) : ∃ m', call T pr f_l_FnExactMoveOne [ptV x a b people s, prV m1 m2] ⟨H, none⟩ = some (.bool true, m') := by
  refine ⟨⟨H, none⟩, ?_⟩
  have hsz : ∀ G e', call T pr f_l_szParty [ptV x a b people s, .int .i64 1048576] ⟨G, e'⟩ = some (.int .i64 (if ls.length ≤ 1048576 then 1048576 - (ls.length : Int) else -1), ⟨G, e'⟩) := by
    obtain ⟨p, sz, c, rfl, h2, h3⟩ := ha
    exact fun G e' => e_l_szParty h2 x a b s
  rw [call_eq t_l_FnExactMoveOne]
  by_cases hn : ls.length ≤ 1048576
  · have hneg : ¬ (1048576 - (ls.length : Int) < 0) := by omega
    have hto := fun G => e_l_toParty (pr := pr) (e := none) (ha.more G) hn x a b s
    have hn1 : ls.length ≤ 9223372036854775806 := by omega
    have heq : ∀ L q1 q2 k1 k2, cellsAt L q1 = some (encL ls) → cellsAt L q2 = some (encL ls) → call T pr f_l_eqParty [ptV x a b (slL q1 ls.length k1) s, ptV x a b (slL q2 ls.length k2) s] ⟨L, none⟩ = some (.bool true, ⟨L, none⟩) :=
      fun L q1 q2 k1 k2 h1 h2 => e_l_eqParty (fun G => e_l_eqLoadS (cells_mono h1 G) (cells_mono h2 G) hn1) x a b s
    have hmark : ∀ L b1 c, L[b1]? = some (.cells (encL ls) true) → call T pr f_l_markParty [ptV x a b (slL b1 ls.length c) s, .int .i64 1] ⟨L, none⟩ = some (.int .i64 ((1 + ls.length * 2 : Nat) : Int), ⟨L.set b1 (.cells (encL (markedL 1 ls.length)) true), none⟩) :=
      fun L b1 c h => e_l_markParty h (by omega) x a b s 1 (by omega)
    have hk0 : ¬ (((1 + ls.length * 2 : Nat) : Int) < 0) := by omega
    have h10 : ¬ ((1 : Int) < 0) := by omega
    cases hcan : (partyOk x a b ls s && safeMv x a b ls s m1 m2) with
    | false =>
      have hsi := fun L q c h1 => e_s_MoveOne_no (pr := pr) (H := L) (e := none) (q := q) (c := c) (ls := ls) h1 hn1 x a b s m1 m2 hcan
      have hii := fun L q c h1 => e_i_MoveOne_no (pr := pr) (H := L) (e := none) (q := q) (c := c) (ls := ls) h1 hn1 x a b s m1 m2 hcan
      have hh1 : ∀ L, call T pr f_l_heldParty [noParty, .int .i64 1] ⟨L, none⟩ = some (.int .i64 1, ⟨L, none⟩) := fun L => e_l_heldNoParty 1
      simp +contextual only [a_l_FnExactMoveOne, c_l_FnExactMoveOne, hsz, hn, hneg, hto, e_l_toIntA2, hsi, hii, heq, e_l_eqNoParty, e_l_markNoParty, hh1, hmark, hk0, h10, under_slice, under_sliceN, Nat.add_assoc, Nat.add_lt_add_iff_left, Nat.lt_add_right_iff_pos, decide_true, decide_false, beq_self_eq_true, go_sem, entry, joinEsc, if_pos, reduceIte, Nat.reduceAdd, Nat.reduceLeDiff, Nat.reduceLT, Nat.reduceEqDiff]
    | true =>
      obtain ⟨hp, hso⟩ := Bool.and_eq_true_iff.mp hcan
      obtain ⟨j, rfl⟩ : ∃ j : Nat, m1 = j := ⟨m1.toNat, by have := (safe_range hso).1; omega⟩
      have hsi := fun L q c h1 => e_s_MoveOne (pr := pr) (H := L) (e := none) (q := q) (c := c) (ls := ls) h1 x a b s m2 hp hso
      have hii := fun L q c h1 => e_i_MoveOne (pr := pr) (H := L) (e := none) (q := q) (c := c) (ls := ls) h1 x a b s m2 hp hso
      have hrl := movd_length ls j m2
      generalize movd ls j m2 = r at hsi hii hrl
      have heqr : ∀ L q1 q2 k1 k2, cellsAt L q1 = some (encL r) → cellsAt L q2 = some (encL r) → call T pr f_l_eqParty [ptV x a b (slL q1 ls.length k1) s, ptV x a b (slL q2 ls.length k2) s] ⟨L, none⟩ = some (.bool true, ⟨L, none⟩) := by
        rw [← hrl]
        exact fun L q1 q2 k1 k2 h1 h2 => e_l_eqParty (fun G => e_l_eqLoadS (cells_mono h1 G) (cells_mono h2 G) (by omega)) x a b s
      have hmarkr : ∀ L b1 c, L[b1]? = some (.cells (encL r) true) → call T pr f_l_markParty [ptV x a b (slL b1 ls.length c) s, .int .i64 1] ⟨L, none⟩ = some (.int .i64 ((1 + ls.length * 2 : Nat) : Int), ⟨L.set b1 (.cells (encL (markedL 1 ls.length)) true), none⟩) := by
        rw [← hrl]
        exact fun L b1 c h => e_l_markParty h (by omega) x a b s 1 (by omega)
      have hhe : ∀ L q c, cellsAt L q = some (encL (markedL 1 ls.length)) → call T pr f_l_heldParty [ptV x a b (slL q ls.length c) s, .int .i64 1] ⟨L, none⟩ = some (.int .i64 ((1 + ls.length * 2 : Nat) : Int), ⟨L, none⟩) :=
        fun L q c h => e_l_heldParty (k := 1) h (by omega) (by omega) x a b s
      simp +contextual only [a_l_FnExactMoveOne, c_l_FnExactMoveOne, hsz, hn, hneg, hto, e_l_toIntA2, hsi, hii, heq, heqr, hmark, hmarkr, hhe, hk0, h10, under_slice, under_sliceN, Nat.add_assoc, Nat.add_lt_add_iff_left, Nat.lt_add_right_iff_pos, decide_true, decide_false, beq_self_eq_true, go_sem, entry, joinEsc, if_pos, reduceIte, Nat.reduceAdd, Nat.reduceLeDiff, Nat.reduceLT, Nat.reduceEqDiff]
  · simp +contextual only [a_l_FnExactMoveOne, c_l_FnExactMoveOne, hsz, hn, decide_true, show ((-1 : Int) < 0) by omega, go_sem, entry, joinEsc, if_pos, reduceIte, Nat.reduceAdd, Nat.reduceLeDiff, Nat.reduceLT, Nat.reduceEqDiff]

end Go.Proofs.Ythkgpblohjpcdaa.Slim

/- Planks: searches from a list of places on, told plainly (see a_s_l11Spread). -/
namespace Go.Proofs.Ythkgpblohjpcdaa.Slim

open Go

set_option linter.unusedSimpArgs false

set_option linter.unusedVariables false

/-- what is found is a list of places with numbers of moves -/
abbrev Found := List (List Int × Int)

theorem mget_mem : ∀ {es : Found} {z : List Int} {v : Int}, mget es z = some v → (z, v) ∈ es
  | [], z, v, h => by cases h
  | p :: es, z, v, h => by
    unfold mget at h
    split at h
    · rename_i e
      cases h
      subst e
      exact List.mem_cons_self
    · exact List.mem_cons_of_mem _ (mget_mem h)

theorem mget_none_iff : ∀ {es : Found} {z : List Int}, mget es z = none ↔ z ∉ es.map (·.1)
  | [], z => by simp [mget]
  | p :: es, z => by
    unfold mget
    split
    · rename_i e
      simp [e]
    · rename_i e
      rw [mget_none_iff (es := es)]
      simp only [List.map_cons, List.mem_cons, not_or]
      exact ⟨fun h => ⟨fun h' => e h'.symm, h⟩, fun h => h.2⟩

theorem mget_of_mem : ∀ {es : Found} {z : List Int} {v : Int}, (es.map (·.1)).Nodup → (z, v) ∈ es → mget es z = some v
  | [], z, v, _, h => by cases h
  | p :: es, z, v, hn, h => by
    simp only [List.map_cons, List.nodup_cons] at hn
    unfold mget
    rcases List.mem_cons.mp h with h1 | h1
    · subst h1
      rw [if_pos rfl]
    · rw [if_neg, mget_of_mem hn.2 h1]
      intro e
      exact hn.1 (e ▸ List.mem_map_of_mem (f := (·.1)) h1)

theorem mput_new : ∀ {es : Found} {z : List Int} (v : Int), mget es z = none → mput es z v = es ++ [(z, v)]
  | [], z, v, _ => rfl
  | p :: es, z, v, h => by
    unfold mget at h
    split at h
    · cases h
    · rename_i e
      unfold mput
      rw [if_neg e, mput_new v h]
      rfl

theorem mget_append (es : Found) (t : List Int) (v : Int) (z : List Int) : mget (es ++ [(t, v)]) z = match mget es z with | some u => some u | none => if t = z then some v else none := by
  induction es with
  | nil => rfl
  | cons p es ih =>
    simp only [List.cons_append, mget]
    split
    · rfl
    · exact ih

/-- places that are new are put behind -/
def bfsIn (v : Int) (es : Found) : List (List Int) → Found
  | [] => es
  | t :: ts => bfsIn v (if (mget es t).isSome then es else es ++ [(t, v)]) ts

theorem bfsIn_append (v : Int) : ∀ (a : List (List Int)) (b : List (List Int)) (es : Found), bfsIn v es (a ++ b) = bfsIn v (bfsIn v es a) b
  | [], b, es => rfl
  | t :: a, b, es => by
    rw [List.cons_append, bfsIn, bfsIn, bfsIn_append v a b]

/-- the search itself: k places more, from the n-th one on -/
def bfsGo (nx : List Int → List (List Int)) : Nat → Nat → Found → Found
  | 0, _, es => es
  | k + 1, n, es => match es[n]? with
    | none => es
    | some p => bfsGo nx k (n + 1) (bfsIn (p.2 + 1) es (nx p.1))

theorem bfsIn_ext (v : Int) : ∀ (ts : List (List Int)) (es : Found), (es.map (·.1)).Nodup → ∃ more, bfsIn v es ts = es ++ more ∧ (∀ q ∈ more, q.2 = v ∧ q.1 ∈ ts) ∧ ((bfsIn v es ts).map (·.1)).Nodup ∧ ∀ t ∈ ts, ∃ u, (t, u) ∈ bfsIn v es ts
  | [], es, hn => ⟨[], by simp [bfsIn], by simp, hn, by simp⟩
  | t :: ts, es, hn => by
    rw [bfsIn]
    cases h : mget es t with
    | some u =>
      simp only [Option.isSome_some, if_true]
      obtain ⟨more, h1, h2, h3, h4⟩ := bfsIn_ext v ts es hn
      refine ⟨more, h1, fun q hq => ⟨(h2 q hq).1, List.mem_cons_of_mem _ (h2 q hq).2⟩, h3, fun x hx => ?_⟩
      rcases List.mem_cons.mp hx with rfl | hx
      · exact ⟨u, by rw [h1]; exact List.mem_append_left _ (mget_mem h)⟩
      · exact h4 x hx
    | none =>
      simp only [Option.isSome_none, Bool.false_eq_true, if_false]
      have hn' : ((es ++ [(t, v)]).map (·.1)).Nodup := by
        rw [List.map_append, List.nodup_append]
        refine ⟨hn, by simp, ?_⟩
        intro x hx y hy e
        simp only [List.map_cons, List.map_nil, List.mem_singleton] at hy
        subst hy
        subst e
        exact mget_none_iff.mp h hx
      obtain ⟨more, h1, h2, h3, h4⟩ := bfsIn_ext v ts (es ++ [(t, v)]) hn'
      refine ⟨(t, v) :: more, by rw [h1]; simp, fun q hq => ?_, h3, fun x hx => ?_⟩
      · rcases List.mem_cons.mp hq with rfl | hq
        · exact ⟨rfl, List.mem_cons_self⟩
        · exact ⟨(h2 q hq).1, List.mem_cons_of_mem _ (h2 q hq).2⟩
      · rcases List.mem_cons.mp hx with rfl | hx
        · exact ⟨v, by rw [h1]; simp⟩
        · exact h4 x hx

/-- what holds of a search whose first n places are worked off -/
structure BI (nx : List Int → List (List Int)) (s : List Int) (n : Nat) (es : Found) : Prop where
  nd : (es.map (·.1)).Nodup
  src : (s, 0) ∈ es
  par : ∀ t v, (t, v) ∈ es → 0 ≤ v ∧ ((t = s ∧ v = 0) ∨ ∃ z, (z, v - 1) ∈ es ∧ t ∈ nx z)
  out : ∀ z v, (z, v) ∈ es.take n → ∀ t ∈ nx z, ∃ u, (t, u) ∈ es ∧ u ≤ v + 1
  mono : es.Pairwise fun p q => p.2 ≤ q.2
  top : ∀ p, es[n]? = some p → ∀ q ∈ es, q.2 ≤ p.2 + 1

theorem BI.start (nx : List Int → List (List Int)) (s : List Int) : BI nx s 0 [(s, 0)] where
  nd := by simp
  src := List.mem_cons_self
  par := fun t v h => by
    simp only [List.mem_singleton, Prod.mk.injEq] at h
    obtain ⟨rfl, rfl⟩ := h
    exact ⟨Int.le_refl _, .inl ⟨rfl, rfl⟩⟩
  out := fun z v h => by simp at h
  mono := by simp
  top := fun p hp q hq => by
    simp at hp
    subst hp
    simp at hq
    subst hq
    exact Int.le_add_one (Int.le_refl _)

theorem pairwise_at {es : Found} (h : es.Pairwise fun p q => p.2 ≤ q.2) {i j : Nat} {p q : List Int × Int} (hij : i < j) (hi : es[i]? = some p) (hj : es[j]? = some q) : p.2 ≤ q.2 := by
  obtain ⟨h1, e1⟩ := List.getElem?_eq_some_iff.mp hi
  obtain ⟨h2, e2⟩ := List.getElem?_eq_some_iff.mp hj
  have := List.pairwise_iff_getElem.mp h i j h1 h2 hij
  rw [e1, e2] at this
  exact this

theorem BI.step {nx : List Int → List (List Int)} {s : List Int} {n : Nat} {es : Found} (B : BI nx s n es) {p : List Int × Int} (hp : es[n]? = some p) : BI nx s (n + 1) (bfsIn (p.2 + 1) es (nx p.1)) := by
  obtain ⟨more, h1, h2, h3, h4⟩ := bfsIn_ext (p.2 + 1) (nx p.1) es B.nd
  have hlt : n < es.length := (List.getElem?_eq_some_iff.mp hp).1
  have hpm : p ∈ es := List.mem_of_getElem? hp
  have htop := B.top p hp
  have hall : ∀ q ∈ bfsIn (p.2 + 1) es (nx p.1), q.2 ≤ p.2 + 1 := by
    intro q hq
    rw [h1, List.mem_append] at hq
    rcases hq with hq | hq
    · exact htop q hq
    · exact Int.le_of_eq (h2 q hq).1
  have hsub : ∀ q ∈ es, q ∈ bfsIn (p.2 + 1) es (nx p.1) := fun q hq => by rw [h1]; exact List.mem_append_left _ hq
  have htake : (bfsIn (p.2 + 1) es (nx p.1)).take (n + 1) = es.take n ++ [p] := by
    rw [h1, List.take_append_of_le_length (by omega), List.take_add_one, hp]
    rfl
  refine ⟨h3, hsub _ B.src, ?_, ?_, ?_, ?_⟩
  · intro t v h
    rw [h1, List.mem_append] at h
    rcases h with h | h
    · obtain ⟨k1, k2⟩ := B.par t v h
      refine ⟨k1, k2.imp_right ?_⟩
      rintro ⟨z, hz, ht⟩
      exact ⟨z, hsub _ hz, ht⟩
    · obtain ⟨k1, k2⟩ := h2 _ h
      simp only at k1 k2
      subst k1
      have := (B.par p.1 p.2 hpm).1
      refine ⟨by omega, .inr ⟨p.1, ?_, k2⟩⟩
      have e : p.2 + 1 - 1 = p.2 := by omega
      rw [e]
      exact hsub _ hpm
  · intro z v h t ht
    rw [htake, List.mem_append] at h
    rcases h with h | h
    · obtain ⟨u, hu, hle⟩ := B.out z v h t ht
      exact ⟨u, hsub _ hu, hle⟩
    · simp only [List.mem_singleton] at h
      subst h
      obtain ⟨u, hu⟩ := h4 t ht
      exact ⟨u, hu, hall _ hu⟩
  · rw [h1, List.pairwise_append]
    refine ⟨B.mono, ?_, ?_⟩
    · refine List.pairwise_of_forall_mem_list ?_
      intro a ha b hb
      rw [(h2 a ha).1, (h2 b hb).1]
      exact Int.le_refl _
    · intro a ha b hb
      rw [(h2 b hb).1]
      exact htop a ha
  · intro p' hp' q hq
    have hle : p.2 ≤ p'.2 := by
      have hmono : (bfsIn (p.2 + 1) es (nx p.1)).Pairwise fun p q => p.2 ≤ q.2 := by
        rw [h1, List.pairwise_append]
        refine ⟨B.mono, ?_, ?_⟩
        · refine List.pairwise_of_forall_mem_list ?_
          intro a ha b hb
          rw [(h2 a ha).1, (h2 b hb).1]
          exact Int.le_refl _
        · intro a ha b hb
          rw [(h2 b hb).1]
          exact htop a ha
      have hp0 : (bfsIn (p.2 + 1) es (nx p.1))[n]? = some p := by rw [h1, List.getElem?_append_left hlt]; exact hp
      exact pairwise_at hmono (Nat.lt_succ_self n) hp0 hp'
    have := hall q hq
    omega

/-- all that is found lies among some lists of places, and these have numbers below N -/
structure Box (P : List Int → Prop) (N : Nat) (key : List Int → Nat) : Prop where
  lt : ∀ z, P z → key z < N
  inj : ∀ z z', P z → P z' → key z = key z' → z = z'

theorem Box.le {P : List Int → Prop} {N : Nat} {key : List Int → Nat} (b : Box P N key) {es : Found} (hn : (es.map (·.1)).Nodup) (hP : ∀ q ∈ es, P q.1) : es.length ≤ N := by
  have h1 : (es.map fun q => ((key q.1 : Nat) : Int)).Nodup := by
    have : (es.map fun q => ((key q.1 : Nat) : Int)) = (es.map (·.1)).map fun z => ((key z : Nat) : Int) := by rw [List.map_map]; rfl
    rw [this]
    refine List.pairwise_map.mpr ?_
    refine List.Pairwise.imp_of_mem ?_ hn
    intro a c ha hc hne e
    obtain ⟨qa, hqa, rfl⟩ := List.mem_map.mp ha
    obtain ⟨qc, hqc, rfl⟩ := List.mem_map.mp hc
    exact hne (b.inj _ _ (hP _ hqa) (hP _ hqc) (by omega))
  have h2 := length_le_of_sub (l := nums N) h1 (fun x hx => by
    obtain ⟨q, hq, rfl⟩ := List.mem_map.mp hx
    rw [mem_nums]
    have := b.lt _ (hP q hq)
    omega)
  rwa [List.length_map, nums_length] at h2

theorem bfsIn_all {P : List Int → Prop} (v : Int) : ∀ (ts : List (List Int)) (es : Found), (∀ q ∈ es, P q.1) → (∀ t ∈ ts, P t) → ∀ q ∈ bfsIn v es ts, P q.1
  | [], es, h, _ => h
  | t :: ts, es, h, h2 => by
    rw [bfsIn]
    refine bfsIn_all v ts _ ?_ (fun x hx => h2 x (List.mem_cons_of_mem _ hx))
    intro q hq
    split at hq
    · exact h q hq
    · rcases List.mem_append.mp hq with hq | hq
      · exact h q hq
      · simp only [List.mem_singleton] at hq
        subst hq
        exact h2 t List.mem_cons_self

/-- the whole search -/
def bfsAll (nx : List Int → List (List Int)) (s : List Int) : Found := bfsGo nx 2198 0 [(s, 0)]

/-- a stage of it: n places are worked off -/
structure Stage (nx : List Int → List (List Int)) (s : List Int) (P : List Int → Prop) (n : Nat) (es : Found) : Prop where
  bi : BI nx s n es
  all : ∀ q ∈ es, P q.1
  val : ∀ q ∈ es, q.2 ≤ (n : Int)
  go : ∃ k, n + k = 2198 ∧ bfsAll nx s = bfsGo nx k n es

theorem Stage.start {nx : List Int → List (List Int)} {s : List Int} {P : List Int → Prop} (hs : P s) : Stage nx s P 0 [(s, 0)] :=
  ⟨BI.start nx s, fun q hq => by simp at hq; subst hq; exact hs, fun q hq => by simp at hq; subst hq; exact Int.le_refl _, 2198, rfl, rfl⟩

theorem Stage.step {nx : List Int → List (List Int)} {s : List Int} {P : List Int → Prop} {N : Nat} {key : List Int → Nat} {n : Nat} {es : Found} (S : Stage nx s P n es) (b : Box P N key) (hN : N ≤ 2197) (hnx : ∀ z, P z → ∀ t ∈ nx z, P t) {p : List Int × Int} (hp : es[n]? = some p) :
    Stage nx s P (n + 1) (bfsIn (p.2 + 1) es (nx p.1)) := by
  obtain ⟨k, hk, hgo⟩ := S.go
  have hlt : n < es.length := (List.getElem?_eq_some_iff.mp hp).1
  have hle := b.le S.bi.nd S.all
  refine ⟨S.bi.step hp, bfsIn_all _ _ _ S.all (hnx _ (S.all _ (List.mem_of_getElem? hp))), fun q hq => ?_, ?_⟩
  · obtain ⟨more, h1, h2, _, _⟩ := bfsIn_ext (p.2 + 1) (nx p.1) es S.bi.nd
    have hpv := S.val p (List.mem_of_getElem? hp)
    rw [h1, List.mem_append] at hq
    rcases hq with hq | hq
    · have := S.val q hq; omega
    · have := (h2 q hq).1; omega
  cases k with
  | zero => omega
  | succ k =>
    refine ⟨k, by omega, ?_⟩
    rw [hgo, bfsGo, hp]

theorem Stage.done {nx : List Int → List (List Int)} {s : List Int} {P : List Int → Prop} {n : Nat} {es : Found} (S : Stage nx s P n es) (hp : es[n]? = none) : bfsAll nx s = es := by
  obtain ⟨k, hk, hgo⟩ := S.go
  rw [hgo]
  cases k with
  | zero => rfl
  | succ k => rw [bfsGo, hp]

/-- every search comes to an end -/
theorem Stage.finish {nx : List Int → List (List Int)} {s : List Int} {P : List Int → Prop} {N : Nat} {key : List Int → Nat} (b : Box P N key) (hN : N ≤ 2197) (hnx : ∀ z, P z → ∀ t ∈ nx z, P t) : ∀ (k n : Nat) (es : Found), n + k = 2198 → Stage nx s P n es → ∃ n', Stage nx s P n' (bfsAll nx s) ∧ (bfsAll nx s)[n']? = none
  | 0, n, es, hk, S => by
    have hle := b.le S.bi.nd S.all
    have hp : es[n]? = none := List.getElem?_eq_none (by omega)
    rw [S.done hp]
    exact ⟨n, S, hp⟩
  | k + 1, n, es, hk, S => by
    cases hp : es[n]? with
    | none =>
      rw [S.done hp]
      exact ⟨n, S, hp⟩
    | some p => exact Stage.finish b hN hnx k (n + 1) _ (by omega) (S.step b hN hnx hp)

/-- a way of k moves -/
inductive Way (nx : List Int → List (List Int)) : Nat → List Int → List Int → Prop
  | nil (s : List Int) : Way nx 0 s s
  | cons {k : Nat} {s z t : List Int} : Way nx k s z → t ∈ nx z → Way nx (k + 1) s t

/-- what a search comes to: the least number of moves for each list of places to which one can come -/
structure BTold (nx : List Int → List (List Int)) (s : List Int) (es : Found) : Prop where
  nd : (es.map (·.1)).Nodup
  src : mget es s = some 0
  par : ∀ t v, mget es t = some v → 0 ≤ v ∧ ((t = s ∧ v = 0) ∨ ∃ z, mget es z = some (v - 1) ∧ t ∈ nx z)
  out : ∀ z v, mget es z = some v → ∀ t ∈ nx z, ∃ u, mget es t = some u ∧ u ≤ v + 1

theorem Stage.told {nx : List Int → List (List Int)} {s : List Int} {P : List Int → Prop} {n : Nat} {es : Found} (S : Stage nx s P n es) (hp : es[n]? = none) : BTold nx s es := by
  have B := S.bi
  have hge : es.length ≤ n := List.getElem?_eq_none_iff.mp hp
  refine ⟨B.nd, mget_of_mem B.nd B.src, fun t v h => ?_, fun z v h t ht => ?_⟩
  · obtain ⟨h1, h2⟩ := B.par t v (mget_mem h)
    refine ⟨h1, h2.imp_right ?_⟩
    rintro ⟨z, hz, ht⟩
    exact ⟨z, mget_of_mem B.nd hz, ht⟩
  · obtain ⟨u, hu, hle⟩ := B.out z v (by rw [List.take_of_length_le hge]; exact mget_mem h) t ht
    exact ⟨u, mget_of_mem B.nd hu, hle⟩

/-- the whole search, told -/
theorem bfs_told {nx : List Int → List (List Int)} {s : List Int} {P : List Int → Prop} {N : Nat} {key : List Int → Nat} (b : Box P N key) (hN : N ≤ 2197) (hnx : ∀ z, P z → ∀ t ∈ nx z, P t) (hs : P s) : BTold nx s (bfsAll nx s) ∧ ∀ q ∈ bfsAll nx s, P q.1 := by
  obtain ⟨n, S, hp⟩ := Stage.finish b hN hnx 2198 0 _ rfl (Stage.start (nx := nx) hs)
  exact ⟨S.told hp, S.all⟩

theorem BTold.way {nx : List Int → List (List Int)} {s : List Int} {es : Found} (T : BTold nx s es) : ∀ (k : Nat) (t : List Int), mget es t = some (k : Int) → Way nx k s t
  | 0, t, h => by
    obtain ⟨_, h2⟩ := T.par t _ h
    rcases h2 with ⟨rfl, _⟩ | ⟨z, hz, _⟩
    · exact .nil _
    · obtain ⟨h3, _⟩ := T.par z _ hz
      omega
  | k + 1, t, h => by
    obtain ⟨_, h2⟩ := T.par t _ h
    rcases h2 with ⟨_, h3⟩ | ⟨z, hz, ht⟩
    · omega
    · have e : ((k + 1 : Nat) : Int) - 1 = (k : Int) := by omega
      rw [e] at hz
      exact .cons (T.way k z hz) ht

theorem BTold.least {nx : List Int → List (List Int)} {s : List Int} {es : Found} (T : BTold nx s es) : ∀ {k : Nat} {t : List Int}, Way nx k s t → ∃ v, mget es t = some v ∧ v ≤ (k : Int) := by
  intro k t h
  induction h with
  | nil => exact ⟨0, T.src, Int.le_refl _⟩
  | @cons k s' z t _ ht ih =>
    obtain ⟨v, h1, h2⟩ := ih T
    obtain ⟨u, h3, h4⟩ := T.out z v h1 t ht
    exact ⟨u, h3, by omega⟩

/-- a way to a list of places, and as few moves as that -/
theorem BTold.iff {nx : List Int → List (List Int)} {s : List Int} {es : Found} (T : BTold nx s es) (t : List Int) (k : Nat) : mget es t = some (k : Int) ↔ Way nx k s t ∧ ∀ j, Way nx j s t → k ≤ j := by
  constructor
  · intro h
    refine ⟨T.way k t h, fun j hj => ?_⟩
    obtain ⟨v, h1, h2⟩ := T.least hj
    rw [h] at h1
    cases h1
    omega
  · rintro ⟨h1, h2⟩
    obtain ⟨v, h3, h4⟩ := T.least h1
    have h5 := (T.par t v h3).1
    obtain ⟨j, rfl⟩ : ∃ j : Nat, v = j := ⟨v.toNat, by omega⟩
    have h6 := h2 j (T.way j t h3)
    have : j = k := by omega
    rw [h3, this]

theorem BTold.nat {nx : List Int → List (List Int)} {s : List Int} {es : Found} (T : BTold nx s es) {t : List Int} {v : Int} (h : mget es t = some v) : ∃ k : Nat, v = k := by
  have := (T.par t v h).1
  exact ⟨v.toNat, by omega⟩

theorem BTold.isSome {nx : List Int → List (List Int)} {s : List Int} {es : Found} (T : BTold nx s es) (t : List Int) : (mget es t).isSome = true ↔ ∃ k, Way nx k s t := by
  constructor
  · intro h
    obtain ⟨v, hv⟩ := Option.isSome_iff_exists.mp h
    obtain ⟨k, rfl⟩ := T.nat hv
    exact ⟨k, T.way k t hv⟩
  · rintro ⟨k, hk⟩
    obtain ⟨v, hv, _⟩ := T.least hk
    rw [hv]
    rfl

theorem Way.good {nx : List Int → List (List Int)} {P : List Int → Prop} (hnx : ∀ z, P z → ∀ t ∈ nx z, P t) {k : Nat} {s t : List Int} (h : Way nx k s t) (hs : P s) : P t := by
  induction h with
  | nil => exact hs
  | cons _ ht ih => exact hnx _ (ih hs) _ ht

theorem Way.ahead {nx : List Int → List (List Int)} {k : Nat} {z t : List Int} (h : Way nx k z t) : ∀ {s : List Int}, z ∈ nx s → Way nx (k + 1) s t := by
  induction h with
  | nil s' => intro s h; exact .cons (.nil s) h
  | cons _ ht ih => intro s h; exact .cons (ih h) ht

/-- a way back -/
theorem Way.back {nx : List Int → List (List Int)} {P : List Int → Prop} (hnx : ∀ z, P z → ∀ t ∈ nx z, P t) (hsym : ∀ z, P z → ∀ t ∈ nx z, z ∈ nx t) {k : Nat} {s t : List Int} (h : Way nx k s t) (hs : P s) : Way nx k t s := by
  induction h with
  | nil => exact .nil _
  | cons h1 ht ih => exact (ih hs).ahead (hsym _ (h1.good hnx hs) _ ht)

/-- there and back it is as far -/
theorem told_back {nx : List Int → List (List Int)} {P : List Int → Prop} (hnx : ∀ z, P z → ∀ t ∈ nx z, P t) (hsym : ∀ z, P z → ∀ t ∈ nx z, z ∈ nx t) {s g : List Int} {es es' : Found} (T : BTold nx s es) (T' : BTold nx g es') (hs : P s) (hg : P g) : mget es g = mget es' s := by
  have key : ∀ (a b : List Int) (ea eb : Found), BTold nx a ea → BTold nx b eb → P a → P b → ∀ v, mget ea b = some v → mget eb a = some v := by
    intro a b ea eb Ta Tb ha hb v h
    obtain ⟨k, rfl⟩ := Ta.nat h
    obtain ⟨h1, h2⟩ := (Ta.iff b k).mp h
    exact (Tb.iff a k).mpr ⟨h1.back hnx hsym ha, fun j hj => h2 j (hj.back hnx hsym hb)⟩
  cases h : mget es g with
  | some v => rw [key s g es es' T T' hs hg v h]
  | none =>
    cases h' : mget es' s with
    | none => rfl
    | some v =>
      rw [key g s es' es T' T hg hs v h'] at h
      cases h

end Go.Proofs.Ythkgpblohjpcdaa.Slim

/- Beams: reactions, shears and bends, told plainly. -/
namespace Go.Proofs.Ythkgpblohjpcdaa.Slim

open Go

set_option linter.unusedSimpArgs false

set_option linter.unusedVariables false

/-- a number, or 0 if it is less -/
def mx (x : Int) : Int := if 0 < x then x else 0

def sumZ (g : Ld → Int) : List Ld → Int
  | [] => 0
  | l :: ls => g l + sumZ g ls

theorem sumZ_congr {g h : Ld → Int} : ∀ (ls : List Ld), (∀ l ∈ ls, g l = h l) → sumZ g ls = sumZ h ls
  | [], _ => rfl
  | l :: ls, k => by
    rw [sumZ, sumZ, k l (by simp), sumZ_congr ls (fun x hx => k x (by simp [hx]))]

theorem sumZ_add (g h : Ld → Int) : ∀ ls, sumZ (fun l => g l + h l) ls = sumZ g ls + sumZ h ls
  | [] => rfl
  | l :: ls => by rw [sumZ, sumZ, sumZ, sumZ_add g h ls]; omega

theorem sumZ_mul (c : Int) (g : Ld → Int) : ∀ ls, sumZ (fun l => c * g l) ls = c * sumZ g ls
  | [] => by simp [sumZ]
  | l :: ls => by rw [sumZ, sumZ, sumZ_mul c g ls, Int.mul_add]

theorem sumZ_neg (g : Ld → Int) : ∀ ls, sumZ (fun l => - g l) ls = - sumZ g ls
  | [] => by simp [sumZ]
  | l :: ls => by rw [sumZ, sumZ, sumZ_neg g ls]; omega

theorem sumZ_zero {g : Ld → Int} : ∀ (ls : List Ld), (∀ l ∈ ls, g l = 0) → sumZ g ls = 0
  | [], _ => rfl
  | l :: ls, h => by rw [sumZ, h l (by simp), sumZ_zero ls (fun x hx => h x (by simp [hx]))]; rfl

theorem sumZ_nonneg {g : Ld → Int} : ∀ (ls : List Ld), (∀ l ∈ ls, 0 ≤ g l) → 0 ≤ sumZ g ls
  | [], _ => Int.le_refl _
  | l :: ls, h => by
    have h1 := h l (by simp)
    have h2 := sumZ_nonneg ls (fun x hx => h x (by simp [hx]))
    rw [sumZ]; omega

theorem sumZ_bd {g : Ld → Int} {B : Int} (hB : 0 ≤ B) : ∀ (ls : List Ld), (∀ l ∈ ls, -B ≤ g l ∧ g l ≤ B) → -(B * ls.length) ≤ sumZ g ls ∧ sumZ g ls ≤ B * ls.length
  | [], _ => by simp [sumZ]
  | l :: ls, h => by
    have h1 := h l (by simp)
    have h2 := sumZ_bd hB ls (fun x hx => h x (by simp [hx]))
    rw [sumZ, List.length_cons, Int.natCast_add, Int.mul_add]
    omega

/-- the moment about a place, exactly -/
def momZ (ls : List Ld) (p : Int) : Int := sumZ (fun l => l.2 * (l.1 - p)) ls

theorem mul_bd60 {x d : Int} (h1 : 0 ≤ x) (h2 : x ≤ 99) (h3 : -60 ≤ d) (h4 : d ≤ 60) : -5940 ≤ x * d ∧ x * d ≤ 5940 := by
  have e1 : x * d ≤ x * 60 := Int.mul_le_mul_of_nonneg_left h4 h1
  have e2 : x * (-60) ≤ x * d := Int.mul_le_mul_of_nonneg_left h3 h1
  omega

theorem mom_fold {p M : Int} (hM : M ≤ 1000000000) (hp : 0 ≤ p ∧ p ≤ 60) (ls : List Ld) : ∀ (acc : Int), (∀ l ∈ ls, okL l = true) → -M + 5940 * ls.length ≤ acc → acc ≤ M - 5940 * ls.length → ls.foldl (momStep p) acc = acc + sumZ (fun l => l.2 * (l.1 - p)) ls := by
  induction ls with
  | nil => intro acc _ _ _; simp [sumZ]
  | cons l ls ih =>
    intro acc h h1 h2
    have hl := h l (by simp)
    unfold okL at hl
    simp only [Bool.and_eq_true, decide_eq_true_eq] at hl
    obtain ⟨m1, m2⟩ := mul_bd60 (x := l.2) (d := l.1 - p) (by omega) (by omega) (by omega) (by omega)
    simp only [List.length_cons] at h1 h2
    have hs : momStep p acc l = acc + l.2 * (l.1 - p) := by
      unfold momStep
      rw [show IntKind.i64.wrap (l.1 - p) = l.1 - p from wrap64 (by omega) (by omega), show IntKind.i64.wrap (l.2 * (l.1 - p)) = l.2 * (l.1 - p) from wrap64 (by omega) (by omega), show IntKind.i64.wrap (acc + l.2 * (l.1 - p)) = acc + l.2 * (l.1 - p) from wrap64 (by omega) (by omega)]
    rw [List.foldl_cons, hs, ih _ (fun x hx => h x (by simp [hx])) (by omega) (by omega), sumZ]
    omega

theorem row_facts {ls : List Ld} (h : rowOk ls = true) : ls.length ≤ 12 ∧ ∀ l ∈ ls, okL l = true := by
  unfold rowOk at h
  simp only [Bool.and_eq_true, decide_eq_true_eq, List.all_eq_true] at h
  exact h

theorem mom_at {ls : List Ld} (h : rowOk ls = true) {p : Int} (hp : 0 ≤ p ∧ p ≤ 60) : momW ls p = momZ ls p ∧ -71280 ≤ momZ ls p ∧ momZ ls p ≤ 71280 := by
  obtain ⟨h1, h2⟩ := row_facts h
  have hb := sumZ_bd (g := fun l => l.2 * (l.1 - p)) (B := 5940) (by omega) ls (fun l hl => by
    have hl := h2 l hl
    unfold okL at hl
    simp only [Bool.and_eq_true, decide_eq_true_eq] at hl
    exact mul_bd60 (by omega) (by omega) (by omega) (by omega))
  refine ⟨?_, ?_, ?_⟩
  · unfold momW momZ
    obtain ⟨M, hM⟩ : ∃ M : Int, M = 1000000000 := ⟨_, rfl⟩
    rw [mom_fold (M := M) (by omega) hp ls 0 h2 (by omega) (by omega), Int.zero_add]
  · unfold momZ; omega
  · unfold momZ; omega

/-- the shear right of p of a weight of 1 at x -/
def hZ (L R x p : Int) : Int := (if L ≤ p then R - x else 0) + (if R ≤ p then x - L else 0) - (if x ≤ p then R - L else 0)

/-- the force at p -/
def kZ (L R x p : Int) : Int := (if p = L then R - x else 0) + (if p = R then x - L else 0) - (if p = x then R - L else 0)

theorem mx_step (p c : Int) : mx (p + 1 - c) = mx (p - c) + if c ≤ p then 1 else 0 := by
  unfold mx
  split <;> split <;> split <;> omega

theorem hZ_step (L R x p : Int) : hZ L R x (p + 1) = hZ L R x p + kZ L R x (p + 1) := by
  unfold hZ kZ
  by_cases h1 : L ≤ p <;> by_cases h2 : R ≤ p <;> by_cases h3 : x ≤ p <;> by_cases h4 : p + 1 = L <;> by_cases h5 : p + 1 = R <;> by_cases h6 : p + 1 = x <;> simp only [h1, h2, h3, h4, h5, h6, if_true, if_false] <;> (repeat' split) <;> omega

theorem hZ_start {L R x : Int} (h1 : 0 ≤ L) (h2 : L < R) (h3 : 0 ≤ x) : hZ L R x 0 = kZ L R x 0 := by
  unfold hZ kZ
  (repeat' split) <;> omega

theorem mx_nonneg {x : Int} (h : 0 ≤ x) : mx x = x := by
  unfold mx
  split <;> omega

theorem mx_sym (t : Int) : mx t = t + mx (-t) := by
  unfold mx
  split <;> split <;> omega

theorem left_right (L R : Int) (ls : List Ld) : -momZ ls R + momZ ls L = sumZ (fun l => l.2) ls * (R - L) := by
  unfold momZ
  induction ls with
  | nil => simp [sumZ]
  | cons l ls ih =>
    simp only [sumZ]
    grind

end Go.Proofs.Ythkgpblohjpcdaa.Slim

/- Planks: moves there and back; with the stride 1 one can go straight on (see a_s_l11Spread). -/
namespace Go.Proofs.Ythkgpblohjpcdaa.Slim

open Go

set_option linter.unusedSimpArgs false

set_option linter.unusedVariables false

/-- the places behind each safe move -/
def nxP (x a b s : Int) (ls : List Ld) (z : List Int) : List (List Int) := (mvs x a b s (putL ls z)).map fun m => z.set m.1.toNat m.2

/-- a plank and people on it -/
structure Plk (x a b s : Int) (ls : List Ld) : Prop where
  n1 : 1 ≤ ls.length
  n3 : ls.length ≤ 3
  x1 : 1 ≤ x
  x12 : x ≤ 12
  a0 : 0 ≤ a
  ab : a < b
  bx : b ≤ x
  s1 : 1 ≤ s
  s4 : s ≤ 4
  w : ∀ l ∈ ls, 1 ≤ l.2 ∧ l.2 ≤ 99

/-- places on the plank; behind the people there is 0 -/
structure Box0 (x : Int) (n : Nat) (z : List Int) : Prop where
  len : z.length = 3
  on : ∀ i, i < n → 0 ≤ z.getD i 0 ∧ z.getD i 0 ≤ x
  zero : ∀ i, n ≤ i → z.getD i 0 = 0

/-- and they rest there -/
structure Good (x a b : Int) (ls : List Ld) (z : List Int) : Prop extends Box0 x ls.length z where
  rest : sideW (putL ls z) a b = 0

theorem plk_of {x a b s : Int} {ls : List Ld} (h : partyOk x a b ls s = true) : Plk x a b s ls := by
  unfold partyOk onOk beamOk rowOk at h
  simp only [Bool.and_eq_true, decide_eq_true_eq, List.all_eq_true] at h
  obtain ⟨⟨⟨h1, h2⟩, h3⟩, h4, ⟨h5, h6⟩, h7, h8, h9⟩ := h
  refine ⟨h5, h6, by omega, by omega, by omega, by omega, by omega, h8, h9, fun l hl => ?_⟩
  have := h2.2 l hl
  unfold okL at this
  simp only [Bool.and_eq_true, decide_eq_true_eq] at this
  omega

theorem putL_get : ∀ (ls : List Ld) (z : List Int) (i : Nat), i < ls.length → (putL ls z)[i]? = some (z.getD i 0, (ls[i]?.getD (0, 0)).2)
  | [], z, i, h => by simp at h
  | l :: ls, z, 0, h => by cases z <;> rfl
  | l :: ls, z, i + 1, h => by
    rw [putL, List.getElem?_cons_succ, putL_get ls z.tail i (by simpa using h), List.getElem?_cons_succ]
    cases z <;> simp

theorem plOf_put {ls : List Ld} {z : List Int} {i : Nat} (h : i < ls.length) : plOf (putL ls z) i = z.getD i 0 := by
  unfold plOf
  rw [putL_get ls z i h]
  rfl

theorem Box0.plB {x : Int} {ls : List Ld} {z : List Int} (h : Box0 x ls.length z) (hx : x ≤ 60) : plB (putL ls z) := by
  intro i hi
  rw [putL_length] at hi
  rw [plOf_put hi]
  have := h.on i hi
  omega

theorem zset_get (z : List Int) (i j : Nat) (p : Int) : (z.set i p).getD j 0 = if i = j ∧ j < z.length then p else z.getD j 0 := by
  simp only [List.getD_eq_getElem?_getD, List.getElem?_set]
  by_cases h : i = j
  · subst h
    by_cases h2 : i < z.length
    · simp [h2]
    · simp [h2]
  · simp [h]

/-- which places come behind safe moves -/
theorem mem_nxP {x a b s : Int} {ls : List Ld} (K : Plk x a b s ls) {z : List Int} (B : Box0 x ls.length z) (t : List Int) :
    t ∈ nxP x a b s ls z ↔ ∃ (i : Nat) (p : Int), i < ls.length ∧ t = z.set i p ∧ 0 ≤ p ∧ p ≤ x ∧ (p = z.getD i 0 - s ∨ p = z.getD i 0 + s) ∧ sideW (putL ls (z.set i p)) a b = 0 := by
  have hn := K.n3
  have hx := K.x12
  have hs1 := K.s1
  have hs4 := K.s4
  have hm := fun m => mem_mvs (x := x) (a := a) (b := b) (B.plB (ls := ls) (by omega)) ⟨K.s1, K.s4⟩ (by omega) m
  have key : ∀ (i : Nat) (p : Int), i < ls.length → (safeMv x a b (putL ls z) s (i : Int) p = true ↔ (0 ≤ p ∧ p ≤ x) ∧ (p = z.getD i 0 - s ∨ p = z.getD i 0 + s) ∧ sideW (putL ls (z.set i p)) a b = 0) := by
    intro i p hi
    have hon := B.on i hi
    rw [putL_set ls z i p hi (by rw [B.len]; exact hn)]
    unfold safeMv
    rw [Int.toNat_natCast, plOf_put hi, putL_length]
    have w3 : wr (0 - s) = - s := by show IntKind.i64.wrap (0 - s) = - s; rw [wrap64 (by omega) (by omega)]; omega
    rw [w3]
    simp only [Bool.and_eq_true, Bool.or_eq_true, decide_eq_true_eq]
    constructor
    · rintro ⟨⟨_, h1, h2⟩, h3, h4⟩
      have w4 : wr (p - z.getD i 0) = p - z.getD i 0 := wrap64 (by omega) (by omega)
      rw [w4] at h3
      exact ⟨⟨h1, h2⟩, by omega, h4⟩
    · rintro ⟨⟨h1, h2⟩, h3, h4⟩
      have w4 : wr (p - z.getD i 0) = p - z.getD i 0 := wrap64 (by omega) (by omega)
      rw [w4]
      exact ⟨⟨⟨by omega, by omega⟩, h1, h2⟩, by omega, h4⟩
  unfold nxP
  rw [List.mem_map]
  constructor
  · rintro ⟨m, h1, rfl⟩
    have h2 : safeMv x a b (putL ls z) s m.1 m.2 = true := by rw [← hm m]; simpa using h1
    obtain ⟨r1, r2⟩ := safe_range h2
    obtain ⟨j, hj⟩ : ∃ j : Nat, m.1 = j := ⟨m.1.toNat, by omega⟩
    rw [hj, Int.toNat_natCast, putL_length] at r2
    rw [hj] at h2
    obtain ⟨⟨h3, h4⟩, h5, h6⟩ := (key j m.2 r2).mp h2
    exact ⟨j, m.2, r2, by rw [hj, Int.toNat_natCast], h3, h4, h5, h6⟩
  · rintro ⟨i, p, hi, rfl, h1, h2, h3, h4⟩
    refine ⟨((i : Int), p), ?_, by simp⟩
    have := hm ((i : Int), p)
    rw [(key i p hi).mpr ⟨⟨h1, h2⟩, h3, h4⟩] at this
    simpa using this

theorem Good.next {x a b s : Int} {ls : List Ld} (K : Plk x a b s ls) {z t : List Int} (G : Good x a b ls z) (h : t ∈ nxP x a b s ls z) : Good x a b ls t := by
  obtain ⟨i, p, hi, rfl, h1, h2, h3, h4⟩ := (mem_nxP K G.toBox0 t).mp h
  refine ⟨⟨by rw [List.length_set]; exact G.len, fun j hj => ?_, fun j hj => ?_⟩, h4⟩
  · rw [zset_get]
    split
    · exact ⟨h1, h2⟩
    · exact G.on j hj
  · rw [zset_get, if_neg (by omega)]
    exact G.zero j hj

theorem set_back (z : List Int) (i : Nat) (p : Int) (h : i < z.length) : (z.set i p).set i (z.getD i 0) = z := by
  rw [List.set_set]
  have : z.getD i 0 = z[i] := by simp [List.getD_eq_getElem?_getD, h]
  rw [this, List.set_getElem_self]

theorem Good.sym {x a b s : Int} {ls : List Ld} (K : Plk x a b s ls) {z t : List Int} (G : Good x a b ls z) (h : t ∈ nxP x a b s ls z) : z ∈ nxP x a b s ls t := by
  have Gt := G.next K h
  obtain ⟨i, p, hi, rfl, h1, h2, h3, h4⟩ := (mem_nxP K G.toBox0 t).mp h
  have hl : i < z.length := by rw [G.len]; have := K.n3; omega
  have hb := set_back z i p hl
  have hon := G.on i hi
  refine (mem_nxP K Gt.toBox0 z).mpr ⟨i, z.getD i 0, hi, hb.symm, hon.1, hon.2, ?_, by rw [hb]; exact G.rest⟩
  rw [zset_get, if_pos ⟨rfl, hl⟩]
  omega

/-! the moment of people at places -/

/-- the moment of some people at places about a place -/
def momE (p : Int) : List Ld → List Int → Int
  | [], _ => 0
  | l :: ls, z => l.2 * (z.headD 0 - p) + momE p ls z.tail

theorem momE_eq (p : Int) : ∀ (ls : List Ld) (z : List Int), momZ (putL ls z) p = momE p ls z
  | [], z => rfl
  | l :: ls, z => by
    have := momE_eq p ls z.tail
    unfold momZ at this ⊢
    rw [putL, sumZ, momE, this]

def totW : List Ld → Int
  | [] => 0
  | l :: ls => l.2 + totW ls

theorem momE_diff (p q : Int) : ∀ (ls : List Ld) (z : List Int), momE p ls z - momE q ls z = totW ls * (q - p)
  | [], z => by simp [momE, totW]
  | l :: ls, z => by
    have := momE_diff p q ls z.tail
    rw [momE, momE, totW, Int.add_mul, ← this]
    have e : l.2 * (z.headD 0 - p) - l.2 * (z.headD 0 - q) = l.2 * (q - p) := by rw [← Int.mul_sub]; congr 1; omega
    omega

/-- the weight of one of them -/
def wOf (ls : List Ld) (i : Nat) : Int := (ls[i]?.getD (0, 0)).2

theorem momE_set (p : Int) : ∀ (ls : List Ld) (z : List Int) (i : Nat) (q : Int), i < ls.length → i < z.length → momE p ls (z.set i q) = momE p ls z + wOf ls i * (q - z.getD i 0)
  | [], z, i, q, h, _ => by simp at h
  | l :: ls, [], i, q, _, h => by simp at h
  | l :: ls, y :: z, 0, q, h, _ => by
    show l.2 * (q - p) + momE p ls z = l.2 * (y - p) + momE p ls z + l.2 * (q - y)
    have e : l.2 * (q - p) = l.2 * (y - p) + l.2 * (q - y) := by rw [← Int.mul_add]; congr 1; omega
    omega
  | l :: ls, y :: z, i + 1, q, h, h2 => by
    have := momE_set p ls z i q (by simpa using h) (by simpa using h2)
    show l.2 * (y - p) + momE p ls (z.set i q) = l.2 * (y - p) + momE p ls z + wOf ls i * (q - z.getD i 0)
    omega

theorem wOf_pos {ls : List Ld} (hw : ∀ l ∈ ls, 1 ≤ l.2 ∧ l.2 ≤ 99) {i : Nat} (h : i < ls.length) : 1 ≤ wOf ls i := by
  unfold wOf
  rw [List.getElem?_eq_getElem h]
  exact (hw _ (List.getElem_mem h)).1

theorem totW_one : ∀ {ls : List Ld}, (∀ l ∈ ls, 1 ≤ l.2 ∧ l.2 ≤ 99) → ∀ {i : Nat}, i < ls.length → wOf ls i ≤ totW ls ∧ 0 ≤ totW ls
  | [], _, i, h => by simp at h
  | l :: ls, hw, 0, h => by
    have h1 := (hw l (by simp)).1
    have h2 : 0 ≤ totW ls := by
      have hw' : ∀ y ∈ ls, 1 ≤ y.2 ∧ y.2 ≤ 99 := fun y hy => hw y (by simp [hy])
      clear hw h
      induction ls with
      | nil => exact Int.le_refl _
      | cons y ls ih =>
        have := (hw' y (by simp)).1
        have := ih (fun u hu => hw' u (by simp [hu]))
        rw [totW]; omega
    rw [totW]
    show l.2 ≤ _ ∧ _
    omega
  | l :: ls, hw, i + 1, h => by
    have h1 := (hw l (by simp)).1
    obtain ⟨h2, h3⟩ := totW_one (ls := ls) (fun y hy => hw y (by simp [hy])) (i := i) (by simpa using h)
    have : wOf (l :: ls) (i + 1) = wOf ls i := rfl
    rw [totW, this]
    omega

theorem totW_two : ∀ {ls : List Ld}, (∀ l ∈ ls, 1 ≤ l.2 ∧ l.2 ≤ 99) → ∀ {i j : Nat}, i ≠ j → i < ls.length → j < ls.length → wOf ls i + wOf ls j ≤ totW ls
  | [], _, i, j, _, h, _ => by simp at h
  | l :: ls, hw, 0, 0, hne, _, _ => absurd rfl hne
  | l :: ls, hw, 0, j + 1, _, _, h => by
    have := (totW_one (ls := ls) (fun y hy => hw y (by simp [hy])) (i := j) (by simpa using h)).1
    have e : wOf (l :: ls) (j + 1) = wOf ls j := rfl
    have e0 : wOf (l :: ls) 0 = l.2 := rfl
    rw [totW, e, e0]
    omega
  | l :: ls, hw, i + 1, 0, _, h, _ => by
    have := (totW_one (ls := ls) (fun y hy => hw y (by simp [hy])) (i := i) (by simpa using h)).1
    have e : wOf (l :: ls) (i + 1) = wOf ls i := rfl
    have e0 : wOf (l :: ls) 0 = l.2 := rfl
    rw [totW, e, e0]
    omega
  | l :: ls, hw, i + 1, j + 1, hne, hi, hj => by
    have h1 := (hw l (by simp)).1
    have := totW_two (ls := ls) (fun y hy => hw y (by simp [hy])) (i := i) (j := j) (by omega) (by simpa using hi) (by simpa using hj)
    have e : wOf (l :: ls) (i + 1) = wOf ls i := rfl
    have e' : wOf (l :: ls) (j + 1) = wOf ls j := rfl
    rw [totW, e, e']
    omega

theorem mul_ge {w d : Int} (hw : 1 ≤ w) (hd : 1 ≤ d) : w ≤ w * d := by
  have := Int.mul_le_mul_of_nonneg_left hd (show 0 ≤ w by omega)
  omega

theorem mul_nn {w d : Int} (hw : 1 ≤ w) (hd : 0 ≤ d) : 0 ≤ w * d := Int.mul_nonneg (by omega) hd

/-- nobody is farther to the right: the moment is no greater -/
theorem momE_le (p : Int) : ∀ (ls : List Ld) (z g : List Int), (∀ l ∈ ls, 1 ≤ l.2 ∧ l.2 ≤ 99) → (∀ i, i < ls.length → g.getD i 0 ≤ z.getD i 0) → momE p ls g ≤ momE p ls z
  | [], z, g, _, _ => Int.le_refl _
  | l :: ls, z, g, hw, h => by
    have h0 := h 0 (by simp)
    have ih := momE_le p ls z.tail g.tail (fun y hy => hw y (by simp [hy])) (fun i hi => by
      have := h (i + 1) (by simp; omega)
      cases z <;> cases g <;> first | (simp; done) | (simp at this; done) | simpa using this)
    have e1 : z.getD 0 0 = z.headD 0 := by cases z <;> rfl
    have e2 : g.getD 0 0 = g.headD 0 := by cases g <;> rfl
    rw [e1, e2] at h0
    rw [momE, momE]
    have := mul_nn (hw l (by simp)).1 (d := z.headD 0 - g.headD 0) (by omega)
    have e : l.2 * (z.headD 0 - p) = l.2 * (g.headD 0 - p) + l.2 * (z.headD 0 - g.headD 0) := by rw [← Int.mul_add]; congr 1; omega
    omega

theorem momE_lt (p : Int) : ∀ (ls : List Ld) (z g : List Int), (∀ l ∈ ls, 1 ≤ l.2 ∧ l.2 ≤ 99) → (∀ i, i < ls.length → g.getD i 0 ≤ z.getD i 0) → ∀ i, i < ls.length → g.getD i 0 < z.getD i 0 → momE p ls g + wOf ls i ≤ momE p ls z
  | [], z, g, _, _, i, hi, _ => by simp at hi
  | l :: ls, z, g, hw, h, i, hi, hlt => by
    have hw' : ∀ y ∈ ls, 1 ≤ y.2 ∧ y.2 ≤ 99 := fun y hy => hw y (by simp [hy])
    have h' : ∀ i, i < ls.length → g.tail.getD i 0 ≤ z.tail.getD i 0 := fun i hi => by
      have := h (i + 1) (by simp; omega)
      cases z <;> cases g <;> first | (simp; done) | (simp at this; done) | simpa using this
    have h0 := h 0 (by simp)
    have e1 : z.getD 0 0 = z.headD 0 := by cases z <;> rfl
    have e2 : g.getD 0 0 = g.headD 0 := by cases g <;> rfl
    rw [e1, e2] at h0
    have e : l.2 * (z.headD 0 - p) = l.2 * (g.headD 0 - p) + l.2 * (z.headD 0 - g.headD 0) := by rw [← Int.mul_add]; congr 1; omega
    rw [momE, momE]
    cases i with
    | zero =>
      rw [e1, e2] at hlt
      have := mul_ge (hw l (by simp)).1 (d := z.headD 0 - g.headD 0) (by omega)
      have := momE_le p ls z.tail g.tail hw' h'
      have e0 : wOf (l :: ls) 0 = l.2 := rfl
      omega
    | succ i =>
      have := mul_nn (hw l (by simp)).1 (d := z.headD 0 - g.headD 0) (by omega)
      have := momE_lt p ls z.tail g.tail hw' h' i (by simpa using hi) (by cases z <;> cases g <;> first | (simp at hlt; done) | simpa using hlt)
      have e0 : wOf (l :: ls) (i + 1) = wOf ls i := rfl
      omega

/-- resting, told by the exact moments -/
theorem rest_iff {x a b s : Int} {ls : List Ld} (K : Plk x a b s ls) {z : List Int} (B : Box0 x ls.length z) : sideW (putL ls z) a b = 0 ↔ 0 ≤ momE a ls z ∧ momE b ls z ≤ 0 := by
  have hx := K.x12
  have ha := K.a0
  have hab := K.ab
  have hb := K.bx
  have hn := K.n3
  have hrow : rowOk (putL ls z) = true := by
    unfold rowOk
    rw [Bool.and_eq_true, decide_eq_true_eq, List.all_eq_true, putL_length]
    refine ⟨by omega, fun l hl => ?_⟩
    obtain ⟨i, hi⟩ := List.getElem?_of_mem hl
    have hlt : i < ls.length := by
      have := (List.getElem?_eq_some_iff.mp hi).1
      rwa [putL_length] at this
    rw [putL_get ls z i hlt] at hi
    cases hi
    have h1 := B.on i hlt
    have h2 := K.w _ (List.getElem_mem hlt)
    unfold okL
    rw [List.getElem?_eq_getElem hlt]
    simp only [Option.getD_some, Bool.and_eq_true, decide_eq_true_eq]
    omega
  have e1 := (mom_at hrow (p := a) ⟨by omega, by omega⟩).1
  have e2 := (mom_at hrow (p := b) ⟨by omega, by omega⟩).1
  unfold sideW
  rw [e1, e2, momE_eq, momE_eq]
  constructor
  · intro h
    split at h
    · cases h
    · split at h
      · cases h
      · omega
  · rintro ⟨h1, h2⟩
    rw [if_neg (by omega), if_neg (by omega)]

/-- how far it is, all people together -/
def farE : Nat → List Int → List Int → Nat
  | 0, _, _ => 0
  | n + 1, z, g => farE n z g + (z.getD n 0 - g.getD n 0).natAbs

theorem farE_set {z g : List Int} {i : Nat} (p : Int) (hz : i < z.length) : ∀ n, farE n (z.set i p) g + (if i < n then (z.getD i 0 - g.getD i 0).natAbs else 0) = farE n z g + (if i < n then (p - g.getD i 0).natAbs else 0)
  | 0 => by simp [farE]
  | n + 1 => by
    have ih := farE_set (g := g) p hz n
    rw [farE, farE, zset_get]
    by_cases h : i = n
    · subst h
      rw [if_pos ⟨rfl, hz⟩, if_pos (by omega), if_pos (by omega)]
      rw [if_neg (by omega), if_neg (by omega)] at ih
      omega
    · rw [if_neg (by omega)]
      by_cases h2 : i < n
      · rw [if_pos (by omega), if_pos (by omega)]
        rw [if_pos h2, if_pos h2] at ih
        omega
      · rw [if_neg (by omega), if_neg (by omega)]
        rw [if_neg h2, if_neg h2] at ih
        omega

theorem farE_zero {z g : List Int} : ∀ n, farE n z g = 0 → ∀ i, i < n → z.getD i 0 = g.getD i 0
  | 0, _, i, hi => by omega
  | n + 1, h, i, hi => by
    rw [farE] at h
    by_cases h2 : i = n
    · subst h2; omega
    · exact farE_zero n (by omega) i (by omega)

theorem farE_self (z : List Int) : ∀ n, farE n z z = 0
  | 0 => rfl
  | n + 1 => by rw [farE, farE_self z n]; omega

theorem box_ext {x : Int} {n : Nat} {z g : List Int} (h1 : Box0 x n z) (h2 : Box0 x n g) (h : ∀ i, i < n → z.getD i 0 = g.getD i 0) : z = g := by
  refine List.ext_getElem? fun i => ?_
  by_cases hi : i < 3
  · have hz : i < z.length := by rw [h1.len]; exact hi
    have hg : i < g.length := by rw [h2.len]; exact hi
    have e : z.getD i 0 = g.getD i 0 := by
      by_cases hn : i < n
      · exact h i hn
      · rw [h1.zero i (by omega), h2.zero i (by omega)]
    rw [List.getElem?_eq_getElem hz, List.getElem?_eq_getElem hg]
    simp only [List.getD_eq_getElem?_getD, List.getElem?_eq_getElem hz, List.getElem?_eq_getElem hg, Option.getD_some] at e
    rw [e]
  · rw [List.getElem?_eq_none (by rw [h1.len]; omega), List.getElem?_eq_none (by rw [h2.len]; omega)]

/-- with the stride 1 there is a safe move towards a list of places at which they rest -/
theorem toward {x a b : Int} {ls : List Ld} (K : Plk x a b 1 ls) {z g : List Int} (Z : Good x a b ls z) (G : Good x a b ls g) (hne : z ≠ g) : ∃ t ∈ nxP x a b 1 ls z, farE ls.length t g + 1 = farE ls.length z g := by
  have hn := K.n3
  obtain ⟨z1, z2⟩ := (rest_iff K Z.toBox0).mp Z.rest
  obtain ⟨g1, g2⟩ := (rest_iff K G.toBox0).mp G.rest
  -- a move of i to p, if it rests
  have mv : ∀ (i : Nat) (p : Int), i < ls.length → 0 ≤ p → p ≤ x → (p = z.getD i 0 - 1 ∨ p = z.getD i 0 + 1) → (p - g.getD i 0).natAbs + 1 = (z.getD i 0 - g.getD i 0).natAbs → 0 ≤ momE a ls z + wOf ls i * (p - z.getD i 0) → momE b ls z + wOf ls i * (p - z.getD i 0) ≤ 0 → ∃ t ∈ nxP x a b 1 ls z, farE ls.length t g + 1 = farE ls.length z g := by
    intro i p hi h0 hx hp hd ha hb
    have hl : i < z.length := by rw [Z.len]; omega
    have Bt : Box0 x ls.length (z.set i p) := by
      refine ⟨by rw [List.length_set]; exact Z.len, fun j hj => ?_, fun j hj => ?_⟩
      · rw [zset_get]
        split
        · exact ⟨h0, hx⟩
        · exact Z.on j hj
      · rw [zset_get, if_neg (by omega)]
        exact Z.zero j hj
    refine ⟨z.set i p, (mem_nxP K Z.toBox0 _).mpr ⟨i, p, hi, rfl, h0, hx, hp, (rest_iff K Bt).mpr ?_⟩, ?_⟩
    · rw [momE_set a ls z i p hi hl, momE_set b ls z i p hi hl]
      exact ⟨ha, hb⟩
    · have := farE_set (g := g) p hl ls.length
      rw [if_pos hi, if_pos hi] at this
      omega
  by_cases hL : ∃ i, i < ls.length ∧ g.getD i 0 < z.getD i 0 ∧ wOf ls i ≤ momE a ls z
  · obtain ⟨i, hi, h1, h2⟩ := hL
    have hw := wOf_pos K.w hi
    have hon := Z.on i hi
    have hon' := G.on i hi
    have e : wOf ls i * (z.getD i 0 - 1 - z.getD i 0) = - wOf ls i := by
      rw [show z.getD i 0 - 1 - z.getD i 0 = -1 by omega]; omega
    exact mv i (z.getD i 0 - 1) hi (by omega) (by omega) (.inl rfl) (by omega) (by rw [e]; omega) (by rw [e]; omega)
  · by_cases hR : ∃ i, i < ls.length ∧ z.getD i 0 < g.getD i 0 ∧ wOf ls i ≤ - momE b ls z
    · obtain ⟨i, hi, h1, h2⟩ := hR
      have hw := wOf_pos K.w hi
      have hon := Z.on i hi
      have hon' := G.on i hi
      have e : wOf ls i * (z.getD i 0 + 1 - z.getD i 0) = wOf ls i := by
        rw [show z.getD i 0 + 1 - z.getD i 0 = 1 by omega]; omega
      exact mv i (z.getD i 0 + 1) hi (by omega) (by omega) (.inr rfl) (by omega) (by rw [e]; omega) (by rw [e]; omega)
    · exfalso
      by_cases hl : ∃ i, i < ls.length ∧ g.getD i 0 < z.getD i 0
      · obtain ⟨i, hi, h1⟩ := hl
        have hA : momE a ls z < wOf ls i := by
          refine Classical.byContradiction fun hc => hL ⟨i, hi, h1, by omega⟩
        by_cases hr : ∃ j, j < ls.length ∧ z.getD j 0 < g.getD j 0
        · obtain ⟨j, hj, h2⟩ := hr
          have hB : - momE b ls z < wOf ls j := by
            refine Classical.byContradiction fun hc => hR ⟨j, hj, h2, by omega⟩
          have hij : i ≠ j := by
            intro e
            subst e
            omega
          have h3 := totW_two K.w hij hi hj
          have h4 := momE_diff a b ls z
          have h5 := (totW_one K.w hi).2
          have hab := K.ab
          have h6 : totW ls ≤ totW ls * (b - a) := by
            have := Int.mul_le_mul_of_nonneg_left (show (1 : Int) ≤ b - a by omega) h5
            omega
          omega
        · have := momE_lt a ls z g K.w (fun j hj => by
            refine Classical.byContradiction fun hc => hr ⟨j, hj, by omega⟩) i hi h1
          omega
      · by_cases hr : ∃ j, j < ls.length ∧ z.getD j 0 < g.getD j 0
        · obtain ⟨j, hj, h2⟩ := hr
          have hB : - momE b ls z < wOf ls j := by
            refine Classical.byContradiction fun hc => hR ⟨j, hj, h2, by omega⟩
          have := momE_lt b ls g z K.w (fun i hi => by
            refine Classical.byContradiction fun hc => hl ⟨i, hi, by omega⟩) j hj h2
          omega
        · exact hne (box_ext Z.toBox0 G.toBox0 fun i hi => by
            refine Classical.byContradiction fun hc => ?_
            rcases Int.lt_or_gt_of_ne hc with h | h
            · exact hr ⟨i, hi, h⟩
            · exact hl ⟨i, hi, h⟩)

/-- so with the stride 1 all lists of places at which they rest can be reached, on the straight way -/
theorem straight {x a b : Int} {ls : List Ld} (K : Plk x a b 1 ls) {g : List Int} (G : Good x a b ls g) : ∀ (k : Nat) (z : List Int), Good x a b ls z → farE ls.length z g = k → Way (nxP x a b 1 ls) k z g
  | 0, z, Z, h => by
    have : z = g := box_ext Z.toBox0 G.toBox0 (farE_zero _ h)
    subst this
    exact .nil z
  | k + 1, z, Z, h => by
    have hne : z ≠ g := by
      intro e
      subst e
      rw [farE_self] at h
      omega
    obtain ⟨t, ht, hd⟩ := toward K Z G hne
    exact (straight K G k t (Z.next K ht) (by omega)).ahead ht

/-- and there is no shorter one -/
theorem straight_least {x a b : Int} {ls : List Ld} (K : Plk x a b 1 ls) {z g : List Int} (Z : Good x a b ls z) {k : Nat} (h : Way (nxP x a b 1 ls) k z g) : farE ls.length z g ≤ k := by
  have key : ∀ {k : Nat} {z g : List Int}, Way (nxP x a b 1 ls) k z g → Good x a b ls z → ∀ u, farE ls.length u z ≤ farE ls.length u g + k ∧ farE ls.length u g ≤ farE ls.length u z + k := by
    intro k z g h
    induction h with
    | nil => intro _ u; omega
    | @cons k s w t hw ht ih =>
      intro Z u
      have ih := ih Z u
      have W : Good x a b ls w := hw.good (P := Good x a b ls) (fun z hz t ht => hz.next K ht) Z
      obtain ⟨i, p, hi, rfl, h1, h2, h3, h4⟩ := (mem_nxP K W.toBox0 t).mp ht
      have hl : i < w.length := by rw [W.len]; have := K.n3; omega
      have hsw : ∀ (m : Nat) (y : List Int), farE m u y = farE m y u := by
        intro m y
        induction m with
        | zero => rfl
        | succ m ih => rw [farE, farE, ih]; omega
      have h5 := farE_set (g := u) p hl ls.length
      rw [if_pos hi, if_pos hi] at h5
      rw [hsw _ w] at ih
      rw [hsw _ (w.set i p)]
      omega
  have := (key h Z z).2
  rw [farE_self] at this
  omega

/-- all people stay at places alike by the stride -/
theorem Way.alike {x a b s : Int} {ls : List Ld} (K : Plk x a b s ls) {k : Nat} {z t : List Int} (h : Way (nxP x a b s ls) k z t) (Z : Good x a b ls z) (i : Nat) (hi : i < ls.length) : ∃ m : Int, t.getD i 0 = z.getD i 0 + s * m := by
  induction h with
  | nil => exact ⟨0, by simp⟩
  | @cons k s' w t hw ht ih =>
    obtain ⟨m, hm⟩ := ih Z
    have W : Good x a b ls w := hw.good (P := Good x a b ls) (fun z hz t ht => hz.next K ht) Z
    obtain ⟨j, p, hj, rfl, h1, h2, h3, h4⟩ := (mem_nxP K W.toBox0 t).mp ht
    rw [zset_get]
    split
    · rename_i hc
      obtain ⟨rfl, _⟩ := hc
      rcases h3 with h3 | h3
      · exact ⟨m - 1, by rw [h3, hm, Int.mul_sub]; omega⟩
      · exact ⟨m + 1, by rw [h3, hm, Int.mul_add]; omega⟩
    · exact ⟨m, hm⟩

end Go.Proofs.Ythkgpblohjpcdaa.Slim

/- Planks: the numbers of lists of places, and how many are found (see a_s_l11Key). -/
namespace Go.Proofs.Ythkgpblohjpcdaa.Slim

open Go

set_option linter.unusedSimpArgs false

set_option linter.unusedVariables false

/-- the number of a list of places -/
def keyN (d : Nat) : Nat → List Int → Nat
  | 0, _ => 0
  | n + 1, z => keyN d n z * (d + 1) + (z.getD n 0).toNat

/-- the list of places of a number -/
def spotsN (d n k : Nat) : List Int := ints (digs (d + 1) n k).reverse ++ List.replicate (3 - n) 0

theorem ints_length (l : List Nat) : (ints l).length = l.length := by simp [ints]

theorem keyN_congr (d : Nat) : ∀ (n : Nat) (z z' : List Int), (∀ i, i < n → z.getD i 0 = z'.getD i 0) → keyN d n z = keyN d n z'
  | 0, _, _, _ => rfl
  | n + 1, z, z', h => by
    rw [keyN, keyN, keyN_congr d n z z' (fun i hi => h i (by omega)), h n (by omega)]

theorem getD_app_left {l r : List Int} {i : Nat} (h : i < l.length) : (l ++ r).getD i 0 = l.getD i 0 := by
  simp only [List.getD_eq_getElem?_getD, List.getElem?_append_left h]

theorem key_spots (d : Nat) : ∀ (n k : Nat) (tail : List Int), k < (d + 1) ^ n → keyN d n (ints (digs (d + 1) n k).reverse ++ tail) = k
  | 0, k, tail, h => by
    simp at h
    subst h
    rfl
  | n + 1, k, tail, h => by
    have hk : k / (d + 1) < (d + 1) ^ n := by
      rw [Nat.div_lt_iff_lt_mul (by omega)]
      rw [Nat.pow_succ] at h
      exact h
    have e : ints (digs (d + 1) (n + 1) k).reverse ++ tail = ints (digs (d + 1) n (k / (d + 1))).reverse ++ (((k % (d + 1) : Nat) : Int) :: tail) := by
      rw [digs, List.reverse_cons, ints, List.map_append]
      simp [ints]
    have hl : (ints (digs (d + 1) n (k / (d + 1))).reverse).length = n := by rw [ints_length, List.length_reverse, digs_length]
    rw [e, keyN, key_spots d n (k / (d + 1)) _ hk]
    have hg : (ints (digs (d + 1) n (k / (d + 1))).reverse ++ (((k % (d + 1) : Nat) : Int) :: tail)).getD n 0 = ((k % (d + 1) : Nat) : Int) := by
      simp only [List.getD_eq_getElem?_getD]
      rw [List.getElem?_append_right (by omega), hl, Nat.sub_self]
      rfl
    rw [hg, Int.toNat_natCast, Nat.mul_comm]
    exact Nat.div_add_mod k (d + 1)

theorem keyN_lt (d : Nat) : ∀ (n : Nat) (z : List Int), (∀ i, i < n → 0 ≤ z.getD i 0 ∧ z.getD i 0 ≤ (d : Int)) → keyN d n z < (d + 1) ^ n
  | 0, z, _ => by simp [keyN]
  | n + 1, z, h => by
    have h1 := keyN_lt d n z (fun i hi => h i (by omega))
    have h2 := h n (by omega)
    rw [keyN, Nat.pow_succ]
    have h3 : (keyN d n z + 1) * (d + 1) ≤ (d + 1) ^ n * (d + 1) := Nat.mul_le_mul_right _ h1
    rw [Nat.add_mul] at h3
    omega

theorem spots_key (d : Nat) : ∀ (n : Nat) (z : List Int), n ≤ z.length → (∀ i, i < n → 0 ≤ z.getD i 0 ∧ z.getD i 0 ≤ (d : Int)) → ints (digs (d + 1) n (keyN d n z)).reverse = z.take n
  | 0, z, _, _ => rfl
  | n + 1, z, hl, h => by
    have h2 := h n (by omega)
    have ih := spots_key d n z (by omega) (fun i hi => h i (by omega))
    have e1 : (keyN d n z * (d + 1) + (z.getD n 0).toNat) % (d + 1) = (z.getD n 0).toNat := by
      rw [Nat.mul_comm, Nat.mul_add_mod, Nat.mod_eq_of_lt (by omega)]
    have e2 : (keyN d n z * (d + 1) + (z.getD n 0).toNat) / (d + 1) = keyN d n z := by
      rw [Nat.mul_comm, Nat.mul_add_div (by omega), Nat.div_eq_of_lt (by omega), Nat.add_zero]
    rw [keyN, digs, e1, e2, List.reverse_cons, ints, List.map_append]
    rw [ints] at ih
    rw [ih]
    have e3 : z.take (n + 1) = z.take n ++ [z.getD n 0] := by
      have hlt : n < z.length := by omega
      rw [List.take_add_one, List.getElem?_eq_getElem hlt]
      simp [List.getD_eq_getElem?_getD, hlt]
    rw [e3]
    congr 1
    simp only [List.map_cons, List.map_nil]
    congr 1
    omega

theorem spotsN_box {d n : Nat} (hn : n ≤ 3) (k : Nat) : Box0 (d : Int) n (spotsN d n k) := by
  have hl : (ints (digs (d + 1) n k).reverse).length = n := by rw [ints_length, List.length_reverse, digs_length]
  refine ⟨by unfold spotsN; rw [List.length_append, hl, List.length_replicate]; omega, fun i hi => ?_, fun i hi => ?_⟩
  · unfold spotsN
    rw [getD_app_left (by omega)]
    have hlt : i < (ints (digs (d + 1) n k).reverse).length := by omega
    have hmem : (ints (digs (d + 1) n k).reverse).getD i 0 ∈ ints (digs (d + 1) n k).reverse := by
      simp only [List.getD_eq_getElem?_getD, List.getElem?_eq_getElem hlt, Option.getD_some]
      exact List.getElem_mem hlt
    unfold ints at hmem ⊢
    obtain ⟨y, hy, e⟩ := List.mem_map.mp hmem
    rw [← e]
    have hd : ∀ (n k : Nat), ∀ y ∈ digs (d + 1) n k, y ≤ d := by
      intro n
      induction n with
      | zero => intro k y hy; simp [digs] at hy
      | succ n ih =>
        intro k y hy
        rw [digs] at hy
        rcases List.mem_cons.mp hy with rfl | hy
        · have := Nat.mod_lt k (show d + 1 > 0 by omega); omega
        · exact ih _ y hy
    have := hd n k y (List.mem_reverse.mp hy)
    omega
  · unfold spotsN
    simp only [List.getD_eq_getElem?_getD]
    rw [List.getElem?_append_right (by omega)]
    rw [List.getElem?_replicate]
    split <;> rfl

theorem keyN_spotsN {d n k : Nat} (h : k < (d + 1) ^ n) : keyN d n (spotsN d n k) = k := key_spots d n k _ h

theorem spotsN_keyN {d n : Nat} (hn : n ≤ 3) {z : List Int} (B : Box0 (d : Int) n z) : spotsN d n (keyN d n z) = z := by
  unfold spotsN
  rw [spots_key d n z (by rw [B.len]; omega) (fun i hi => B.on i hi)]
  have h3 : z.drop n = List.replicate (3 - n) 0 := by
    refine List.ext_getElem? fun i => ?_
    rw [List.getElem?_drop, List.getElem?_replicate]
    by_cases h : n + i < 3
    · have hl : n + i < z.length := by rw [B.len]; exact h
      have := B.zero (n + i) (by omega)
      simp only [List.getD_eq_getElem?_getD, List.getElem?_eq_getElem hl, Option.getD_some] at this
      rw [if_pos (by omega), List.getElem?_eq_getElem hl, this]
    · rw [if_neg (by omega), List.getElem?_eq_none (by rw [B.len]; omega)]
  rw [← h3, List.take_append_drop]

theorem boxN {d n : Nat} (hn : n ≤ 3) : Box (fun z => Box0 (d : Int) n z) ((d + 1) ^ n) (keyN d n) where
  lt := fun z B => keyN_lt d n z (fun i hi => B.on i hi)
  inj := fun z z' B B' h => by rw [← spotsN_keyN hn B, h, spotsN_keyN hn B']

theorem Box.sub {P Q : List Int → Prop} {N : Nat} {key : List Int → Nat} (b : Box P N key) (h : ∀ z, Q z → P z) : Box Q N key :=
  ⟨fun z hz => b.lt z (h z hz), fun z z' hz hz' => b.inj z z' (h z hz) (h z' hz')⟩

theorem nat_len_le {l r : List Nat} (h : r.Nodup) (hs : ∀ x ∈ r, x ∈ l) : r.length ≤ l.length := by
  have := length_le_of_sub (r := r.map fun (i : Nat) => (i : Int)) (l := l.map fun (i : Nat) => (i : Int)) (by
    refine List.Pairwise.map _ ?_ h
    intro a b hne e
    exact hne (by omega)) (fun x hx => by
    obtain ⟨y, hy, rfl⟩ := List.mem_map.mp hx
    exact List.mem_map.mpr ⟨y, hs y hy, rfl⟩)
  simpa using this

theorem sumN_filter (f : Nat → Bool) : ∀ n, sumN n (fun k => (f k).toNat) = ((List.range n).filter f).length
  | 0 => rfl
  | n + 1 => by
    rw [sumN, sumN_filter f n, List.range_succ, List.filter_append, List.length_append]
    congr 1
    cases h : f n <;> simp [h]

theorem keys_nodup {P : List Int → Prop} {N : Nat} {key : List Int → Nat} (b : Box P N key) {es : Found} (hn : (es.map (·.1)).Nodup) (hP : ∀ q ∈ es, P q.1) : (es.map fun q => key q.1).Nodup := by
  have : (es.map fun q => key q.1) = (es.map (·.1)).map key := by rw [List.map_map]; rfl
  rw [this]
  refine List.pairwise_map.mpr ?_
  refine List.Pairwise.imp_of_mem ?_ hn
  intro a c ha hc hne e
  obtain ⟨qa, hqa, rfl⟩ := List.mem_map.mp ha
  obtain ⟨qc, hqc, rfl⟩ := List.mem_map.mp hc
  exact hne (b.inj _ _ (hP _ hqa) (hP _ hqc) e)

/-- as many numbers are told as lists of places are found -/
theorem cnt_found {d n : Nat} (hn : n ≤ 3) {es : Found} (hd : (es.map (·.1)).Nodup) (hP : ∀ q ∈ es, Box0 (d : Int) n q.1) : sumN ((d + 1) ^ n) (fun k => (mget es (spotsN d n k)).isSome.toNat) = es.length := by
  rw [sumN_filter]
  have hb := boxN (d := d) hn
  refine Nat.le_antisymm ?_ ?_
  · have h1 := nat_len_le (l := es.map fun q => keyN d n q.1) (r := (List.range ((d + 1) ^ n)).filter fun k => (mget es (spotsN d n k)).isSome) (List.Pairwise.filter _ List.nodup_range) (fun x hx => by
      rw [List.mem_filter, List.mem_range] at hx
      obtain ⟨v, hv⟩ := Option.isSome_iff_exists.mp hx.2
      refine List.mem_map.mpr ⟨_, mget_mem hv, ?_⟩
      exact keyN_spotsN hx.1)
    rwa [List.length_map] at h1
  · have h1 := nat_len_le (r := es.map fun q => keyN d n q.1) (l := (List.range ((d + 1) ^ n)).filter fun k => (mget es (spotsN d n k)).isSome) (keys_nodup hb hd hP) (fun x hx => by
      obtain ⟨q, hq, rfl⟩ := List.mem_map.mp hx
      rw [List.mem_filter, List.mem_range]
      refine ⟨hb.lt _ (hP q hq), ?_⟩
      rw [spotsN_keyN hn (hP q hq), mget_of_mem hd hq]
      rfl)
    rwa [List.length_map] at h1

end Go.Proofs.Ythkgpblohjpcdaa.Slim

/- Nothing is taken by contract here. -/
namespace Go.Proofs.Ythkgpblohjpcdaa.Slim
end Go.Proofs.Ythkgpblohjpcdaa.Slim

/- Tasks of a stand: what they make. -/
namespace Go.Proofs.Ythkgpblohjpcdaa.Slim

open Go

set_option linter.unusedSimpArgs false

set_option linter.unusedVariables false

variable {pr : Prims} {H : List Blk} {e : Option Nat}

def sliceHiV (sz : Nat) (v h : AV) : Option AV := match v with
  | .slice p sz' n cap => (match natOf h with
    | some h => sliceVal sz p sz' n cap 0 h none
    | none => none)
  | _ => none

def sliceLoV (sz : Nat) (v l : AV) : Option AV := match v with
  | .slice p sz' n cap => (match natOf l with
    | some l => sliceVal sz p sz' n cap l n none
    | none => none)
  | _ => none

section

variable {C : FuncId → List AV → Mem → Option (AV × Mem)} {g : X → AV} {m : Mem}

theorem aop_sliceHi (sz : Nat) (x h : X) : aop C g m (.sliceSl sz x none (some h) none) = valOf m (sliceHiV sz (g x) (g h)) := by
  rw [aop_of_light rfl]
  simp only [light, sliceHiV, bound, optNat]
  generalize g x = v
  generalize natOf (g h) = o
  cases v <;> cases o <;> simp

theorem aop_sliceLo (sz : Nat) (x l : X) : aop C g m (.sliceSl sz x (some l) none none) = valOf m (sliceLoV sz (g x) (g l)) := by
  rw [aop_of_light rfl]
  simp only [light, sliceLoV, bound, optNat]
  generalize g x = v
  generalize natOf (g l) = o
  cases v <;> cases o <;> simp

end

theorem sliceHiV_at (sz b o n h : Nat) (cap : Option Nat) (hh : h ≤ n) : sliceHiV sz (.slice (some (b, o)) sz n cap) (.int .i64 h) = some (.slice (some (b, o)) sz h cap) := by
  unfold sliceHiV natOf sliceVal
  simp [hh]

theorem sliceLoV_at (sz b o n l : Nat) (hl : l ≤ n) : sliceLoV sz (.slice (some (b, o)) sz n none) (.int .i64 l) = some (.slice (some (b, o + l * sz)) sz (n - l) none) := by
  unfold sliceLoV natOf sliceVal
  simp [hl]

theorem encL_take : ∀ (ls : List Ld) (i : Nat), (encL ls).take (i * 2) = encL (ls.take i)
  | ls, 0 => by simp [encL]
  | [], i + 1 => by simp [encL]
  | l :: ls, i + 1 => by
    rw [show (i + 1) * 2 = i * 2 + 1 + 1 by omega]
    simp [encL, encL_take ls i]

theorem encL_drop : ∀ (ls : List Ld) (i : Nat), (encL ls).drop (i * 2) = encL (ls.drop i)
  | ls, 0 => by simp
  | [], i + 1 => by simp [encL]
  | l :: ls, i + 1 => by
    rw [show (i + 1) * 2 = i * 2 + 1 + 1 by omega]
    simp [encL, encL_drop ls i]

theorem encS_take : ∀ (ls : List Sg) (i : Nat), (encS ls).take (i * 3) = encS (ls.take i)
  | ls, 0 => by simp [encS]
  | [], i + 1 => by simp [encS]
  | l :: ls, i + 1 => by
    rw [show (i + 1) * 3 = i * 3 + 1 + 1 + 1 by omega]
    simp [encS, encS_take ls i]

theorem encS_drop : ∀ (ls : List Sg) (i : Nat), (encS ls).drop (i * 3) = encS (ls.drop i)
  | ls, 0 => by simp
  | [], i + 1 => by simp [encS]
  | l :: ls, i + 1 => by
    rw [show (i + 1) * 3 = i * 3 + 1 + 1 + 1 by omega]
    simp [encS, encS_drop ls i]

theorem encS_append : ∀ a b : List Sg, encS (a ++ b) = encS a ++ encS b
  | [], b => rfl
  | l :: a, b => by simp [encS, encS_append a b]

theorem encL_erase (ls : List Ld) (i : Nat) : (encL ls).take (i * 2) ++ (encL ls).drop ((i + 1) * 2) = encL (ls.eraseIdx i) := by
  rw [encL_take, encL_drop, List.eraseIdx_eq_take_drop_succ, encL_append]

theorem encS_erase (ls : List Sg) (i : Nat) : (encS ls).take (i * 3) ++ (encS ls).drop ((i + 1) * 3) = encS (ls.eraseIdx i) := by
  rw [encS_take, encS_drop, List.eraseIdx_eq_take_drop_succ, encS_append]

/-- an element taken out of a slice that has its block alone -/
theorem append_del {L : List Blk} {b n sz bytes i : Nat} {cs : List AV} (hb : L[b]? = some (.cells cs true)) (hcs : cs.length = n * sz) (hi : i < n) (hm : n * bytes ≤ maxBytes) :
    appendV L e false sz bytes (.slice (some (b, 0)) sz i none) (.slice (some (b, (i + 1) * sz)) sz (n - (i + 1)) none) = some (.slice (some (L.length, 0)) sz (n - 1) none, ⟨L.set b .dead ++ [.cells (cs.take (i * sz) ++ cs.drop ((i + 1) * sz)) true], e⟩) := by
  have e1 : (i + 1) * sz + (n - (i + 1)) * sz = n * sz := by rw [← Nat.add_mul]; congr 1; omega
  have e2 : (i + 1) * sz = i * sz + sz := by rw [Nat.add_mul, Nat.one_mul]
  have hs : srcCells false L (.slice (some (b, (i + 1) * sz)) sz (n - (i + 1)) none) = some (n - (i + 1), cs.drop ((i + 1) * sz)) := by
    unfold srcCells
    have hc : cellsAt L b = some cs := by unfold cellsAt; rw [hb]
    simp only [Bool.false_eq_true, if_false, hc]
    rw [if_pos (by omega), List.take_of_length_le (by rw [List.length_drop]; omega)]
  have e3 : i + (n - (i + 1)) = n - 1 := by omega
  unfold appendV
  simp only [hb, hs]
  rw [if_pos ⟨trivial, by rw [e3]; exact Nat.le_trans (Nat.mul_le_mul_right _ (by omega)) hm, by rw [List.length_drop]; omega, by omega⟩]
  rw [if_neg (by simp), if_pos trivial, e3, List.drop_zero]

/-- an element more on a slice that has its block alone -/
theorem append_gen {L : List Blk} {b q n sz bytes : Nat} {cs new : List AV} {c : Option Nat} (hb : L[b]? = some (.cells cs true)) (hq : cellsAt L q = some new) (hcs : cs.length = n * sz) (hnew : new.length = sz) (hm : (n + 1) * bytes ≤ maxBytes) :
    appendV L e false sz bytes (.slice (some (b, 0)) sz n none) (.slice (some (q, 0)) sz 1 c) = some (.slice (some (L.length, 0)) sz (n + 1) none, ⟨L.set b .dead ++ [.cells (cs ++ new) true], e⟩) := by
  have hs := srcCells_new L 1 sz c new q hq (by omega)
  unfold appendV
  simp only [hb, hs]
  rw [if_pos ⟨trivial, hm, by omega, by omega⟩, if_neg (by simp), if_pos trivial, List.drop_zero, ← hcs, List.take_length]

abbrev tkV (k x y z : Int) : AV := .agg [.int .i64 k, .int .i64 x, .int .i64 y, .int .i64 z]

/-- may a task be made? -/
def mayT (ls : List Ld) (ss : List Sg) (k x y z : Int) : Bool :=
  if k = 1 ∨ k = 4 then decide (z = 0)
  else if k = 2 then ((decide (0 ≤ x) && decide (x ≤ (ls.length : Int) - 1)) && decide (y = 0)) && decide (z = 0)
  else if k = 3 then (decide (0 ≤ x) && decide (x ≤ (ls.length : Int) - 1)) && decide (z = 0)
  else if k = 6 then ((decide (0 ≤ x) && decide (x ≤ (ss.length : Int) - 1)) && decide (y = 0)) && decide (z = 0)
  else decide (k = 5)

/-- what a task makes of a row and a chain -/
def rowT (ls : List Ld) (k x y : Int) : List Ld :=
  if k = 1 then ls ++ [(x, y)] else if k = 2 then ls.eraseIdx x.toNat else if k = 3 then movd ls x.toNat y else ls

def chainT (ss : List Sg) (k x y z : Int) : List Sg :=
  if k = 5 then ss ++ [(x, y, z)] else if k = 6 then ss.eraseIdx x.toNat else ss

def baseA (a k x : Int) : Int := if k = 4 then x else a

end Go.Proofs.Ythkgpblohjpcdaa.Slim

/- Tasks of a stand: DoTask. -/
namespace Go.Proofs.Ythkgpblohjpcdaa.Slim

open Go

set_option linter.unusedSimpArgs false

set_option linter.unusedVariables false

variable {pr : Prims} {H : List Blk} {e : Option Nat}

def stOk (ls : List Ld) (ss : List Sg) (a b t c : Int) : Bool := rowOk ls && (chainOk ss && restOk a b t c)

theorem tipSide_at {ls : List Ld} {n : Nat} (hn : ls.length = n) (hn2 : n ≤ 1048576) (a b : Int) {L : List Blk} {q1 : Nat} {c1 : Option Nat} (h1 : cellsAt L q1 = some (encL ls)) :
    call T pr f_i_tipSide [slL q1 n c1, .int .i64 a, .int .i64 b] ⟨L, e⟩ = some (.int .i64 (sideW ls a b), ⟨L, e⟩) := by
  subst hn
  exact e_i_tipSide h1 (by omega) a b

theorem l2Side_at {ls : List Ld} {n : Nat} (hn : ls.length = n) (hn2 : n ≤ 1048576) (a b : Int) {L : List Blk} {q1 : Nat} {c1 : Option Nat} (h1 : cellsAt L q1 = some (encL ls)) :
    call T pr f_s_l2Side [slL q1 n c1, .int .i64 a, .int .i64 b] ⟨L, e⟩ = some (.int .i64 (sideW ls a b), ⟨L, e⟩) := by
  subst hn
  exact e_s_l2Side h1 (by omega) a b

abbrev noStand : AV := stV (.slice none 0 0 none) 0 0 (.slice none 0 0 none) 0 0

/-- can a task of a valid stand be made? -/
def doOk (ls : List Ld) (ss : List Sg) (a b t c k x y z : Int) : Bool := mayT ls ss k x y z && stOk (rowT ls k x y) (chainT ss k x y z) (baseA a k x) (baseA b k y) t (wr (c + 1))

/-- how often the row did not stand behind a task -/
def tipsT (ls : List Ld) (a b t k x y : Int) : Int := if decide (sideW (rowT ls k x y) (baseA a k x) (baseA b k y) = 0) = true then t else wr (t + 1)

/-- what the call of a task returns -/
def doRes (H : List Blk) (e : Option Nat) (ok : Bool) (ls : List Ld) (ss : List Sg) (a b t c : Int) : Option (AV × Mem) :=
  if ok = true then some (.tup [stV (slL H.length ls.length none) a b (slS (H.length + 1) ss.length none) t c, .bool true], ⟨H ++ [.cells (encL ls) true, .cells (encS ss) true], e⟩)
  else some (.tup [noStand, .bool false], ⟨H, e⟩)

theorem rowT_length (ls : List Ld) (k x y : Int) : (rowT ls k x y).length ≤ ls.length + 1 := by
  unfold rowT
  split
  · simp
  · split
    · have := List.length_eraseIdx_le ls x.toNat; omega
    · split
      · rw [movd_length]; omega
      · omega

theorem chainT_length (ss : List Sg) (k x y z : Int) : (chainT ss k x y z).length ≤ ss.length + 1 := by
  unfold chainT
  split
  · simp
  · split
    · have := List.length_eraseIdx_le ss x.toNat; omega
    · omega

end Go.Proofs.Ythkgpblohjpcdaa.Slim

/- The slim machine: walking by what holds at the end; loops by invariants. -/
namespace Go.Proofs.Ythkgpblohjpcdaa.Slim
open Go
set_option linter.unusedVariables false
set_option linter.unusedSimpArgs false

section
variable {T : Table} {pr : Prims} {H : List Blk} {e : Option Nat}

/-- code comes to an end, of which this holds -/
def Wp (r : Option (Ex × St)) (Q : Ex → St → Prop) : Prop := ∃ ex st, r = some (ex, st) ∧ Q ex st
/-- a call (or an operation) comes to an end, of which this holds -/
def Wc (r : Option (AV × Mem)) (Q : AV → Mem → Prop) : Prop := ∃ v m, r = some (v, m) ∧ Q v m

theorem Wp.mono {r : Option (Ex × St)} {P Q : Ex → St → Prop} (h : Wp r P) (k : ∀ ex st, P ex st → Q ex st) : Wp r Q := by
  obtain ⟨ex, st, h1, h2⟩ := h
  exact ⟨ex, st, h1, k _ _ h2⟩
theorem Wc.mono {r : Option (AV × Mem)} {P Q : AV → Mem → Prop} (h : Wc r P) (k : ∀ v m, P v m → Q v m) : Wc r Q := by
  obtain ⟨v, m, h1, h2⟩ := h
  exact ⟨v, m, h1, k _ _ h2⟩
theorem Wc.eq {r : Option (AV × Mem)} {v : AV} {m : Mem} (h : Wc r fun v' m' => v' = v ∧ m' = m) : r = some (v, m) := by
  obtain ⟨_, _, h1, rfl, rfl⟩ := h
  exact h1
theorem Wc.of_eq {r : Option (AV × Mem)} {v : AV} {m : Mem} {Q : AV → Mem → Prop} (h : r = some (v, m)) (k : Q v m) : Wc r Q := ⟨v, m, h, k⟩

@[congr] theorem Wp_congr {r r' : Option (Ex × St)} {Q : Ex → St → Prop} (h : r = r') : Wp r Q = Wp r' Q := by rw [h]
@[congr] theorem Wc_congr {r r' : Option (AV × Mem)} {Q : AV → Mem → Prop} (h : r = r') : Wc r Q = Wc r' Q := by rw [h]

theorem Wp_some (ex : Ex) (st : St) (Q : Ex → St → Prop) : Wp (some (ex, st)) Q = Q ex st := by
  apply propext
  constructor
  · rintro ⟨_, _, h1, h2⟩; cases h1; exact h2
  · exact fun h => ⟨_, _, rfl, h⟩
theorem Wp_none (Q : Ex → St → Prop) : Wp none Q = False := by
  apply propext
  constructor
  · rintro ⟨_, _, h1, _⟩; cases h1
  · exact False.elim
theorem Wp_ite (c : Prop) [Decidable c] (a b : Option (Ex × St)) (Q : Ex → St → Prop) : Wp (if c then a else b) Q = ((c → Wp a Q) ∧ (¬ c → Wp b Q)) := by
  by_cases h : c <;> simp [h]
theorem Wc_some (v : AV) (m : Mem) (Q : AV → Mem → Prop) : Wc (some (v, m)) Q = Q v m := by
  apply propext
  constructor
  · rintro ⟨_, _, h1, h2⟩; cases h1; exact h2
  · exact fun h => ⟨_, _, rfl, h⟩
theorem Wc_none (Q : AV → Mem → Prop) : Wc none Q = False := by
  apply propext
  constructor
  · rintro ⟨_, _, h1, _⟩; cases h1
  · exact False.elim
theorem Wc_ite (c : Prop) [Decidable c] (a b : Option (AV × Mem)) (Q : AV → Mem → Prop) : Wc (if c then a else b) Q = ((c → Wc a Q) ∧ (¬ c → Wc b Q)) := by
  by_cases h : c <;> simp [h]

def seqQ (f : St → Option (Ex × St)) (Q : Ex → St → Prop) : Ex → St → Prop
  | .normal, st => Wp (f st) Q
  | ex, st => Q ex st
theorem seqQ_normal (f : St → Option (Ex × St)) (Q : Ex → St → Prop) (st : St) : seqQ f Q .normal st = Wp (f st) Q := Eq.trans rfl rfl
theorem seqQ_exit (f : St → Option (Ex × St)) (Q : Ex → St → Prop) (k : Nat) (st : St) : seqQ f Q (.exit k) st = Q (.exit k) st := Eq.trans rfl rfl
theorem seqQ_ret (f : St → Option (Ex × St)) (Q : Ex → St → Prop) (st : St) : seqQ f Q .ret st = Q .ret st := Eq.trans rfl rfl
theorem Wp_thenRun (r : Option (Ex × St)) (f : St → Option (Ex × St)) (Q : Ex → St → Prop) : Wp (thenRun r f) Q = Wp r (seqQ f Q) := by
  cases r with
  | none => simp only [thenRun_none, Wp_none]
  | some p =>
    obtain ⟨ex, st⟩ := p
    cases ex <;> simp only [thenRun_normal, thenRun_ret, thenRun_exit, Wp_some, seqQ]

def blkQ (id : Nat) (Q : Ex → St → Prop) : Ex → St → Prop
  | .exit k, st => if k = id then Q .normal st else Q (.exit k) st
  | ex, st => Q ex st
theorem blkQ_normal (id : Nat) (Q : Ex → St → Prop) (st : St) : blkQ id Q .normal st = Q .normal st := Eq.trans rfl rfl
theorem blkQ_ret (id : Nat) (Q : Ex → St → Prop) (st : St) : blkQ id Q .ret st = Q .ret st := Eq.trans rfl rfl
theorem blkQ_same (id : Nat) (Q : Ex → St → Prop) (st : St) : blkQ id Q (.exit id) st = Q .normal st := by simp [blkQ]
theorem blkQ_exit (id k : Nat) (Q : Ex → St → Prop) (st : St) : blkQ id Q (.exit k) st = if k = id then Q .normal st else Q (.exit k) st := Eq.trans rfl rfl
theorem Wp_inBlock (id : Nat) (r : Option (Ex × St)) (Q : Ex → St → Prop) : Wp (inBlock id r) Q = Wp r (blkQ id Q) := by
  cases r with
  | none => simp only [inBlock_none, Wp_none]
  | some p =>
    obtain ⟨ex, st⟩ := p
    cases ex with
    | normal => simp only [inBlock_normal, Wp_some, blkQ]
    | ret => simp only [inBlock_ret, Wp_some, blkQ]
    | exit k => by_cases h : k = id <;> simp only [inBlock_exit, h, if_true, if_false, Wp_some, blkQ]

/-- behind a region's operation -/
def opQ (tm : List AV) (outs : List (Nat × Nat)) (f : AV → Mem → Option (List AV × Mem)) (Q : Ex → St → Prop) : AV → Mem → Prop := fun v m => Wp (outRun tm outs (f v m)) Q
theorem opQ_at (tm : List AV) (outs : List (Nat × Nat)) (f : AV → Mem → Option (List AV × Mem)) (Q : Ex → St → Prop) (v : AV) (m : Mem) : opQ tm outs f Q v m = Wp (outRun tm outs (f v m)) Q := Eq.trans rfl rfl
theorem Wp_opThen (tm : List AV) (outs : List (Nat × Nat)) (r : Option (AV × Mem)) (f : AV → Mem → Option (List AV × Mem)) (Q : Ex → St → Prop) :
    Wp (outRun tm outs (opThen r f)) Q = Wc r (opQ tm outs f Q) := by
  cases r with
  | none => simp only [opThen_none, outRun_none, Wp_none, Wc_none]
  | some p =>
    obtain ⟨v, m⟩ := p
    simp only [opThen_some, Wc_some, opQ]

/-- behind a guarded operation -/
theorem Wp_guardP (tm : List AV) (outs : List (Nat × Nat)) (p : Prop) [Decidable p] (r : Option (AV × Mem)) (m : Mem) (f : AV → Mem → Option (List AV × Mem)) (Q : Ex → St → Prop) :
    Wp (outRun tm outs (guardP p r m f)) Q = ((p → Wc r (opQ tm outs f Q)) ∧ (¬ p → Wp (outRun tm outs (f (.tup []) m)) Q)) := by
  by_cases h : p
  · simp only [h, guardP_true, Wp_opThen, true_imp_iff, not_true_eq_false, false_imp_iff, and_true]
  · simp only [h, guardP_false, not_false_eq_true, true_imp_iff, false_imp_iff, true_and]

/-- behind a call's code -/
def retQ (F : AFun) (m : Mem) (Q : AV → Mem → Prop) : Ex → St → Prop
  | .exit _, _ => False
  | _, st => Wc (finRun F m st) Q
theorem retQ_normal (F : AFun) (m : Mem) (Q : AV → Mem → Prop) (st : St) : retQ F m Q .normal st = Wc (finRun F m st) Q := Eq.trans rfl rfl
theorem retQ_ret (F : AFun) (m : Mem) (Q : AV → Mem → Prop) (st : St) : retQ F m Q .ret st = Wc (finRun F m st) Q := Eq.trans rfl rfl
theorem Wc_endCall (F : AFun) (m : Mem) (r : Option (Ex × St)) (Q : AV → Mem → Prop) : Wc (endCall F m r) Q = Wp r (retQ F m Q) := by
  cases r with
  | none => simp only [endCall_none, Wc_none, Wp_none]
  | some p =>
    obtain ⟨ex, st⟩ := p
    cases ex <;> simp only [endCall_normal, endCall_ret, endCall_exit, Wc_none, Wp_some, retQ]

theorem call_wc {f : FuncId} {F : AFun} (h : T f = some F) (args : List AV) (m : Mem) (Q : AV → Mem → Prop) : Wc (call T pr f args m) Q = Wp (run T pr F.code ⟨entry F args, { m with esc := none }⟩) (retQ F m Q) := by
  rw [call_eq h, Wc_endCall]

/-! loops -/
/-- what a loop's round must bring -/
abbrev Holds (I : St → Prop) (st : St) : Prop := I st
@[congr] theorem Holds_congr {I : St → Prop} {st st' : St} (h : st = st') : Holds I st = Holds I st' := by rw [h]
def loopQ (I : St → Prop) (Q : Ex → St → Prop) : Ex → St → Prop
  | .normal, st => Holds I st
  | ex, st => Q ex st
theorem loopQ_normal (I : St → Prop) (Q : Ex → St → Prop) (st : St) : loopQ I Q .normal st = Holds I st := Eq.trans rfl rfl
theorem loopQ_exit (I : St → Prop) (Q : Ex → St → Prop) (k : Nat) (st : St) : loopQ I Q (.exit k) st = Q (.exit k) st := Eq.trans rfl rfl
theorem loopQ_ret (I : St → Prop) (Q : Ex → St → Prop) (st : St) : loopQ I Q .ret st = Q .ret st := Eq.trans rfl rfl

theorem Wp_loop {b : ACode} {Q : Ex → St → Prop} (I : Nat → St → Prop) (hs : ∀ k st, I k st → Wp (run T pr b st) (loopQ (fun st' => ∃ j, j < k ∧ I j st') Q)) :
    ∀ (n : Nat) (st : St), I n st → Wp (run T pr (.loop b) st) Q := by
  intro n
  induction n using Nat.strongRecOn with
  | _ n ih =>
    intro st h
    rw [run_loop, Wp_thenRun]
    refine (hs n st h).mono fun ex st' h' => ?_
    cases ex with
    | normal =>
      obtain ⟨j, hj, hI⟩ := h'
      exact ih j hj st' hI
    | exit k => exact h'
    | ret => exact h'

/-! the end of a call that keeps what its result names -/
theorem roots_slice_new (sz n o k : Nat) (c : Option Nat) : AV.roots H.length (.slice (some (H.length + k, o)) sz n c) = [H.length + k] := by simp [AV.roots]
theorem roots_slice_new0 (sz n o : Nat) (c : Option Nat) : AV.roots H.length (.slice (some (H.length, o)) sz n c) = [H.length] := by simp [AV.roots]
theorem roots_slice_none (lim sz n : Nat) (c : Option Nat) : AV.roots lim (.slice none sz n c) = [] := by simp [AV.roots]
theorem roots_slice_old {lim b : Nat} (sz n o : Nat) (c : Option Nat) (h : b < lim) : AV.roots lim (.slice (some (b, o)) sz n c) = [] := by simp [AV.roots, h]
theorem roots_ptr_new (o k : Nat) : AV.roots H.length (.ptr (some (H.length + k, o))) = [H.length + k] := by simp [AV.roots]
theorem roots_ptr_new0 (o : Nat) : AV.roots H.length (.ptr (some (H.length, o))) = [H.length] := by simp [AV.roots]
theorem roots_int (lim : Nat) (k : IntKind) (x : Int) : AV.roots lim (.int k x) = [] := by simp [AV.roots]
theorem roots_bool (lim : Nat) (x : Bool) : AV.roots lim (.bool x) = [] := by simp [AV.roots]
theorem roots_str (lim : Nat) (x : ByteArray) : AV.roots lim (.str x) = [] := by simp [AV.roots]
theorem roots_agg (lim : Nat) (cs : List AV) : AV.roots lim (.agg cs) = AV.roots.go lim cs := by simp [AV.roots]
theorem roots_tup (lim : Nat) (cs : List AV) : AV.roots lim (.tup cs) = AV.roots.go lim cs := by simp [AV.roots]
theorem roots_cons (lim : Nat) (c : AV) (cs : List AV) : AV.roots.go lim (c :: cs) = AV.roots lim c ++ AV.roots.go lim cs := by simp [AV.roots.go]
theorem roots_nil (lim : Nat) : AV.roots.go lim [] = [] := by simp [AV.roots.go]
theorem rename_slice (f : Nat → Nat) (b o sz n : Nat) (c : Option Nat) : AV.rename f (.slice (some (b, o)) sz n c) = .slice (some (f b, o)) sz n c := by simp [AV.rename]
theorem rename_slice_none (f : Nat → Nat) (sz n : Nat) (c : Option Nat) : AV.rename f (.slice none sz n c) = .slice none sz n c := by simp [AV.rename]
theorem rename_ptr (f : Nat → Nat) (b o : Nat) : AV.rename f (.ptr (some (b, o))) = .ptr (some (f b, o)) := by simp [AV.rename]
theorem rename_int (f : Nat → Nat) (k : IntKind) (x : Int) : AV.rename f (.int k x) = .int k x := by simp [AV.rename]
theorem rename_bool (f : Nat → Nat) (x : Bool) : AV.rename f (.bool x) = .bool x := by simp [AV.rename]
theorem rename_str (f : Nat → Nat) (x : ByteArray) : AV.rename f (.str x) = .str x := by simp [AV.rename]
theorem rename_agg (f : Nat → Nat) (cs : List AV) : AV.rename f (.agg cs) = .agg (AV.rename.go f cs) := by simp [AV.rename]
theorem rename_tup (f : Nat → Nat) (cs : List AV) : AV.rename f (.tup cs) = .tup (AV.rename.go f cs) := by simp [AV.rename]
theorem rename_cons (f : Nat → Nat) (c : AV) (cs : List AV) : AV.rename.go f (c :: cs) = AV.rename f c :: AV.rename.go f cs := by simp [AV.rename.go]
theorem rename_nil (f : Nat → Nat) : AV.rename.go f [] = [] := by simp [AV.rename.go]

def keepBlks (L : List Blk) (rs : List Nat) : List Blk := rs.map fun b => (L[b]?).getD .dead
theorem keepBlks_nil (L : List Blk) : keepBlks L [] = [] := Eq.trans rfl rfl
theorem keepBlks_cons (L : List Blk) (b : Nat) (rs : List Nat) : keepBlks L (b :: rs) = (L[b]?).getD .dead :: keepBlks L rs := Eq.trans rfl rfl
def flatAll (lim : Nat) (L : List Blk) (rs : List Nat) : Bool := rs.all fun b => flatBlk lim L[b]?
theorem flatAll_nil (lim : Nat) (L : List Blk) : flatAll lim L [] = true := Eq.trans rfl rfl
theorem flatAll_cons (lim : Nat) (L : List Blk) (b : Nat) (rs : List Nat) : flatAll lim L (b :: rs) = (flatBlk lim L[b]? && flatAll lim L rs) := Eq.trans rfl rfl
theorem flatBlk_cells (lim : Nat) (cs : List AV) (w : Bool) : flatBlk lim (some (.cells cs w)) = cs.all fun c => c.under lim := Eq.trans rfl rfl
theorem finish_two_eq (G : List Blk) (e0 e1 : Option Nat) (v : AV) : finish 2 H.length e0 v ⟨H ++ G, e1⟩ =
    if clean H.length e1 = true ∧ flatAll H.length (H ++ G) (dedup (v.roots H.length)) = true then some (v.rename (renum H.length (dedup (v.roots H.length))), ⟨H ++ keepBlks (H ++ G) (dedup (v.roots H.length)), e0⟩) else none := by
  unfold finish keepBlks flatAll
  simp
theorem finish_two_eq0 (e0 e1 : Option Nat) (v : AV) : finish 2 H.length e0 v ⟨H, e1⟩ =
    if clean H.length e1 = true ∧ flatAll H.length H (dedup (v.roots H.length)) = true then some (v.rename (renum H.length (dedup (v.roots H.length))), ⟨H ++ keepBlks H (dedup (v.roots H.length)), e0⟩) else none := by
  unfold finish keepBlks flatAll
  simp
theorem finish_one_eq (G : List Blk) (e0 e1 : Option Nat) (v : AV) : finish 1 H.length e0 v ⟨H ++ G, e1⟩ = if v.under H.length = true ∧ clean H.length e1 = true then some (v, ⟨H, e0⟩) else none := by
  unfold finish
  simp
theorem finish_one_eq0 (e0 e1 : Option Nat) (v : AV) : finish 1 H.length e0 v ⟨H, e1⟩ = if v.under H.length = true ∧ clean H.length e1 = true then some (v, ⟨H, e0⟩) else none := by
  unfold finish
  simp
theorem dedup_nil : dedup [] = [] := Eq.trans rfl rfl
theorem dedup_one (b : Nat) : dedup [b] = [b] := Eq.trans rfl rfl
theorem dedup_two (a b : Nat) : dedup [a, b] = if a = b then [a] else [a, b] := by
  by_cases h : a = b
  · simp [dedup, h]
  · have : ¬ b = a := fun h' => h h'.symm
    simp [dedup, h, this]
theorem renum_old {lim b : Nat} (rs : List Nat) (h : b < lim) : renum lim rs b = b := by simp [renum, h]
theorem renum_one (k : Nat) : renum H.length [H.length + k] (H.length + k) = H.length := by
  have h1 : ¬ H.length + k < H.length := by omega
  simp only [renum, h1, if_false, List.idxOf_cons_self, Nat.add_zero]
theorem renum_one0 : renum H.length [H.length] H.length = H.length := by simp [renum]
theorem renum_two0 {a b : Nat} (h : H.length ≤ a) : renum H.length [a, b] a = H.length := by
  have h1 : ¬ a < H.length := by omega
  simp [renum, h1]
theorem renum_two1 {a b : Nat} (h : H.length ≤ b) (hne : a ≠ b) : renum H.length [a, b] b = H.length + 1 := by
  have h1 : ¬ b < H.length := by omega
  have h2 : (a == b) = false := by simpa using hne
  simp [renum, h1, h2, List.idxOf_cons]

theorem finV_wc (F : AFun) (m : Mem) (st : St) (Q : AV → Mem → Prop) : Wc (finRun F m st) Q = Wc (finV F m (resultList st.tm st.m.H F.results) st.m) Q := Eq.trans rfl rfl

theorem get_more {α : Type} {L : List α} {j : Nat} {b : α} (h : L[j]? = some b) (X : List α) : (L ++ X)[j]? = some b := by
  rw [List.getElem?_append_left (List.getElem?_eq_some_iff.mp h).1]; exact h
theorem cellsAt_of {L : List Blk} {j : Nat} {cs : List AV} {w : Bool} (h : L[j]? = some (.cells cs w)) : cellsAt L j = some cs := by
  unfold cellsAt; rw [h]

theorem clean_none' (n : Nat) : clean n none = true := Eq.trans rfl rfl
theorem clean_some (n k : Nat) : clean n (some k) = decide (n ≤ k) := Eq.trans rfl rfl
theorem clean_ite (c : Prop) [Decidable c] (n : Nat) (a b : Option Nat) : clean n (if c then a else b) = if c then clean n a else clean n b := by split <;> rfl
theorem minEsc_none (b : Nat) : minEsc none b = some b := Eq.trans rfl rfl
theorem minEsc_some (a b : Nat) : minEsc (some a) b = some (min a b) := Eq.trans rfl rfl
end

end Go.Proofs.Ythkgpblohjpcdaa.Slim

/- The drawing of arguments from bytes: the cursor. -/
namespace Go.Proofs.Ythkgpblohjpcdaa.Slim

open Go

set_option linter.unusedSimpArgs false

set_option linter.unusedVariables false

variable {pr : Prims} {H : List Blk} {e : Option Nat}

section

variable {C : FuncId → List AV → Mem → Option (AV × Mem)} {g : X → AV} {m : Mem}

def nilCheckV (v : AV) : Option AV := match v with
  | .ptr (some p) => some (.ptr (some p))
  | .fn f a b => some (.fn f a b)
  | _ => none

theorem aop_nilCheck (x : X) : aop C g m (.nilCheck x) = valOf m (nilCheckV (g x)) := by
  rw [aop_of_light rfl]
  simp only [light, nilCheckV]
  generalize g x = v
  cases v with
  | ptr p => cases p <;> rfl
  | _ => rfl

theorem nilCheckV_ptr (p : Nat × Nat) : nilCheckV (.ptr (some p)) = some (.ptr (some p)) := rfl

end

/-- a slice of bytes, in memory -/
def CodeAt (L : List Blk) (av : AV) : Prop :=
  ∃ zs : List Int, zs.length ≤ 70000 ∧ (∀ z ∈ zs, 0 ≤ z ∧ z ≤ 255) ∧ ((av = .slice none 0 0 none ∧ zs = []) ∨ ∃ b c, av = .slice (some (b, 0)) 1 zs.length c ∧ cellsAt L b = some (zs.map (AV.int .u8)))

theorem CodeAt.more {L : List Blk} {av : AV} (h : CodeAt L av) (G : List Blk) : CodeAt (L ++ G) av := by
  obtain ⟨zs, h1, h2, h3 | ⟨b, c, h3, h4⟩⟩ := h
  · exact ⟨zs, h1, h2, .inl h3⟩
  · exact ⟨zs, h1, h2, .inr ⟨b, c, h3, cells_mono h4 G⟩⟩

abbrev curB (av : AV) (p h : Int) : Blk := .cells [av, .int .i64 p, .int .u64 h] true

/-- a cursor -/
def Cu (L : List Blk) (q : Nat) (av : AV) (p : Int) : Prop := (∃ h, L[q]? = some (curB av p h)) ∧ CodeAt L av ∧ 0 ≤ p

theorem Cu.lt {L : List Blk} {q : Nat} {av : AV} {p : Int} (h : Cu L q av p) : q < L.length := by
  obtain ⟨⟨_, h⟩, _⟩ := h
  exact (List.getElem?_eq_some_iff.mp h).1

theorem Cu.more {L : List Blk} {q : Nat} {av : AV} {p : Int} (h : Cu L q av p) (G : List Blk) : Cu (L ++ G) q av p := by
  have hl := h.lt
  obtain ⟨⟨z, h1⟩, h2, h3⟩ := h
  exact ⟨⟨z, by rw [List.getElem?_append_left hl, h1]⟩, h2.more G, h3⟩

theorem Cu.step {L : List Blk} {q : Nat} {av : AV} {p : Int} (h : Cu L q av p) {y : Int} (hy : 0 ≤ y) (z : Int) : Cu (L.set q (curB av y z)) q av y := by
  have hl := h.lt
  obtain ⟨⟨w, h1⟩, ⟨zs, g1, g2, g3⟩, h3⟩ := h
  refine ⟨⟨z, List.getElem?_set_self hl⟩, ⟨zs, g1, g2, ?_⟩, hy⟩
  rcases g3 with g3 | ⟨b, c, e2, e3⟩
  · exact .inl g3
  refine .inr ⟨b, c, e2, ?_⟩
  have hbq : b ≠ q := by
    rintro rfl
    unfold cellsAt at e3
    rw [h1] at e3
    simp at e3
    match zs with
    | [] => simp at e3
    | [_] => simp at e3
    | _ :: _ :: _ => simp at e3
  unfold cellsAt at e3 ⊢
  rw [List.getElem?_set_ne (fun h => hbq h.symm)]
  exact e3

theorem set_app {L : List Blk} {q : Nat} (h : q < L.length) (x : Blk) (G : List Blk) : (L ++ G).set q x = L.set q x ++ G := List.set_append_left _ _ h

theorem finish_one_setG (v : AV) (e0 e1 : Option Nat) (b : Nat) (x : Blk) (G : List Blk) : finish 1 H.length e0 v ⟨H.set b x ++ G, e1⟩ = if v.under H.length = true ∧ clean H.length e1 = true then some (v, ⟨H.set b x, e0⟩) else none := by
  unfold finish
  have : (H.set b x ++ G).take H.length = H.set b x := by
    rw [List.take_append_of_le_length (by simp), List.take_of_length_le (by simp)]
  simp [this]

theorem finish_one_set0 (v : AV) (e0 e1 : Option Nat) (b : Nat) (x : Blk) : finish 1 H.length e0 v ⟨H.set b x, e1⟩ = if v.under H.length = true ∧ clean H.length e1 = true then some (v, ⟨H.set b x, e0⟩) else none := by
  have := finish_one_setG (H := H) v e0 e1 b x []
  rwa [List.append_nil] at this

theorem cellsAt_s0 (q : Nat) (x : Blk) (l : List Blk) : cellsAt (H.set q x ++ l) H.length = cellsAt l 0 := by simp [cellsAt, List.getElem?_append_right]

theorem cellsAt_sk (q : Nat) (x : Blk) (l : List Blk) (k : Nat) : cellsAt (H.set q x ++ l) (H.length + k) = cellsAt l k := by simp [cellsAt, List.getElem?_append_right]

theorem blkAt_s0 (q : Nat) (x : Blk) (l : List Blk) : (H.set q x ++ l)[H.length]? = l[0]? := by simp [List.getElem?_append_right]

theorem blkAt_sk (q : Nat) (x : Blk) (l : List Blk) (k : Nat) : (H.set q x ++ l)[H.length + k]? = l[k]? := by simp [List.getElem?_append_right]

theorem set_s0 (q : Nat) (x : Blk) (l : List Blk) (b : Blk) : (H.set q x ++ l).set H.length b = H.set q x ++ l.set 0 b := by simp [List.set_append_right]

theorem set_sk (q : Nat) (x : Blk) (l : List Blk) (b : Blk) (k : Nat) : (H.set q x ++ l).set (H.length + k) b = H.set q x ++ l.set k b := by simp [List.set_append_right]

theorem set_sapp {q : Nat} (h : q < H.length) (x y : Blk) (l : List Blk) : (H.set q x ++ l).set q y = H.set q y ++ l := by
  rw [List.set_append_left _ _ (by simpa using h), List.set_set]

theorem Cu.new {G : List Blk} {k : Nat} {av : AV} {y z : Int} (hG : G[k]? = some (curB av y z)) (hc : CodeAt H av) (hy : 0 ≤ y) : Cu (H ++ G) (H.length + k) av y :=
  ⟨⟨z, by rw [List.getElem?_append_right (by omega), Nat.add_sub_cancel_left, hG]⟩, hc.more G, hy⟩

theorem Cu.cells {L : List Blk} {q : Nat} {av : AV} {p : Int} (h : Cu L q av p) : ∃ w, L[q]? = some (curB av p w) ∧ cellsAt L q = some [av, .int .i64 p, .int .u64 w] := by
  obtain ⟨⟨w, h1⟩, _⟩ := h
  exact ⟨w, h1, by unfold cellsAt; rw [h1]⟩

theorem cells_set {L : List Blk} {q : Nat} (h : q < L.length) (cs : List AV) (wr : Bool) : cellsAt (L.set q (.cells cs wr)) q = some cs := by
  unfold cellsAt
  rw [List.getElem?_set_self h]

theorem andI_255 (x : Int) : 0 ≤ andI .u64 x 255 ∧ andI .u64 x 255 ≤ 255 := by
  have h1 : (BitVec.ofInt 64 x &&& BitVec.ofInt 64 255).toNat ≤ 255 := by
    rw [BitVec.toNat_and]
    exact Nat.le_trans Nat.and_le_right (by decide)
  have h2 : andI .u64 x 255 = IntKind.u64.wrap ((BitVec.ofInt 64 x &&& BitVec.ofInt 64 255).toNat : Int) := rfl
  rw [h2]
  generalize (BitVec.ofInt 64 x &&& BitVec.ofInt 64 255).toNat = n at *
  have : IntKind.u64.wrap (n : Int) = n := by
    simp [IntKind.wrap, IntKind.bits, IntKind.signed]
    omega
  rw [this]
  omega

theorem wc_next {q : Nat} {av : AV} {p : Int} (h : Cu H q av p) (hp : p ≤ 1000000000000) : Wc (call T pr f_s_l1Cur_next [.ptr (some (q, 0))] ⟨H, e⟩) (fun v m => ∃ x y z : Int, v = .int .i64 x ∧ 0 ≤ x ∧ x ≤ 255 ∧ 0 ≤ y ∧ y ≤ p + 1 ∧ m = ⟨H.set q (curB av y z), e⟩) := by
  have hl := h.lt
  obtain ⟨w, h1, hcell⟩ := h.cells
  obtain ⟨_, ⟨zs, g2, g3, g4⟩, h3⟩ := h
  obtain ⟨p', sz, c, rfl⟩ : ∃ p' sz c, av = .slice p' sz zs.length c := by
    rcases g4 with ⟨rfl, rfl⟩ | ⟨b, c, rfl, _⟩
    · exact ⟨_, _, _, rfl⟩
    · exact ⟨_, _, _, rfl⟩
  obtain ⟨n, rfl⟩ : ∃ n : Nat, p = (n : Int) := ⟨p.toNat, by omega⟩
  have hw := wrap_succ (show n < 9223372036854775807 by omega)
  have hsg : ∀ (y : Blk), (H.set q y)[q]? = some y := fun y => List.getElem?_set_self hl
  have hcs := fun cs wr => cells_set (L := H) hl cs wr
  rw [call_wc t_s_l1Cur_next]
  by_cases hn : n < zs.length
  · have hne : zs ≠ [] := by intro h0; rw [h0] at hn; simp at hn
    obtain ⟨b, hq, hb⟩ : ∃ b, (p' = some (b, 0) ∧ sz = 1) ∧ cellsAt H b = some (zs.map (AV.int .u8)) := by
      rcases g4 with ⟨_, rfl⟩ | ⟨b, c', hq, hb⟩
      · exact absurd rfl hne
      · cases hq; exact ⟨b, ⟨rfl, rfl⟩, hb⟩
    obtain ⟨rfl, rfl⟩ := hq
    have hz := g3 zs[n] (List.getElem_mem _)
    have hpart : part false (zs.map (AV.int .u8)) n 1 = some (.int .u8 zs[n]) := by
      rw [part_false, List.getElem?_map, List.getElem?_eq_getElem hn]
      rfl
    have hcv : IntKind.i64.wrap zs[n] = zs[n] := wrap64 (by omega) (by omega)
    have hle : decide (((n + 1 : Nat) : Int) ≤ (zs.length : Int)) = true := decide_eq_true (by omega)
    have hle' : n + 1 ≤ zs.length := hn
    simp +contextual only [a_s_l1Cur_next, c_s_l1Cur_next, aop_nilCheck, nilCheckV_ptr, h1, hcell, hsg, hcs, hn, hb, hpart, hcv, hw, hle, hle', List.set_set, Nat.mul_one, decide_true, finish_one_set0, clean_none', Wp_some, Wp_none, Wp_ite, Wc_some, Wc_none, Wc_ite, Wp_thenRun, seqQ_normal, seqQ_exit, seqQ_ret, Wp_inBlock, blkQ_normal, blkQ_ret, blkQ_same, blkQ_exit, Wp_opThen, opQ_at, Wp_guardP, retQ_normal, retQ_ret, loopQ_normal, loopQ_exit, loopQ_ret, go_sem, entry, joinEsc, if_pos, reduceIte, Nat.reduceAdd, Nat.reduceLeDiff, Nat.reduceLT, Nat.reduceEqDiff]
    exact ⟨_, _, _, rfl, hz.1, hz.2, by omega, by omega, rfl⟩
  · have hle : decide (((n + 1 : Nat) : Int) ≤ (zs.length : Int)) = false := decide_eq_false (by omega)
    have hle' : ¬ n + 1 ≤ zs.length := by omega
    have hcv : ∀ x : Int, IntKind.i64.wrap (andI .u64 x 255) = andI .u64 x 255 := fun x => wrap64 (by have := andI_255 x; omega) (by have := andI_255 x; omega)
    simp +contextual only [a_s_l1Cur_next, c_s_l1Cur_next, aop_nilCheck, nilCheckV_ptr, h1, hcell, hsg, hcs, hn, hcv, hw, hle, hle', show ¬ ((40 : Int) < 0) by omega, List.set_set, Nat.mul_one, decide_true, decide_false, finish_one_set0, clean_none', Wp_some, Wp_none, Wp_ite, Wc_some, Wc_none, Wc_ite, Wp_thenRun, seqQ_normal, seqQ_exit, seqQ_ret, Wp_inBlock, blkQ_normal, blkQ_ret, blkQ_same, blkQ_exit, Wp_opThen, opQ_at, Wp_guardP, retQ_normal, retQ_ret, loopQ_normal, loopQ_exit, loopQ_ret, go_sem, entry, joinEsc, if_pos, reduceIte, Nat.reduceAdd, Nat.reduceLeDiff, Nat.reduceLT, Nat.reduceEqDiff]
    exact ⟨_, _, _, rfl, (andI_255 _).1, (andI_255 _).2, by omega, by omega, rfl⟩

theorem wc_pick {q : Nat} {av : AV} {p : Int} (n : Int) (h : Cu H q av p) (hp : p ≤ 100000000000) (hn : n ≤ 1000000000000) : Wc (call T pr f_s_l1Cur_pick [.ptr (some (q, 0)), .int .i64 n] ⟨H, e⟩) (fun v m => ∃ x y z : Int, v = .int .i64 x ∧ 0 ≤ x ∧ (x < n ∨ x = 0) ∧ 0 ≤ y ∧ y ≤ p + 2 ∧ m = ⟨H.set q (curB av y z), e⟩) := by
  have hl := h.lt
  rw [call_wc t_s_l1Cur_pick]
  by_cases h1 : n ≤ 1
  · obtain ⟨w, hw, _⟩ := h.cells
    have hsame : H = H.set q (curB av p w) := by
      obtain ⟨hb, he⟩ := List.getElem?_eq_some_iff.mp hw
      rw [← he, List.set_getElem_self]
    have h1' : decide (n ≤ 1) = true := decide_eq_true h1
    simp +contextual only [a_s_l1Cur_pick, c_s_l1Cur_pick, h1, h1', decide_true, Wp_some, Wp_none, Wp_ite, Wc_some, Wc_none, Wc_ite, Wp_thenRun, seqQ_normal, seqQ_exit, seqQ_ret, Wp_inBlock, blkQ_normal, blkQ_ret, blkQ_same, blkQ_exit, Wp_opThen, opQ_at, Wp_guardP, retQ_normal, retQ_ret, loopQ_normal, loopQ_exit, loopQ_ret, finish_one_eq, finish_one_eq0, finish_two_eq, finish_two_eq0, roots_slice_new, roots_slice_new0, roots_slice_none, roots_ptr_new, roots_ptr_new0, roots_int, roots_bool, roots_str, roots_agg, roots_tup, roots_cons, roots_nil, rename_slice, rename_slice_none, rename_ptr, rename_int, rename_bool, rename_str, rename_agg, rename_tup, rename_cons, rename_nil, keepBlks_nil, keepBlks_cons, flatAll_nil, flatAll_cons, flatBlk_cells, dedup_nil, dedup_one, dedup_two, renum_one, renum_one0, renum_two0, renum_two1, clean_none', clean_some, minEsc_none, minEsc_some, Nat.add_left_cancel_iff, Nat.le_add_right, Nat.le_refl, decide_true, go_sem, entry, joinEsc, if_pos, reduceIte, Nat.reduceAdd, Nat.reduceLeDiff, Nat.reduceLT, Nat.reduceEqDiff]
    exact ⟨0, p, w, rfl, Int.le_refl _, .inr rfl, h.2.2, by omega, by rw [← hsame]⟩
  · have h1' : decide (n ≤ 1) = false := decide_eq_false h1
    simp +contextual only [a_s_l1Cur_pick, c_s_l1Cur_pick, h1, h1', decide_false, Wp_some, Wp_none, Wp_ite, Wc_some, Wc_none, Wc_ite, Wp_thenRun, seqQ_normal, seqQ_exit, seqQ_ret, Wp_inBlock, blkQ_normal, blkQ_ret, blkQ_same, blkQ_exit, Wp_opThen, opQ_at, Wp_guardP, retQ_normal, retQ_ret, loopQ_normal, loopQ_exit, loopQ_ret, go_sem, entry, joinEsc, if_pos, reduceIte, Nat.reduceAdd, Nat.reduceLeDiff, Nat.reduceLT, Nat.reduceEqDiff]
    refine (wc_next h (by omega)).mono ?_
    rintro v m ⟨x, y, z, rfl, hx0, hx1, hy0, hy1, rfl⟩
    have h' := h.step hy0 z
    have hmod : ∀ u : Int, 0 ≤ u → 0 ≤ u.tmod n ∧ u.tmod n < n := fun u hu => ⟨Int.tmod_nonneg _ hu, Int.tmod_lt_of_pos _ (by omega)⟩
    have hnz : ¬ n = 0 := by omega
    by_cases h2 : 200 < n
    · have h2' : decide (200 < n) = true := decide_eq_true h2
      have hm1 : IntKind.i64.wrap (x * 256) = x * 256 := wrap64 (by omega) (by omega)
      simp +contextual only [gt_iff_lt, h2, h2', hm1, decide_true, Wp_some, Wp_none, Wp_ite, Wc_some, Wc_none, Wc_ite, Wp_thenRun, seqQ_normal, seqQ_exit, seqQ_ret, Wp_inBlock, blkQ_normal, blkQ_ret, blkQ_same, blkQ_exit, Wp_opThen, opQ_at, Wp_guardP, retQ_normal, retQ_ret, loopQ_normal, loopQ_exit, loopQ_ret, go_sem, entry, joinEsc, if_pos, reduceIte, Nat.reduceAdd, Nat.reduceLeDiff, Nat.reduceLT, Nat.reduceEqDiff]
      refine (wc_next h' (by omega)).mono ?_
      rintro v m ⟨x2, y2, z2, rfl, hx20, hx21, hy20, hy21, rfl⟩
      have hm2 : IntKind.i64.wrap (x * 256 + x2) = x * 256 + x2 := wrap64 (by omega) (by omega)
      have hm := hmod (x * 256 + x2) (by omega)
      simp +contextual only [a_s_l1Cur_pick, hm2, hnz, List.set_set, finish_one_set0, clean_none', Wp_some, Wp_none, Wp_ite, Wc_some, Wc_none, Wc_ite, Wp_thenRun, seqQ_normal, seqQ_exit, seqQ_ret, Wp_inBlock, blkQ_normal, blkQ_ret, blkQ_same, blkQ_exit, Wp_opThen, opQ_at, Wp_guardP, retQ_normal, retQ_ret, loopQ_normal, loopQ_exit, loopQ_ret, finish_one_eq, finish_one_eq0, finish_two_eq, finish_two_eq0, roots_slice_new, roots_slice_new0, roots_slice_none, roots_ptr_new, roots_ptr_new0, roots_int, roots_bool, roots_str, roots_agg, roots_tup, roots_cons, roots_nil, rename_slice, rename_slice_none, rename_ptr, rename_int, rename_bool, rename_str, rename_agg, rename_tup, rename_cons, rename_nil, keepBlks_nil, keepBlks_cons, flatAll_nil, flatAll_cons, flatBlk_cells, dedup_nil, dedup_one, dedup_two, renum_one, renum_one0, renum_two0, renum_two1, clean_none', clean_some, minEsc_none, minEsc_some, Nat.add_left_cancel_iff, Nat.le_add_right, Nat.le_refl, decide_true, go_sem, entry, joinEsc, if_pos, reduceIte, Nat.reduceAdd, Nat.reduceLeDiff, Nat.reduceLT, Nat.reduceEqDiff]
      exact ⟨_, _, _, rfl, hm.1, .inl hm.2, hy20, by omega, rfl⟩
    · have h2' : decide (200 < n) = false := decide_eq_false h2
      have hm := hmod x hx0
      simp +contextual only [a_s_l1Cur_pick, gt_iff_lt, h2, h2', hnz, List.set_set, finish_one_set0, clean_none', decide_false, Wp_some, Wp_none, Wp_ite, Wc_some, Wc_none, Wc_ite, Wp_thenRun, seqQ_normal, seqQ_exit, seqQ_ret, Wp_inBlock, blkQ_normal, blkQ_ret, blkQ_same, blkQ_exit, Wp_opThen, opQ_at, Wp_guardP, retQ_normal, retQ_ret, loopQ_normal, loopQ_exit, loopQ_ret, finish_one_eq, finish_one_eq0, finish_two_eq, finish_two_eq0, roots_slice_new, roots_slice_new0, roots_slice_none, roots_ptr_new, roots_ptr_new0, roots_int, roots_bool, roots_str, roots_agg, roots_tup, roots_cons, roots_nil, rename_slice, rename_slice_none, rename_ptr, rename_int, rename_bool, rename_str, rename_agg, rename_tup, rename_cons, rename_nil, keepBlks_nil, keepBlks_cons, flatAll_nil, flatAll_cons, flatBlk_cells, dedup_nil, dedup_one, dedup_two, renum_one, renum_one0, renum_two0, renum_two1, clean_none', clean_some, minEsc_none, minEsc_some, Nat.add_left_cancel_iff, Nat.le_add_right, Nat.le_refl, decide_true, go_sem, entry, joinEsc, if_pos, reduceIte, Nat.reduceAdd, Nat.reduceLeDiff, Nat.reduceLT, Nat.reduceEqDiff]
      exact ⟨_, _, _, rfl, hm.1, .inl hm.2, hy0, by omega, rfl⟩

theorem wc_one {q : Nat} {av : AV} {p : Int} (n : Int) (h : Cu H q av p) (hp : p ≤ 100000000000) (hn : n ≤ 1000000000000) : Wc (call T pr f_s_l1Cur_one [.ptr (some (q, 0)), .int .i64 n] ⟨H, e⟩) (fun v m => ∃ (x : Bool) (y z : Int), v = .bool x ∧ 0 ≤ y ∧ y ≤ p + 2 ∧ m = ⟨H.set q (curB av y z), e⟩) := by
  rw [call_wc t_s_l1Cur_one]
  simp +contextual only [a_s_l1Cur_one, c_s_l1Cur_one, Wp_some, Wp_none, Wp_ite, Wc_some, Wc_none, Wc_ite, Wp_thenRun, seqQ_normal, seqQ_exit, seqQ_ret, Wp_inBlock, blkQ_normal, blkQ_ret, blkQ_same, blkQ_exit, Wp_opThen, opQ_at, Wp_guardP, retQ_normal, retQ_ret, loopQ_normal, loopQ_exit, loopQ_ret, go_sem, entry, joinEsc, if_pos, reduceIte, Nat.reduceAdd, Nat.reduceLeDiff, Nat.reduceLT, Nat.reduceEqDiff]
  refine (wc_pick n h hp hn).mono ?_
  rintro v m ⟨x, y, z, rfl, hx0, hx1, hy0, hy1, rfl⟩
  simp +contextual only [a_s_l1Cur_one, List.set_set, finish_one_set0, clean_none', Wp_some, Wp_none, Wp_ite, Wc_some, Wc_none, Wc_ite, Wp_thenRun, seqQ_normal, seqQ_exit, seqQ_ret, Wp_inBlock, blkQ_normal, blkQ_ret, blkQ_same, blkQ_exit, Wp_opThen, opQ_at, Wp_guardP, retQ_normal, retQ_ret, loopQ_normal, loopQ_exit, loopQ_ret, finish_one_eq, finish_one_eq0, finish_two_eq, finish_two_eq0, roots_slice_new, roots_slice_new0, roots_slice_none, roots_ptr_new, roots_ptr_new0, roots_int, roots_bool, roots_str, roots_agg, roots_tup, roots_cons, roots_nil, rename_slice, rename_slice_none, rename_ptr, rename_int, rename_bool, rename_str, rename_agg, rename_tup, rename_cons, rename_nil, keepBlks_nil, keepBlks_cons, flatAll_nil, flatAll_cons, flatBlk_cells, dedup_nil, dedup_one, dedup_two, renum_one, renum_one0, renum_two0, renum_two1, clean_none', clean_some, minEsc_none, minEsc_some, Nat.add_left_cancel_iff, Nat.le_add_right, Nat.le_refl, decide_true, go_sem, entry, joinEsc, if_pos, reduceIte, Nat.reduceAdd, Nat.reduceLeDiff, Nat.reduceLT, Nat.reduceEqDiff]
  exact ⟨_, _, _, rfl, hy0, by omega, rfl⟩

theorem wc_among {q b : Nat} {av : AV} {p : Int} {c : Option Nat} {zs : List Int} (h : Cu H q av p) (hp : p ≤ 100000000000) (hb : cellsAt H b = some (zs.map (AV.int .i64))) (hbq : b ≠ q) (h0 : 0 < zs.length) (hn : zs.length ≤ 1000000) : Wc (call T pr f_s_l1Cur_among [.ptr (some (q, 0)), .slice (some (b, 0)) 1 zs.length c] ⟨H, e⟩) (fun v m => ∃ x y z : Int, v = .int .i64 x ∧ x ∈ zs ∧ 0 ≤ y ∧ y ≤ p + 2 ∧ m = ⟨H.set q (curB av y z), e⟩) := by
  rw [call_wc t_s_l1Cur_among]
  simp +contextual only [a_s_l1Cur_among, c_s_l1Cur_among, Wp_some, Wp_none, Wp_ite, Wc_some, Wc_none, Wc_ite, Wp_thenRun, seqQ_normal, seqQ_exit, seqQ_ret, Wp_inBlock, blkQ_normal, blkQ_ret, blkQ_same, blkQ_exit, Wp_opThen, opQ_at, Wp_guardP, retQ_normal, retQ_ret, loopQ_normal, loopQ_exit, loopQ_ret, go_sem, entry, joinEsc, if_pos, reduceIte, Nat.reduceAdd, Nat.reduceLeDiff, Nat.reduceLT, Nat.reduceEqDiff]
  refine (wc_pick (zs.length : Int) h hp (by omega)).mono ?_
  rintro v m ⟨x, y, z, rfl, hx0, hx1, hy0, hy1, rfl⟩
  obtain ⟨i, rfl⟩ : ∃ i : Nat, x = (i : Int) := ⟨x.toNat, by omega⟩
  have hi : i < zs.length := by omega
  have hcs : cellsAt (H.set q (curB av y z)) b = some (zs.map (AV.int .i64)) := by
    unfold cellsAt at hb ⊢
    rw [List.getElem?_set_ne (fun h => hbq h.symm)]
    exact hb
  have hpart : part false (zs.map (AV.int .i64)) i 1 = some (.int .i64 zs[i]) := by
    rw [part_false, List.getElem?_map, List.getElem?_eq_getElem hi]
    rfl
  simp +contextual only [a_s_l1Cur_among, hi, hcs, hpart, Nat.mul_one, List.set_set, finish_one_set0, clean_none', Wp_some, Wp_none, Wp_ite, Wc_some, Wc_none, Wc_ite, Wp_thenRun, seqQ_normal, seqQ_exit, seqQ_ret, Wp_inBlock, blkQ_normal, blkQ_ret, blkQ_same, blkQ_exit, Wp_opThen, opQ_at, Wp_guardP, retQ_normal, retQ_ret, loopQ_normal, loopQ_exit, loopQ_ret, finish_one_eq, finish_one_eq0, finish_two_eq, finish_two_eq0, roots_slice_new, roots_slice_new0, roots_slice_none, roots_ptr_new, roots_ptr_new0, roots_int, roots_bool, roots_str, roots_agg, roots_tup, roots_cons, roots_nil, rename_slice, rename_slice_none, rename_ptr, rename_int, rename_bool, rename_str, rename_agg, rename_tup, rename_cons, rename_nil, keepBlks_nil, keepBlks_cons, flatAll_nil, flatAll_cons, flatBlk_cells, dedup_nil, dedup_one, dedup_two, renum_one, renum_one0, renum_two0, renum_two1, clean_none', clean_some, minEsc_none, minEsc_some, Nat.add_left_cancel_iff, Nat.le_add_right, Nat.le_refl, decide_true, go_sem, entry, joinEsc, if_pos, reduceIte, Nat.reduceAdd, Nat.reduceLeDiff, Nat.reduceLT, Nat.reduceEqDiff]
  exact ⟨_, _, _, rfl, List.getElem_mem _, hy0, by omega, rfl⟩

end Go.Proofs.Ythkgpblohjpcdaa.Slim

/- The drawing of arguments from bytes: what is cut from the bytes. -/
namespace Go.Proofs.Ythkgpblohjpcdaa.Slim

open Go

set_option linter.unusedSimpArgs false

set_option linter.unusedVariables false

variable {pr : Prims} {H : List Blk} {e : Option Nat}

def seqHd : ACode → ACode
  | .seq a _ => a
  | c => c

def seqTl : ACode → ACode
  | .seq _ c => c
  | c => c

theorem seq_cut2 {c : ACode} (h : c = .seq (seqHd c) (.seq (seqHd (seqTl c)) (seqTl (seqTl c)))) : ∃ R, R = seqTl (seqTl c) ∧ c = .seq (seqHd c) (.seq (seqHd (seqTl c)) R) := ⟨_, rfl, h⟩

def slLoV (sz : Nat) (v l : AV) : Option AV := match v with
  | .slice p sz' n cap => (match natOf l with
    | some l => sliceVal sz p sz' n cap l n none
    | none => none)
  | _ => none

section

variable {C : FuncId → List AV → Mem → Option (AV × Mem)} {g : X → AV} {m : Mem}

theorem aop_slLo (sz : Nat) (x l : X) : aop C g m (.sliceSl sz x (some l) none none) = valOf m (slLoV sz (g x) (g l)) := by
  rw [aop_of_light rfl]
  simp only [light, slLoV, bound, optNat]
  generalize g x = v
  generalize natOf (g l) = o
  cases v <;> cases o <;> simp

end

theorem slLoV_c (sz b o n l : Nat) (cap : Option Nat) (hl : l ≤ n) : slLoV sz (.slice (some (b, o)) sz n cap) (.int .i64 l) = some (.slice (some (b, o + l * sz)) sz (n - l) (cap.map (· - l))) := by
  unfold slLoV natOf sliceVal
  simp [hl]

theorem src_part {L : List Blk} {q sz n o k : Nat} {cs : List AV} (c : Option Nat) (h : cellsAt L q = some cs) (hl : o * sz + k * sz ≤ cs.length) : srcCells false L (.slice (some (q, o * sz)) sz k c) = some (k, (cs.drop (o * sz)).take (k * sz)) := by
  unfold srcCells
  simp [h, hl]

theorem src_new (L : List Blk) (n sz : Nat) (cap : Option Nat) (cs : List AV) (b : Nat) (h : cellsAt L b = some cs) (hl : cs.length = n * sz) : srcCells false L (.slice (some (b, 0)) sz n cap) = some (n, cs) := by
  unfold srcCells
  simp [h, ← hl]

def codeLen : AV → Nat
  | .slice _ _ n _ => n
  | _ => 0

theorem CodeAt.form {L : List Blk} {av : AV} (h : CodeAt L av) : ∃ p sz n c, av = .slice p sz n c := by
  obtain ⟨zs, _, _, ⟨rfl, _⟩ | ⟨b, c, rfl, _⟩⟩ := h
  · exact ⟨_, _, _, _, rfl⟩
  · exact ⟨_, _, _, _, rfl⟩

/-- an argument that is a slice of bytes -/
def ArgB (L : List Blk) (av : AV) (zs : List Int) : Prop :=
  (∀ z ∈ zs, 0 ≤ z ∧ z ≤ 255) ∧ ((av = .slice none 0 0 none ∧ zs = []) ∨ ∃ b c, av = .slice (some (b, 0)) 1 zs.length c ∧ cellsAt L b = some (zs.map (AV.int .u8)))

theorem bytes_of : ∀ (es : List (List Int)), (∀ e ∈ es, e.length = 1 ∧ ∀ z ∈ e, (Lit.int .u8 z).wf = true) → es.flatten.length = es.length ∧ ∀ z ∈ es.flatten, 0 ≤ z ∧ z ≤ 255
  | [], _ => by simp
  | x :: es, h => by
    obtain ⟨h1, h2⟩ := bytes_of es fun e he => h e (by simp [he])
    obtain ⟨hx1, hx2⟩ := h x (by simp)
    match x, hx1 with
    | [a], _ =>
      refine ⟨by simp [h1], fun z hz => ?_⟩
      rw [List.flatten_cons] at hz
      rcases List.mem_append.mp hz with hz | hz
      · have := hx2 z hz
        simp [Lit.wf, IntKind.min, IntKind.max, IntKind.signed, IntKind.bits] at this
        omega
      · exact h2 z hz

theorem argB_of {av : AV} {es : List (List Int)} (h : IsArg H av .u8 1 es) : ∃ zs, ArgB H av zs := by
  obtain ⟨h1, h2⟩ := h
  obtain ⟨h6, h7⟩ := bytes_of es h1
  rcases h2 with ⟨rfl, rfl⟩ | ⟨b, cap, rfl, h3, h4, h5⟩
  · exact ⟨[], by simp, .inl ⟨rfl, rfl⟩⟩
  · refine ⟨es.flatten, h7, .inr ⟨b, some cap, by rw [h6], ?_⟩⟩
    unfold cellsAt
    rw [h5]

theorem ArgB.form {L : List Blk} {av : AV} {zs : List Int} (h : ArgB L av zs) : ∃ p sz n c, av = .slice p sz n c ∧ (n ≤ 65536 → CodeAt L av) := by
  obtain ⟨h1, ⟨rfl, rfl⟩ | ⟨b, c, rfl, h2⟩⟩ := h
  · exact ⟨_, _, _, _, rfl, fun _ => ⟨[], by simp, by simp, .inl ⟨rfl, rfl⟩⟩⟩
  · exact ⟨_, _, _, _, rfl, fun hn => ⟨zs, by omega, h1, .inr ⟨b, c, rfl, h2⟩⟩⟩

theorem append_none {L : List Blk} {b sz : Nat} {src : AV} (hb : L[b]? = some (.cells [] true)) (hs : srcCells false L src = some (0, [])) : appendV L e false 1 1 (.slice (some (b, 0)) 1 0 (some 0)) src = some (.slice (some (L.length, 0)) 1 0 none, ⟨L.set b .dead ++ [.cells [] true], e⟩) := by
  unfold appendV
  simp only [hb, hs]
  rw [if_pos ⟨trivial, by simp [maxBytes], by simp, by simp⟩, if_neg (by simp), if_pos trivial]
  rfl

theorem append_some {L : List Blk} {b n : Nat} {src : AV} {cs : List AV} (hb : L[b]? = some (.cells [] true)) (hs : srcCells false L src = some (n, cs)) (h0 : 0 < n) (hn : n ≤ 1000000) (hc : cs.length = n) : appendV L e false 1 1 (.slice (some (b, 0)) 1 0 (some 0)) src = some (.slice (some (L.length, 0)) 1 n none, ⟨L ++ [.cells cs true], e⟩) := by
  unfold appendV
  simp only [hb, hs]
  rw [if_pos ⟨trivial, by unfold maxBytes; omega, by omega, by simp⟩, if_pos ⟨trivial, h0⟩, Nat.zero_add]

theorem append_one {L : List Blk} {b q n : Nat} {cs new : List AV} {c : Option Nat} (hb : L[b]? = some (.cells cs true)) (hq : cellsAt L q = some new) (hcs : cs.length = n) (hnew : new.length = 1) (hn : n ≤ 1000000) :
    appendV L e false 1 1 (.slice (some (b, 0)) 1 n none) (.slice (some (q, 0)) 1 1 c) = some (.slice (some (L.length, 0)) 1 (n + 1) none, ⟨L.set b .dead ++ [.cells (cs ++ new) true], e⟩) := by
  have hs := src_new L 1 1 c new q hq (by omega)
  unfold appendV
  simp only [hb, hs]
  rw [if_pos ⟨trivial, by unfold maxBytes; omega, by omega, by omega⟩, if_neg (by simp), List.drop_zero, List.take_of_length_le (by omega), if_pos trivial]

theorem CodeAt.new {G : List Blk} {k : Nat} {zs : List Int} {c : Option Nat} (hG : G[k]? = some (.cells (zs.map (AV.int .u8)) true)) (h1 : zs.length ≤ 70000) (h2 : ∀ z ∈ zs, 0 ≤ z ∧ z ≤ 255) : CodeAt (H ++ G) (.slice (some (H.length + k, 0)) 1 zs.length c) := by
  refine ⟨zs, h1, h2, .inr ⟨_, _, rfl, ?_⟩⟩
  rw [cellsAt_newk]
  unfold cellsAt
  rw [hG]

def slHiV (sz : Nat) (v h : AV) : Option AV := match v with
  | .slice p sz' n cap => (match natOf h with
    | some h => sliceVal sz p sz' n cap 0 h none
    | none => none)
  | _ => none

section

variable {C : FuncId → List AV → Mem → Option (AV × Mem)} {g : X → AV} {m : Mem}

theorem aop_slHi (sz : Nat) (x h : X) : aop C g m (.sliceSl sz x none (some h) none) = valOf m (slHiV sz (g x) (g h)) := by
  rw [aop_of_light rfl]
  simp only [light, slHiV, bound, optNat]
  generalize g x = v
  generalize natOf (g h) = o
  cases v <;> cases o <;> simp

end

theorem slHiV_c (sz b n l : Nat) (cap : Option Nat) (hl : l ≤ n) : slHiV sz (.slice (some (b, 0)) sz n cap) (.int .i64 l) = some (.slice (some (b, 0)) sz l cap) := by
  unfold slHiV natOf sliceVal
  simp [hl]

end Go.Proofs.Ythkgpblohjpcdaa.Slim

/- The drawing of arguments from bytes: growing lists. -/
namespace Go.Proofs.Ythkgpblohjpcdaa.Slim

open Go

set_option linter.unusedSimpArgs false

set_option linter.unusedVariables false

variable {pr : Prims} {H : List Blk} {e : Option Nat}

/-- one of some numbers, drawn -/
theorem amongZ {q b n : Nat} {av : AV} {p : Int} {c : Option Nat} (zs : List Int) (h : Cu H q av p) (hp : p ≤ 100000000000) (hb : cellsAt H b = some (zs.map (AV.int .i64))) (hbq : b ≠ q) (hn : zs.length = n) (h0 : 0 < n) (hn2 : n ≤ 1000000) : Wc (call T pr f_s_l1Cur_among [.ptr (some (q, 0)), .slice (some (b, 0)) 1 n c] ⟨H, e⟩) (fun v m => ∃ x y z : Int, v = .int .i64 x ∧ x ∈ zs ∧ 0 ≤ y ∧ y ≤ p + 2 ∧ m = ⟨H.set q (curB av y z), e⟩) := by
  subst hn
  exact wc_among h hp hb hbq h0 hn2

/-- an old block falls, where an append may have written into it -/
def killL (L : List Blk) (b : Nat) (keep : Bool) : List Blk := if keep = true then L else L.set b .dead

theorem killL_length (L : List Blk) (b : Nat) (k : Bool) : (killL L b k).length = L.length := by unfold killL; split <;> simp

theorem killL_get {L : List Blk} {b i : Nat} (k : Bool) (h : i ≠ b) : (killL L b k)[i]? = L[i]? := by
  unfold killL
  split
  · rfl
  · exact List.getElem?_set_ne (fun e => h e.symm)

/-- some elements more -/
theorem apG {L : List Blk} {b sz bytes n k : Nat} {cs new : List AV} {cap : Option Nat} {src : AV} (hb : L[b]? = some (.cells cs true)) (hs : srcCells false L src = some (k, new)) (hcs : cs.length = n * sz) (hnew : new.length = k * sz) (hm : (n + k) * bytes ≤ maxBytes) (hcap : cap = some 0 → n = 0) :
    appendV L e false sz bytes (.slice (some (b, 0)) sz n cap) src = some (.slice (some (L.length, 0)) sz (n + k) none, ⟨killL L b (decide (cap = some 0 ∧ 0 < k)) ++ [.cells (cs ++ new) true], e⟩) := by
  unfold appendV
  simp only [hb, hs]
  rw [if_pos ⟨trivial, hm, hnew, by omega⟩]
  by_cases h : cap = some 0 ∧ 0 < k
  · have hn := hcap h.1
    subst hn
    have : cs = [] := List.eq_nil_of_length_eq_zero (by omega)
    subst this
    rw [if_pos h]
    simp [killL, h]
  · rw [if_neg h, if_pos trivial, List.drop_zero, List.take_of_length_le (by omega)]
    simp [killL, h]

/-- one element more -/
theorem apOne {L : List Blk} {b q sz bytes n : Nat} {cs new : List AV} {cap c : Option Nat} (hb : L[b]? = some (.cells cs true)) (hq : cellsAt L q = some new) (hcs : cs.length = n * sz) (hnew : new.length = sz) (hm : (n + 1) * bytes ≤ maxBytes) (hcap : cap = some 0 → n = 0) :
    appendV L e false sz bytes (.slice (some (b, 0)) sz n cap) (.slice (some (q, 0)) sz 1 c) = some (.slice (some (L.length, 0)) sz (n + 1) none, ⟨killL L b (decide (cap = some 0)) ++ [.cells (cs ++ new) true], e⟩) := by
  have := apG (e := e) (bytes := bytes) (cap := cap) hb (src_new L 1 sz c new q hq (by omega)) hcs (by omega) hm hcap
  rw [this]
  simp

/-- a memory that has grown -/
def Grown (H L : List Blk) : Prop := ∃ G, L = H ++ G

theorem Grown.refl (H : List Blk) : Grown H H := ⟨[], by simp⟩
theorem Grown.le {H L : List Blk} (h : Grown H L) : H.length ≤ L.length := by
  obtain ⟨G, rfl⟩ := h
  simp
theorem Grown.more {H L : List Blk} (h : Grown H L) (X : List Blk) : Grown H (L ++ X) := by
  obtain ⟨G, rfl⟩ := h
  exact ⟨G ++ X, by simp⟩
theorem Grown.put {H L : List Blk} (h : Grown H L) {b : Nat} (hb : H.length ≤ b) (x : Blk) : Grown H (L.set b x) := by
  obtain ⟨G, rfl⟩ := h
  exact ⟨G.set (b - H.length) x, List.set_append_right _ _ hb⟩
theorem Grown.kill {H L : List Blk} (h : Grown H L) {b : Nat} (hb : H.length ≤ b) (k : Bool) : Grown H (killL L b k) := by
  unfold killL
  split
  · exact h
  · exact h.put hb _
theorem Grown.cur {H L : List Blk} {q : Nat} {x : Blk} (h : Grown (H.set q x) L) (hq : q < H.length) (y : Blk) : Grown (H.set q y) (L.set q y) := by
  obtain ⟨G, rfl⟩ := h
  exact ⟨G, by rw [List.set_append_left _ _ (by simpa using hq), List.set_set]⟩
theorem Grown.get {H L : List Blk} (h : Grown H L) {i : Nat} (hi : i < H.length) : L[i]? = H[i]? := by
  obtain ⟨G, rfl⟩ := h
  exact List.getElem?_append_left hi
theorem Grown.cells {H L : List Blk} {q : Nat} {x : Blk} (h : Grown (H.set q x) L) {b : Nat} {cs : List AV} (hb : cellsAt H b = some cs) (hne : b ≠ q) : cellsAt L b = some cs := by
  have hl : b < H.length := by
    unfold cellsAt at hb
    rcases Nat.lt_or_ge b H.length with h | h
    · exact h
    · rw [List.getElem?_eq_none h] at hb; cases hb
  unfold cellsAt at hb ⊢
  rw [h.get (by simpa using hl), List.getElem?_set_ne (fun e => hne e.symm)]
  exact hb
theorem Grown.curs {H L : List Blk} {q : Nat} {av : AV} {p y z : Int} (h : Grown (H.set q (curB av y z)) L) (hc : Cu H q av p) (hy : 0 ≤ y) : Cu L q av y := by
  obtain ⟨G, rfl⟩ := h
  exact (hc.step hy z).more G

/-- some elements more: what is known behind it -/
theorem wc_ap {L : List Blk} {b sz bytes n k : Nat} {cs new : List AV} {cap : Option Nat} {src : AV} {Q : AV → Mem → Prop} (hb : L[b]? = some (.cells cs true)) (hs : srcCells false L src = some (k, new)) (hcs : cs.length = n * sz) (hnew : new.length = k * sz) (hm : (n + k) * bytes ≤ maxBytes) (hcap : cap = some 0 → n = 0)
    (hQ : ∀ L' : List Blk, L'.length = L.length + 1 → (∀ i, i ≠ b → i < L.length → L'[i]? = L[i]?) → L'[L.length]? = some (.cells (cs ++ new) true) → (∀ H0, Grown H0 L → H0.length ≤ b → Grown H0 L') → Q (.slice (some (L.length, 0)) sz (n + k) none) ⟨L', e⟩) :
    Wc (appendV L e false sz bytes (.slice (some (b, 0)) sz n cap) src) Q := by
  refine Wc.of_eq (apG hb hs hcs hnew hm hcap) (hQ _ ?_ ?_ ?_ ?_)
  · rw [List.length_append, killL_length]; rfl
  · intro i h1 h2
    rw [List.getElem?_append_left (by rw [killL_length]; exact h2), killL_get _ h1]
  · have hl := killL_length L b (decide (cap = some 0 ∧ 0 < k))
    rw [List.getElem?_append_right (by omega), hl, Nat.sub_self]
    rfl
  · exact fun H0 hg hb => (hg.kill hb _).more _

theorem set_self_at {L : List Blk} {q : Nat} {x : Blk} (h : L[q]? = some x) : L.set q x = L := by
  obtain ⟨hlt, he⟩ := List.getElem?_eq_some_iff.mp h
  rw [← he, List.set_getElem_self]

/-- the end of a call that hands back one list, of a memory that has grown -/
theorem finish_sl {L : List Blk} {b sz n : Nat} {c : Option Nat} {cs : List AV} {w : Bool} (hL : Grown H L) (e0 e1 : Option Nat) (hc : clean H.length e1 = true) (hb : H.length ≤ b) (hG : L[b]? = some (.cells cs w)) (hu : (cs.all fun c => c.under H.length) = true) :
    finish 2 H.length e0 (.slice (some (b, 0)) sz n c) ⟨L, e1⟩ = some (.slice (some (H.length, 0)) sz n c, ⟨H ++ [.cells cs w], e0⟩) := by
  obtain ⟨G, rfl⟩ := hL
  obtain ⟨j, rfl⟩ : ∃ j, b = H.length + j := ⟨b - H.length, by omega⟩
  have hlt : ¬ H.length + j < H.length := by omega
  have hr : dedup (AV.roots H.length (.slice (some (H.length + j, 0)) sz n c)) = [H.length + j] := by simp [AV.roots, dedup, hlt]
  unfold finish
  simp only [hr]
  have h2 : ([H.length + j].all fun b => flatBlk H.length (H ++ G)[b]?) = true := by
    simp only [List.all_cons, List.all_nil, Bool.and_true, hG, flatBlk, hu]
  simp only [hc, h2, and_self, if_true]
  simp [AV.rename, renum, hlt, hG]

theorem finish_sl_set {q : Nat} {X : Blk} {L : List Blk} {b sz n : Nat} {c : Option Nat} {cs : List AV} {w : Bool} (hL : Grown (H.set q X) L) (e0 e1 : Option Nat) (hc : clean H.length e1 = true) (hb : H.length ≤ b) (hG : L[b]? = some (.cells cs w)) (hu : (cs.all fun c => c.under H.length) = true) :
    finish 2 H.length e0 (.slice (some (b, 0)) sz n c) ⟨L, e1⟩ = some (.slice (some (H.length, 0)) sz n c, ⟨H.set q X ++ [.cells cs w], e0⟩) := by
  have hl : (H.set q X).length = H.length := List.length_set
  have := finish_sl (H := H.set q X) (sz := sz) (n := n) (c := c) hL e0 e1 (by rw [hl]; exact hc) (by rw [hl]; exact hb) hG (by rw [hl]; exact hu)
  rw [hl] at this
  exact this

/-- the end of a call that hands back something plain and two lists -/
theorem finish_sl2 {L : List Blk} {b1 b2 s1 s2 n1 n2 : Nat} {c1 c2 : Option Nat} {cs1 cs2 : List AV} {w1 w2 : Bool} (v0 : AV) (h0 : AV.roots H.length v0 = []) (h0' : ∀ f, AV.rename f v0 = v0) (hL : Grown H L) (e0 e1 : Option Nat) (hc : clean H.length e1 = true) (hb1 : H.length ≤ b1) (hb2 : H.length ≤ b2) (hne : b1 ≠ b2)
    (h1 : L[b1]? = some (.cells cs1 w1)) (h2 : L[b2]? = some (.cells cs2 w2)) (u1 : (cs1.all fun c => c.under H.length) = true) (u2 : (cs2.all fun c => c.under H.length) = true) :
    finish 2 H.length e0 (.tup [v0, .slice (some (b1, 0)) s1 n1 c1, .slice (some (b2, 0)) s2 n2 c2]) ⟨L, e1⟩ = some (.tup [v0, .slice (some (H.length, 0)) s1 n1 c1, .slice (some (H.length + 1, 0)) s2 n2 c2], ⟨H ++ [.cells cs1 w1, .cells cs2 w2], e0⟩) := by
  obtain ⟨G, rfl⟩ := hL
  have hlt1 : ¬ b1 < H.length := by omega
  have hlt2 : ¬ b2 < H.length := by omega
  have hr : dedup (AV.roots H.length (.tup [v0, .slice (some (b1, 0)) s1 n1 c1, .slice (some (b2, 0)) s2 n2 c2])) = [b1, b2] := by
    simp only [AV.roots, AV.roots.go, h0, if_neg hlt1, if_neg hlt2, List.nil_append, List.cons_append, List.append_nil]
    simp [dedup, hne, Ne.symm hne]
  unfold finish
  simp only [hr]
  have h3 : ([b1, b2].all fun b => flatBlk H.length (H ++ G)[b]?) = true := by
    simp only [List.all_cons, List.all_nil, Bool.and_true, h1, h2, flatBlk, u1, u2, Bool.and_self]
  simp only [hc, h3, and_self, if_true]
  have hq : (b1 == b2) = false := by simpa using hne
  have hq' : (b2 == b1) = false := by simpa using Ne.symm hne
  simp [AV.rename, AV.rename.go, h0', renum, h1, h2, hlt1, hlt2, List.idxOf_cons, hq, hq']

/-- the end of a call that hands back something plain and a list -/
theorem finish_sl1 {L : List Blk} {b1 s1 n1 : Nat} {c1 : Option Nat} {cs1 : List AV} {w1 : Bool} (v0 : AV) (h0 : AV.roots H.length v0 = []) (h0' : ∀ f, AV.rename f v0 = v0) (hL : Grown H L) (e0 e1 : Option Nat) (hc : clean H.length e1 = true) (hb1 : H.length ≤ b1)
    (h1 : L[b1]? = some (.cells cs1 w1)) (u1 : (cs1.all fun c => c.under H.length) = true) :
    finish 2 H.length e0 (.tup [v0, .slice (some (b1, 0)) s1 n1 c1]) ⟨L, e1⟩ = some (.tup [v0, .slice (some (H.length, 0)) s1 n1 c1], ⟨H ++ [.cells cs1 w1], e0⟩) := by
  obtain ⟨G, rfl⟩ := hL
  have hlt1 : ¬ b1 < H.length := by omega
  have hr : dedup (AV.roots H.length (.tup [v0, .slice (some (b1, 0)) s1 n1 c1])) = [b1] := by
    simp only [AV.roots, AV.roots.go, h0, if_neg hlt1, List.nil_append, List.cons_append, List.append_nil]
    simp [dedup]
  unfold finish
  simp only [hr]
  have h3 : ([b1].all fun b => flatBlk H.length (H ++ G)[b]?) = true := by
    simp only [List.all_cons, List.all_nil, Bool.and_true, h1, flatBlk, u1, Bool.and_self]
  simp only [hc, h3, and_self, if_true]
  simp [AV.rename, AV.rename.go, h0', renum, h1, hlt1]

theorem e_l_rBig (p : Option (Nat × Nat)) (sz n : Nat) (c : Option Nat) : call T pr f_l_rBig [.slice p sz n c] ⟨H, e⟩ = some (.bool (decide ((65536 : Int) < (n : Int))), ⟨H, e⟩) := by
  rw [call_eq t_l_rBig]
  simp +contextual only [a_l_rBig, c_l_rBig, gt_iff_lt, go_sem, entry, joinEsc, if_pos, reduceIte, Nat.reduceAdd, Nat.reduceLeDiff, Nat.reduceLT, Nat.reduceEqDiff]

end Go.Proofs.Ythkgpblohjpcdaa.Slim
