/- The safe moves of a party. -/
import Derived.Test.YthkgpblohjpcdaaSlimE38
namespace Go.Proofs.Ythkgpblohjpcdaa.Slim

open Go

set_option linter.unusedSimpArgs false

set_option linter.unusedVariables false

variable {pr : Prims} {H : List Blk} {e : Option Nat}

/-- one person at another place -/
def movd : List Ld → Nat → Int → List Ld
  | [], _, _ => []
  | l :: ls, 0, p => (p, l.2) :: ls
  | l :: ls, i + 1, p => l :: movd ls i p

theorem movd_length : ∀ (ls : List Ld) (i : Nat) (p : Int), (movd ls i p).length = ls.length
  | [], _, _ => rfl
  | l :: ls, 0, p => rfl
  | l :: ls, i + 1, p => by simp [movd, movd_length ls i p]

theorem movd_split {ls : List Ld} {i : Nat} (p : Int) (hi : i < ls.length) : ∃ P l R, ls = P ++ l :: R ∧ P.length = i ∧ ls[i]? = some l ∧ movd ls i p = P ++ (p, l.2) :: R := by
  induction ls generalizing i with
  | nil => simp at hi
  | cons l ls ih =>
    cases i with
    | zero => exact ⟨[], l, ls, rfl, rfl, rfl, rfl⟩
    | succ i =>
      obtain ⟨P, l', R, h1, h2, h3, h4⟩ := ih (by simpa using hi)
      exact ⟨l :: P, l', R, by rw [h1]; rfl, by simp [h2], by simpa using h3, by rw [movd, h4]; rfl⟩

theorem putL_set : ∀ (ls : List Ld) (ss : List Int) (i : Nat) (p : Int), i < ls.length → ls.length ≤ ss.length → putL ls (ss.set i p) = movd (putL ls ss) i p
  | [], ss, i, p, hi, hl => by simp at hi
  | l :: ls, [], i, p, hi, hl => by simp at hl
  | l :: ls, s :: ss, 0, p, hi, hl => rfl
  | l :: ls, s :: ss, i + 1, p, hi, hl => by
    have := putL_set ls ss i p (by simpa using hi) (by simpa using hl)
    simp [putL, movd, this]

theorem setRange_movd {ls : List Ld} {i : Nat} (p : Int) (hi : i < ls.length) : setRange (encL ls) (i * 2) [.int .i64 p] = encL (movd ls i p) := by
  obtain ⟨P, l, R, h1, h2, _, h4⟩ := movd_split p hi
  rw [h4, h1, ← h2]
  exact setRange_midL0 P R l p

/-- is it a place on the plank, and do they rest there? -/
def okMv (x a b : Int) (ls : List Ld) (i : Nat) (p : Int) : Bool := (decide (0 ≤ p) && decide (p ≤ x)) && decide (sideW (movd ls i p) a b = 0)

def plOf (ls : List Ld) (i : Nat) : Int := (ls[i]?.getD (0, 0)).1

/-- is a move safe? -/
def safeMv (x a b : Int) (ls : List Ld) (s i p : Int) : Bool := ((decide (0 ≤ i) && decide (i ≤ (ls.length : Int) - 1)) && (decide (0 ≤ p) && decide (p ≤ x))) && ((decide (wr (p - plOf ls i.toNat) = s) || decide (wr (p - plOf ls i.toNat) = wr (0 - s))) && decide (sideW (movd ls i.toNat p) a b = 0))

theorem at02 : ((0 : Int) ≤ 0 ∧ (0 : Int) < ((2 : Nat) : Int)) = True := by simp

theorem at12 : ((0 : Int) ≤ 1 ∧ (1 : Int) < ((2 : Nat) : Int)) = True := by simp

theorem toNat0 : Int.toNat 0 = 0 := rfl

theorem toNat1 : Int.toNat 1 = 1 := rfl

theorem e_s_l11Moved {q : Nat} {c : Option Nat} {ls : List Ld} (h : cellsAt H q = some (encL ls)) (hn : ls.length ≤ 3) (x a b s p : Int) {i : Nat} (hi : i < ls.length) : call T pr f_s_l11Moved [ptV x a b (slL q ls.length c) s, .agg [.int .i64 i, .int .i64 p]] ⟨H, e⟩ =
    some (ptV x a b (slL H.length ls.length none) s, ⟨H ++ [.cells (encL (movd ls i p)) true], e⟩) := by
  have ha1 := fun L b e' (hb : L[b]? = some (.cells [] true)) hq => append_all (e := e') (L := L) (b := b) (q := q) (n := ls.length) (sz := 2) (bytes := 16) (c := c) (cs := encL ls) hb hq (encL_length ls) (by unfold maxBytes; omega)
  have hf : ∀ (B0 B1 B2 B3 B5 : Blk) (e0 e1 : Option Nat), clean H.length e1 = true → finish 2 H.length e0 (ptV x a b (slL (H.length + 4) ls.length none) s) ⟨H ++ [B0, B1, B2, B3, .cells (encL (movd ls i p)) true, B5], e1⟩ = some (ptV x a b (slL H.length ls.length none) s, ⟨H ++ [.cells (encL (movd ls i p)) true], e0⟩) :=
    fun B0 B1 B2 B3 B5 e0 e1 hc => finish_party _ a b s e0 e1 hc rfl (under_encL _ _)
  have ql : q < H.length + 3 := by have := cellsAt_lt h; omega
  have hle : i * 2 + 1 ≤ (encL ls).length := by rw [encL_length]; omega
  have hle2 : i * 2 + 2 ≤ (encL ls).length := by rw [encL_length]; omega
  rw [call_eq t_s_l11Moved]
  simp +contextual only [at02, at12, toNat0, toNat1, a_s_l11Moved, c_s_l11Moved, fillParts, ha1, hi, hle, hle2, setRange_movd p hi, cells_mono h, kill0_new, kill0_cons, kill0_0, hf, ql, under_slice, Nat.add_assoc, Nat.add_lt_add_iff_left, Nat.lt_irrefl, decide_false, clean_minEsc, clean_none, Nat.le_add_right, Nat.le_refl, decide_true, go_sem, entry, joinEsc, if_pos, reduceIte, Nat.reduceAdd, Nat.reduceLeDiff, Nat.reduceLT, Nat.reduceEqDiff]

theorem e_s_l11Safe {q : Nat} {c : Option Nat} {ls : List Ld} (h : cellsAt H q = some (encL ls)) (hn : ls.length ≤ 3) (x a b s i p : Int) : call T pr f_s_l11Safe [ptV x a b (slL q ls.length c) s, .agg [.int .i64 i, .int .i64 p]] ⟨H, e⟩ =
    some (.bool (safeMv x a b ls s i p), ⟨H, e⟩) := by
  have hw1 : IntKind.i64.wrap ((ls.length : Int) - 1) = (ls.length : Int) - 1 := wrap64 (by omega) (by omega)
  rw [call_eq t_s_l11Safe]
  unfold safeMv
  cases h1 : (decide (0 ≤ i) && decide (i ≤ (ls.length : Int) - 1)) with
  | false => simp +contextual only [at02, at12, toNat0, toNat1, a_s_l11Safe, c_s_l11Safe, e_s_l1In, hw1, h1, go_sem, entry, joinEsc, if_pos, reduceIte, Nat.reduceAdd, Nat.reduceLeDiff, Nat.reduceLT, Nat.reduceEqDiff]
  | true =>
    cases h2 : (decide (0 ≤ p) && decide (p ≤ x)) with
    | false => simp +contextual only [at02, at12, toNat0, toNat1, a_s_l11Safe, c_s_l11Safe, e_s_l1In, hw1, h1, h2, Bool.and_false, go_sem, entry, joinEsc, if_pos, reduceIte, Nat.reduceAdd, Nat.reduceLeDiff, Nat.reduceLT, Nat.reduceEqDiff]
    | true =>
      have hb : 0 ≤ i ∧ i ≤ (ls.length : Int) - 1 := by simpa using h1
      obtain ⟨k, rfl⟩ : ∃ k : Nat, i = k := ⟨i.toNat, by omega⟩
      have hi : k < ls.length := by omega
      have hl : ls[k]? = some ls[k] := List.getElem?_eq_getElem hi
      have hp : plOf ls k = ls[k].1 := by unfold plOf; rw [hl]; rfl
      have hmv := fun G => e_s_l11Moved (pr := pr) (e := none) (c := c) (cells_mono h G) hn x a b s p hi
      have hrs := fun L q' c' (h : cellsAt L q' = some (encL (movd ls k p))) => e_s_l11Rests (pr := pr) (e := none) (c := c') h (by rw [movd_length]; omega) x a b s
      simp only [movd_length] at hrs
      rw [Int.toNat_natCast, hp]
      unfold wr
      generalize hfar : IntKind.i64.wrap (p - ls[k].1) = far
      cases h3 : decide (far = s) with
      | true =>
        simp +contextual only [at02, at12, toNat0, toNat1, a_s_l11Safe, c_s_l11Safe, e_s_l1In, hw1, hb.2, h1, h2, hi, cells_mono h, part_encL0 _ hl, hfar, h3, hmv, hrs, Nat.add_assoc, decide_true, Bool.true_or, go_sem, entry, joinEsc, if_pos, reduceIte, Nat.reduceAdd, Nat.reduceLeDiff, Nat.reduceLT, Nat.reduceEqDiff]
      | false =>
        cases h4 : decide (far = IntKind.i64.wrap (0 - s)) with
        | true =>
          simp +contextual only [at02, at12, toNat0, toNat1, a_s_l11Safe, c_s_l11Safe, e_s_l1In, hw1, hb.2, h1, h2, hi, cells_mono h, part_encL0 _ hl, hfar, h3, h4, hmv, hrs, Nat.add_assoc, decide_true, Bool.false_or, go_sem, entry, joinEsc, if_pos, reduceIte, Nat.reduceAdd, Nat.reduceLeDiff, Nat.reduceLT, Nat.reduceEqDiff]
        | false =>
          simp +contextual only [at02, at12, toNat0, toNat1, a_s_l11Safe, c_s_l11Safe, e_s_l1In, hw1, hb.2, h1, h2, hi, cells_mono h, part_encL0 _ hl, hfar, h3, h4, Nat.add_assoc, decide_true, Bool.false_or, go_sem, entry, joinEsc, if_pos, reduceIte, Nat.reduceAdd, Nat.reduceLeDiff, Nat.reduceLT, Nat.reduceEqDiff]

theorem append_ld2 {G : List Blk} {B : Blk} {j : Nat} {o : List Ld} {cap : Option Nat} (hG : G[j]? = some (.cells (encL o) true)) (hcap : cap = some 0 → o = []) (hmb : (o.length + 1) * 16 ≤ maxBytes) (a b : Int) :
    appendV (H ++ (G ++ [B, .cells [.int .i64 a, .int .i64 b] true])) e false 2 16 (slL (H.length + j) o.length cap) (.slice (some (H.length + (G.length + 1), 0)) 2 1 (some 1)) =
      some (slL (H.length + (G.length + 2)) (o.length + 1) none, ⟨H ++ (killIf cap j (G ++ [B, .cells [.int .i64 a, .int .i64 b] true]) ++ [.cells (encL o ++ [.int .i64 a, .int .i64 b]) true]), e⟩) := by
  have hj : j < G.length := (List.getElem?_eq_some_iff.mp hG).1
  have h := append_ld (H := H) (e := e) (G := G ++ [B]) (j := j) (o := o) (cap := cap) (by rw [List.getElem?_append_left hj]; exact hG) hcap hmb a b
  simpa [Nat.add_assoc] using h

/-- the safe ones of some moves of one person -/
def selM (x a b : Int) (ls : List Ld) (i : Nat) (ps : List Int) : List Ld := (ps.filter (okMv x a b ls i)).map fun p => ((i : Int), p)

theorem selM_cons (x a b : Int) (ls : List Ld) (i : Nat) (p : Int) (ps : List Int) : selM x a b ls i (p :: ps) = if okMv x a b ls i p = true then ((i : Int), p) :: selM x a b ls i ps else selM x a b ls i ps := by
  unfold selM
  cases h : okMv x a b ls i p <;> simp [h]

theorem set3 {s0 s1 s2 p : Int} {i : Nat} (hi : i < 3) : ∃ t0 t1 t2, [s0, s1, s2].set i p = [t0, t1, t2] ∧ setRange [.int .i64 s0, .int .i64 s1, .int .i64 s2] i [.int .i64 p] = [.int .i64 t0, .int .i64 t1, .int .i64 t2] := by
  match i, hi with
  | 0, _ => exact ⟨p, s1, s2, rfl, rfl⟩
  | 1, _ => exact ⟨s0, p, s2, rfl, rfl⟩
  | 2, _ => exact ⟨s0, s1, p, rfl, rfl⟩

theorem loop_i_moves_1 {q u sb i n : Nat} {c : Option Nat} {ls : List Ld} {x a b s s0 s1 s2 p0 p1 : Int} {y0 y1 y4 y9 y10 y11 : AV} (h : cellsAt H q = some (encL ls)) (hn : ls.length ≤ 3) (hi : i < ls.length) (hu : cellsAt H u = some [.int .i64 x, .int .i64 a, .int .i64 b, slL q ls.length c, .int .i64 s]) (hs : cellsAt H sb = some [.int .i64 s0, .int .i64 s1, .int .i64 s2]) :
    ∀ (k j : Nat) (o : List Ld) (jb : Nat) (cap : Option Nat) (G : List Blk) (y7 y8 y14 y15 : AV), k + j = 2 → o.length + k ≤ 1000 → G[jb]? = some (.cells (encL o) true) → (cap = some 0 → o = []) →
      ∃ (jb' : Nat) (cap' : Option Nat) (G' : List Blk) (z7 z8 z14 z15 : AV), G'[jb']? = some (.cells (encL (o ++ selM x a b (putL ls [s0, s1, s2]) i ([p0, p1].drop j))) true) ∧ (cap' = some 0 → o ++ selM x a b (putL ls [s0, s1, s2]) i ([p0, p1].drop j) = []) ∧
      run T pr (.loop w_i_Party_moves_1) ⟨[y0, y1, .ptr (some (u, 0)), .ptr (some (sb, 0)), y4, slL (H.length + jb) o.length cap, .int .i64 i, y7, y8, y9, y10, y11, .agg [.int .i64 p0, .int .i64 p1], .int .i64 j, y14, y15], ⟨H ++ G, e⟩⟩ =
        some (Ex.exit 2, ⟨[y0, y1, .ptr (some (u, 0)), .ptr (some (sb, 0)), y4, slL (H.length + jb') (o ++ selM x a b (putL ls [s0, s1, s2]) i ([p0, p1].drop j)).length cap', .int .i64 i, z7, z8, y9, y10, y11, .agg [.int .i64 p0, .int .i64 p1], .int .i64 (2 : Nat), z14, z15], ⟨H ++ G', e⟩⟩)
  | 0, j, o, jb, cap, G, y7, y8, y14, y15, hk, ho, hG, hcap => by
    obtain rfl : j = 2 := by omega
    have h0 : o ++ selM x a b (putL ls [s0, s1, s2]) i ([p0, p1].drop 2) = o := by simp [selM]
    rw [h0]
    refine ⟨jb, cap, G, y7, y8, .bool false, y15, hG, hcap, ?_⟩
    rw [run_loop]
    generalize run T pr (.loop w_i_Party_moves_1) = R
    have h2 : ¬ ((2 : Nat) : Int) < 2 := by omega
    simp +contextual only [w_i_Party_moves_1, h2, decide_false, go_sem, entry, joinEsc, if_pos, reduceIte, Nat.reduceAdd, Nat.reduceLeDiff, Nat.reduceLT, Nat.reduceEqDiff]
  | k + 1, j, o, jb, cap, G, y7, y8, y14, y15, hk, ho, hG, hcap => by
    have hj : j < 2 := by omega
    have hj2 : (j : Int) < 2 := by omega
    obtain ⟨p, hdrop, hpart⟩ : ∃ p, [p0, p1].drop j = p :: [p0, p1].drop (j + 1) ∧ part false [AV.int .i64 p0, AV.int .i64 p1] j 1 = some (.int .i64 p) := by
      match j, hj with
      | 0, _ => exact ⟨p0, rfl, rfl⟩
      | 1, _ => exact ⟨p1, rfl, rfl⟩
    obtain ⟨t0, t1, t2, ht, hset⟩ := set3 (s0 := s0) (s1 := s1) (s2 := s2) (p := p) (show i < 3 by omega)
    have hput : putL ls [t0, t1, t2] = movd (putL ls [s0, s1, s2]) i p := by rw [← ht]; exact putL_set ls _ i p hi hn
    have hrest := fun G' => e_i_Party_rests (pr := pr) (e := e) (c := c) (cells_mono h G') hn x a b s t0 t1 t2
    rw [hput] at hrest
    have hi3 : i < 3 := by omega
    have hle : i + 1 ≤ 3 := by omega
    have hmb : (o.length + 1) * 16 ≤ maxBytes := by unfold maxBytes; omega
    rw [run_loop, hdrop, selM_cons]
    have hokd : okMv x a b (putL ls [s0, s1, s2]) i p = ((decide (0 ≤ p) && decide (p ≤ x)) && decide (sideW (movd (putL ls [s0, s1, s2]) i p) a b = 0)) := rfl
    by_cases hok : okMv x a b (putL ls [s0, s1, s2]) i p = true
    · rw [if_pos hok]
      obtain ⟨jb', cap', G', z7, z8, z14, z15, h1, h2, ih⟩ := loop_i_moves_1 (y0 := y0) (y1 := y1) (y4 := y4) (y9 := y9) (y10 := y10) (y11 := y11) (p0 := p0) (p1 := p1) (n := n) h hn hi hu hs k (j + 1) (o ++ [((i : Int), p)]) (G.length + 2) none
        (killIf cap jb (G ++ [.cells [.int .i64 t0, .int .i64 t1, .int .i64 t2] true, .cells [.int .i64 i, .int .i64 p] true]) ++ [.cells (encL (o ++ [((i : Int), p)])) true]) (.int .i64 p) (.ptr (some (H.length + G.length, 0))) (.bool true) (.bool true) (by omega) (by simp; omega) (by
          rw [List.getElem?_append_right (by simp [killIf_length])]; simp [killIf_length]) (by simp)
      rw [List.append_assoc, List.singleton_append] at h1 ih h2
      refine ⟨jb', cap', G', z7, z8, z14, z15, h1, h2, ?_⟩
      rw [hokd] at hok
      obtain ⟨hok1, hok2⟩ := Bool.and_eq_true_iff.mp hok
      rw [hok2] at hrest
      generalize run T pr (.loop w_i_Party_moves_1) = R at ih ⊢
      simp +contextual only [w_i_Party_moves_1, fillParts, hj, hj2, hpart, cells_mono hu, cells_mono hs, hi3, hle, hset, e_i_within, hok1, hrest, cells_end, set_end, append_ld2 hG hcap hmb, wrap_succ (show j < 9223372036854775807 by omega), decide_true, decide_false, go_sem, entry, joinEsc, if_pos, reduceIte, Nat.reduceAdd, Nat.reduceLeDiff, Nat.reduceLT, Nat.reduceEqDiff]
      simp only [List.length_append, List.length_cons, List.length_nil, Nat.zero_add, encL_append, encL] at ih
      exact ih
    · rw [if_neg hok]
      have hfalse : okMv x a b (putL ls [s0, s1, s2]) i p = false := by simpa using hok
      obtain ⟨jb', cap', G', z7, z8, z14, z15, h1, h2, ih⟩ := loop_i_moves_1 (y0 := y0) (y1 := y1) (y4 := y4) (y9 := y9) (y10 := y10) (y11 := y11) (p0 := p0) (p1 := p1) (n := n) h hn hi hu hs k (j + 1) o jb cap
        (G ++ [.cells [.int .i64 t0, .int .i64 t1, .int .i64 t2] true]) (.int .i64 p) (.ptr (some (H.length + G.length, 0))) (.bool true) (.bool false) (by omega) (by omega) (by
          rw [List.getElem?_append_left (List.getElem?_eq_some_iff.mp hG).1]; exact hG) hcap
      refine ⟨jb', cap', G', z7, z8, z14, z15, h1, h2, ?_⟩
      rw [hokd] at hfalse
      generalize run T pr (.loop w_i_Party_moves_1) = R at ih ⊢
      cases hok1 : (decide (0 ≤ p) && decide (p ≤ x)) with
      | false =>
        simp +contextual only [w_i_Party_moves_1, fillParts, hj, hj2, hpart, cells_mono hu, cells_mono hs, hi3, hle, hset, e_i_within, hok1, cells_end, set_end, wrap_succ (show j < 9223372036854775807 by omega), decide_true, decide_false, go_sem, entry, joinEsc, if_pos, reduceIte, Nat.reduceAdd, Nat.reduceLeDiff, Nat.reduceLT, Nat.reduceEqDiff]
        simp only [List.length_append] at ih
        exact ih
      | true =>
        rw [hok1, Bool.true_and] at hfalse
        rw [hfalse] at hrest
        simp +contextual only [w_i_Party_moves_1, fillParts, hj, hj2, hpart, cells_mono hu, cells_mono hs, hi3, hle, hset, e_i_within, hok1, hrest, cells_end, set_end, wrap_succ (show j < 9223372036854775807 by omega), decide_true, decide_false, go_sem, entry, joinEsc, if_pos, reduceIte, Nat.reduceAdd, Nat.reduceLeDiff, Nat.reduceLT, Nat.reduceEqDiff]
        simp only [List.length_append] at ih
        exact ih

/-- all safe moves -/
def mvsFrom (x a b s : Int) (ls : List Ld) : Nat → Nat → List Ld
  | 0, _ => []
  | k + 1, i => selM x a b ls i [wr (plOf ls i - s), wr (plOf ls i + s)] ++ mvsFrom x a b s ls k (i + 1)

theorem selM_le (x a b : Int) (ls : List Ld) (i : Nat) (ps : List Int) : (selM x a b ls i ps).length ≤ ps.length := by
  unfold selM
  rw [List.length_map]
  exact List.length_filter_le _ _

theorem plOf_putL : ∀ (ls : List Ld) (ss : List Int) (i : Nat) (p : Int), i < ls.length → ss[i]? = some p → plOf (putL ls ss) i = p
  | [], ss, i, p, hi, hp => by simp at hi
  | l :: ls, [], i, p, hi, hp => by simp at hp
  | l :: ls, s :: ss, 0, p, hi, hp => by simp at hp; subst hp; rfl
  | l :: ls, s :: ss, i + 1, p, hi, hp => plOf_putL ls ss i p (by simpa using hi) (by simpa using hp)

theorem loop_i_moves_2 {q u sb : Nat} {c : Option Nat} {ls : List Ld} {x a b s s0 s1 s2 : Int} {y0 y1 y4 : AV} (h : cellsAt H q = some (encL ls)) (hn : ls.length ≤ 3) (hu : cellsAt H u = some [.int .i64 x, .int .i64 a, .int .i64 b, slL q ls.length c, .int .i64 s]) (hs : cellsAt H sb = some [.int .i64 s0, .int .i64 s1, .int .i64 s2]) :
    ∀ (k i : Nat) (o : List Ld) (jb : Nat) (cap : Option Nat) (G : List Blk) (y6 y7 y8 y11 y12 y13 y14 y15 : AV), k + i = ls.length → o.length + k * 2 ≤ 100 → G[jb]? = some (.cells (encL o) true) → (cap = some 0 → o = []) →
      ∃ (jb' : Nat) (cap' : Option Nat) (G' : List Blk) (z6 z7 z8 z11 z12 z13 z14 z15 : AV), G'[jb']? = some (.cells (encL (o ++ mvsFrom x a b s (putL ls [s0, s1, s2]) k i)) true) ∧
      run T pr (.loop w_i_Party_moves_2) ⟨[y0, y1, .ptr (some (u, 0)), .ptr (some (sb, 0)), y4, slL (H.length + jb) o.length cap, y6, y7, y8, .int .i64 ls.length, .int .i64 i, y11, y12, y13, y14, y15], ⟨H ++ G, e⟩⟩ =
        some (Ex.exit 0, ⟨[y0, y1, .ptr (some (u, 0)), .ptr (some (sb, 0)), y4, slL (H.length + jb') (o ++ mvsFrom x a b s (putL ls [s0, s1, s2]) k i).length cap', z6, z7, z8, .int .i64 ls.length, .int .i64 ls.length, z11, z12, z13, z14, z15], ⟨H ++ G', e⟩⟩)
  | 0, i, o, jb, cap, G, y6, y7, y8, y11, y12, y13, y14, y15, hk, ho, hG, hcap => by
    obtain rfl : i = ls.length := by omega
    refine ⟨jb, cap, G, y6, y7, y8, .bool false, y12, y13, y14, y15, by simpa [mvsFrom] using hG, ?_⟩
    rw [run_loop, mvsFrom, List.append_nil]
    generalize run T pr (.loop w_i_Party_moves_2) = R
    simp +contextual only [w_i_Party_moves_2, Nat.lt_irrefl, decide_false, go_sem, entry, joinEsc, if_pos, reduceIte, Nat.reduceAdd, Nat.reduceLeDiff, Nat.reduceLT, Nat.reduceEqDiff]
  | k + 1, i, o, jb, cap, G, y6, y7, y8, y11, y12, y13, y14, y15, hk, ho, hG, hcap => by
    have hi : i < ls.length := by omega
    have hi3 : i < 3 := by omega
    have hsi : [s0, s1, s2][i]? = some (plOf (putL ls [s0, s1, s2]) i) := by
      have h1 : [s0, s1, s2][i]? = some ([s0, s1, s2][i]'hi3) := List.getElem?_eq_getElem hi3
      rw [plOf_putL ls _ i _ hi h1, h1]
    have hpart : part false [AV.int .i64 s0, AV.int .i64 s1, AV.int .i64 s2] i 1 = some (.int .i64 (plOf (putL ls [s0, s1, s2]) i)) := part_encI 1 hsi
    obtain ⟨jb1, cap1, G1, w7, w8, w14, w15, g1, g2, hl⟩ := loop_i_moves_1 (pr := pr) (e := e) (n := ls.length) (y0 := y0) (y1 := y1) (y4 := y4) (y9 := .int .i64 ls.length) (y10 := .int .i64 i) (y11 := .bool true) (p0 := wr (plOf (putL ls [s0, s1, s2]) i - s)) (p1 := wr (plOf (putL ls [s0, s1, s2]) i + s)) h hn hi hu hs 2 0 o jb cap G y7 y8 y14 y15 rfl (by omega) hG hcap
    rw [List.drop_zero] at g1 g2 hl
    have hsel := selM_le x a b (putL ls [s0, s1, s2]) i [wr (plOf (putL ls [s0, s1, s2]) i - s), wr (plOf (putL ls [s0, s1, s2]) i + s)]
    simp only [List.length_cons, List.length_nil, Nat.zero_add] at hsel
    obtain ⟨jb', cap', G', z6, z7, z8, z11, z12, z13, z14, z15, h1, ih⟩ := loop_i_moves_2 (y0 := y0) (y1 := y1) (y4 := y4) h hn hu hs k (i + 1) (o ++ selM x a b (putL ls [s0, s1, s2]) i [wr (plOf (putL ls [s0, s1, s2]) i - s), wr (plOf (putL ls [s0, s1, s2]) i + s)]) jb1 cap1 G1 (.int .i64 i) w7 w8 (.bool true) (.agg [.int .i64 (wr (plOf (putL ls [s0, s1, s2]) i - s)), .int .i64 (wr (plOf (putL ls [s0, s1, s2]) i + s))]) (.int .i64 (2 : Nat)) w14 w15 (by omega) (by rw [List.length_append]; omega) g1 g2
    rw [List.append_assoc] at h1 ih
    refine ⟨jb', cap', G', z6, z7, z8, z11, z12, z13, z14, z15, h1, ?_⟩
    have h0 : ((0 : Nat) : Int) = 0 := rfl
    rw [run_loop, mvsFrom]
    unfold wr at *
    rw [h0] at hl
    generalize run T pr (.loop w_i_Party_moves_2) = R at ih ⊢
    generalize selM x a b (putL ls [s0, s1, s2]) i [IntKind.i64.wrap (plOf (putL ls [s0, s1, s2]) i - s), IntKind.i64.wrap (plOf (putL ls [s0, s1, s2]) i + s)] = sel at *
    generalize mvsFrom x a b s (putL ls [s0, s1, s2]) k (i + 1) = rest at *
    simp +contextual only [w_i_Party_moves_2, fillParts, hi, hi3, hpart, cells_mono hu, cells_mono hs, hl, wrap_succ (show i < 9223372036854775807 by omega), decide_true, decide_false, go_sem, entry, joinEsc, if_pos, reduceIte, Nat.reduceAdd, Nat.reduceLeDiff, Nat.reduceLT, Nat.reduceEqDiff]
    simp only [List.length_append] at ih
    exact ih

/-- how a party's places are bounded -/
def plB (ls : List Ld) : Prop := ∀ i, i < ls.length → 0 ≤ plOf ls i ∧ plOf ls i ≤ 60

theorem safe_ok {x a b s : Int} {ls : List Ld} {i : Nat} (hi : i < ls.length) (hpl : plB ls) (hs : 1 ≤ s ∧ s ≤ 4) {p : Int} (hp : p = wr (plOf ls i - s) ∨ p = wr (plOf ls i + s)) : safeMv x a b ls s i p = okMv x a b ls i p := by
  obtain ⟨h1, h2⟩ := hpl i hi
  have w1 : wr (plOf ls i - s) = plOf ls i - s := wrap64 (by omega) (by omega)
  have w2 : wr (plOf ls i + s) = plOf ls i + s := wrap64 (by omega) (by omega)
  have w3 : wr (0 - s) = - s := by show IntKind.i64.wrap (0 - s) = - s; rw [wrap64 (by omega) (by omega)]; omega
  have w4 : wr (p - plOf ls i) = p - plOf ls i := wrap64 (by omega) (by omega)
  have hr : (decide (0 ≤ (i : Int)) && decide ((i : Int) ≤ (ls.length : Int) - 1)) = true := by simp; omega
  unfold safeMv okMv
  rw [hr, Int.toNat_natCast, w3, w4, Bool.true_and]
  have : (decide (p - plOf ls i = s) || decide (p - plOf ls i = -s)) = true := by
    rw [w1, w2] at hp
    simp
    omega
  rw [this, Bool.true_and]

theorem loop_s_moves_1 {q u i : Nat} {c : Option Nat} {ls : List Ld} {x a b s : Int} {y0 y2 y7 : AV} (h : cellsAt H q = some (encL ls)) (hn : ls.length ≤ 3) (hi : i < ls.length) (hpl : plB ls) (hsb : 1 ≤ s ∧ s ≤ 4) (hu : cellsAt H u = some [.int .i64 x, .int .i64 a, .int .i64 b, slL q ls.length c, .int .i64 s]) :
    ∀ (k j : Nat) (o : List Ld) (jb : Nat) (cap : Option Nat) (G : List Blk) (y6 y8 y9 : AV), k + j = 2 → o.length + k ≤ 1000 → G[jb]? = some (.cells (encL o) true) → (cap = some 0 → o = []) →
      ∃ (jb' : Nat) (cap' : Option Nat) (G' : List Blk) (z5 z6 z8 z9 : AV), G'[jb']? = some (.cells (encL (o ++ selM x a b ls i ([wr (plOf ls i - s), wr (plOf ls i + s)].drop j))) true) ∧ (cap' = some 0 → o ++ selM x a b ls i ([wr (plOf ls i - s), wr (plOf ls i + s)].drop j) = []) ∧
      run T pr (.loop w_s_l11Moves_1) ⟨[y0, .ptr (some (u, 0)), y2, slL (H.length + jb) o.length cap, .int .i64 i, .int .i64 (2 * (j : Int) - 1), y6, y7, y8, y9], ⟨H ++ G, e⟩⟩ =
        some (Ex.exit 2, ⟨[y0, .ptr (some (u, 0)), y2, slL (H.length + jb') (o ++ selM x a b ls i ([wr (plOf ls i - s), wr (plOf ls i + s)].drop j)).length cap', .int .i64 i, z5, z6, y7, z8, z9], ⟨H ++ G', e⟩⟩)
  | 0, j, o, jb, cap, G, y6, y8, y9, hk, ho, hG, hcap => by
    obtain rfl : j = 2 := by omega
    have h0 : o ++ selM x a b ls i ([wr (plOf ls i - s), wr (plOf ls i + s)].drop 2) = o := by simp [selM]
    rw [h0]
    refine ⟨jb, cap, G, .int .i64 3, y6, .bool false, y9, hG, hcap, ?_⟩
    have h3 : 2 * ((2 : Nat) : Int) - 1 = 3 := rfl
    rw [run_loop, h3]
    generalize run T pr (.loop w_s_l11Moves_1) = R
    have h2 : ¬ (3 : Int) < 2 := by omega
    simp +contextual only [w_s_l11Moves_1, h2, decide_false, go_sem, entry, joinEsc, if_pos, reduceIte, Nat.reduceAdd, Nat.reduceLeDiff, Nat.reduceLT, Nat.reduceEqDiff]
  | k + 1, j, o, jb, cap, G, y6, y8, y9, hk, ho, hG, hcap => by
    have hj : j < 2 := by omega
    have hj2 : 2 * (j : Int) - 1 < 2 := by omega
    have hl : ls[i]? = some ls[i] := List.getElem?_eq_getElem hi
    have hp : plOf ls i = ls[i].1 := by unfold plOf; rw [hl]; rfl
    obtain ⟨p, hdrop, hpp, hpor⟩ : ∃ p, [wr (plOf ls i - s), wr (plOf ls i + s)].drop j = p :: [wr (plOf ls i - s), wr (plOf ls i + s)].drop (j + 1) ∧ IntKind.i64.wrap (ls[i].1 + IntKind.i64.wrap ((2 * (j : Int) - 1) * s)) = p ∧ (p = wr (plOf ls i - s) ∨ p = wr (plOf ls i + s)) := by
      rw [← hp]
      match j, hj with
      | 0, _ =>
        refine ⟨_, rfl, ?_, .inl rfl⟩
        have e1 : IntKind.i64.wrap ((2 * ((0 : Nat) : Int) - 1) * s) = -s := by
          rw [show (2 * ((0 : Nat) : Int) - 1) * s = -s by simp]
          exact wrap64 (by omega) (by omega)
        rw [e1]
        rfl
      | 1, _ =>
        refine ⟨_, rfl, ?_, .inr rfl⟩
        have e1 : IntKind.i64.wrap ((2 * ((1 : Nat) : Int) - 1) * s) = s := by
          rw [show (2 * ((1 : Nat) : Int) - 1) * s = s by simp]
          exact wrap64 (by omega) (by omega)
        rw [e1]
    have hsafe := fun G' => e_s_l11Safe (pr := pr) (e := e) (c := c) (cells_mono h G') hn x a b s i p
    rw [safe_ok hi hpl hsb hpor] at hsafe
    have hmb : (o.length + 1) * 16 ≤ maxBytes := by unfold maxBytes; omega
    have hw3 : IntKind.i64.wrap (2 * (j : Int) - 1 + 2) = 2 * ((j + 1 : Nat) : Int) - 1 := by rw [wrap64 (by omega) (by omega)]; omega
    rw [run_loop, hdrop, selM_cons]
    by_cases hok : okMv x a b ls i p = true
    · rw [if_pos hok]
      rw [hok] at hsafe
      obtain ⟨jb', cap', G', z5, z6, z8, z9, h1, h2, ih⟩ := loop_s_moves_1 (y0 := y0) (y2 := y2) (y7 := y7) h hn hi hpl hsb hu k (j + 1) (o ++ [((i : Int), p)]) (G.length + 2) none
        (killIf cap jb (G ++ [.cells [.int .i64 i, .int .i64 p] true, .cells [.int .i64 i, .int .i64 p] true]) ++ [.cells (encL (o ++ [((i : Int), p)])) true]) (.ptr (some (H.length + G.length, 0))) (.bool true) (.bool true) (by omega) (by simp; omega) (by
          rw [List.getElem?_append_right (by simp [killIf_length])]; simp [killIf_length]) (by simp)
      rw [List.append_assoc, List.singleton_append] at h1 ih h2
      refine ⟨jb', cap', G', z5, z6, z8, z9, h1, h2, ?_⟩
      generalize run T pr (.loop w_s_l11Moves_1) = R at ih ⊢
      simp +contextual only [w_s_l11Moves_1, fillParts, hj2, hi, hl, part_encL0 _ hl, hpp, hw3, cells_mono h, cells_mono hu, hsafe, cells_end, set_end, append_ld2 hG hcap hmb, decide_true, decide_false, go_sem, entry, joinEsc, if_pos, reduceIte, Nat.reduceAdd, Nat.reduceLeDiff, Nat.reduceLT, Nat.reduceEqDiff]
      simp only [List.length_append, List.length_cons, List.length_nil, Nat.zero_add, encL_append, encL] at ih
      exact ih
    · rw [if_neg hok]
      have hfalse : okMv x a b ls i p = false := by simpa using hok
      rw [hfalse] at hsafe
      obtain ⟨jb', cap', G', z5, z6, z8, z9, h1, h2, ih⟩ := loop_s_moves_1 (y0 := y0) (y2 := y2) (y7 := y7) h hn hi hpl hsb hu k (j + 1) o jb cap
        (G ++ [.cells [.int .i64 i, .int .i64 p] true]) (.ptr (some (H.length + G.length, 0))) (.bool true) (.bool false) (by omega) (by omega) (by
          rw [List.getElem?_append_left (List.getElem?_eq_some_iff.mp hG).1]; exact hG) hcap
      refine ⟨jb', cap', G', z5, z6, z8, z9, h1, h2, ?_⟩
      generalize run T pr (.loop w_s_l11Moves_1) = R at ih ⊢
      simp +contextual only [w_s_l11Moves_1, fillParts, hj2, hi, hl, part_encL0 _ hl, hpp, hw3, cells_mono h, cells_mono hu, hsafe, cells_end, set_end, decide_true, decide_false, go_sem, entry, joinEsc, if_pos, reduceIte, Nat.reduceAdd, Nat.reduceLeDiff, Nat.reduceLT, Nat.reduceEqDiff]
      simp only [List.length_append] at ih
      exact ih

theorem loop_s_moves_2 {q u : Nat} {c : Option Nat} {ls : List Ld} {x a b s : Int} {y0 y2 : AV} (h : cellsAt H q = some (encL ls)) (hn : ls.length ≤ 3) (hpl : plB ls) (hsb : 1 ≤ s ∧ s ≤ 4) (hu : cellsAt H u = some [.int .i64 x, .int .i64 a, .int .i64 b, slL q ls.length c, .int .i64 s]) :
    ∀ (k i : Nat) (o : List Ld) (jb : Nat) (cap : Option Nat) (G : List Blk) (y5 y6 y7 y8 y9 : AV), k + i = ls.length → o.length + k * 2 ≤ 100 → G[jb]? = some (.cells (encL o) true) → (cap = some 0 → o = []) →
      ∃ (jb' : Nat) (cap' : Option Nat) (G' : List Blk) (z5 z6 z7 z8 z9 : AV), G'[jb']? = some (.cells (encL (o ++ mvsFrom x a b s ls k i)) true) ∧
      run T pr (.loop w_s_l11Moves_2) ⟨[y0, .ptr (some (u, 0)), y2, slL (H.length + jb) o.length cap, .int .i64 i, y5, y6, y7, y8, y9], ⟨H ++ G, e⟩⟩ =
        some (Ex.exit 0, ⟨[y0, .ptr (some (u, 0)), y2, slL (H.length + jb') (o ++ mvsFrom x a b s ls k i).length cap', .int .i64 ls.length, z5, z6, z7, z8, z9], ⟨H ++ G', e⟩⟩)
  | 0, i, o, jb, cap, G, y5, y6, y7, y8, y9, hk, ho, hG, hcap => by
    obtain rfl : i = ls.length := by omega
    refine ⟨jb, cap, G, y5, y6, .bool false, y8, y9, by simpa [mvsFrom] using hG, ?_⟩
    rw [run_loop, mvsFrom, List.append_nil]
    generalize run T pr (.loop w_s_l11Moves_2) = R
    simp +contextual only [w_s_l11Moves_2, cells_mono hu, Nat.lt_irrefl, decide_false, go_sem, entry, joinEsc, if_pos, reduceIte, Nat.reduceAdd, Nat.reduceLeDiff, Nat.reduceLT, Nat.reduceEqDiff]
  | k + 1, i, o, jb, cap, G, y5, y6, y7, y8, y9, hk, ho, hG, hcap => by
    have hi : i < ls.length := by omega
    obtain ⟨jb1, cap1, G1, w5, w6, w8, w9, g1, g2, hl⟩ := loop_s_moves_1 (pr := pr) (e := e) (y0 := y0) (y2 := y2) (y7 := .bool true) h hn hi hpl hsb hu 2 0 o jb cap G y6 y8 y9 rfl (by omega) hG hcap
    rw [List.drop_zero] at g1 g2 hl
    have hsel := selM_le x a b ls i [wr (plOf ls i - s), wr (plOf ls i + s)]
    simp only [List.length_cons, List.length_nil, Nat.zero_add] at hsel
    obtain ⟨jb', cap', G', z5, z6, z7, z8, z9, h1, ih⟩ := loop_s_moves_2 (y0 := y0) (y2 := y2) h hn hpl hsb hu k (i + 1) (o ++ selM x a b ls i [wr (plOf ls i - s), wr (plOf ls i + s)]) jb1 cap1 G1 w5 w6 (.bool true) w8 w9 (by omega) (by rw [List.length_append]; omega) g1 g2
    rw [List.append_assoc] at h1 ih
    refine ⟨jb', cap', G', z5, z6, z7, z8, z9, h1, ?_⟩
    have h0 : 2 * ((0 : Nat) : Int) - 1 = -1 := rfl
    rw [run_loop, mvsFrom]
    rw [h0] at hl
    generalize run T pr (.loop w_s_l11Moves_2) = R at ih ⊢
    generalize selM x a b ls i [wr (plOf ls i - s), wr (plOf ls i + s)] = sel at *
    generalize mvsFrom x a b s ls k (i + 1) = rest at *
    simp +contextual only [w_s_l11Moves_2, hi, cells_mono hu, hl, wrap_succ (show i < 9223372036854775807 by omega), decide_true, decide_false, go_sem, entry, joinEsc, if_pos, reduceIte, Nat.reduceAdd, Nat.reduceLeDiff, Nat.reduceLT, Nat.reduceEqDiff]
    simp only [List.length_append] at ih
    exact ih

end Go.Proofs.Ythkgpblohjpcdaa.Slim
