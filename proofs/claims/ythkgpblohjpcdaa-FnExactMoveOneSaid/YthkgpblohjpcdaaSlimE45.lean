/- One move of a party: the functions and the law. -/
import Derived.Test.YthkgpblohjpcdaaSlimE44
namespace Go.Proofs.Ythkgpblohjpcdaa.Slim

open Go

set_option linter.unusedSimpArgs false

set_option linter.unusedVariables false

variable {pr : Prims} {H : List Blk} {e : Option Nat}

theorem walkOk_one (x a b s m1 m2 : Int) (ls : List Ld) : walkOk x a b s ls [(m1, m2)] = safeMv x a b ls s m1 m2 := by
  unfold walkOk
  rw [walkW]
  cases h : safeMv x a b ls s m1 m2 <;> simp [walkW]

theorem e_s_MoveOne_no {q : Nat} {c : Option Nat} {ls : List Ld} (h : cellsAt H q = some (encL ls)) (hn : ls.length ≤ 9223372036854775806) (x a b s m1 m2 : Int) (hno : (partyOk x a b ls s && safeMv x a b ls s m1 m2) = false) :
    call T pr f_s_MoveOne [ptV x a b (slL q ls.length c) s, prV m1 m2] ⟨H, e⟩ = some (.tup [noParty, .bool false], ⟨H, e⟩) := by
  have hf : ∀ (G : List Blk) (e0 e1 : Option Nat), clean H.length e1 = true → finish 2 H.length e0 (.tup [noParty, .bool false]) ⟨H ++ G, e1⟩ = some (.tup [noParty, .bool false], ⟨H, e0⟩) :=
    fun G e0 e1 hc => finish_partyN 0 0 0 0 false e0 e1 hc
  rw [call_eq t_s_MoveOne]
  cases h1 : partyOk x a b ls s with
  | false => simp +contextual only [a_s_MoveOne, c_s_MoveOne, fillParts, e_s_l11Party (cells_mono h _) hn, h1, hf, under_sliceN, clean_minEsc, clean_none, Nat.le_add_right, decide_true, go_sem, entry, joinEsc, if_pos, reduceIte, Nat.reduceAdd, Nat.reduceLeDiff, Nat.reduceLT, Nat.reduceEqDiff]
  | true =>
    have hn3 := (party_facts h1).1
    rw [h1, Bool.true_and] at hno
    have hsf := fun G => e_s_l11Safe (pr := pr) (e := none) (c := c) (cells_mono h G) hn3 x a b s m1 m2
    simp +contextual only [a_s_MoveOne, c_s_MoveOne, fillParts, e_s_l11Party (cells_mono h _) hn, h1, hsf, hno, hf, under_sliceN, clean_minEsc, clean_none, Nat.le_add_right, decide_true, go_sem, entry, joinEsc, if_pos, reduceIte, Nat.reduceAdd, Nat.reduceLeDiff, Nat.reduceLT, Nat.reduceEqDiff]

theorem e_s_MoveOne {q : Nat} {c : Option Nat} {ls : List Ld} (h : cellsAt H q = some (encL ls)) (x a b s m2 : Int) {j : Nat} (hp : partyOk x a b ls s = true) (hs : safeMv x a b ls s j m2 = true) :
    call T pr f_s_MoveOne [ptV x a b (slL q ls.length c) s, prV j m2] ⟨H, e⟩ = some (.tup [ptV x a b (slL H.length ls.length none) s, .bool true], ⟨H ++ [.cells (encL (movd ls j m2)) true], e⟩) := by
  have hn3 := (party_facts hp).1
  have hn : ls.length ≤ 9223372036854775806 := by omega
  have hj := (safe_range hs).2
  rw [Int.toNat_natCast] at hj
  have hf : ∀ (B0 B1 B2 : Blk) (e0 e1 : Option Nat), clean H.length e1 = true → finish 2 H.length e0 (.tup [ptV x a b (slL (H.length + 3) ls.length none) s, .bool true]) ⟨H ++ [B0, B1, B2, .cells (encL (movd ls j m2)) true], e1⟩ = some (.tup [ptV x a b (slL H.length ls.length none) s, .bool true], ⟨H ++ [.cells (encL (movd ls j m2)) true], e0⟩) :=
    fun B0 B1 B2 e0 e1 hc => finish_partyB x a b s true e0 e1 hc rfl (under_encL _ _)
  have hsf := fun G => e_s_l11Safe (pr := pr) (e := none) (c := c) (cells_mono h G) hn3 x a b s j m2
  have hmv := fun G => e_s_l11Moved (pr := pr) (e := none) (c := c) (cells_mono h G) hn3 x a b s m2 hj
  rw [hs] at hsf
  rw [call_eq t_s_MoveOne]
  simp +contextual only [a_s_MoveOne, c_s_MoveOne, fillParts, e_s_l11Party (cells_mono h _) hn, hp, hsf, hmv, hf, under_slice, under_sliceN, Nat.add_assoc, Nat.add_lt_add_iff_left, Nat.lt_irrefl, decide_false, clean_minEsc, clean_none, Nat.le_add_right, decide_true, go_sem, entry, joinEsc, if_pos, reduceIte, Nat.reduceAdd, Nat.reduceLeDiff, Nat.reduceLT, Nat.reduceEqDiff]

theorem e_i_MoveOne_no {q : Nat} {c : Option Nat} {ls : List Ld} (h : cellsAt H q = some (encL ls)) (hn : ls.length ≤ 9223372036854775806) (x a b s m1 m2 : Int) (hno : (partyOk x a b ls s && safeMv x a b ls s m1 m2) = false) :
    call T pr f_i_MoveOne [ptV x a b (slL q ls.length c) s, prV m1 m2] ⟨H, e⟩ = some (.tup [noParty, .bool false], ⟨H, e⟩) := by
  have hf : ∀ (G : List Blk) (e0 e1 : Option Nat), clean H.length e1 = true → finish 2 H.length e0 (.tup [noParty, .bool false]) ⟨H ++ G, e1⟩ = some (.tup [noParty, .bool false], ⟨H, e0⟩) :=
    fun G e0 e1 hc => finish_partyN 0 0 0 0 false e0 e1 hc
  rw [← walkOk_one] at hno
  have hwk : ∀ (L : List Blk) (qw : Nat) (cw : Option Nat), cellsAt L q = some (encL ls) → cellsAt L qw = some [.int .i64 m1, .int .i64 m2] → call T pr f_i_WalkTo [ptV x a b (slL q ls.length c) s, .slice (some (qw, 0)) 2 1 cw] ⟨L, none⟩ = some (.tup [noParty, .bool false], ⟨L, none⟩) :=
    fun L qw cw h1 h2 => e_i_WalkTo_no (ws := [(m1, m2)]) h1 h2 hn (by simp) x a b s hno
  rw [call_eq t_i_MoveOne]
  simp +contextual only [a_i_MoveOne, c_i_MoveOne, fillParts, cells_mono h, hwk, hf, under_sliceN, clean_minEsc, clean_none, Nat.le_add_right, decide_true, go_sem, entry, joinEsc, if_pos, reduceIte, Nat.reduceAdd, Nat.reduceLeDiff, Nat.reduceLT, Nat.reduceEqDiff]

theorem e_i_MoveOne {q : Nat} {c : Option Nat} {ls : List Ld} (h : cellsAt H q = some (encL ls)) (x a b s m2 : Int) {j : Nat} (hp : partyOk x a b ls s = true) (hs : safeMv x a b ls s j m2 = true) :
    call T pr f_i_MoveOne [ptV x a b (slL q ls.length c) s, prV j m2] ⟨H, e⟩ = some (.tup [ptV x a b (slL H.length ls.length none) s, .bool true], ⟨H ++ [.cells (encL (movd ls j m2)) true], e⟩) := by
  have hr : walkW x a b s ls [((j : Int), m2)] = some (movd ls j m2) := by
    rw [walkW]
    simp [hs, walkW]
  have hf : ∀ (B0 B1 B2 B3 : Blk) (e0 e1 : Option Nat), clean H.length e1 = true → finish 2 H.length e0 (.tup [ptV x a b (slL (H.length + 4) ls.length none) s, .bool true]) ⟨H ++ [B0, B1, B2, B3, .cells (encL (movd ls j m2)) true], e1⟩ = some (.tup [ptV x a b (slL H.length ls.length none) s, .bool true], ⟨H ++ [.cells (encL (movd ls j m2)) true], e0⟩) :=
    fun B0 B1 B2 B3 e0 e1 hc => finish_partyB x a b s true e0 e1 hc rfl (under_encL _ _)
  have hwk : ∀ (L : List Blk) (qw : Nat) (cw : Option Nat), cellsAt L q = some (encL ls) → cellsAt L qw = some [.int .i64 j, .int .i64 m2] → call T pr f_i_WalkTo [ptV x a b (slL q ls.length c) s, .slice (some (qw, 0)) 2 1 cw] ⟨L, none⟩ = some (.tup [ptV x a b (slL L.length ls.length none) s, .bool true], ⟨L ++ [.cells (encL (movd ls j m2)) true], none⟩) :=
    fun L qw cw h1 h2 => e_i_WalkTo (ws := [((j : Int), m2)]) h1 h2 x a b s hp (by simp) hr
  rw [call_eq t_i_MoveOne]
  simp +contextual only [a_i_MoveOne, c_i_MoveOne, fillParts, cells_mono h, hwk, hf, under_slice, under_sliceN, Nat.add_assoc, Nat.add_lt_add_iff_left, Nat.lt_irrefl, decide_false, clean_minEsc, clean_none, Nat.le_add_right, decide_true, go_sem, entry, joinEsc, if_pos, reduceIte, Nat.reduceAdd, Nat.reduceLeDiff, Nat.reduceLT, Nat.reduceEqDiff]

theorem law_MoveOne {people : AV} {ls : List Ld} (ha : ArgL H people ls) (x a b s m1 m2 : Int) : ∃ m', call T pr f_l_FnExactMoveOne [ptV x a b people s, prV m1 m2] ⟨H, none⟩ = some (.bool true, m') := by
  refine ⟨⟨H, none⟩, ?_⟩
  have hsz : ∀ G e', call T pr f_l_szParty [ptV x a b people s, .int .i64 1048576] ⟨G, e'⟩ = some (.int .i64 (if ls.length ≤ 1048576 then 1048576 - (ls.length : Int) else -1), ⟨G, e'⟩) := by
    obtain ⟨p, sz, c, rfl, h2, h3⟩ := ha
    exact fun G e' => e_l_szParty h2 x a b s
  rw [call_eq t_l_FnExactMoveOne]
  by_cases hn : ls.length ≤ 1048576
  · have hneg : ¬ (1048576 - (ls.length : Int) < 0) := by omega
    have hto := fun G => e_l_toParty (pr := pr) (e := none) (ha.more G) hn x a b s
    have hn1 : ls.length ≤ 9223372036854775806 := by omega
    have heq : ∀ L q1 q2 k1 k2, cellsAt L q1 = some (encL ls) → cellsAt L q2 = some (encL ls) → call T pr f_l_eqParty [ptV x a b (slL q1 ls.length k1) s, ptV x a b (slL q2 ls.length k2) s] ⟨L, none⟩ = some (.bool true, ⟨L, none⟩) :=
      fun L q1 q2 k1 k2 h1 h2 => e_l_eqParty (fun G => e_l_eqLoadS (cells_mono h1 G) (cells_mono h2 G) hn1) x a b s
    have hmark : ∀ L b1 c, L[b1]? = some (.cells (encL ls) true) → call T pr f_l_markParty [ptV x a b (slL b1 ls.length c) s, .int .i64 1] ⟨L, none⟩ = some (.int .i64 ((1 + ls.length * 2 : Nat) : Int), ⟨L.set b1 (.cells (encL (markedL 1 ls.length)) true), none⟩) :=
      fun L b1 c h => e_l_markParty h (by omega) x a b s 1 (by omega)
    have hk0 : ¬ (((1 + ls.length * 2 : Nat) : Int) < 0) := by omega
    have h10 : ¬ ((1 : Int) < 0) := by omega
    cases hcan : (partyOk x a b ls s && safeMv x a b ls s m1 m2) with
    | false =>
      have hsi := fun L q c h1 => e_s_MoveOne_no (pr := pr) (H := L) (e := none) (q := q) (c := c) (ls := ls) h1 hn1 x a b s m1 m2 hcan
      have hii := fun L q c h1 => e_i_MoveOne_no (pr := pr) (H := L) (e := none) (q := q) (c := c) (ls := ls) h1 hn1 x a b s m1 m2 hcan
      have hh1 : ∀ L, call T pr f_l_heldParty [noParty, .int .i64 1] ⟨L, none⟩ = some (.int .i64 1, ⟨L, none⟩) := fun L => e_l_heldNoParty 1
      simp +contextual only [a_l_FnExactMoveOne, c_l_FnExactMoveOne, hsz, hn, hneg, hto, e_l_toIntA2, hsi, hii, heq, e_l_eqNoParty, e_l_markNoParty, hh1, hmark, hk0, h10, under_slice, under_sliceN, Nat.add_assoc, Nat.add_lt_add_iff_left, Nat.lt_add_right_iff_pos, decide_true, decide_false, beq_self_eq_true, go_sem, entry, joinEsc, if_pos, reduceIte, Nat.reduceAdd, Nat.reduceLeDiff, Nat.reduceLT, Nat.reduceEqDiff]
    | true =>
      obtain ⟨hp, hso⟩ := Bool.and_eq_true_iff.mp hcan
      obtain ⟨j, rfl⟩ : ∃ j : Nat, m1 = j := ⟨m1.toNat, by have := (safe_range hso).1; omega⟩
      have hsi := fun L q c h1 => e_s_MoveOne (pr := pr) (H := L) (e := none) (q := q) (c := c) (ls := ls) h1 x a b s m2 hp hso
      have hii := fun L q c h1 => e_i_MoveOne (pr := pr) (H := L) (e := none) (q := q) (c := c) (ls := ls) h1 x a b s m2 hp hso
      have hrl := movd_length ls j m2
      generalize movd ls j m2 = r at hsi hii hrl
      have heqr : ∀ L q1 q2 k1 k2, cellsAt L q1 = some (encL r) → cellsAt L q2 = some (encL r) → call T pr f_l_eqParty [ptV x a b (slL q1 ls.length k1) s, ptV x a b (slL q2 ls.length k2) s] ⟨L, none⟩ = some (.bool true, ⟨L, none⟩) := by
        rw [← hrl]
        exact fun L q1 q2 k1 k2 h1 h2 => e_l_eqParty (fun G => e_l_eqLoadS (cells_mono h1 G) (cells_mono h2 G) (by omega)) x a b s
      have hmarkr : ∀ L b1 c, L[b1]? = some (.cells (encL r) true) → call T pr f_l_markParty [ptV x a b (slL b1 ls.length c) s, .int .i64 1] ⟨L, none⟩ = some (.int .i64 ((1 + ls.length * 2 : Nat) : Int), ⟨L.set b1 (.cells (encL (markedL 1 ls.length)) true), none⟩) := by
        rw [← hrl]
        exact fun L b1 c h => e_l_markParty h (by omega) x a b s 1 (by omega)
      have hhe : ∀ L q c, cellsAt L q = some (encL (markedL 1 ls.length)) → call T pr f_l_heldParty [ptV x a b (slL q ls.length c) s, .int .i64 1] ⟨L, none⟩ = some (.int .i64 ((1 + ls.length * 2 : Nat) : Int), ⟨L, none⟩) :=
        fun L q c h => e_l_heldParty (k := 1) h (by omega) (by omega) x a b s
      simp +contextual only [a_l_FnExactMoveOne, c_l_FnExactMoveOne, hsz, hn, hneg, hto, e_l_toIntA2, hsi, hii, heq, heqr, hmark, hmarkr, hhe, hk0, h10, under_slice, under_sliceN, Nat.add_assoc, Nat.add_lt_add_iff_left, Nat.lt_add_right_iff_pos, decide_true, decide_false, beq_self_eq_true, go_sem, entry, joinEsc, if_pos, reduceIte, Nat.reduceAdd, Nat.reduceLeDiff, Nat.reduceLT, Nat.reduceEqDiff]
  · simp +contextual only [a_l_FnExactMoveOne, c_l_FnExactMoveOne, hsz, hn, decide_true, show ((-1 : Int) < 0) by omega, go_sem, entry, joinEsc, if_pos, reduceIte, Nat.reduceAdd, Nat.reduceLeDiff, Nat.reduceLT, Nat.reduceEqDiff]

end Go.Proofs.Ythkgpblohjpcdaa.Slim
