/- Walks and moves of a party that lead to another one: the functions and the laws. -/
import Derived.Test.YthkgpblohjpcdaaSlimE43
namespace Go.Proofs.Ythkgpblohjpcdaa.Slim

open Go

set_option linter.unusedSimpArgs false

set_option linter.unusedVariables false

variable {pr : Prims} {H : List Blk} {e : Option Nat}

theorem e_s_WalkTo_no {q qw : Nat} {c cw : Option Nat} {ls ws : List Ld} (h : cellsAt H q = some (encL ls)) (hw : cellsAt H qw = some (encL ws)) (hn : ls.length ≤ 9223372036854775806) (x a b s : Int) (hno : (partyOk x a b ls s && walkOk x a b s ls ws) = false) :
    call T pr f_s_WalkTo [ptV x a b (slL q ls.length c) s, slL qw ws.length cw] ⟨H, e⟩ = some (.tup [noParty, .bool false], ⟨H, e⟩) := by
  have hf : ∀ (G : List Blk) (e0 e1 : Option Nat), clean H.length e1 = true → finish 2 H.length e0 (.tup [noParty, .bool false]) ⟨H ++ G, e1⟩ = some (.tup [noParty, .bool false], ⟨H, e0⟩) :=
    fun G e0 e1 hc => finish_partyN 0 0 0 0 false e0 e1 hc
  rw [call_eq t_s_WalkTo]
  cases h1 : partyOk x a b ls s with
  | false => simp +contextual only [a_s_WalkTo, c_s_WalkTo, fillParts, e_s_l11Party (cells_mono h _) hn, h1, hf, under_sliceN, clean_minEsc, clean_none, Nat.le_add_right, decide_true, go_sem, entry, joinEsc, if_pos, reduceIte, Nat.reduceAdd, Nat.reduceLeDiff, Nat.reduceLT, Nat.reduceEqDiff]
  | true =>
    have hn3 := (party_facts h1).1
    rw [h1, Bool.true_and] at hno
    have hwk := fun G => e_s_l11Walk_no (pr := pr) (e := none) (c := c) (cw := cw) (x := x) (a := a) (b := b) (s := s) (cells_mono h G) (cells_mono hw G) hn3 (fun h60 => by
      unfold walkOk at hno
      rw [decide_eq_true h60, Bool.true_and] at hno
      exact Option.isSome_eq_false_iff.mp hno |> fun h => by simpa using h)
    simp +contextual only [a_s_WalkTo, c_s_WalkTo, fillParts, e_s_l11Party (cells_mono h _) hn, h1, hwk, hf, under_sliceN, clean_minEsc, clean_none, Nat.le_add_right, decide_true, go_sem, entry, joinEsc, if_pos, reduceIte, Nat.reduceAdd, Nat.reduceLeDiff, Nat.reduceLT, Nat.reduceEqDiff]

theorem e_s_WalkTo {q qw : Nat} {c cw : Option Nat} {ls ws : List Ld} (h : cellsAt H q = some (encL ls)) (hw : cellsAt H qw = some (encL ws)) (x a b s : Int) (hp : partyOk x a b ls s = true) (hwn : ws.length ≤ 60) {r : List Ld} (hwk : walkW x a b s ls ws = some r) :
    call T pr f_s_WalkTo [ptV x a b (slL q ls.length c) s, slL qw ws.length cw] ⟨H, e⟩ = some (.tup [ptV x a b (slL H.length ls.length none) s, .bool true], ⟨H ++ [.cells (encL r) true], e⟩) := by
  have hn3 := (party_facts hp).1
  have hn : ls.length ≤ 9223372036854775806 := by omega
  have hf : ∀ (B0 B1 : Blk) (e0 e1 : Option Nat), clean H.length e1 = true → finish 2 H.length e0 (.tup [ptV x a b (slL (H.length + 2) ls.length none) s, .bool true]) ⟨H ++ [B0, B1, .cells (encL r) true], e1⟩ = some (.tup [ptV x a b (slL H.length ls.length none) s, .bool true], ⟨H ++ [.cells (encL r) true], e0⟩) :=
    fun B0 B1 e0 e1 hc => finish_partyB x a b s true e0 e1 hc rfl (under_encL _ _)
  have hwk' := fun G => e_s_l11Walk (pr := pr) (e := none) (c := c) (cw := cw) (x := x) (a := a) (b := b) (s := s) (cells_mono h G) (cells_mono hw G) hn3 hwn hwk
  rw [call_eq t_s_WalkTo]
  simp +contextual only [a_s_WalkTo, c_s_WalkTo, fillParts, e_s_l11Party (cells_mono h _) hn, hp, hwk', hf, under_slice, under_sliceN, Nat.add_assoc, Nat.add_lt_add_iff_left, Nat.lt_irrefl, decide_false, clean_minEsc, clean_none, Nat.le_add_right, decide_true, go_sem, entry, joinEsc, if_pos, reduceIte, Nat.reduceAdd, Nat.reduceLeDiff, Nat.reduceLT, Nat.reduceEqDiff]

theorem e_i_WalkTo_no {q qw : Nat} {c cw : Option Nat} {ls ws : List Ld} (h : cellsAt H q = some (encL ls)) (hw : cellsAt H qw = some (encL ws)) (hn : ls.length ≤ 9223372036854775806) (hwn : ws.length ≤ 1048576) (x a b s : Int) (hno : (partyOk x a b ls s && walkOk x a b s ls ws) = false) :
    call T pr f_i_WalkTo [ptV x a b (slL q ls.length c) s, slL qw ws.length cw] ⟨H, e⟩ = some (.tup [noParty, .bool false], ⟨H, e⟩) := by
  have hf : ∀ (G : List Blk) (e0 e1 : Option Nat), clean H.length e1 = true → finish 2 H.length e0 (.tup [noParty, .bool false]) ⟨H ++ G, e1⟩ = some (.tup [noParty, .bool false], ⟨H, e0⟩) :=
    fun G e0 e1 hc => finish_partyN 0 0 0 0 false e0 e1 hc
  rw [call_eq t_i_WalkTo]
  cases h1 : partyOk x a b ls s with
  | false => simp +contextual only [a_i_WalkTo, c_i_WalkTo, fillParts, e_i_IsParty (cells_mono h _) hn, h1, hf, under_sliceN, clean_minEsc, clean_none, Nat.le_add_right, decide_true, go_sem, entry, joinEsc, if_pos, reduceIte, Nat.reduceAdd, Nat.reduceLeDiff, Nat.reduceLT, Nat.reduceEqDiff]
  | true =>
    have hn3 := (party_facts h1).1
    rw [h1, Bool.true_and] at hno
    by_cases h60 : ws.length ≤ 60
    · have h60' : ¬ (60 : Int) < (ws.length : Int) := by omega
      unfold walkOk at hno
      rw [decide_eq_true h60, Bool.true_and] at hno
      rcases walk_cases (x := x) (a := a) (b := b) (s := s) (ws := ws) hn3 with ⟨h3, h4⟩ | ⟨t0, t1, t2, h3, h4⟩
      · have hwk := fun G => e_i_Party_walk_no (pr := pr) (e := none) (c := c) (cw := cw) (cells_mono h G) (cells_mono hw G) h1 hwn h3
        simp +contextual only [a_i_WalkTo, c_i_WalkTo, fillParts, e_i_IsParty (cells_mono h _) hn, h1, h60', hwk, hf, under_sliceN, clean_minEsc, clean_none, Nat.le_add_right, decide_true, decide_false, go_sem, entry, joinEsc, if_pos, reduceIte, Nat.reduceAdd, Nat.reduceLeDiff, Nat.reduceLT, Nat.reduceEqDiff]
      · rw [h4] at hno
        simp at hno
    · have h60' : (60 : Int) < (ws.length : Int) := by omega
      simp +contextual only [a_i_WalkTo, c_i_WalkTo, fillParts, e_i_IsParty (cells_mono h _) hn, h1, h60', hf, under_sliceN, clean_minEsc, clean_none, Nat.le_add_right, decide_true, go_sem, entry, joinEsc, if_pos, reduceIte, Nat.reduceAdd, Nat.reduceLeDiff, Nat.reduceLT, Nat.reduceEqDiff]

theorem e_i_WalkTo {q qw : Nat} {c cw : Option Nat} {ls ws : List Ld} (h : cellsAt H q = some (encL ls)) (hw : cellsAt H qw = some (encL ws)) (x a b s : Int) (hp : partyOk x a b ls s = true) (hwn : ws.length ≤ 60) {r : List Ld} (hwk : walkW x a b s ls ws = some r) :
    call T pr f_i_WalkTo [ptV x a b (slL q ls.length c) s, slL qw ws.length cw] ⟨H, e⟩ = some (.tup [ptV x a b (slL H.length ls.length none) s, .bool true], ⟨H ++ [.cells (encL r) true], e⟩) := by
  have hn3 := (party_facts hp).1
  have hn : ls.length ≤ 9223372036854775806 := by omega
  have h60' : ¬ (60 : Int) < (ws.length : Int) := by omega
  rcases walk_cases (x := x) (a := a) (b := b) (s := s) (ws := ws) hn3 with ⟨h3, h4⟩ | ⟨t0, t1, t2, h3, h4⟩
  · rw [h4] at hwk
    cases hwk
  · rw [h4] at hwk
    cases hwk
    have hf : ∀ (B0 B1 B2 : Blk) (e0 e1 : Option Nat), clean H.length e1 = true → finish 2 H.length e0 (.tup [ptV x a b (slL (H.length + 3) ls.length none) s, .bool true]) ⟨H ++ [B0, B1, B2, .cells (encL (putL ls [t0, t1, t2])) true], e1⟩ = some (.tup [ptV x a b (slL H.length ls.length none) s, .bool true], ⟨H ++ [.cells (encL (putL ls [t0, t1, t2])) true], e0⟩) :=
      fun B0 B1 B2 e0 e1 hc => finish_partyB x a b s true e0 e1 hc rfl (under_encL _ _)
    have hwk := fun G => e_i_Party_walk (pr := pr) (e := none) (c := c) (cw := cw) (cells_mono h G) (cells_mono hw G) hp (by omega) h3
    have hat := fun G => e_i_Party_at (pr := pr) (e := none) (c := c) (cells_mono h G) hn3 x a b s t0 t1 t2
    rw [call_eq t_i_WalkTo]
    simp +contextual only [a_i_WalkTo, c_i_WalkTo, fillParts, e_i_IsParty (cells_mono h _) hn, hp, h60', hwk, hat, hf, under_slice, under_sliceN, Nat.add_assoc, Nat.add_lt_add_iff_left, Nat.lt_irrefl, decide_false, clean_minEsc, clean_none, Nat.le_add_right, decide_true, go_sem, entry, joinEsc, if_pos, reduceIte, Nat.reduceAdd, Nat.reduceLeDiff, Nat.reduceLT, Nat.reduceEqDiff]

theorem e_l_eqNoParty : call T pr f_l_eqParty [noParty, noParty] ⟨H, e⟩ = some (.bool true, ⟨H, e⟩) := e_l_eqParty (fun G => e_l_eqLoadS_none) 0 0 0 0

theorem e_l_markNoParty (k : Int) : call T pr f_l_markParty [noParty, .int .i64 k] ⟨H, e⟩ = some (.int .i64 k, ⟨H, e⟩) := by
  rw [call_eq t_l_markParty]
  simp +contextual only [a_l_markParty, c_l_markParty, e_l_markLoadS_none, go_sem, entry, joinEsc, if_pos, reduceIte, Nat.reduceAdd, Nat.reduceLeDiff, Nat.reduceLT, Nat.reduceEqDiff]

theorem e_l_heldNoParty (k : Nat) : call T pr f_l_heldParty [noParty, .int .i64 k] ⟨H, e⟩ = some (.int .i64 k, ⟨H, e⟩) := by
  have h : ¬ ((k : Int) < 0) := by omega
  rw [call_eq t_l_heldParty]
  simp +contextual only [a_l_heldParty, c_l_heldParty, e_l_heldLoadS_none, h, decide_false, go_sem, entry, joinEsc, if_pos, reduceIte, Nat.reduceAdd, Nat.reduceLeDiff, Nat.reduceLT, Nat.reduceEqDiff]

theorem e_l_heldParty {q n k : Nat} {c : Option Nat} (h : cellsAt H q = some (encL (markedL k n))) (hn : n ≤ 4194304) (hk : k ≤ 16777216) (x a b s : Int) : call T pr f_l_heldParty [ptV x a b (slL q n c) s, .int .i64 k] ⟨H, e⟩ =
    some (.int .i64 ((k + n * 2 : Nat) : Int), ⟨H, e⟩) := by
  have hh : ¬ (((k + n * 2 : Nat) : Int) < 0) := by omega
  rw [call_eq t_l_heldParty]
  simp +contextual only [a_l_heldParty, c_l_heldParty, e_l_heldLoadS (cells_mono h _) hn hk, hh, decide_false, go_sem, entry, joinEsc, if_pos, reduceIte, Nat.reduceAdd, Nat.reduceLeDiff, Nat.reduceLT, Nat.reduceEqDiff]

theorem law_WalkTo {people walk : AV} {ls ws : List Ld} (ha : ArgL H people ls) (hb : ArgL H walk ws) (x a b s : Int) : ∃ m', call T pr f_l_FnExactWalkTo [ptV x a b people s, walk] ⟨H, none⟩ = some (.bool true, m') := by
  refine ⟨⟨H, none⟩, ?_⟩
  have hsz : ∀ G e', call T pr f_l_szParty [ptV x a b people s, .int .i64 1048576] ⟨G, e'⟩ = some (.int .i64 (if ls.length ≤ 1048576 then 1048576 - (ls.length : Int) else -1), ⟨G, e'⟩) := by
    obtain ⟨p, sz, c, rfl, h2, h3⟩ := ha
    exact fun G e' => e_l_szParty h2 x a b s
  rw [call_eq t_l_FnExactWalkTo]
  by_cases hn : ls.length ≤ 1048576
  · have hneg : ¬ (1048576 - (ls.length : Int) < 0) := by omega
    have hsz2 : ∀ G e', call T pr f_l_szIntA2S [walk, .int .i64 (1048576 - (ls.length : Int))] ⟨G, e'⟩ = some (.int .i64 (if ws.length ≤ 1048576 - ls.length then ((1048576 - ls.length : Nat) : Int) - (ws.length : Int) else -1), ⟨G, e'⟩) := by
      obtain ⟨p, sz, c, rfl, h2, h3⟩ := hb
      intro G e'
      rw [show 1048576 - (ls.length : Int) = ((1048576 - ls.length : Nat) : Int) by omega]
      exact e_l_szIntA2S _ _ _ _ h2 _ (by omega)
    by_cases hn2 : ws.length ≤ 1048576 - ls.length
    · have hneg2 : ¬ (((1048576 - ls.length : Nat) : Int) - (ws.length : Int) < 0) := by omega
      have hto := fun G => e_l_toParty (pr := pr) (e := none) (ha.more G) hn x a b s
      have htw := fun G => e_l_toIntA2S (pr := pr) (e := none) (hb.more G) (show ws.length ≤ 1048576 by omega)
      have hn1 : ls.length ≤ 9223372036854775806 := by omega
      have hw1 : ws.length ≤ 9223372036854775806 := by omega
      have heq : ∀ L q1 q2 k1 k2, cellsAt L q1 = some (encL ls) → cellsAt L q2 = some (encL ls) → call T pr f_l_eqParty [ptV x a b (slL q1 ls.length k1) s, ptV x a b (slL q2 ls.length k2) s] ⟨L, none⟩ = some (.bool true, ⟨L, none⟩) :=
        fun L q1 q2 k1 k2 h1 h2 => e_l_eqParty (fun G => e_l_eqLoadS (cells_mono h1 G) (cells_mono h2 G) hn1) x a b s
      have heqm : ∀ L b1 b2 c1 c2, cellsAt L b1 = some (encL ws) → cellsAt L b2 = some (encL ws) → call T pr f_l_eqIntA2S [slL b1 ws.length c1, slL b2 ws.length c2] ⟨L, none⟩ = some (.bool true, ⟨L, none⟩) :=
        fun L b1 b2 c1 c2 h1 h2 => e_l_eqIntA2S h1 h2 hw1
      have hmark : ∀ L b1 c, L[b1]? = some (.cells (encL ls) true) → call T pr f_l_markParty [ptV x a b (slL b1 ls.length c) s, .int .i64 1] ⟨L, none⟩ = some (.int .i64 ((1 + ls.length * 2 : Nat) : Int), ⟨L.set b1 (.cells (encL (markedL 1 ls.length)) true), none⟩) :=
        fun L b1 c h => e_l_markParty h (by omega) x a b s 1 (by omega)
      have hmi : ∀ L b c, L[b]? = some (.cells (encL ws) true) → call T pr f_l_markIntA2S [slL b ws.length c, .int .i64 ((1 + ls.length * 2 : Nat) : Int)] ⟨L, none⟩ = some (.int .i64 ((1 + ls.length * 2 + ws.length * 2 : Nat) : Int), ⟨L.set b (.cells (encL (markedL (1 + ls.length * 2) ws.length)) true), none⟩) :=
        fun L b c h => e_l_markIntA2S h (by omega) _ (by omega)
      have hk0 : ¬ (((1 + (ls.length * 2 + ws.length * 2) : Nat) : Int) < 0) := by omega
      have h10 : ¬ ((1 : Int) < 0) := by omega
      cases hcan : (partyOk x a b ls s && walkOk x a b s ls ws) with
      | false =>
        have hsi := fun L q c qw cw h1 h2 => e_s_WalkTo_no (pr := pr) (H := L) (e := none) (q := q) (c := c) (qw := qw) (cw := cw) (ls := ls) (ws := ws) h1 h2 hn1 x a b s hcan
        have hii := fun L q c qw cw h1 h2 => e_i_WalkTo_no (pr := pr) (H := L) (e := none) (q := q) (c := c) (qw := qw) (cw := cw) (ls := ls) (ws := ws) h1 h2 hn1 (by omega) x a b s hcan
        have hh1 : ∀ L, call T pr f_l_heldParty [noParty, .int .i64 1] ⟨L, none⟩ = some (.int .i64 1, ⟨L, none⟩) := fun L => e_l_heldNoParty 1
        simp +contextual only [a_l_FnExactWalkTo, c_l_FnExactWalkTo, hsz, hn, hneg, hsz2, hn2, hneg2, hto, htw, hsi, hii, heq, heqm, e_l_eqNoParty, e_l_markNoParty, hh1, hmark, hmi, hk0, h10, under_slice, under_sliceN, Nat.add_assoc, Nat.add_lt_add_iff_left, Nat.lt_add_right_iff_pos, decide_true, decide_false, beq_self_eq_true, go_sem, entry, joinEsc, if_pos, reduceIte, Nat.reduceAdd, Nat.reduceLeDiff, Nat.reduceLT, Nat.reduceEqDiff]
      | true =>
        obtain ⟨hp, hwo⟩ := Bool.and_eq_true_iff.mp hcan
        unfold walkOk at hwo
        obtain ⟨h60, hso⟩ := Bool.and_eq_true_iff.mp hwo
        have h60 := of_decide_eq_true h60
        obtain ⟨r, hr⟩ := Option.isSome_iff_exists.mp hso
        have hrl := walkW_length ws ls r hr
        have hsi := fun L q c qw cw h1 h2 => e_s_WalkTo (pr := pr) (H := L) (e := none) (q := q) (c := c) (qw := qw) (cw := cw) (ls := ls) (ws := ws) h1 h2 x a b s hp h60 hr
        have hii := fun L q c qw cw h1 h2 => e_i_WalkTo (pr := pr) (H := L) (e := none) (q := q) (c := c) (qw := qw) (cw := cw) (ls := ls) (ws := ws) h1 h2 x a b s hp h60 hr
        have heqr : ∀ L q1 q2 k1 k2, cellsAt L q1 = some (encL r) → cellsAt L q2 = some (encL r) → call T pr f_l_eqParty [ptV x a b (slL q1 ls.length k1) s, ptV x a b (slL q2 ls.length k2) s] ⟨L, none⟩ = some (.bool true, ⟨L, none⟩) := by
          rw [← hrl]
          exact fun L q1 q2 k1 k2 h1 h2 => e_l_eqParty (fun G => e_l_eqLoadS (cells_mono h1 G) (cells_mono h2 G) (by omega)) x a b s
        have hmarkr : ∀ L b1 c, L[b1]? = some (.cells (encL r) true) → call T pr f_l_markParty [ptV x a b (slL b1 ls.length c) s, .int .i64 1] ⟨L, none⟩ = some (.int .i64 ((1 + ls.length * 2 : Nat) : Int), ⟨L.set b1 (.cells (encL (markedL 1 ls.length)) true), none⟩) := by
          rw [← hrl]
          exact fun L b1 c h => e_l_markParty h (by omega) x a b s 1 (by omega)
        have hhe : ∀ L q c, cellsAt L q = some (encL (markedL 1 ls.length)) → call T pr f_l_heldParty [ptV x a b (slL q ls.length c) s, .int .i64 1] ⟨L, none⟩ = some (.int .i64 ((1 + ls.length * 2 : Nat) : Int), ⟨L, none⟩) :=
          fun L q c h => e_l_heldParty (k := 1) h (by omega) (by omega) x a b s
        have hk1 : ¬ (((1 + ls.length * 2 : Nat) : Int) < 0) := by omega
        simp +contextual only [a_l_FnExactWalkTo, c_l_FnExactWalkTo, hsz, hn, hneg, hsz2, hn2, hneg2, hto, htw, hsi, hii, heq, heqm, heqr, hmark, hmarkr, hhe, hmi, hk0, hk1, h10, under_slice, under_sliceN, Nat.add_assoc, Nat.add_lt_add_iff_left, Nat.lt_add_right_iff_pos, decide_true, decide_false, beq_self_eq_true, go_sem, entry, joinEsc, if_pos, reduceIte, Nat.reduceAdd, Nat.reduceLeDiff, Nat.reduceLT, Nat.reduceEqDiff]
    · simp +contextual only [a_l_FnExactWalkTo, c_l_FnExactWalkTo, hsz, hn, hneg, hsz2, hn2, decide_true, decide_false, show ((-1 : Int) < 0) by omega, go_sem, entry, joinEsc, if_pos, reduceIte, Nat.reduceAdd, Nat.reduceLeDiff, Nat.reduceLT, Nat.reduceEqDiff]
  · simp +contextual only [a_l_FnExactWalkTo, c_l_FnExactWalkTo, hsz, hn, decide_true, show ((-1 : Int) < 0) by omega, go_sem, entry, joinEsc, if_pos, reduceIte, Nat.reduceAdd, Nat.reduceLeDiff, Nat.reduceLT, Nat.reduceEqDiff]

end Go.Proofs.Ythkgpblohjpcdaa.Slim
