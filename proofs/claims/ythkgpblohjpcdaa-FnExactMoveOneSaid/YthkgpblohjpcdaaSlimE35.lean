/- Parties: what is valid, copies; the first law. -/
import Derived.Test.YthkgpblohjpcdaaSlimE33
namespace Go.Proofs.Ythkgpblohjpcdaa.Slim

open Go

set_option linter.unusedSimpArgs false

set_option linter.unusedVariables false

variable {pr : Prims} {H : List Blk} {e : Option Nat}

abbrev ptV (x a b : Int) (people : AV) (s : Int) : AV := .agg [.int .i64 x, .int .i64 a, .int .i64 b, people, .int .i64 s]

theorem finish_party {G : List Blk} {j n : Nat} {c : Option Nat} {cs : List AV} {wr : Bool} (x a b s : Int) (e0 e1 : Option Nat) (hc : clean H.length e1 = true) (h1 : G[j]? = some (.cells cs wr)) (u1 : (cs.all fun c => c.under H.length) = true) :
    finish 2 H.length e0 (ptV x a b (slL (H.length + j) n c) s) ⟨H ++ G, e1⟩ = some (ptV x a b (slL H.length n c) s, ⟨H ++ [.cells cs wr], e0⟩) := by
  have hlt1 : ¬ H.length + j < H.length := by omega
  have hr : dedup (AV.roots H.length (ptV x a b (slL (H.length + j) n c) s)) = [H.length + j] := by
    simp only [AV.roots, AV.roots.go, if_neg hlt1, List.nil_append, List.cons_append, List.append_nil]
    rfl
  have hb1 : (H ++ G)[H.length + j]? = some (.cells cs wr) := by rw [List.getElem?_append_right (by omega)]; simpa using h1
  unfold finish
  simp only [hr]
  have h3 : ([H.length + j].all fun b => flatBlk H.length (H ++ G)[b]?) = true := by
    simp only [List.all_cons, List.all_nil, Bool.and_true, hb1, flatBlk, u1]
  simp only [hc, h3, and_self, if_true]
  simp [AV.rename, AV.rename.go, renum, hb1, hlt1]

theorem finish_partyB {G : List Blk} {j n : Nat} {c : Option Nat} {cs : List AV} {wr : Bool} (x a b s : Int) (y : Bool) (e0 e1 : Option Nat) (hc : clean H.length e1 = true) (h1 : G[j]? = some (.cells cs wr)) (u1 : (cs.all fun c => c.under H.length) = true) :
    finish 2 H.length e0 (.tup [ptV x a b (slL (H.length + j) n c) s, .bool y]) ⟨H ++ G, e1⟩ = some (.tup [ptV x a b (slL H.length n c) s, .bool y], ⟨H ++ [.cells cs wr], e0⟩) := by
  have hlt1 : ¬ H.length + j < H.length := by omega
  have hr : dedup (AV.roots H.length (.tup [ptV x a b (slL (H.length + j) n c) s, .bool y])) = [H.length + j] := by
    simp only [AV.roots, AV.roots.go, if_neg hlt1, List.nil_append, List.cons_append, List.append_nil]
    rfl
  have hb1 : (H ++ G)[H.length + j]? = some (.cells cs wr) := by rw [List.getElem?_append_right (by omega)]; simpa using h1
  unfold finish
  simp only [hr]
  have h3 : ([H.length + j].all fun b => flatBlk H.length (H ++ G)[b]?) = true := by
    simp only [List.all_cons, List.all_nil, Bool.and_true, hb1, flatBlk, u1]
  simp only [hc, h3, and_self, if_true]
  simp [AV.rename, AV.rename.go, renum, hb1, hlt1]

theorem finish_partyN {G : List Blk} {s1 n1 : Nat} {c1 : Option Nat} (x a b s : Int) (y : Bool) (e0 e1 : Option Nat) (hc : clean H.length e1 = true) :
    finish 2 H.length e0 (.tup [ptV x a b (.slice none s1 n1 c1) s, .bool y]) ⟨H ++ G, e1⟩ = some (.tup [ptV x a b (.slice none s1 n1 c1) s, .bool y], ⟨H, e0⟩) := by
  have hr : dedup (AV.roots H.length (.tup [ptV x a b (.slice none s1 n1 c1) s, .bool y])) = [] := rfl
  unfold finish
  simp only [hr]
  simp [AV.rename, AV.rename.go, hc]

theorem e_l_eqBeam (x a b : Int) : call T pr f_l_eqBeam [bmV x a b, bmV x a b] ⟨H, e⟩ = some (.bool true, ⟨H, e⟩) := by
  rw [call_eq t_l_eqBeam]
  simp +contextual only [a_l_eqBeam, c_l_eqBeam, decide_true, go_sem, entry, joinEsc, if_pos, reduceIte, Nat.reduceAdd, Nat.reduceLeDiff, Nat.reduceLT, Nat.reduceEqDiff]

theorem e_l_eqParty {r1 r2 : AV} (h1 : ∀ G, call T pr f_l_eqLoadS [r1, r2] ⟨H ++ G, none⟩ = some (.bool true, ⟨H ++ G, none⟩)) (x a b s : Int) :
    call T pr f_l_eqParty [ptV x a b r1 s, ptV x a b r2 s] ⟨H, e⟩ = some (.bool true, ⟨H, e⟩) := by
  rw [call_eq t_l_eqParty]
  simp +contextual only [a_l_eqParty, c_l_eqParty, e_l_eqBeam, h1, decide_true, go_sem, entry, joinEsc, if_pos, reduceIte, Nat.reduceAdd, Nat.reduceLeDiff, Nat.reduceLT, Nat.reduceEqDiff]

theorem e_l_szParty {p : Option (Nat × Nat)} {sz n : Nat} {c : Option Nat} (hn : n ≤ maxLen) (x a b s : Int) : call T pr f_l_szParty [ptV x a b (.slice p sz n c) s, .int .i64 1048576] ⟨H, e⟩ =
    some (.int .i64 (if n ≤ 1048576 then 1048576 - (n : Int) else -1), ⟨H, e⟩) := by
  rw [call_eq t_l_szParty]
  by_cases h1 : n ≤ 1048576
  · have h2 : ¬ (1048576 - (n : Int) < 0) := by omega
    simp +contextual only [a_l_szParty, c_l_szParty, e_l_szLoadS _ _ _ _ hn, h1, h2, decide_false, go_sem, entry, joinEsc, if_pos, reduceIte, Nat.reduceAdd, Nat.reduceLeDiff, Nat.reduceLT, Nat.reduceEqDiff]
  · simp +contextual only [a_l_szParty, c_l_szParty, e_l_szLoadS _ _ _ _ hn, h1, decide_true, show ((-1 : Int) < 0) by omega, go_sem, entry, joinEsc, if_pos, reduceIte, Nat.reduceAdd, Nat.reduceLeDiff, Nat.reduceLT, Nat.reduceEqDiff]

theorem e_l_toParty {people : AV} {ls : List Ld} (ha : ArgL H people ls) (hn : ls.length ≤ 1048576) (x a b s : Int) : call T pr f_l_toParty [ptV x a b people s] ⟨H, e⟩ =
    some (ptV x a b (slL H.length ls.length (some ls.length)) s, ⟨H ++ [.cells (encL ls) true], e⟩) := by
  have h1 := fun G e' => e_l_toLoadS (pr := pr) (e := e') (ha.more G) hn
  have hf : ∀ (B1 B2 B3 : Blk) (e0 e1 : Option Nat), clean H.length e1 = true → finish 2 H.length e0 (ptV x a b (slL (H.length + 3) ls.length (some ls.length)) s) ⟨H ++ [B1, B2, B3, .cells (encL ls) true], e1⟩ = some (ptV x a b (slL H.length ls.length (some ls.length)) s, ⟨H ++ [.cells (encL ls) true], e0⟩) :=
    fun B1 B2 B3 e0 e1 hc => finish_party x a b s e0 e1 hc rfl (under_encL _ _)
  rw [call_eq t_l_toParty]
  simp +contextual only [a_l_toParty, c_l_toParty, e_l_toBeam, h1, hf, under_slice, Nat.add_assoc, Nat.add_lt_add_iff_left, Nat.lt_irrefl, decide_false, clean_minEsc, clean_none, Nat.le_add_right, Nat.le_refl, decide_true, go_sem, entry, joinEsc, if_pos, reduceIte, Nat.reduceAdd, Nat.reduceLeDiff, Nat.reduceLT, Nat.reduceEqDiff]

/-- a valid party -/
def partyOk (x a b : Int) (ls : List Ld) (s : Int) : Bool := onOk x a b ls && (decide (x ≤ 12) && ((decide (1 ≤ ls.length) && decide (ls.length ≤ 3)) && (decide (sideW ls a b = 0) && (decide (1 ≤ s) && decide (s ≤ 4)))))

theorem e_i_IsParty {q : Nat} {c : Option Nat} {ls : List Ld} (h : cellsAt H q = some (encL ls)) (hn : ls.length ≤ 9223372036854775806) (x a b s : Int) : call T pr f_i_IsParty [ptV x a b (slL q ls.length c) s] ⟨H, e⟩ = some (.bool (partyOk x a b ls s), ⟨H, e⟩) := by
  rw [call_eq t_i_IsParty]
  have hi : (decide ((1 : Int) ≤ (ls.length : Int)) && decide ((ls.length : Int) ≤ 3)) = (decide (1 ≤ ls.length) && decide (ls.length ≤ 3)) := by
    rw [decide_eq_decide.mpr (show (1 : Int) ≤ (ls.length : Int) ↔ 1 ≤ ls.length by omega), decide_eq_decide.mpr (show (ls.length : Int) ≤ 3 ↔ ls.length ≤ 3 by omega)]
  unfold partyOk
  cases h1 : onOk x a b ls with
  | false => simp +contextual only [a_i_IsParty, c_i_IsParty, e_i_isOn (cells_mono h _) hn, h1, go_sem, entry, joinEsc, if_pos, reduceIte, Nat.reduceAdd, Nat.reduceLeDiff, Nat.reduceLT, Nat.reduceEqDiff]
  | true =>
    cases h2 : decide (x ≤ 12) with
    | false => simp +contextual only [a_i_IsParty, c_i_IsParty, e_i_isOn (cells_mono h _) hn, h1, h2, go_sem, entry, joinEsc, if_pos, reduceIte, Nat.reduceAdd, Nat.reduceLeDiff, Nat.reduceLT, Nat.reduceEqDiff]
    | true =>
      rw [← hi]
      cases h3 : (decide ((1 : Int) ≤ (ls.length : Int)) && decide ((ls.length : Int) ≤ 3)) with
      | false => simp +contextual only [a_i_IsParty, c_i_IsParty, e_i_isOn (cells_mono h _) hn, e_i_within, h1, h2, h3, go_sem, entry, joinEsc, if_pos, reduceIte, Nat.reduceAdd, Nat.reduceLeDiff, Nat.reduceLT, Nat.reduceEqDiff]
      | true =>
        cases h4 : decide (sideW ls a b = 0) with
        | false => simp +contextual only [a_i_IsParty, c_i_IsParty, e_i_isOn (cells_mono h _) hn, e_i_within, e_i_Beam_rests (cells_mono h _) hn, h1, h2, h3, h4, go_sem, entry, joinEsc, if_pos, reduceIte, Nat.reduceAdd, Nat.reduceLeDiff, Nat.reduceLT, Nat.reduceEqDiff]
        | true => simp +contextual only [a_i_IsParty, c_i_IsParty, e_i_isOn (cells_mono h _) hn, e_i_within, e_i_Beam_rests (cells_mono h _) hn, h1, h2, h3, h4, go_sem, entry, joinEsc, if_pos, reduceIte, Nat.reduceAdd, Nat.reduceLeDiff, Nat.reduceLT, Nat.reduceEqDiff]

theorem e_s_l11Rests {q : Nat} {c : Option Nat} {ls : List Ld} (h : cellsAt H q = some (encL ls)) (hn : ls.length ≤ 9223372036854775806) (x a b s : Int) : call T pr f_s_l11Rests [ptV x a b (slL q ls.length c) s] ⟨H, e⟩ = some (.bool (decide (sideW ls a b = 0)), ⟨H, e⟩) := by
  rw [call_eq t_s_l11Rests]
  simp +contextual only [a_s_l11Rests, c_s_l11Rests, e_s_l2Side (cells_mono h _) hn, go_sem, entry, joinEsc, if_pos, reduceIte, Nat.reduceAdd, Nat.reduceLeDiff, Nat.reduceLT, Nat.reduceEqDiff]

theorem e_s_l11Party {q : Nat} {c : Option Nat} {ls : List Ld} (h : cellsAt H q = some (encL ls)) (hn : ls.length ≤ 9223372036854775806) (x a b s : Int) : call T pr f_s_l11Party [ptV x a b (slL q ls.length c) s] ⟨H, e⟩ = some (.bool (partyOk x a b ls s), ⟨H, e⟩) := by
  rw [call_eq t_s_l11Party]
  have hi : (decide ((1 : Int) ≤ (ls.length : Int)) && decide ((ls.length : Int) ≤ 3)) = (decide (1 ≤ ls.length) && decide (ls.length ≤ 3)) := by
    rw [decide_eq_decide.mpr (show (1 : Int) ≤ (ls.length : Int) ↔ 1 ≤ ls.length by omega), decide_eq_decide.mpr (show (ls.length : Int) ≤ 3 ↔ ls.length ≤ 3 by omega)]
  have hr := fun G => e_s_l11Rests (pr := pr) (e := none) (c := c) (cells_mono h G) hn x a b s
  unfold partyOk
  cases h0 : beamOk x a b with
  | false =>
    have h1 : onOk x a b ls = false := by unfold onOk; rw [h0]; rfl
    rw [h1]
    simp +contextual only [a_s_l11Party, c_s_l11Party, e_s_l6Beam, h0, go_sem, entry, joinEsc, if_pos, reduceIte, Nat.reduceAdd, Nat.reduceLeDiff, Nat.reduceLT, Nat.reduceEqDiff]
  | true =>
    cases h2 : decide (x ≤ 12) with
    | false => simp +contextual only [a_s_l11Party, c_s_l11Party, e_s_l6Beam, h0, h2, Bool.and_false, go_sem, entry, joinEsc, if_pos, reduceIte, Nat.reduceAdd, Nat.reduceLeDiff, Nat.reduceLT, Nat.reduceEqDiff]
    | true =>
      rw [← hi]
      cases h3 : (decide ((1 : Int) ≤ (ls.length : Int)) && decide ((ls.length : Int) ≤ 3)) with
      | false => simp +contextual only [a_s_l11Party, c_s_l11Party, e_s_l6Beam, e_s_l1In, h0, h2, h3, Bool.and_false, go_sem, entry, joinEsc, if_pos, reduceIte, Nat.reduceAdd, Nat.reduceLeDiff, Nat.reduceLT, Nat.reduceEqDiff]
      | true =>
        cases h1 : onOk x a b ls with
        | false => simp +contextual only [a_s_l11Party, c_s_l11Party, e_s_l6Beam, e_s_l1In, e_s_l6On (cells_mono h _) hn, h0, h1, h2, h3, go_sem, entry, joinEsc, if_pos, reduceIte, Nat.reduceAdd, Nat.reduceLeDiff, Nat.reduceLT, Nat.reduceEqDiff]
        | true =>
          cases h5 : (decide (1 ≤ s) && decide (s ≤ 4)) with
          | false => simp +contextual only [a_s_l11Party, c_s_l11Party, e_s_l6Beam, e_s_l1In, e_s_l6On (cells_mono h _) hn, h0, h1, h2, h3, h5, go_sem, entry, joinEsc, if_pos, reduceIte, Nat.reduceAdd, Nat.reduceLeDiff, Nat.reduceLT, Nat.reduceEqDiff]
          | true => simp +contextual only [a_s_l11Party, c_s_l11Party, e_s_l6Beam, e_s_l1In, e_s_l6On (cells_mono h _) hn, hr, h0, h1, h2, h3, h5, go_sem, entry, joinEsc, if_pos, reduceIte, Nat.reduceAdd, Nat.reduceLeDiff, Nat.reduceLT, Nat.reduceEqDiff]

theorem e_s_IsParty {q : Nat} {c : Option Nat} {ls : List Ld} (h : cellsAt H q = some (encL ls)) (hn : ls.length ≤ 9223372036854775806) (x a b s : Int) : call T pr f_s_IsParty [ptV x a b (slL q ls.length c) s] ⟨H, e⟩ = some (.bool (partyOk x a b ls s), ⟨H, e⟩) := by
  rw [call_eq t_s_IsParty]
  simp +contextual only [a_s_IsParty, c_s_IsParty, e_s_l11Party (cells_mono h _) hn, go_sem, entry, joinEsc, if_pos, reduceIte, Nat.reduceAdd, Nat.reduceLeDiff, Nat.reduceLT, Nat.reduceEqDiff]

theorem law_IsParty {people : AV} {ls : List Ld} (ha : ArgL H people ls) (x a b s : Int) : ∃ m', call T pr f_l_FnExactIsParty [ptV x a b people s] ⟨H, none⟩ = some (.bool true, m') := by
  refine ⟨⟨H, none⟩, ?_⟩
  have hsz : ∀ G e', call T pr f_l_szParty [ptV x a b people s, .int .i64 1048576] ⟨G, e'⟩ = some (.int .i64 (if ls.length ≤ 1048576 then 1048576 - (ls.length : Int) else -1), ⟨G, e'⟩) := by
    obtain ⟨p, sz, c, rfl, h2, h3⟩ := ha
    exact fun G e' => e_l_szParty h2 x a b s
  rw [call_eq t_l_FnExactIsParty]
  by_cases hn : ls.length ≤ 1048576
  · have hneg : ¬ (1048576 - (ls.length : Int) < 0) := by omega
    have hto := fun G => e_l_toParty (pr := pr) (e := none) (ha.more G) hn x a b s
    have hn1 : ls.length ≤ 9223372036854775806 := by omega
    have hsi := fun L q c h1 => e_s_IsParty (pr := pr) (H := L) (e := none) (q := q) (c := c) (ls := ls) h1 hn1 x a b s
    have hii := fun L q c h1 => e_i_IsParty (pr := pr) (H := L) (e := none) (q := q) (c := c) (ls := ls) h1 hn1 x a b s
    have heq : ∀ L q1 q2 k1 k2, cellsAt L q1 = some (encL ls) → cellsAt L q2 = some (encL ls) → call T pr f_l_eqParty [ptV x a b (slL q1 ls.length k1) s, ptV x a b (slL q2 ls.length k2) s] ⟨L, none⟩ = some (.bool true, ⟨L, none⟩) :=
      fun L q1 q2 k1 k2 h1 h2 => e_l_eqParty (fun G => e_l_eqLoadS (cells_mono h1 G) (cells_mono h2 G) hn1) x a b s
    simp +contextual only [a_l_FnExactIsParty, c_l_FnExactIsParty, hsz, hn, hneg, hto, hsi, hii, heq, under_slice, under_sliceN, Nat.add_assoc, Nat.add_lt_add_iff_left, Nat.lt_add_right_iff_pos, decide_true, decide_false, beq_self_eq_true, go_sem, entry, joinEsc, if_pos, reduceIte, Nat.reduceAdd, Nat.reduceLeDiff, Nat.reduceLT, Nat.reduceEqDiff]
  · simp +contextual only [a_l_FnExactIsParty, c_l_FnExactIsParty, hsz, hn, decide_true, show ((-1 : Int) < 0) by omega, go_sem, entry, joinEsc, if_pos, reduceIte, Nat.reduceAdd, Nat.reduceLeDiff, Nat.reduceLT, Nat.reduceEqDiff]

end Go.Proofs.Ythkgpblohjpcdaa.Slim
