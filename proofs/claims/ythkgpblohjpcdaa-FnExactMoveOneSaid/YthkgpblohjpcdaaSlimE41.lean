/- The safe moves of a party: the functions and the law. -/
import Derived.Test.YthkgpblohjpcdaaSlimE40
namespace Go.Proofs.Ythkgpblohjpcdaa.Slim

open Go

set_option linter.unusedSimpArgs false

set_option linter.unusedVariables false

variable {pr : Prims} {H : List Blk} {e : Option Nat}

/-- the places of all people -/
def spots (ls : List Ld) : List Int := ls.map (fun l => l.1) ++ [0, 0, 0].drop ls.length

theorem spots_length {ls : List Ld} (hn : ls.length ≤ 3) : (spots ls).length = 3 := by
  unfold spots
  rw [List.length_append, List.length_map, List.length_drop]
  simp
  omega

theorem putL_self : ∀ (ls : List Ld) (ts : List Int), putL ls (ls.map (fun l => l.1) ++ ts) = ls
  | [], ts => rfl
  | l :: ls, ts => by simp [putL, putL_self ls ts]

theorem loop_i_Party_spots {q u n : Nat} {c : Option Nat} {ls : List Ld} {B0 B1 : Blk} {y0 y1 y2 : AV} (h : cellsAt H q = some (encL ls)) (hn : ls.length ≤ 3) :
    ∀ (k i : Nat) (P R : List Int) (G : List Blk) (y4 y5 y9 : AV), k + i = ls.length → P.length = i → P.length + R.length = 3 → ∃ (G' : List Blk) (z4 z5 z9 : AV), run T pr (.loop w_i_Party_spots_1) ⟨[y0, y1, y2, .ptr (some (H.length + 2, 0)), y4, y5, slL q ls.length c, .int .i64 ls.length, .int .i64 i, y9], ⟨H ++ (B0 :: B1 :: .cells (encI (P ++ R)) true :: G), e⟩⟩ =
      some (Ex.exit 0, ⟨[y0, y1, y2, .ptr (some (H.length + 2, 0)), z4, z5, slL q ls.length c, .int .i64 ls.length, .int .i64 ls.length, z9], ⟨H ++ (B0 :: B1 :: .cells (encI (P ++ ((ls.drop i).map (fun l => l.1) ++ R.drop k))) true :: G'), e⟩⟩)
  | 0, i, P, R, G, y4, y5, y9, hk, hP, hR => by
    obtain rfl : i = ls.length := by omega
    refine ⟨G, y4, y5, .bool false, ?_⟩
    rw [run_loop, List.drop_length]
    generalize run T pr (.loop w_i_Party_spots_1) = R'
    simp +contextual only [w_i_Party_spots_1, Nat.lt_irrefl, decide_false, go_sem, entry, joinEsc, if_pos, reduceIte, Nat.reduceAdd, Nat.reduceLeDiff, Nat.reduceLT, Nat.reduceEqDiff]
  | k + 1, i, P, [], G, y4, y5, y9, hk, hP, hR => by simp at hR; omega
  | k + 1, i, P, r :: R, G, y4, y5, y9, hk, hP, hR => by
    simp only [List.length_cons] at hR
    have hi : i < ls.length := by omega
    have hl : ls[i]? = some ls[i] := List.getElem?_eq_getElem hi
    obtain ⟨G', z4, z5, z9, ih⟩ := loop_i_Party_spots (c := c) (B0 := B0) (B1 := B1) (y0 := y0) (y1 := y1) (y2 := y2) (n := n) (u := u) h hn k (i + 1) (P ++ [ls[i].1]) R (G ++ [.cells [.int .i64 ls[i].1, .int .i64 ls[i].2] true]) (.int .i64 i) (.ptr (some (H.length + (G.length + 1 + 1 + 1), 0))) (.bool true) (by omega) (by simp; omega) (by simp; omega)
    refine ⟨G', z4, z5, z9, ?_⟩
    have hi3 : i < 3 := by omega
    have hset : ∀ v, setRange (encI (P ++ r :: R)) i [.int .i64 v] = encI (P ++ v :: R) := by intro v; rw [← hP, setRange_mid]; simp
    have hle : i + 1 ≤ (encI (P ++ r :: R)).length := by simp [encI]; omega
    rw [run_loop]
    generalize run T pr (.loop w_i_Party_spots_1) = R' at ih ⊢
    simp only [List.append_assoc, List.singleton_append] at ih
    rw [List.drop_eq_getElem_cons hi, List.map_cons, List.cons_append, List.drop_succ_cons]
    simp +contextual only [w_i_Party_spots_1, cells_mono h, hi, hi3, hl, part_encL hl, hset, hle, wrap_succ (show i < 9223372036854775807 by omega), decide_true, go_sem, entry, joinEsc, if_pos, reduceIte, Nat.reduceAdd, Nat.reduceLeDiff, Nat.reduceLT, Nat.reduceEqDiff]
    exact ih

theorem e_i_Party_spots {q : Nat} {c : Option Nat} {ls : List Ld} (h : cellsAt H q = some (encL ls)) (hn : ls.length ≤ 3) (x a b s : Int) {s0 s1 s2 : Int} (hs : spots ls = [s0, s1, s2]) : call T pr f_i_Party_spots [ptV x a b (slL q ls.length c) s] ⟨H, e⟩ =
    some (spV s0 s1 s2, ⟨H, e⟩) := by
  obtain ⟨G', z4, z5, z9, hl⟩ := loop_i_Party_spots (pr := pr) (e := none) (c := c) (n := 0) (u := 0) (B0 := .cells [.int .i64 x, .int .i64 a, .int .i64 b, slL q ls.length c, .int .i64 s] true) (B1 := .cells [.int .i64 0, .int .i64 0, .int .i64 0] true) (y0 := ptV x a b (slL q ls.length c) s) (y1 := .ptr (some (H.length, 0))) (y2 := .ptr (some (H.length + 1, 0))) h hn ls.length 0 [] [0, 0, 0] [] .undef .undef .undef rfl rfl rfl
  have h0 : ((0 : Nat) : Int) = 0 := rfl
  have hs' : ls.map (fun l => l.1) ++ [0, 0, 0].drop ls.length = [s0, s1, s2] := hs
  simp only [List.drop_zero, List.nil_append, h0, hs', encI, List.map_cons, List.map_nil] at hl
  rw [call_eq t_i_Party_spots]
  simp +contextual only [a_i_Party_spots, c_i_Party_spots, fillParts, hl, go_sem, entry, joinEsc, if_pos, reduceIte, Nat.reduceAdd, Nat.reduceLeDiff, Nat.reduceLT, Nat.reduceEqDiff]

/-- all safe moves of a party -/
def mvs (x a b s : Int) (ls : List Ld) : List Ld := mvsFrom x a b s ls ls.length 0

theorem e_i_Party_moves {q : Nat} {c : Option Nat} {ls : List Ld} (h : cellsAt H q = some (encL ls)) (hn : ls.length ≤ 3) (x a b s s0 s1 s2 : Int) : ∃ cap, call T pr f_i_Party_moves [ptV x a b (slL q ls.length c) s, spV s0 s1 s2] ⟨H, e⟩ =
    some (slL H.length (mvs x a b s (putL ls [s0, s1, s2])).length cap, ⟨H ++ [.cells (encL (mvs x a b s (putL ls [s0, s1, s2]))) true], e⟩) := by
  obtain ⟨jb', cap', G', z6, z7, z8, z11, z12, z13, z14, z15, k1, hl⟩ := loop_i_moves_2 (pr := pr) (e := none) (H := H ++ [.cells [.int .i64 x, .int .i64 a, .int .i64 b, slL q ls.length c, .int .i64 s] true, .cells [.int .i64 s0, .int .i64 s1, .int .i64 s2] true]) (u := H.length) (sb := H.length + 1) (y0 := ptV x a b (slL q ls.length c) s) (y1 := spV s0 s1 s2) (y4 := .slice none 0 0 none) (cells_mono h _) hn (by rw [cellsAt_new0]; rfl) (by rw [cellsAt_newk]; rfl) ls.length 0 [] 0 (some 0) [.cells [] true] .undef .undef .undef .undef .undef .undef .undef .undef rfl (by simp; omega) rfl (fun _ => rfl)
  have h0 : ((0 : Nat) : Int) = 0 := rfl
  have hm : mvsFrom x a b s (putL ls [s0, s1, s2]) ls.length 0 = mvs x a b s (putL ls [s0, s1, s2]) := by unfold mvs; rw [putL_length]
  rw [h0, List.nil_append, hm] at hl
  rw [List.nil_append, hm] at k1
  refine ⟨cap', ?_⟩
  simp only [List.length_append, List.length_cons, List.length_nil, Nat.zero_add, Nat.add_zero, List.append_assoc, List.cons_append, List.nil_append, Nat.reduceAdd, Nat.add_assoc] at hl
  have hf : ∀ (B B' : Blk) (e0 : Option Nat), finish 2 H.length e0 (slL (H.length + (2 + jb')) (mvs x a b s (putL ls [s0, s1, s2])).length cap') ⟨H ++ (B :: B' :: G'), none⟩ = some (slL H.length (mvs x a b s (putL ls [s0, s1, s2])).length cap', ⟨H ++ [.cells (encL (mvs x a b s (putL ls [s0, s1, s2]))) true], e0⟩) :=
    fun B B' e0 => finish_two_at e0 (by rw [show 2 + jb' = jb' + 1 + 1 by omega]; exact k1) (under_encL _ _)
  rw [call_eq t_i_Party_moves]
  simp +contextual only [a_i_Party_moves, c_i_Party_moves, fillParts, hl, hf, go_sem, entry, joinEsc, if_pos, reduceIte, Nat.reduceAdd, Nat.reduceLeDiff, Nat.reduceLT, Nat.reduceEqDiff]

theorem e_s_l11Moves {q : Nat} {c : Option Nat} {ls : List Ld} (h : cellsAt H q = some (encL ls)) (hn : ls.length ≤ 3) (hpl : plB ls) (x a b s : Int) (hs : 1 ≤ s ∧ s ≤ 4) : ∃ cap, call T pr f_s_l11Moves [ptV x a b (slL q ls.length c) s] ⟨H, e⟩ =
    some (slL H.length (mvs x a b s ls).length cap, ⟨H ++ [.cells (encL (mvs x a b s ls)) true], e⟩) := by
  obtain ⟨jb', cap', G', z5, z6, z7, z8, z9, k1, hl⟩ := loop_s_moves_2 (pr := pr) (e := none) (H := H ++ [.cells [.int .i64 x, .int .i64 a, .int .i64 b, slL q ls.length c, .int .i64 s] true]) (u := H.length) (y0 := ptV x a b (slL q ls.length c) s) (y2 := .slice none 0 0 none) (cells_mono h _) hn hpl hs (by rw [cellsAt_new0]; rfl) ls.length 0 [] 0 (some 0) [.cells [] true] .undef .undef .undef .undef .undef rfl (by simp; omega) rfl (fun _ => rfl)
  have h0 : ((0 : Nat) : Int) = 0 := rfl
  have hm : mvsFrom x a b s ls ls.length 0 = mvs x a b s ls := rfl
  rw [h0, List.nil_append, hm] at hl
  rw [List.nil_append, hm] at k1
  refine ⟨cap', ?_⟩
  simp only [List.length_append, List.length_cons, List.length_nil, Nat.zero_add, Nat.add_zero, List.append_assoc, List.cons_append, List.nil_append, Nat.reduceAdd, Nat.add_assoc] at hl
  have hf : ∀ (B : Blk) (e0 : Option Nat), finish 2 H.length e0 (slL (H.length + (1 + jb')) (mvs x a b s ls).length cap') ⟨H ++ (B :: G'), none⟩ = some (slL H.length (mvs x a b s ls).length cap', ⟨H ++ [.cells (encL (mvs x a b s ls)) true], e0⟩) :=
    fun B e0 => finish_two_at e0 (by rw [show 1 + jb' = jb' + 1 by omega]; exact k1) (under_encL _ _)
  rw [call_eq t_s_l11Moves]
  simp +contextual only [a_s_l11Moves, c_s_l11Moves, fillParts, hl, hf, go_sem, entry, joinEsc, if_pos, reduceIte, Nat.reduceAdd, Nat.reduceLeDiff, Nat.reduceLT, Nat.reduceEqDiff]

theorem party_facts {x a b s : Int} {ls : List Ld} (h : partyOk x a b ls s = true) : ls.length ≤ 3 ∧ plB ls ∧ (1 ≤ s ∧ s ≤ 4) := by
  have h0 := h
  unfold partyOk onOk at h
  simp only [Bool.and_eq_true, decide_eq_true_eq] at h
  have hrow : rowOk ls = true := by
    obtain ⟨h1, h2⟩ := h
    simp_all
  refine ⟨(party_bounds h0).1, fun i hi => ?_, by omega⟩
  unfold rowOk at hrow
  have hall := (Bool.and_eq_true_iff.mp hrow).2
  have hl : ls[i]? = some ls[i] := List.getElem?_eq_getElem hi
  have := List.all_eq_true.mp hall ls[i] (List.getElem_mem hi)
  unfold okL at this
  simp only [Bool.and_eq_true, decide_eq_true_eq] at this
  have hp : plOf ls i = ls[i].1 := by unfold plOf; rw [hl]; rfl
  rw [hp]
  exact this.1

theorem e_i_SafeMoves_no {q : Nat} {c : Option Nat} {ls : List Ld} (h : cellsAt H q = some (encL ls)) (hn : ls.length ≤ 9223372036854775806) (x a b s : Int) (hp : partyOk x a b ls s = false) : call T pr f_i_SafeMoves [ptV x a b (slL q ls.length c) s] ⟨H, e⟩ =
    some (.tup [.slice none 0 0 none, .bool false], ⟨H, e⟩) := by
  rw [call_eq t_i_SafeMoves]
  simp +contextual only [a_i_SafeMoves, c_i_SafeMoves, e_i_IsParty (cells_mono h _) hn, hp, finish_two_nb, go_sem, entry, joinEsc, if_pos, reduceIte, Nat.reduceAdd, Nat.reduceLeDiff, Nat.reduceLT, Nat.reduceEqDiff]

theorem e_s_SafeMoves_no {q : Nat} {c : Option Nat} {ls : List Ld} (h : cellsAt H q = some (encL ls)) (hn : ls.length ≤ 9223372036854775806) (x a b s : Int) (hp : partyOk x a b ls s = false) : call T pr f_s_SafeMoves [ptV x a b (slL q ls.length c) s] ⟨H, e⟩ =
    some (.tup [.slice (some (H.length, 0)) 2 0 (some 0), .bool false], ⟨H ++ [.cells [] true], e⟩) := by
  have hf : ∀ (B : Blk) (e0 : Option Nat), finish 2 H.length e0 (.tup [.slice (some (H.length + 1, 0)) 2 0 (some 0), .bool false]) ⟨H ++ [B, .cells [] true], none⟩ = some (.tup [.slice (some (H.length, 0)) 2 0 (some 0), .bool false], ⟨H ++ [.cells [] true], e0⟩) :=
    fun B e0 => finish_two_sb false e0 rfl rfl
  rw [call_eq t_s_SafeMoves]
  simp +contextual only [a_s_SafeMoves, c_s_SafeMoves, fillParts, e_s_l11Party (cells_mono h _) hn, hp, hf, go_sem, entry, joinEsc, if_pos, reduceIte, Nat.reduceAdd, Nat.reduceLeDiff, Nat.reduceLT, Nat.reduceEqDiff]

theorem e_i_SafeMoves {q : Nat} {c : Option Nat} {ls : List Ld} (h : cellsAt H q = some (encL ls)) (x a b s : Int) (hp : partyOk x a b ls s = true) : ∃ cap, call T pr f_i_SafeMoves [ptV x a b (slL q ls.length c) s] ⟨H, e⟩ =
    some (.tup [slL H.length (mvs x a b s ls).length cap, .bool true], ⟨H ++ [.cells (encL (mvs x a b s ls)) true], e⟩) := by
  obtain ⟨hn, hpl, hs⟩ := party_facts hp
  have hn1 : ls.length ≤ 9223372036854775806 := by omega
  obtain ⟨s0, s1, s2, h3⟩ := three (spots_length hn)
  have hput : putL ls [s0, s1, s2] = ls := by rw [← h3]; exact putL_self ls _
  have hsp := fun G => e_i_Party_spots (pr := pr) (e := none) (c := c) (cells_mono h G) hn x a b s h3
  obtain ⟨cap, hm⟩ := e_i_Party_moves (pr := pr) (e := none) (c := c) (cells_mono h [.cells [.int .i64 x, .int .i64 a, .int .i64 b, slL q ls.length c, .int .i64 s] true]) hn x a b s s0 s1 s2
  rw [hput] at hm
  simp only [List.length_append, List.append_assoc, List.cons_append, List.nil_append, List.length_cons, List.length_nil, Nat.zero_add] at hm
  refine ⟨cap, ?_⟩
  have hf : ∀ (B : Blk) (e0 : Option Nat), finish 2 H.length e0 (.tup [slL (H.length + 1) (mvs x a b s ls).length cap, .bool true]) ⟨H ++ [B, .cells (encL (mvs x a b s ls)) true], none⟩ = some (.tup [slL H.length (mvs x a b s ls).length cap, .bool true], ⟨H ++ [.cells (encL (mvs x a b s ls)) true], e0⟩) :=
    fun B e0 => finish_two_sb true e0 rfl (under_encL _ _)
  rw [call_eq t_i_SafeMoves]
  simp +contextual only [a_i_SafeMoves, c_i_SafeMoves, e_i_IsParty (cells_mono h _) hn1, hp, hsp, hm, hf, go_sem, entry, joinEsc, if_pos, reduceIte, Nat.reduceAdd, Nat.reduceLeDiff, Nat.reduceLT, Nat.reduceEqDiff]

theorem e_s_SafeMoves {q : Nat} {c : Option Nat} {ls : List Ld} (h : cellsAt H q = some (encL ls)) (x a b s : Int) (hp : partyOk x a b ls s = true) : ∃ cap, call T pr f_s_SafeMoves [ptV x a b (slL q ls.length c) s] ⟨H, e⟩ =
    some (.tup [slL H.length (mvs x a b s ls).length cap, .bool true], ⟨H ++ [.cells (encL (mvs x a b s ls)) true], e⟩) := by
  obtain ⟨hn, hpl, hs⟩ := party_facts hp
  have hn1 : ls.length ≤ 9223372036854775806 := by omega
  obtain ⟨cap, hm⟩ := e_s_l11Moves (pr := pr) (e := none) (c := c) (cells_mono h [.cells [.int .i64 x, .int .i64 a, .int .i64 b, slL q ls.length c, .int .i64 s] true]) hn hpl x a b s hs
  simp only [List.length_append, List.append_assoc, List.cons_append, List.nil_append, List.length_cons, List.length_nil, Nat.zero_add] at hm
  refine ⟨cap, ?_⟩
  have hf : ∀ (B : Blk) (e0 : Option Nat), finish 2 H.length e0 (.tup [slL (H.length + 1) (mvs x a b s ls).length cap, .bool true]) ⟨H ++ [B, .cells (encL (mvs x a b s ls)) true], none⟩ = some (.tup [slL H.length (mvs x a b s ls).length cap, .bool true], ⟨H ++ [.cells (encL (mvs x a b s ls)) true], e0⟩) :=
    fun B e0 => finish_two_sb true e0 rfl (under_encL _ _)
  rw [call_eq t_s_SafeMoves]
  simp +contextual only [a_s_SafeMoves, c_s_SafeMoves, e_s_l11Party (cells_mono h _) hn1, hp, hm, hf, go_sem, entry, joinEsc, if_pos, reduceIte, Nat.reduceAdd, Nat.reduceLeDiff, Nat.reduceLT, Nat.reduceEqDiff]

theorem e_l_markParty {L : List Blk} {b1 : Nat} {c : Option Nat} {ls : List Ld} (h : L[b1]? = some (.cells (encL ls) true)) (hn : ls.length ≤ 4194304) (x a b s : Int) (k : Nat) (hk : k ≤ 4194304) : call T pr f_l_markParty [ptV x a b (slL b1 ls.length c) s, .int .i64 k] ⟨L, e⟩ =
    some (.int .i64 ((k + ls.length * 2 : Nat) : Int), ⟨L.set b1 (.cells (encL (markedL k ls.length)) true), e⟩) := by
  have hb := (List.getElem?_eq_some_iff.mp h).1
  have hm := fun B => e_l_markLoadS (pr := pr) (e := none) (L := L ++ [B]) (c := c) (b := b1) (ls := ls) (by rw [List.getElem?_append_left hb]; exact h) hn k hk
  have hfin : ∀ (e0 : Option Nat) (B : Blk) (v : AV), v.under L.length = true → finish 1 L.length e0 v ⟨(L ++ [B]).set b1 (.cells (encL (markedL k ls.length)) true), none⟩ = some (v, ⟨L.set b1 (.cells (encL (markedL k ls.length)) true), e0⟩) := by
    intro e0 B v hv
    rw [set_left hb]
    exact finish_one_len v e0 (by simp) hv
  rw [call_eq t_l_markParty]
  simp +contextual only [a_l_markParty, c_l_markParty, hm, hfin, go_sem, entry, joinEsc, if_pos, reduceIte, Nat.reduceAdd, Nat.reduceLeDiff, Nat.reduceLT, Nat.reduceEqDiff]

theorem mvs_le (x a b s : Int) (ls : List Ld) : ∀ (k i : Nat), (mvsFrom x a b s ls k i).length ≤ 2 * k
  | 0, i => Nat.le_refl _
  | k + 1, i => by
    have h1 := selM_le x a b ls i [wr (plOf ls i - s), wr (plOf ls i + s)]
    have h2 := mvs_le x a b s ls k (i + 1)
    rw [mvsFrom, List.length_append]
    simp at h1
    omega

theorem law_SafeMoves {people : AV} {ls : List Ld} (ha : ArgL H people ls) (x a b s : Int) : ∃ m', call T pr f_l_FnExactSafeMoves [ptV x a b people s] ⟨H, none⟩ = some (.bool true, m') := by
  refine ⟨⟨H, none⟩, ?_⟩
  have hsz : ∀ G e', call T pr f_l_szParty [ptV x a b people s, .int .i64 1048576] ⟨G, e'⟩ = some (.int .i64 (if ls.length ≤ 1048576 then 1048576 - (ls.length : Int) else -1), ⟨G, e'⟩) := by
    obtain ⟨p, sz, c, rfl, h2, h3⟩ := ha
    exact fun G e' => e_l_szParty h2 x a b s
  rw [call_eq t_l_FnExactSafeMoves]
  by_cases hn : ls.length ≤ 1048576
  · have hneg : ¬ (1048576 - (ls.length : Int) < 0) := by omega
    have hto := fun G => e_l_toParty (pr := pr) (e := none) (ha.more G) hn x a b s
    have hn1 : ls.length ≤ 9223372036854775806 := by omega
    have heq : ∀ L q1 q2 k1 k2, cellsAt L q1 = some (encL ls) → cellsAt L q2 = some (encL ls) → call T pr f_l_eqParty [ptV x a b (slL q1 ls.length k1) s, ptV x a b (slL q2 ls.length k2) s] ⟨L, none⟩ = some (.bool true, ⟨L, none⟩) :=
      fun L q1 q2 k1 k2 h1 h2 => e_l_eqParty (fun G => e_l_eqLoadS (cells_mono h1 G) (cells_mono h2 G) hn1) x a b s
    have hmark : ∀ L b1 c, L[b1]? = some (.cells (encL ls) true) → call T pr f_l_markParty [ptV x a b (slL b1 ls.length c) s, .int .i64 1] ⟨L, none⟩ = some (.int .i64 ((1 + ls.length * 2 : Nat) : Int), ⟨L.set b1 (.cells (encL (markedL 1 ls.length)) true), none⟩) :=
      fun L b1 c h => e_l_markParty h (by omega) x a b s 1 (by omega)
    have hk0 : ¬ (((1 + ls.length * 2 : Nat) : Int) < 0) := by omega
    have h10 : ¬ ((1 : Int) < 0) := by omega
    cases hcan : partyOk x a b ls s with
    | false =>
      have hsi := fun L q c h1 => e_s_SafeMoves_no (pr := pr) (H := L) (e := none) (q := q) (c := c) (ls := ls) h1 hn1 x a b s hcan
      have hii := fun L q c h1 => e_i_SafeMoves_no (pr := pr) (H := L) (e := none) (q := q) (c := c) (ls := ls) h1 hn1 x a b s hcan
      simp +contextual only [a_l_FnExactSafeMoves, c_l_FnExactSafeMoves, hsz, hn, hneg, hto, hsi, hii, heq, e_l_eqIntA2S_none, e_l_markIntA2S_none, e_l_heldIntA2S_none, hmark, hk0, h10, under_slice, under_sliceN, Nat.add_assoc, Nat.add_lt_add_iff_left, Nat.lt_add_right_iff_pos, decide_true, decide_false, beq_self_eq_true, go_sem, entry, joinEsc, if_pos, reduceIte, Nat.reduceAdd, Nat.reduceLeDiff, Nat.reduceLT, Nat.reduceEqDiff]
    | true =>
      have hl3 := (party_facts hcan).1
      have hml : (mvs x a b s ls).length ≤ 6 := Nat.le_trans (mvs_le x a b s ls _ _) (by omega)
      have hsi := fun L q c h1 => hid_tup (e_s_SafeMoves (pr := pr) (H := L) (e := none) (q := q) (c := c) (ls := ls) h1 x a b s hcan)
      have hii := fun L q c h1 => hid_tup (e_i_SafeMoves (pr := pr) (H := L) (e := none) (q := q) (c := c) (ls := ls) h1 x a b s hcan)
      generalize mvs x a b s ls = os at *
      have ho' : os.length ≤ 9223372036854775806 := by omega
      have heqm : ∀ L b1 b2 c1 c2, cellsAt L b1 = some (encL os) → cellsAt L b2 = some (encL os) → call T pr f_l_eqIntA2S [slL b1 os.length c1, slL b2 os.length c2] ⟨L, none⟩ = some (.bool true, ⟨L, none⟩) :=
        fun L b1 b2 c1 c2 h1 h2 => e_l_eqIntA2S h1 h2 ho'
      have hmi : ∀ L b c, L[b]? = some (.cells (encL os) true) → call T pr f_l_markIntA2S [slL b os.length c, .int .i64 1] ⟨L, none⟩ = some (.int .i64 ((1 + os.length * 2 : Nat) : Int), ⟨L.set b (.cells (encL (markedL 1 os.length)) true), none⟩) :=
        fun L b c h => e_l_markIntA2S h (by omega) 1 (by omega)
      have hhe : ∀ L b c, cellsAt L b = some (encL (markedL 1 os.length)) → call T pr f_l_heldIntA2S [slL b os.length c, .int .i64 1] ⟨L, none⟩ = some (.int .i64 ((1 + os.length * 2 : Nat) : Int), ⟨L, none⟩) :=
        fun L b c h => e_l_heldIntA2S (k := 1) h (by omega) (by omega)
      have hk1 : ¬ (((1 + os.length * 2 : Nat) : Int) < 0) := by omega
      simp +contextual only [a_l_FnExactSafeMoves, c_l_FnExactSafeMoves, hsz, hn, hneg, hto, hsi, hii, heq, heqm, hmi, hhe, hk1, hmark, hk0, h10, under_slice, under_sliceN, Nat.add_assoc, Nat.add_lt_add_iff_left, Nat.lt_add_right_iff_pos, decide_true, decide_false, beq_self_eq_true, go_sem, entry, joinEsc, if_pos, reduceIte, Nat.reduceAdd, Nat.reduceLeDiff, Nat.reduceLT, Nat.reduceEqDiff]
  · simp +contextual only [a_l_FnExactSafeMoves, c_l_FnExactSafeMoves, hsz, hn, decide_true, show ((-1 : Int) < 0) by omega, go_sem, entry, joinEsc, if_pos, reduceIte, Nat.reduceAdd, Nat.reduceLeDiff, Nat.reduceLT, Nat.reduceEqDiff]

end Go.Proofs.Ythkgpblohjpcdaa.Slim
