/- Walks of a party: the functions and the laws. -/
import Derived.Test.YthkgpblohjpcdaaSlimE42
namespace Go.Proofs.Ythkgpblohjpcdaa.Slim

open Go

set_option linter.unusedSimpArgs false

set_option linter.unusedVariables false

variable {pr : Prims} {H : List Blk} {e : Option Nat}

theorem e_i_Party_walk {q qw : Nat} {c cw : Option Nat} {ls ws : List Ld} {x a b s : Int} (h : cellsAt H q = some (encL ls)) (hw : cellsAt H qw = some (encL ws)) (hp : partyOk x a b ls s = true) (hwn : ws.length ≤ 1048576) {t0 t1 t2 : Int} (hwk : walkS x a b s ls (spots ls) ws = some [t0, t1, t2]) :
    call T pr f_i_Party_walk [ptV x a b (slL q ls.length c) s, slL qw ws.length cw] ⟨H, e⟩ = some (.tup [spV t0 t1 t2, .bool true], ⟨H, e⟩) := by
  obtain ⟨hn, hpl, hs⟩ := party_facts hp
  obtain ⟨_, hx1, hx2⟩ := party_bounds hp
  obtain ⟨s0, s1, s2, h3⟩ := three (spots_length hn)
  have hput : putL ls [s0, s1, s2] = ls := by rw [← h3]; exact putL_self ls _
  have hsp := fun G => e_i_Party_spots (pr := pr) (e := none) (c := c) (cells_mono h G) hn x a b s h3
  obtain ⟨B3, G', z6, z9, z10, z11, k1, hl⟩ := loop_i_Party_walk (pr := pr) (e := none) (c := c) (cw := cw) (y0 := ptV x a b (slL q ls.length c) s) (a := a) (b := b) h hn hs (show x ≤ 60 by omega) hw hwn ws.length 0 s0 s1 s2 [] .undef .undef .undef rfl (by rw [hput]; exact hpl)
  have h0 : ((0 : Nat) : Int) = 0 := rfl
  rw [h3] at hwk
  rw [List.drop_zero, hwk] at hl
  rw [List.drop_zero] at k1
  rw [k1 t0 t1 t2 hwk, h0, Option.isSome_some, if_pos rfl] at hl
  rw [call_eq t_i_Party_walk]
  simp +contextual only [a_i_Party_walk, c_i_Party_walk, fillParts, hsp, hl, go_sem, entry, joinEsc, if_pos, reduceIte, Nat.reduceAdd, Nat.reduceLeDiff, Nat.reduceLT, Nat.reduceEqDiff]

theorem e_i_Party_walk_no {q qw : Nat} {c cw : Option Nat} {ls ws : List Ld} {x a b s : Int} (h : cellsAt H q = some (encL ls)) (hw : cellsAt H qw = some (encL ws)) (hp : partyOk x a b ls s = true) (hwn : ws.length ≤ 1048576) (hwk : walkS x a b s ls (spots ls) ws = none) :
    call T pr f_i_Party_walk [ptV x a b (slL q ls.length c) s, slL qw ws.length cw] ⟨H, e⟩ = some (.tup [spV 0 0 0, .bool false], ⟨H, e⟩) := by
  obtain ⟨hn, hpl, hs⟩ := party_facts hp
  obtain ⟨_, hx1, hx2⟩ := party_bounds hp
  obtain ⟨s0, s1, s2, h3⟩ := three (spots_length hn)
  have hput : putL ls [s0, s1, s2] = ls := by rw [← h3]; exact putL_self ls _
  have hsp := fun G => e_i_Party_spots (pr := pr) (e := none) (c := c) (cells_mono h G) hn x a b s h3
  obtain ⟨B3, G', z6, z9, z10, z11, k1, hl⟩ := loop_i_Party_walk (pr := pr) (e := none) (c := c) (cw := cw) (y0 := ptV x a b (slL q ls.length c) s) (a := a) (b := b) h hn hs (show x ≤ 60 by omega) hw hwn ws.length 0 s0 s1 s2 [] .undef .undef .undef rfl (by rw [hput]; exact hpl)
  have h0 : ((0 : Nat) : Int) = 0 := rfl
  rw [h3] at hwk
  rw [List.drop_zero, hwk, h0, Option.isSome_none, if_neg (by simp)] at hl
  rw [call_eq t_i_Party_walk]
  simp +contextual only [a_i_Party_walk, c_i_Party_walk, fillParts, hsp, hl, go_sem, entry, joinEsc, if_pos, reduceIte, Nat.reduceAdd, Nat.reduceLeDiff, Nat.reduceLT, Nat.reduceEqDiff]

theorem walk_cases {x a b s : Int} {ls ws : List Ld} (hn : ls.length ≤ 3) : (walkS x a b s ls (spots ls) ws = none ∧ walkW x a b s ls ws = none) ∨ (∃ t0 t1 t2, walkS x a b s ls (spots ls) ws = some [t0, t1, t2] ∧ walkW x a b s ls ws = some (putL ls [t0, t1, t2])) := by
  have hput : putL ls (spots ls) = ls := putL_self ls _
  have h := walk_eq (x := x) (a := a) (b := b) (s := s) ws (spots ls) (ls := ls) (by rw [spots_length hn]; exact hn)
  rw [hput] at h
  have hlen : ∀ (ms : List Ld) (ss r : List Int), walkS x a b s ls ss ms = some r → r.length = ss.length := by
    intro ms
    induction ms with
    | nil => intro ss r hr; cases hr; rfl
    | cons m ms ih =>
      intro ss r hr
      rw [walkS] at hr
      split at hr
      · rw [ih _ _ hr, List.length_set]
      · cases hr
  cases hw : walkS x a b s ls (spots ls) ws with
  | none => exact .inl ⟨rfl, by rw [h, hw]; rfl⟩
  | some r =>
    obtain ⟨t0, t1, t2, rfl⟩ := three ((hlen _ _ _ hw).trans (spots_length hn))
    exact .inr ⟨t0, t1, t2, rfl, by rw [h, hw]; rfl⟩

theorem loop_s_l11Walk {qw n : Nat} {cw : Option Nat} {ws : List Ld} {x a b s : Int} {y0 y9 : AV} {B0 B1 B2 B3 : Blk} (hn : n ≤ 3) (hw : cellsAt H qw = some (encL ws)) (hwn : ws.length ≤ 60) (hB1 : B1 = .cells [.int .i64 0, .int .i64 0, .int .i64 0, .slice none 0 0 none, .int .i64 0] true) :
    ∀ (k i jb : Nat) (cur : List Ld) (G : List Blk) (y7 y8 : AV) (e : Option Nat), clean H.length e = true → k + i = ws.length → cur.length = n → (B0 :: B1 :: B2 :: B3 :: .cells [.int .i64 x, .int .i64 a, .int .i64 b, slL (H.length + jb) n none, .int .i64 s] true :: G)[jb]? = some (.cells (encL cur) true) →
      ∃ (B4 : Blk) (jb' : Nat) (G' : List Blk) (z6 z7 z8 : AV) (e' : Option Nat), clean H.length e' = true ∧
      (∀ r, walkW x a b s cur (ws.drop i) = some r → B4 = .cells [.int .i64 x, .int .i64 a, .int .i64 b, slL (H.length + jb') n none, .int .i64 s] true ∧ (B0 :: B1 :: B2 :: B3 :: B4 :: G')[jb']? = some (.cells (encL r) true)) ∧
      run T pr (.loop w_s_l11Walk_1) ⟨[y0, slL qw ws.length cw, .ptr (some (H.length, 0)), .ptr (some (H.length + 1, 0)), .bool false, .ptr (some (H.length + 4, 0)), .int .i64 i, y7, y8, y9], ⟨H ++ (B0 :: B1 :: B2 :: B3 :: .cells [.int .i64 x, .int .i64 a, .int .i64 b, slL (H.length + jb) n none, .int .i64 s] true :: G), e⟩⟩ =
        some (if (walkW x a b s cur (ws.drop i)).isSome = true then Ex.exit 0 else Ex.ret, ⟨[y0, slL qw ws.length cw, .ptr (some (H.length, 0)), .ptr (some (H.length + 1, 0)), .bool false, .ptr (some (H.length + 4, 0)), z6, z7, z8, y9], ⟨H ++ (B0 :: B1 :: B2 :: B3 :: B4 :: G'), e'⟩⟩)
  | 0, i, jb, cur, G, y7, y8, e, hce, hk, hc, hj => by
    obtain rfl : i = ws.length := by omega
    have hd : walkW x a b s cur (ws.drop ws.length) = some cur := by rw [List.drop_length]; rfl
    refine ⟨.cells [.int .i64 x, .int .i64 a, .int .i64 b, slL (H.length + jb) n none, .int .i64 s] true, jb, G, .int .i64 ws.length, .bool false, y8, e, hce, fun r hr => ?_, ?_⟩
    · rw [hd] at hr
      cases hr
      exact ⟨rfl, hj⟩
    · rw [run_loop, hd]
      generalize run T pr (.loop w_s_l11Walk_1) = R
      simp +contextual only [w_s_l11Walk_1, Nat.lt_irrefl, decide_false, Option.isSome_some, go_sem, entry, joinEsc, if_pos, reduceIte, Nat.reduceAdd, Nat.reduceLeDiff, Nat.reduceLT, Nat.reduceEqDiff]
  | k + 1, i, jb, cur, G, y7, y8, e, hce, hk, hc, hj => by
    have hi : i < ws.length := by omega
    have h60 : (ws.length : Int) ≤ 60 := by omega
    obtain ⟨m1, m2, hl⟩ : ∃ m1 m2, ws[i]? = some (m1, m2) := ⟨ws[i].1, ws[i].2, List.getElem?_eq_getElem hi⟩
    have hd : ws.drop i = (m1, m2) :: ws.drop (i + 1) := by
      have h1 := List.drop_eq_getElem_cons hi
      rw [List.getElem?_eq_getElem hi] at hl
      rw [h1, Option.some.inj hl]
    have hpart : part true (encL ws) (i * 2) 2 = some (.agg [.int .i64 m1, .int .i64 m2]) := part_encL hl
    have hcell : cellsAt (H ++ (B0 :: B1 :: B2 :: B3 :: .cells [.int .i64 x, .int .i64 a, .int .i64 b, slL (H.length + jb) n none, .int .i64 s] true :: G)) (H.length + jb) = some (encL cur) := by
      rw [cellsAt_newk]; exact cellsAt_get hj
    have hsf := e_s_l11Safe (pr := pr) (e := e) (c := none) hcell (by omega) x a b s m1 m2
    rw [hc] at hsf
    rw [hd]
    cases hsafe : safeMv x a b cur s m1 m2 with
    | false =>
      rw [hsafe] at hsf
      have hno : walkW x a b s cur ((m1, m2) :: ws.drop (i + 1)) = none := by rw [walkW]; simp [hsafe]
      refine ⟨.cells [.int .i64 x, .int .i64 a, .int .i64 b, slL (H.length + jb) n none, .int .i64 s] true, jb, G, .int .i64 i, .bool true, .bool true, e, hce, fun r hr => ?_, ?_⟩
      · rw [hno] at hr
        cases hr
      · subst hB1
        rw [run_loop, hno]
        generalize run T pr (.loop w_s_l11Walk_1) = R
        simp +contextual only [w_s_l11Walk_1, fillParts, hi, h60, cells_mono hw, hpart, hsf, under_sliceN, decide_true, Option.isSome_none, Bool.false_eq_true, if_false, go_sem, entry, joinEsc, if_pos, reduceIte, Nat.reduceAdd, Nat.reduceLeDiff, Nat.reduceLT, Nat.reduceEqDiff]
    | true =>
      rw [hsafe] at hsf
      obtain ⟨r1, r2⟩ := safe_range hsafe
      obtain ⟨j, rfl⟩ : ∃ j : Nat, m1 = j := ⟨m1.toNat, by omega⟩
      rw [Int.toNat_natCast] at r2
      have hmv := e_s_l11Moved (pr := pr) (e := e) (c := none) hcell (by omega) x a b s m2 r2
      rw [hc] at hmv
      simp only [List.length_append, List.append_assoc, List.cons_append, List.nil_append, List.length_cons, List.length_nil, Nat.zero_add] at hmv
      have hyes : walkW x a b s cur (((j : Int), m2) :: ws.drop (i + 1)) = walkW x a b s (movd cur j m2) (ws.drop (i + 1)) := by rw [walkW]; simp only [hsafe, if_true, Int.toNat_natCast]
      obtain ⟨B4, jb', G', z6, z7, z8, e', he', k1, ih⟩ := loop_s_l11Walk (y0 := y0) (y9 := y9) (cw := cw) (B0 := B0) (B2 := B2) (B3 := B3) hn hw hwn hB1 k (i + 1) (G.length + 1 + 1 + 1 + 1 + 1) (movd cur j m2) (G ++ [.cells (encL (movd cur j m2)) true]) (.bool true) (.bool false) (minEsc e (H.length + 4)) (by rw [clean_minEsc, hce]; simp) (by omega) (by rw [movd_length]; exact hc) (by simp)
      refine ⟨B4, jb', G', z6, z7, z8, e', he', ?_, ?_⟩
      · rw [hyes]
        exact k1
      · rw [run_loop, hyes]
        generalize run T pr (.loop w_s_l11Walk_1) = R at ih ⊢
        generalize walkW x a b s (movd cur j m2) (ws.drop (i + 1)) = W at ih ⊢
        have hlt : ¬ (H.length + (G.length + 1 + 1 + 1 + 1 + 1) < H.length + 4 + 1) := by omega
        simp +contextual only [w_s_l11Walk_1, fillParts, hi, h60, cells_mono hw, hpart, hsf, hmv, under_slice, hlt, decide_false, wrap_succ (show i < 9223372036854775807 by omega), decide_true, go_sem, entry, joinEsc, if_pos, reduceIte, Nat.reduceAdd, Nat.reduceLeDiff, Nat.reduceLT, Nat.reduceEqDiff]
        exact ih

theorem loop_s_l11Walk_long {qw : Nat} {cw : Option Nat} {ws : List Ld} {y0 y2 y3 y4 y5 y7 y8 y9 : AV} {L : List Blk} (hwn : ¬ ws.length ≤ 60) :
    run T pr (.loop w_s_l11Walk_1) ⟨[y0, slL qw ws.length cw, y2, y3, y4, y5, .int .i64 0, y7, y8, y9], ⟨L, e⟩⟩ =
        some (Ex.exit 0, ⟨[y0, slL qw ws.length cw, y2, y3, y4, y5, .int .i64 0, .bool false, y8, y9], ⟨L, e⟩⟩) := by
  have h60 : ¬ (ws.length : Int) ≤ 60 := by omega
  have h1 : (0 : Int) < (ws.length : Int) := by omega
  rw [run_loop]
  generalize run T pr (.loop w_s_l11Walk_1) = R
  simp +contextual only [w_s_l11Walk_1, h60, h1, decide_true, decide_false, go_sem, entry, joinEsc, if_pos, reduceIte, Nat.reduceAdd, Nat.reduceLeDiff, Nat.reduceLT, Nat.reduceEqDiff]

abbrev noParty : AV := ptV 0 0 0 (.slice none 0 0 none) 0

theorem e_s_l11Walk {q qw : Nat} {c cw : Option Nat} {ls ws : List Ld} {x a b s : Int} (h : cellsAt H q = some (encL ls)) (hw : cellsAt H qw = some (encL ws)) (hn : ls.length ≤ 3) (hwn : ws.length ≤ 60) {r : List Ld} (hwk : walkW x a b s ls ws = some r) :
    call T pr f_s_l11Walk [ptV x a b (slL q ls.length c) s, slL qw ws.length cw] ⟨H, e⟩ = some (.tup [ptV x a b (slL H.length ls.length none) s, .bool true], ⟨H ++ [.cells (encL r) true], e⟩) := by
  have ha1 := fun L b e' (hb : L[b]? = some (.cells [] true)) hq => append_all (e := e') (L := L) (b := b) (q := q) (n := ls.length) (sz := 2) (bytes := 16) (c := c) (cs := encL ls) hb hq (encL_length ls) (by unfold maxBytes; omega)
  have ql : q < H.length + 2 := by have := cellsAt_lt h; omega
  obtain ⟨B4, jb', G', z6, z7, z8, e', he', k1, hl⟩ := loop_s_l11Walk (pr := pr) (H := H) (cw := cw) (x := x) (a := a) (b := b) (s := s) (y0 := ptV x a b (slL q ls.length c) s) (y9 := .undef) (B0 := .cells [.int .i64 x, .int .i64 a, .int .i64 b, slL q ls.length c, .int .i64 s] true) (B2 := if ls.length = 0 then Blk.dead else .cells [] true) (B3 := .cells (encL ls) true) hn hw hwn rfl ws.length 0 3 ls [] .undef .undef none rfl rfl rfl rfl
  have h0 : ((0 : Nat) : Int) = 0 := rfl
  rw [List.drop_zero] at k1
  obtain ⟨k2, k3⟩ := k1 r hwk
  rw [List.drop_zero, hwk, k2, h0, Option.isSome_some, if_pos rfl] at hl
  rw [k2] at k3
  have h60 : ¬ (60 : Int) < (ws.length : Int) := by omega
  have h5 : ∀ (v0 v1 v2 v3 v4 : AV) (w w' : Bool), some (Blk.cells [v0, v1, v2, v3, v4] w) ≠ some (Blk.cells (encL r) w') := by
    intro v0 v1 v2 v3 v4 w w' heq
    injection heq with heq
    injection heq with heq
    have := congrArg List.length heq
    rw [encL_length] at this
    simp at this
    omega
  have hf : ∀ (B0 B1 : Blk) (e0 e1 : Option Nat), clean H.length e1 = true → finish 2 H.length e0 (.tup [ptV x a b (slL (H.length + jb') ls.length none) s, .bool true]) ⟨H ++ (B0 :: B1 :: (if ls.length = 0 then Blk.dead else .cells [] true) :: .cells (encL ls) true :: .cells [.int .i64 x, .int .i64 a, .int .i64 b, slL (H.length + jb') ls.length none, .int .i64 s] true :: G'), e1⟩ = some (.tup [ptV x a b (slL H.length ls.length none) s, .bool true], ⟨H ++ [.cells (encL r) true], e0⟩) := by
    intro B0 B1 e0 e1 hc
    refine finish_partyB x a b s true e0 e1 hc (cs := encL r) (wr := true) ?_ (under_encL _ _)
    match jb', k3 with
    | 0, k3 => exact absurd k3 (h5 _ _ _ _ _ _ _)
    | 1, k3 => exact absurd k3 (h5 _ _ _ _ _ _ _)
    | j + 2, k3 => exact k3
  have hj2 : ¬ jb' < 2 := by
    intro hlt
    match jb', k3, hlt with
    | 0, k3, _ => exact absurd k3 (h5 _ _ _ _ _ _ _)
    | 1, k3, _ => exact absurd k3 (h5 _ _ _ _ _ _ _)
  rw [call_eq t_s_l11Walk]
  simp +contextual only [a_s_l11Walk, c_s_l11Walk, fillParts, ha1, cells_mono h, kill0_new, kill0_cons, kill0_0, ql, hl, hf, h60, hj2, he', under_sliceN, under_slice, Nat.add_assoc, Nat.add_lt_add_iff_left, Nat.lt_irrefl, decide_false, clean_minEsc, clean_none, Nat.le_add_right, Nat.le_refl, decide_true, go_sem, entry, joinEsc, if_pos, reduceIte, Nat.reduceAdd, Nat.reduceLeDiff, Nat.reduceLT, Nat.reduceEqDiff]

theorem e_s_l11Walk_no {q qw : Nat} {c cw : Option Nat} {ls ws : List Ld} {x a b s : Int} (h : cellsAt H q = some (encL ls)) (hw : cellsAt H qw = some (encL ws)) (hn : ls.length ≤ 3) (hwk : ws.length ≤ 60 → walkW x a b s ls ws = none) :
    call T pr f_s_l11Walk [ptV x a b (slL q ls.length c) s, slL qw ws.length cw] ⟨H, e⟩ = some (.tup [noParty, .bool false], ⟨H, e⟩) := by
  have ha1 := fun L b e' (hb : L[b]? = some (.cells [] true)) hq => append_all (e := e') (L := L) (b := b) (q := q) (n := ls.length) (sz := 2) (bytes := 16) (c := c) (cs := encL ls) hb hq (encL_length ls) (by unfold maxBytes; omega)
  have ql : q < H.length + 2 := by have := cellsAt_lt h; omega
  have hf : ∀ (G : List Blk) (e0 e1 : Option Nat), clean H.length e1 = true → finish 2 H.length e0 (.tup [noParty, .bool false]) ⟨H ++ G, e1⟩ = some (.tup [noParty, .bool false], ⟨H, e0⟩) :=
    fun G e0 e1 hc => finish_partyN 0 0 0 0 false e0 e1 hc
  rw [call_eq t_s_l11Walk]
  by_cases hwn : ws.length ≤ 60
  · obtain ⟨B4, jb', G', z6, z7, z8, e', he', k1, hl⟩ := loop_s_l11Walk (pr := pr) (H := H) (cw := cw) (x := x) (a := a) (b := b) (s := s) (y0 := ptV x a b (slL q ls.length c) s) (y9 := .undef) (B0 := .cells [.int .i64 x, .int .i64 a, .int .i64 b, slL q ls.length c, .int .i64 s] true) (B2 := if ls.length = 0 then Blk.dead else .cells [] true) (B3 := .cells (encL ls) true) hn hw hwn rfl ws.length 0 3 ls [] .undef .undef none rfl rfl rfl rfl
    have h0 : ((0 : Nat) : Int) = 0 := rfl
    rw [List.drop_zero, hwk hwn, h0] at hl
    simp only [Option.isSome_none, Bool.false_eq_true, if_false] at hl
    simp +contextual only [a_s_l11Walk, c_s_l11Walk, fillParts, ha1, cells_mono h, kill0_new, kill0_cons, kill0_0, ql, hl, hf, he', under_sliceN, under_slice, Nat.add_assoc, Nat.add_lt_add_iff_left, Nat.lt_irrefl, decide_false, clean_minEsc, clean_none, Nat.le_add_right, Nat.le_refl, decide_true, go_sem, entry, joinEsc, if_pos, reduceIte, Nat.reduceAdd, Nat.reduceLeDiff, Nat.reduceLT, Nat.reduceEqDiff]
  · have h60 : (60 : Int) < (ws.length : Int) := by omega
    have hl := fun L y0 y2 y3 y4 y5 y7 y8 y9 => loop_s_l11Walk_long (pr := pr) (e := none) (qw := qw) (cw := cw) (ws := ws) (y0 := y0) (y2 := y2) (y3 := y3) (y4 := y4) (y5 := y5) (y7 := y7) (y8 := y8) (y9 := y9) (L := L) hwn
    simp +contextual only [a_s_l11Walk, c_s_l11Walk, fillParts, ha1, cells_mono h, kill0_new, kill0_cons, kill0_0, ql, hl, hf, h60, under_sliceN, under_slice, Nat.add_assoc, Nat.add_lt_add_iff_left, Nat.lt_irrefl, decide_false, clean_minEsc, clean_none, Nat.le_add_right, Nat.le_refl, decide_true, go_sem, entry, joinEsc, if_pos, reduceIte, Nat.reduceAdd, Nat.reduceLeDiff, Nat.reduceLT, Nat.reduceEqDiff]

/-- is it a walk? -/
def walkOk (x a b s : Int) (ls ws : List Ld) : Bool := decide (ws.length ≤ 60) && (walkW x a b s ls ws).isSome

theorem e_s_IsWalkOn {q qw : Nat} {c cw : Option Nat} {ls ws : List Ld} (h : cellsAt H q = some (encL ls)) (hw : cellsAt H qw = some (encL ws)) (hn : ls.length ≤ 9223372036854775806) (x a b s : Int) :
    call T pr f_s_IsWalkOn [ptV x a b (slL q ls.length c) s, slL qw ws.length cw] ⟨H, e⟩ = some (.tup [.bool (partyOk x a b ls s && walkOk x a b s ls ws), .bool (partyOk x a b ls s)], ⟨H, e⟩) := by
  rw [call_eq t_s_IsWalkOn]
  cases h1 : partyOk x a b ls s with
  | false => simp +contextual only [a_s_IsWalkOn, c_s_IsWalkOn, under_slice, under_sliceN, Nat.add_assoc, Nat.add_lt_add_iff_left, Nat.lt_irrefl, Nat.lt_add_right_iff_pos, decide_true, decide_false, e_s_l11Party (cells_mono h _) hn, h1, go_sem, entry, joinEsc, if_pos, reduceIte, Nat.reduceAdd, Nat.reduceLeDiff, Nat.reduceLT, Nat.reduceEqDiff]
  | true =>
    have hn3 := (party_facts h1).1
    have hm : ∀ G : List Blk, cellsAt (H ++ G) q = some (encL ls) ∧ cellsAt (H ++ G) qw = some (encL ws) := fun G => ⟨cells_mono h G, cells_mono hw G⟩
    unfold walkOk
    by_cases h2 : ws.length ≤ 60
    · cases h3 : walkW x a b s ls ws with
      | none =>
        have hwk := fun G => e_s_l11Walk_no (pr := pr) (e := none) (c := c) (cw := cw) (x := x) (a := a) (b := b) (s := s) (hm G).1 (hm G).2 hn3 (fun _ => h3)
        simp +contextual only [a_s_IsWalkOn, c_s_IsWalkOn, under_slice, under_sliceN, Nat.add_assoc, Nat.add_lt_add_iff_left, Nat.lt_irrefl, Nat.lt_add_right_iff_pos, decide_true, decide_false, e_s_l11Party (cells_mono h _) hn, h1, hwk, Option.isSome_none, Bool.and_false, go_sem, entry, joinEsc, if_pos, reduceIte, Nat.reduceAdd, Nat.reduceLeDiff, Nat.reduceLT, Nat.reduceEqDiff]
      | some r =>
        have hwk := fun G => e_s_l11Walk (pr := pr) (e := none) (c := c) (cw := cw) (x := x) (a := a) (b := b) (s := s) (hm G).1 (hm G).2 hn3 h2 h3
        simp +contextual only [a_s_IsWalkOn, c_s_IsWalkOn, under_slice, under_sliceN, Nat.add_assoc, Nat.add_lt_add_iff_left, Nat.lt_irrefl, Nat.lt_add_right_iff_pos, decide_true, decide_false, e_s_l11Party (cells_mono h _) hn, h1, hwk, h2, decide_true, Option.isSome_some, Bool.and_true, go_sem, entry, joinEsc, if_pos, reduceIte, Nat.reduceAdd, Nat.reduceLeDiff, Nat.reduceLT, Nat.reduceEqDiff]
    · have hwk := fun G => e_s_l11Walk_no (pr := pr) (e := none) (c := c) (cw := cw) (x := x) (a := a) (b := b) (s := s) (hm G).1 (hm G).2 hn3 (fun h => absurd h h2)
      simp +contextual only [a_s_IsWalkOn, c_s_IsWalkOn, under_slice, under_sliceN, Nat.add_assoc, Nat.add_lt_add_iff_left, Nat.lt_irrefl, Nat.lt_add_right_iff_pos, decide_true, decide_false, e_s_l11Party (cells_mono h _) hn, h1, hwk, h2, decide_false, Bool.false_and, Bool.and_false, go_sem, entry, joinEsc, if_pos, reduceIte, Nat.reduceAdd, Nat.reduceLeDiff, Nat.reduceLT, Nat.reduceEqDiff]

theorem e_i_IsWalkOn {q qw : Nat} {c cw : Option Nat} {ls ws : List Ld} (h : cellsAt H q = some (encL ls)) (hw : cellsAt H qw = some (encL ws)) (hn : ls.length ≤ 9223372036854775806) (hwn : ws.length ≤ 1048576) (x a b s : Int) :
    call T pr f_i_IsWalkOn [ptV x a b (slL q ls.length c) s, slL qw ws.length cw] ⟨H, e⟩ = some (.tup [.bool (partyOk x a b ls s && walkOk x a b s ls ws), .bool (partyOk x a b ls s)], ⟨H, e⟩) := by
  rw [call_eq t_i_IsWalkOn]
  cases h1 : partyOk x a b ls s with
  | false => simp +contextual only [a_i_IsWalkOn, c_i_IsWalkOn, under_slice, under_sliceN, Nat.add_assoc, Nat.add_lt_add_iff_left, Nat.lt_irrefl, Nat.lt_add_right_iff_pos, decide_true, decide_false, e_i_IsParty (cells_mono h _) hn, h1, go_sem, entry, joinEsc, if_pos, reduceIte, Nat.reduceAdd, Nat.reduceLeDiff, Nat.reduceLT, Nat.reduceEqDiff]
  | true =>
    have hn3 := (party_facts h1).1
    unfold walkOk
    by_cases h2 : ws.length ≤ 60
    · have h60 : ¬ (60 : Int) < (ws.length : Int) := by omega
      rcases walk_cases (x := x) (a := a) (b := b) (s := s) (ws := ws) hn3 with ⟨h3, h4⟩ | ⟨t0, t1, t2, h3, h4⟩
      · have hwk := fun G => e_i_Party_walk_no (pr := pr) (e := none) (c := c) (cw := cw) (cells_mono h G) (cells_mono hw G) h1 hwn h3
        rw [h4]
        simp +contextual only [a_i_IsWalkOn, c_i_IsWalkOn, under_slice, under_sliceN, Nat.add_assoc, Nat.add_lt_add_iff_left, Nat.lt_irrefl, Nat.lt_add_right_iff_pos, decide_true, decide_false, e_i_IsParty (cells_mono h _) hn, h1, hwk, h60, decide_false, Option.isSome_none, Bool.and_false, go_sem, entry, joinEsc, if_pos, reduceIte, Nat.reduceAdd, Nat.reduceLeDiff, Nat.reduceLT, Nat.reduceEqDiff]
      · have hwk := fun G => e_i_Party_walk (pr := pr) (e := none) (c := c) (cw := cw) (cells_mono h G) (cells_mono hw G) h1 hwn h3
        rw [h4]
        simp +contextual only [a_i_IsWalkOn, c_i_IsWalkOn, under_slice, under_sliceN, Nat.add_assoc, Nat.add_lt_add_iff_left, Nat.lt_irrefl, Nat.lt_add_right_iff_pos, decide_true, decide_false, e_i_IsParty (cells_mono h _) hn, h1, hwk, h60, h2, decide_true, decide_false, Option.isSome_some, Bool.and_true, go_sem, entry, joinEsc, if_pos, reduceIte, Nat.reduceAdd, Nat.reduceLeDiff, Nat.reduceLT, Nat.reduceEqDiff]
    · have h60 : (60 : Int) < (ws.length : Int) := by omega
      simp +contextual only [a_i_IsWalkOn, c_i_IsWalkOn, under_slice, under_sliceN, Nat.add_assoc, Nat.add_lt_add_iff_left, Nat.lt_irrefl, Nat.lt_add_right_iff_pos, decide_true, decide_false, e_i_IsParty (cells_mono h _) hn, h1, h60, h2, decide_true, decide_false, Bool.false_and, Bool.and_false, go_sem, entry, joinEsc, if_pos, reduceIte, Nat.reduceAdd, Nat.reduceLeDiff, Nat.reduceLT, Nat.reduceEqDiff]

theorem law_IsWalkOn {people walk : AV} {ls ws : List Ld} (ha : ArgL H people ls) (hb : ArgL H walk ws) (x a b s : Int) : ∃ m', call T pr f_l_FnExactIsWalkOn [ptV x a b people s, walk] ⟨H, none⟩ = some (.bool true, m') := by
  refine ⟨⟨H, none⟩, ?_⟩
  have hsz : ∀ G e', call T pr f_l_szParty [ptV x a b people s, .int .i64 1048576] ⟨G, e'⟩ = some (.int .i64 (if ls.length ≤ 1048576 then 1048576 - (ls.length : Int) else -1), ⟨G, e'⟩) := by
    obtain ⟨p, sz, c, rfl, h2, h3⟩ := ha
    exact fun G e' => e_l_szParty h2 x a b s
  rw [call_eq t_l_FnExactIsWalkOn]
  by_cases hn : ls.length ≤ 1048576
  · have hneg : ¬ (1048576 - (ls.length : Int) < 0) := by omega
    have hsz2 : ∀ G e', call T pr f_l_szIntA2S [walk, .int .i64 (1048576 - (ls.length : Int))] ⟨G, e'⟩ = some (.int .i64 (if ws.length ≤ 1048576 - ls.length then ((1048576 - ls.length : Nat) : Int) - (ws.length : Int) else -1), ⟨G, e'⟩) := by
      obtain ⟨p, sz, c, rfl, h2, h3⟩ := hb
      intro G e'
      rw [show 1048576 - (ls.length : Int) = ((1048576 - ls.length : Nat) : Int) by omega]
      exact e_l_szIntA2S _ _ _ _ h2 _ (by omega)
    by_cases hn2 : ws.length ≤ 1048576 - ls.length
    · have hneg2 : ¬ (((1048576 - ls.length : Nat) : Int) - (ws.length : Int) < 0) := by omega
      have hto := fun G => e_l_toParty (pr := pr) (e := none) (ha.more G) hn x a b s
      have htw := fun G => e_l_toIntA2S (pr := pr) (e := none) (hb.more G) (show ws.length ≤ 1048576 by omega)
      have hn1 : ls.length ≤ 9223372036854775806 := by omega
      have hw1 : ws.length ≤ 9223372036854775806 := by omega
      have heq : ∀ L q1 q2 k1 k2, cellsAt L q1 = some (encL ls) → cellsAt L q2 = some (encL ls) → call T pr f_l_eqParty [ptV x a b (slL q1 ls.length k1) s, ptV x a b (slL q2 ls.length k2) s] ⟨L, none⟩ = some (.bool true, ⟨L, none⟩) :=
        fun L q1 q2 k1 k2 h1 h2 => e_l_eqParty (fun G => e_l_eqLoadS (cells_mono h1 G) (cells_mono h2 G) hn1) x a b s
      have heqm : ∀ L b1 b2 c1 c2, cellsAt L b1 = some (encL ws) → cellsAt L b2 = some (encL ws) → call T pr f_l_eqIntA2S [slL b1 ws.length c1, slL b2 ws.length c2] ⟨L, none⟩ = some (.bool true, ⟨L, none⟩) :=
        fun L b1 b2 c1 c2 h1 h2 => e_l_eqIntA2S h1 h2 hw1
      have hsi := fun L q c qw cw h1 h2 => e_s_IsWalkOn (pr := pr) (H := L) (e := none) (q := q) (c := c) (qw := qw) (cw := cw) (ls := ls) (ws := ws) h1 h2 hn1 x a b s
      have hii := fun L q c qw cw h1 h2 => e_i_IsWalkOn (pr := pr) (H := L) (e := none) (q := q) (c := c) (qw := qw) (cw := cw) (ls := ls) (ws := ws) h1 h2 hn1 (by omega) x a b s
      simp +contextual only [a_l_FnExactIsWalkOn, c_l_FnExactIsWalkOn, hsz, hn, hneg, hsz2, hn2, hneg2, hto, htw, hsi, hii, heq, heqm, under_slice, under_sliceN, Nat.add_assoc, Nat.add_lt_add_iff_left, Nat.lt_add_right_iff_pos, decide_true, decide_false, beq_self_eq_true, go_sem, entry, joinEsc, if_pos, reduceIte, Nat.reduceAdd, Nat.reduceLeDiff, Nat.reduceLT, Nat.reduceEqDiff]
    · simp +contextual only [a_l_FnExactIsWalkOn, c_l_FnExactIsWalkOn, hsz, hn, hneg, hsz2, hn2, decide_true, decide_false, show ((-1 : Int) < 0) by omega, go_sem, entry, joinEsc, if_pos, reduceIte, Nat.reduceAdd, Nat.reduceLeDiff, Nat.reduceLT, Nat.reduceEqDiff]
  · simp +contextual only [a_l_FnExactIsWalkOn, c_l_FnExactIsWalkOn, hsz, hn, decide_true, show ((-1 : Int) < 0) by omega, go_sem, entry, joinEsc, if_pos, reduceIte, Nat.reduceAdd, Nat.reduceLeDiff, Nat.reduceLT, Nat.reduceEqDiff]

end Go.Proofs.Ythkgpblohjpcdaa.Slim
