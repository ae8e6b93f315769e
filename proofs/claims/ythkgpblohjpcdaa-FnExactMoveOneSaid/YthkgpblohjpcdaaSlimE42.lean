/- Walks of a party. -/
import Derived.Test.YthkgpblohjpcdaaSlimE41
namespace Go.Proofs.Ythkgpblohjpcdaa.Slim

open Go

set_option linter.unusedSimpArgs false

set_option linter.unusedVariables false

variable {pr : Prims} {H : List Blk} {e : Option Nat}

theorem eq_pair (a b c d : Int) : eqList [0, 0] [.int .i64 a, .int .i64 b] [.int .i64 c, .int .i64 d] = some (decide ((a, b) = (c, d))) := by
  by_cases h1 : a = c <;> by_cases h2 : b = d <;> simp [eqList, eqCell, h1, h2]

theorem loop_Index_pair {q u : Nat} {c : Option Nat} {os : List Ld} {m : Ld} {y0 y1 : AV} (h : cellsAt H q = some (encL os)) (hn : os.length ≤ 1048576) (hu : cellsAt H u = some [.int .i64 m.1, .int .i64 m.2]) :
    ∀ (k i : Nat) (y3 y4 y7 y8 : AV), k + i = os.length → ∃ (z3 : Int) (z4 z6 z7 z8 : AV), (m ∈ os.drop i → 0 ≤ z3) ∧ run T pr (.loop w_slices_Index_S_2int__2int_1) ⟨[slL q os.length c, y1, .ptr (some (u, 0)), y3, y4, .int .i64 os.length, .int .i64 i, y7, y8], ⟨H, e⟩⟩ =
      some (if decide (m ∈ os.drop i) = true then Ex.ret else Ex.exit 0, ⟨[slL q os.length c, y1, .ptr (some (u, 0)), if decide (m ∈ os.drop i) = true then .int .i64 z3 else y3, z4, .int .i64 os.length, z6, z7, z8], ⟨H, e⟩⟩)
  | 0, i, y3, y4, y7, y8, hk => by
    obtain rfl : i = os.length := by omega
    refine ⟨0, y4, .int .i64 os.length, .bool false, y8, fun _ => Int.le_refl _, ?_⟩
    rw [run_loop, List.drop_length]
    generalize run T pr (.loop w_slices_Index_S_2int__2int_1) = R
    have hm : decide (m ∈ ([] : List Ld)) = false := by simp
    simp +contextual only [w_slices_Index_S_2int__2int_1, hm, Nat.lt_irrefl, decide_false, go_sem, entry, joinEsc, if_pos, reduceIte, Nat.reduceAdd, Nat.reduceLeDiff, Nat.reduceLT, Nat.reduceEqDiff]
  | k + 1, i, y3, y4, y7, y8, hk => by
    have hi : i < os.length := by omega
    have hl : os[i]? = some os[i] := List.getElem?_eq_getElem hi
    have hd := List.drop_eq_getElem_cons hi
    rw [run_loop, hd]
    by_cases hm : m = os[i]
    · refine ⟨i, .int .i64 i, .int .i64 i, .bool true, .bool true, fun _ => by omega, ?_⟩
      have h1 : decide (m ∈ os[i] :: os.drop (i + 1)) = true := decide_eq_true (by rw [hm]; exact List.mem_cons_self)
      have h2 : decide ((m.1, m.2) = (os[i].1, os[i].2)) = true := by simp [← hm]
      generalize run T pr (.loop w_slices_Index_S_2int__2int_1) = R
      simp +contextual only [w_slices_Index_S_2int__2int_1, h1, h2, hi, hl, h, hu, part_encL hl, eq_pair, decide_true, decide_false, go_sem, entry, joinEsc, if_pos, reduceIte, Nat.reduceAdd, Nat.reduceLeDiff, Nat.reduceLT, Nat.reduceEqDiff]
    · obtain ⟨z3, z4, z6, z7, z8, hz, ih⟩ := loop_Index_pair (y0 := y0) (y1 := y1) (c := c) h hn hu k (i + 1) y3 (.int .i64 i) (.bool true) (.bool false) (by omega)
      have h1 : decide (m ∈ os[i] :: os.drop (i + 1)) = decide (m ∈ os.drop (i + 1)) := decide_eq_decide.mpr (by rw [List.mem_cons]; simp only [hm, false_or])
      refine ⟨z3, z4, z6, z7, z8, fun h => hz ((List.mem_cons.mp h).resolve_left hm), ?_⟩
      have h2 : decide ((m.1, m.2) = (os[i].1, os[i].2)) = false := by simp; intro h3 h4; exact hm (Prod.ext h3 h4)
      rw [h1]
      generalize decide (m ∈ os.drop (i + 1)) = B at ih ⊢
      generalize run T pr (.loop w_slices_Index_S_2int__2int_1) = R at ih ⊢
      simp +contextual only [w_slices_Index_S_2int__2int_1, h2, hi, hl, h, hu, part_encL hl, eq_pair, wrap_succ (show i < 9223372036854775807 by omega), decide_true, decide_false, go_sem, entry, joinEsc, if_pos, reduceIte, Nat.reduceAdd, Nat.reduceLeDiff, Nat.reduceLT, Nat.reduceEqDiff]
      exact ih

theorem e_Contains_pair {q : Nat} {c : Option Nat} {os : List Ld} (m : Ld) (h : cellsAt H q = some (encL os)) (hn : os.length ≤ 1048576) : call T pr f_slices_Contains_S_2int__2int [slL q os.length c, prV m.1 m.2] ⟨H, e⟩ = some (.bool (decide (m ∈ os)), ⟨H, e⟩) := by
  have hi : ∀ L : List Blk, cellsAt L q = some (encL os) → ∃ z : Int, (decide (0 ≤ z) = decide (m ∈ os)) ∧ call T pr f_slices_Index_S_2int__2int [slL q os.length c, prV m.1 m.2] ⟨L, none⟩ = some (.int .i64 z, ⟨L, none⟩) := by
    intro L h
    obtain ⟨z3, z4, z6, z7, z8, hz, hl⟩ := loop_Index_pair (pr := pr) (e := none) (H := L ++ [.cells [.int .i64 m.1, .int .i64 m.2] true]) (c := c) (u := L.length) (y0 := .undef) (y1 := prV m.1 m.2) (cells_mono h _) hn (by rw [cellsAt_new0]; rfl) os.length 0 (.int .i64 0) .undef .undef .undef rfl
    have h0 : ((0 : Nat) : Int) = 0 := rfl
    rw [h0, List.drop_zero] at hl
    rw [List.drop_zero] at hz
    by_cases hm : m ∈ os
    · refine ⟨z3, by simp [hm, hz hm], ?_⟩
      rw [decide_eq_true hm] at hl
      simp only [if_true] at hl
      rw [call_eq t_slices_Index_S_2int__2int]
      simp +contextual only [a_slices_Index_S_2int__2int, c_slices_Index_S_2int__2int, hl, go_sem, entry, joinEsc, if_pos, reduceIte, Nat.reduceAdd, Nat.reduceLeDiff, Nat.reduceLT, Nat.reduceEqDiff]
    · refine ⟨-1, by simp [hm], ?_⟩
      rw [decide_eq_false hm] at hl
      simp only [Bool.false_eq_true, if_false] at hl
      rw [call_eq t_slices_Index_S_2int__2int]
      simp +contextual only [a_slices_Index_S_2int__2int, c_slices_Index_S_2int__2int, hl, Bool.false_eq_true, if_false, go_sem, entry, joinEsc, if_pos, reduceIte, Nat.reduceAdd, Nat.reduceLeDiff, Nat.reduceLT, Nat.reduceEqDiff]
  obtain ⟨z, h1, h2⟩ := hi (H ++ [.cells [.int .i64 m.1, .int .i64 m.2] true]) (cells_mono h _)
  rw [call_eq t_slices_Contains_S_2int__2int]
  simp +contextual only [a_slices_Contains_S_2int__2int, c_slices_Contains_S_2int__2int, h1, h2, go_sem, entry, joinEsc, if_pos, reduceIte, Nat.reduceAdd, Nat.reduceLeDiff, Nat.reduceLT, Nat.reduceEqDiff]

theorem mem_selM {x a b : Int} {ls : List Ld} {i : Nat} {ps : List Int} {m : Ld} : m ∈ selM x a b ls i ps ↔ m.1 = (i : Int) ∧ m.2 ∈ ps ∧ okMv x a b ls i m.2 = true := by
  unfold selM
  rw [List.mem_map]
  constructor
  · rintro ⟨p, hp, rfl⟩
    rw [List.mem_filter] at hp
    exact ⟨rfl, hp.1, hp.2⟩
  · rintro ⟨h1, h2, h3⟩
    exact ⟨m.2, List.mem_filter.mpr ⟨h2, h3⟩, Prod.ext h1.symm rfl⟩

theorem mem_mvsFrom {x a b s : Int} {ls : List Ld} {m : Ld} : ∀ (k i : Nat), m ∈ mvsFrom x a b s ls k i ↔ ∃ j : Nat, i ≤ j ∧ j < i + k ∧ m ∈ selM x a b ls j [wr (plOf ls j - s), wr (plOf ls j + s)]
  | 0, i => by
    constructor
    · intro h; simp [mvsFrom] at h
    · rintro ⟨j, h1, h2, _⟩; omega
  | k + 1, i => by
    rw [mvsFrom, List.mem_append, mem_mvsFrom k (i + 1)]
    constructor
    · rintro (h | ⟨j, h1, h2, h3⟩)
      · exact ⟨i, Nat.le_refl _, by omega, h⟩
      · exact ⟨j, by omega, by omega, h3⟩
    · rintro ⟨j, h1, h2, h3⟩
      by_cases hj : j = i
      · subst hj; exact .inl h3
      · exact .inr ⟨j, by omega, by omega, h3⟩

theorem mem_mvs {x a b s : Int} {ls : List Ld} (hpl : plB ls) (hs : 1 ≤ s ∧ s ≤ 4) (hx : x ≤ 60) (m : Ld) : decide (m ∈ mvs x a b s ls) = safeMv x a b ls s m.1 m.2 := by
  rw [Bool.eq_iff_iff, decide_eq_true_iff]
  unfold mvs
  rw [mem_mvsFrom]
  constructor
  · rintro ⟨j, _, h2, h3⟩
    obtain ⟨h4, h5, h6⟩ := mem_selM.mp h3
    rw [h4]
    rw [safe_ok (by omega) hpl hs (by simpa using h5)]
    exact h6
  · intro h
    have h0 := h
    unfold safeMv at h
    simp only [Bool.and_eq_true, Bool.or_eq_true, decide_eq_true_eq] at h
    obtain ⟨⟨⟨h1, h2⟩, h3, h4⟩, h5, h6⟩ := h
    obtain ⟨j, hj⟩ : ∃ j : Nat, m.1 = j := ⟨m.1.toNat, by omega⟩
    rw [hj] at h0 h1 h2 h5 h6
    rw [Int.toNat_natCast] at h5
    have hjl : j < ls.length := by omega
    obtain ⟨b1, b2⟩ := hpl j hjl
    have w4 : wr (m.2 - plOf ls j) = m.2 - plOf ls j := wrap64 (by omega) (by omega)
    have w3 : wr (0 - s) = - s := by show IntKind.i64.wrap (0 - s) = - s; rw [wrap64 (by omega) (by omega)]; omega
    have w1 : wr (plOf ls j - s) = plOf ls j - s := wrap64 (by omega) (by omega)
    have w2 : wr (plOf ls j + s) = plOf ls j + s := wrap64 (by omega) (by omega)
    rw [w3, w4] at h5
    have hor : m.2 = wr (plOf ls j - s) ∨ m.2 = wr (plOf ls j + s) := by rw [w1, w2]; omega
    refine ⟨j, Nat.zero_le _, by omega, mem_selM.mpr ⟨hj, by simpa using hor, ?_⟩⟩
    rw [← safe_ok hjl hpl hs hor]
    exact h0

theorem plOf_movd : ∀ (ls : List Ld) (i j : Nat) (p : Int), plOf (movd ls i p) j = if i = j ∧ j < ls.length then p else plOf ls j
  | [], i, j, p => by simp [movd]
  | l :: ls, 0, 0, p => by simp [movd, plOf]
  | l :: ls, 0, j + 1, p => by simp [movd, plOf]
  | l :: ls, i + 1, 0, p => by simp [movd, plOf]
  | l :: ls, i + 1, j + 1, p => by
    have := plOf_movd ls i j p
    unfold plOf at this ⊢
    simpa [movd] using this

theorem plB_movd {x a b s i p : Int} {ls : List Ld} (hpl : plB ls) (hx : x ≤ 60) (h : safeMv x a b ls s i p = true) : plB (movd ls i.toNat p) := by
  intro j hj
  rw [movd_length] at hj
  rw [plOf_movd]
  unfold safeMv at h
  simp only [Bool.and_eq_true, Bool.or_eq_true, decide_eq_true_eq] at h
  split
  · omega
  · exact hpl j hj

/-- a party behind a walk -/
def walkW (x a b s : Int) : List Ld → List Ld → Option (List Ld)
  | ls, [] => some ls
  | ls, m :: ms => if safeMv x a b ls s m.1 m.2 = true then walkW x a b s (movd ls m.1.toNat m.2) ms else none

/-- the same, told by the places -/
def walkS (x a b s : Int) (ls : List Ld) : List Int → List Ld → Option (List Int)
  | ss, [] => some ss
  | ss, m :: ms => if safeMv x a b (putL ls ss) s m.1 m.2 = true then walkS x a b s ls (ss.set m.1.toNat m.2) ms else none

theorem safe_range {x a b s i p : Int} {ls : List Ld} (h : safeMv x a b ls s i p = true) : 0 ≤ i ∧ i.toNat < ls.length := by
  unfold safeMv at h
  simp only [Bool.and_eq_true, Bool.or_eq_true, decide_eq_true_eq] at h
  omega

theorem walk_eq {x a b s : Int} {ls : List Ld} : ∀ (ms : List Ld) (ss : List Int), ls.length ≤ ss.length → walkW x a b s (putL ls ss) ms = (walkS x a b s ls ss ms).map (putL ls)
  | [], ss, hl => rfl
  | m :: ms, ss, hl => by
    rw [walkW, walkS]
    cases h : safeMv x a b (putL ls ss) s m.1 m.2 with
    | false => rfl
    | true =>
      have hr := (safe_range h).2
      rw [putL_length] at hr
      simp only [if_true]
      rw [← putL_set ls ss m.1.toNat m.2 hr hl]
      exact walk_eq ms _ (by rw [List.length_set]; exact hl)

theorem walkW_length {x a b s : Int} : ∀ (ms ls : List Ld) (r : List Ld), walkW x a b s ls ms = some r → r.length = ls.length
  | [], ls, r, h => by cases h; rfl
  | m :: ms, ls, r, h => by
    rw [walkW] at h
    split at h
    · rw [walkW_length ms _ r h, movd_length]
    · cases h

theorem cellsAt_get {L : List Blk} {j : Nat} {cs : List AV} {w : Bool} (h : L[j]? = some (.cells cs w)) : cellsAt L j = some cs := by
  unfold cellsAt
  rw [h]

theorem loop_i_Party_walk {q qw : Nat} {c cw : Option Nat} {ls ws : List Ld} {x a b s : Int} {y0 : AV} (h : cellsAt H q = some (encL ls)) (hn : ls.length ≤ 3) (hs : 1 ≤ s ∧ s ≤ 4) (hx : x ≤ 60) (hw : cellsAt H qw = some (encL ws)) (hwn : ws.length ≤ 1048576) :
    ∀ (k i : Nat) (s0 s1 s2 : Int) (G : List Blk) (y6 y10 y11 : AV), k + i = ws.length → plB (putL ls [s0, s1, s2]) → ∃ (B3 : Blk) (G' : List Blk) (z6 z9 z10 z11 : AV), 
      (∀ t0 t1 t2, walkS x a b s ls [s0, s1, s2] (ws.drop i) = some [t0, t1, t2] → B3 = .cells [.int .i64 t0, .int .i64 t1, .int .i64 t2] true) ∧
      run T pr (.loop w_i_Party_walk_1) ⟨[y0, slL qw ws.length cw, .ptr (some (H.length, 0)), .ptr (some (H.length + 1, 0)), .bool false, .ptr (some (H.length + 2, 0)), y6, slL qw ws.length cw, .int .i64 ws.length, .int .i64 i, y10, y11], ⟨H ++ (.cells [.int .i64 x, .int .i64 a, .int .i64 b, slL q ls.length c, .int .i64 s] true :: .cells [.int .i64 0, .int .i64 0, .int .i64 0] true :: .cells [.int .i64 s0, .int .i64 s1, .int .i64 s2] true :: G), e⟩⟩ =
        some (if (walkS x a b s ls [s0, s1, s2] (ws.drop i)).isSome = true then Ex.exit 0 else Ex.ret, ⟨[y0, slL qw ws.length cw, .ptr (some (H.length, 0)), .ptr (some (H.length + 1, 0)), .bool false, .ptr (some (H.length + 2, 0)), z6, slL qw ws.length cw, .int .i64 ws.length, z9, z10, z11], ⟨H ++ (.cells [.int .i64 x, .int .i64 a, .int .i64 b, slL q ls.length c, .int .i64 s] true :: .cells [.int .i64 0, .int .i64 0, .int .i64 0] true :: B3 :: G'), e⟩⟩)
  | 0, i, s0, s1, s2, G, y6, y10, y11, hk, hpl => by
    obtain rfl : i = ws.length := by omega
    have hd : walkS x a b s ls [s0, s1, s2] (ws.drop ws.length) = some [s0, s1, s2] := by rw [List.drop_length]; rfl
    refine ⟨.cells [.int .i64 s0, .int .i64 s1, .int .i64 s2] true, G, y6, .int .i64 ws.length, .bool false, y11, fun t0 t1 t2 ht => ?_, ?_⟩
    · rw [hd] at ht
      simp at ht
      obtain ⟨rfl, rfl, rfl⟩ := ht
      rfl
    · rw [run_loop, hd]
      generalize run T pr (.loop w_i_Party_walk_1) = R
      simp +contextual only [w_i_Party_walk_1, Nat.lt_irrefl, decide_false, Option.isSome_some, go_sem, entry, joinEsc, if_pos, reduceIte, Nat.reduceAdd, Nat.reduceLeDiff, Nat.reduceLT, Nat.reduceEqDiff]
  | k + 1, i, s0, s1, s2, G, y6, y10, y11, hk, hpl => by
    have hi : i < ws.length := by omega
    obtain ⟨m1, m2, hl⟩ : ∃ m1 m2, ws[i]? = some (m1, m2) := ⟨ws[i].1, ws[i].2, List.getElem?_eq_getElem hi⟩
    have hd : ws.drop i = (m1, m2) :: ws.drop (i + 1) := by
      have h1 := List.drop_eq_getElem_cons hi
      rw [List.getElem?_eq_getElem hi] at hl
      rw [h1, Option.some.inj hl]
    have hpart : part true (encL ws) (i * 2) 2 = some (.agg [.int .i64 m1, .int .i64 m2]) := part_encL hl
    obtain ⟨cap, hmv⟩ := e_i_Party_moves (pr := pr) (e := e) (c := c) (H := H ++ (.cells [.int .i64 x, .int .i64 a, .int .i64 b, slL q ls.length c, .int .i64 s] true :: .cells [.int .i64 0, .int .i64 0, .int .i64 0] true :: .cells [.int .i64 s0, .int .i64 s1, .int .i64 s2] true :: (G ++ [.cells [.int .i64 m1, .int .i64 m2] true]))) (cells_mono h _) hn x a b s s0 s1 s2
    have hmem := mem_mvs (x := x) (a := a) (b := b) hpl hs hx (m1, m2)
    have hle : (mvs x a b s (putL ls [s0, s1, s2])).length ≤ 6 := Nat.le_trans (mvs_le x a b s _ _ _) (by rw [putL_length]; omega)
    have hcon := e_Contains_pair (pr := pr) (e := e) (c := cap) (m1, m2) (H := H ++ (.cells [.int .i64 x, .int .i64 a, .int .i64 b, slL q ls.length c, .int .i64 s] true :: .cells [.int .i64 0, .int .i64 0, .int .i64 0] true :: .cells [.int .i64 s0, .int .i64 s1, .int .i64 s2] true :: (G ++ [.cells [.int .i64 m1, .int .i64 m2] true, .cells (encL (mvs x a b s (putL ls [s0, s1, s2]))) true])))
      (q := H.length + (G.length + 1 + 1 + 1 + 1)) (os := mvs x a b s (putL ls [s0, s1, s2])) (by rw [cellsAt_newk]; exact cellsAt_get (w := true) (by simp)) (by omega)
    rw [hmem] at hcon
    simp only [List.length_append, List.append_assoc, List.cons_append, List.nil_append, List.length_cons, List.length_nil, Nat.zero_add] at hmv hcon
    rw [hd]
    cases hsafe : safeMv x a b (putL ls [s0, s1, s2]) s m1 m2 with
    | false =>
      rw [hsafe] at hcon
      have hno : walkS x a b s ls [s0, s1, s2] ((m1, m2) :: ws.drop (i + 1)) = none := by rw [walkS]; simp [hsafe]
      refine ⟨.cells [.int .i64 s0, .int .i64 s1, .int .i64 s2] true, G ++ [.cells [.int .i64 m1, .int .i64 m2] true, .cells (encL (mvs x a b s (putL ls [s0, s1, s2]))) true], .ptr (some (H.length + (G.length + 1 + 1 + 1), 0)), .int .i64 i, .bool true, .bool true, fun t0 t1 t2 ht => ?_, ?_⟩
      · rw [hno] at ht
        cases ht
      · rw [run_loop, hno]
        generalize run T pr (.loop w_i_Party_walk_1) = R
        simp +contextual only [w_i_Party_walk_1, fillParts, hi, cells_mono hw, hpart, hmv, hcon, decide_true, Option.isSome_none, Bool.false_eq_true, if_false, go_sem, entry, joinEsc, if_pos, reduceIte, Nat.reduceAdd, Nat.reduceLeDiff, Nat.reduceLT, Nat.reduceEqDiff]
    | true =>
      rw [hsafe] at hcon
      obtain ⟨r1, r2⟩ := safe_range hsafe
      obtain ⟨j, rfl⟩ : ∃ j : Nat, m1 = j := ⟨m1.toNat, by omega⟩
      rw [putL_length, Int.toNat_natCast] at r2
      have hj3 : j < 3 := by omega
      obtain ⟨t0, t1, t2, ht, hset⟩ := set3 (s0 := s0) (s1 := s1) (s2 := s2) (p := m2) hj3
      have hyes : walkS x a b s ls [s0, s1, s2] (((j : Int), m2) :: ws.drop (i + 1)) = walkS x a b s ls [t0, t1, t2] (ws.drop (i + 1)) := by rw [walkS]; simp only [hsafe, if_true, Int.toNat_natCast, ht]
      have hpl' : plB (putL ls [t0, t1, t2]) := by
        have := plB_movd hpl hx hsafe
        rw [Int.toNat_natCast, ← putL_set ls [s0, s1, s2] j m2 r2 hn, ht] at this
        exact this
      obtain ⟨B3, G', z6, z9, z10, z11, k1, ih⟩ := loop_i_Party_walk (y0 := y0) (c := c) (cw := cw) h hn hs hx hw hwn k (i + 1) t0 t1 t2 (G ++ [.cells [.int .i64 j, .int .i64 m2] true, .cells (encL (mvs x a b s (putL ls [s0, s1, s2]))) true]) (.ptr (some (H.length + (G.length + 1 + 1 + 1), 0))) (.bool true) (.bool false) (by omega) hpl'
      refine ⟨B3, G', z6, z9, z10, z11, ?_, ?_⟩
      · rw [hyes]
        exact k1
      · rw [run_loop, hyes]
        have hle1 : j + 1 ≤ 3 := by omega
        generalize run T pr (.loop w_i_Party_walk_1) = R at ih ⊢
        generalize walkS x a b s ls [t0, t1, t2] (ws.drop (i + 1)) = W at ih ⊢
        simp +contextual only [w_i_Party_walk_1, fillParts, hi, cells_mono hw, hpart, hmv, hcon, at02, at12, toNat0, toNat1, hj3, hle1, hset, wrap_succ (show i < 9223372036854775807 by omega), decide_true, go_sem, entry, joinEsc, if_pos, reduceIte, Nat.reduceAdd, Nat.reduceLeDiff, Nat.reduceLT, Nat.reduceEqDiff]
        exact ih

end Go.Proofs.Ythkgpblohjpcdaa.Slim
