/- Beams: the lists of bends and shears in the program. -/
import Derived.Test.YtaikmfldjkbmmaaSlimZ8
/- Beams: the lists of bends and shears in the program. -/
namespace Go.Proofs.Ytaikmfldjkbmmaa.Slim

open Go

set_option linter.unusedSimpArgs false

set_option linter.unusedVariables false

variable {pr : Prims} {H : List Blk} {e : Option Nat}

/-- the values at 0 .. n-1 (see t_i_BendTimes) -/
def mapR (n : Nat) (f : Int → Int) : List Int := (List.range n).map (fun p : Nat => f (p : Int))

theorem mapR_len (n : Nat) (f : Int → Int) : (mapR n f).length = n := by simp [mapR]

theorem mapR_succ (n : Nat) (f : Int → Int) : mapR (n + 1) f = mapR n f ++ [f (n : Int)] := by
  unfold mapR
  rw [List.range_succ, List.map_append]
  rfl

theorem mapR_get {n i : Nat} (f : Int → Int) (h : i < n) : (mapR n f)[i]? = some (f (i : Int)) := by
  unfold mapR
  rw [List.getElem?_map, List.getElem?_range h]
  rfl

theorem mapR_congr {n : Nat} {f g : Int → Int} (h : ∀ i : Nat, i < n → f (i : Int) = g (i : Int)) : mapR n f = mapR n g := by
  unfold mapR
  exact List.map_congr_left (fun i hi => h i (List.mem_range.mp hi))

theorem mapR_set {n i : Nat} (f : Int → Int) (v : Int) (h : i < n) : (mapR n f).set i v = mapR n (fun p => if p = (i : Int) then v else f p) := by
  apply List.ext_getElem?
  intro j
  by_cases hj : j < n
  · rw [List.getElem?_set, mapR_get _ hj, mapR_get _ hj, mapR_len]
    by_cases hij : i = j
    · subst hij
      rw [if_pos rfl, if_pos h, if_pos rfl]
    · rw [if_neg hij, if_neg (by omega)]
  · rw [List.getElem?_eq_none (by rw [List.length_set, mapR_len]; omega), List.getElem?_eq_none (by rw [mapR_len]; omega)]

/-- the room of a list that was appended to, from nothing -/
def capR (i : Nat) : Option Nat := if i = 0 then some 0 else none

theorem capR_0 {i : Nat} (h : capR i = some 0) : i = 0 := by
  unfold capR at h
  split at h <;> simp_all

/-- the end of a call that hands back one list and something plain -/
theorem finish_slb {L : List Blk} {b1 s1 n1 : Nat} {c1 : Option Nat} {cs1 : List AV} {w1 : Bool} (v2 : AV) (h2 : AV.roots H.length v2 = []) (h2' : ∀ f, AV.rename f v2 = v2) (hL : Grown H L) (e0 e1 : Option Nat) (hc : clean H.length e1 = true) (hb1 : H.length ≤ b1)
    (h1 : L[b1]? = some (.cells cs1 w1)) (u1 : (cs1.all fun c => c.under H.length) = true) :
    finish 2 H.length e0 (.tup [.slice (some (b1, 0)) s1 n1 c1, v2]) ⟨L, e1⟩ = some (.tup [.slice (some (H.length, 0)) s1 n1 c1, v2], ⟨H ++ [.cells cs1 w1], e0⟩) := by
  obtain ⟨G, rfl⟩ := hL
  have hlt1 : ¬ b1 < H.length := by omega
  have hr : dedup (AV.roots H.length (.tup [.slice (some (b1, 0)) s1 n1 c1, v2])) = [b1] := by
    simp only [AV.roots, AV.roots.go, h2, if_neg hlt1, List.nil_append, List.cons_append, List.append_nil]
    simp [dedup]
  unfold finish
  simp only [hr]
  have h3 : ([b1].all fun b => flatBlk H.length (H ++ G)[b]?) = true := by
    simp only [List.all_cons, List.all_nil, Bool.and_true, h1, flatBlk, u1, Bool.and_self]
  simp only [hc, h3, and_self, if_true]
  simp [AV.rename, AV.rename.go, h2', renum, h1, hlt1]

theorem finish_noneb {L : List Blk} {bo : Bool} {s n : Nat} {c : Option Nat} (hL : Grown H L) (e0 : Option Nat) :
    finish 2 H.length e0 (.tup [.slice none s n c, .bool bo]) ⟨L, none⟩ = some (.tup [.slice none s n c, .bool bo], ⟨H, e0⟩) := by
  obtain ⟨G, rfl⟩ := hL
  have hr : dedup (AV.roots H.length (.tup [.slice none s n c, .bool bo])) = [] := by simp [AV.roots, AV.roots.go, dedup]
  unfold finish
  simp only [hr]
  simp [AV.rename, AV.rename.go, renum, clean]

/-- what is known of a memory that has grown by a beam's own block first -/
theorem bx_cells {x a b : Int} {L : List Blk} (hg : Grown (H ++ [.cells [.int .i64 x, .int .i64 a, .int .i64 b] true]) L) : cellsAt L H.length = some [.int .i64 x, .int .i64 a, .int .i64 b] := by
  obtain ⟨G, rfl⟩ := hg
  rw [List.append_assoc]
  simp [cellsAt]

theorem bx_old {X : Blk} {L : List Blk} {q : Nat} {cs : List AV} (hq : cellsAt H q = some cs) (hg : Grown (H ++ [X]) L) : cellsAt L q = some cs := by
  obtain ⟨G, rfl⟩ := hg
  rw [List.append_assoc]
  exact cells_mono hq _

theorem bx_grown {X : Blk} {L : List Blk} (hg : Grown (H ++ [X]) L) : Grown H L := by
  obtain ⟨G, rfl⟩ := hg
  exact ⟨[X] ++ G, by simp⟩

section
variable {a b : Int} {X : Nat} {ls : List Ld}

theorem e_i_Beam_bends {q : Nat} {c : Option Nat} (hq : cellsAt H q = some (encL ls)) (h : OnB X a b ls) : call T pr f_i_Beam_bends [bmV X a b, slL q ls.length c] ⟨H, e⟩ = some (slI H.length (X + 1) none, ⟨H ++ [.cells (encI (mapR (X + 1) (bendZ a b ls))) true], e⟩) := by
  have h1 := h.x2; have h0 := h.x1
  apply Wc.eq
  rw [call_wc t_i_Beam_bends]
  have hX := wrap_succ (show X < 9223372036854775807 by omega)
  simp +contextual only [a_i_Beam_bends, c_i_Beam_bends, fillParts, hX, Wp_some, Wp_none, Wp_ite, Wc_some, Wc_none, Wc_ite, Wp_thenRun, seqQ_normal, seqQ_exit, seqQ_ret, Wp_inBlock, blkQ_normal, blkQ_ret, blkQ_same, blkQ_exit, Wp_opThen, opQ_at, Wp_guardP, retQ_normal, retQ_ret, loopQ_normal, loopQ_exit, loopQ_ret, go_sem, entry, joinEsc, if_pos, reduceIte, Nat.reduceAdd, Nat.reduceLeDiff, Nat.reduceLT, Nat.reduceEqDiff]
  refine Wp_loop (fun k st => ∃ (i : Nat) (L : List Blk) (bb : Nat) (c'' : Option Nat) (w3 w5 w8 : AV), i + k = X + 1 ∧ H.length + 1 ≤ bb ∧ c'' = capR i ∧ Grown (H ++ [.cells [.int .i64 X, .int .i64 a, .int .i64 b] true]) L ∧ L[bb]? = some (.cells (encI (mapR i (bendZ a b ls))) true) ∧ st = ⟨[bmV X a b, slL q ls.length c, .ptr (some (H.length, 0)), w3, slI bb i c'', w5, .int .i64 (X + 1 : Nat), .int .i64 i, w8], ⟨L, none⟩⟩) ?_ (X + 1) _ ?_
  · rintro k _ ⟨i, L, bb, c'', w3, w5, w8, hi, hb, hcap, hg, hL, rfl⟩
    by_cases hk : k = 0
    · have he : i = X + 1 := by omega
      subst he
      have hf := finish_sl (H := H) (sz := 1) (n := X + 1) (c := c'') (bx_grown hg) e none rfl (by omega) hL (under_encI _ _)
      simp (maxSteps := 2000000) +contextual only [w_i_Beam_bends_1, Nat.lt_irrefl, decide_false, hf, Wp_some, Wp_none, Wp_ite, Wc_some, Wc_none, Wc_ite, Wp_thenRun, seqQ_normal, seqQ_exit, seqQ_ret, Wp_inBlock, blkQ_normal, blkQ_ret, blkQ_same, blkQ_exit, Wp_opThen, opQ_at, Wp_guardP, retQ_normal, retQ_ret, loopQ_normal, loopQ_exit, loopQ_ret, go_sem, entry, joinEsc, if_pos, reduceIte, Nat.reduceAdd, Nat.reduceLeDiff, Nat.reduceLT, Nat.reduceEqDiff]
      rw [hcap]
      rfl
    · have hd : i < X + 1 := by omega
      have hw := wrap_succ (show i < 9223372036854775807 by omega)
      have hbx := bx_cells hg
      have hat := e_i_Beam_bendAt (pr := pr) (e := none) (c := c) (bx_old hq hg) h (p := (i : Int)) (by omega) (by omega)
      simp (maxSteps := 2000000) +contextual only [w_i_Beam_bends_1, fillParts, hd, hw, hbx, hat, decide_true, Wp_some, Wp_none, Wp_ite, Wc_some, Wc_none, Wc_ite, Wp_thenRun, seqQ_normal, seqQ_exit, seqQ_ret, Wp_inBlock, blkQ_normal, blkQ_ret, blkQ_same, blkQ_exit, Wp_opThen, opQ_at, Wp_guardP, retQ_normal, retQ_ret, loopQ_normal, loopQ_exit, loopQ_ret, go_sem, entry, joinEsc, if_pos, reduceIte, Nat.reduceAdd, Nat.reduceLeDiff, Nat.reduceLT, Nat.reduceEqDiff]
      refine wc_ap (k := 1) (new := [.int .i64 (bendZ a b ls (i : Int))]) (get_more hL _) (src_new _ 1 1 _ _ L.length (by simp +contextual only [go_sem, entry, joinEsc, if_pos, reduceIte, Nat.reduceAdd, Nat.reduceLeDiff, Nat.reduceLT, Nat.reduceEqDiff]) rfl) (by simp [encI, mapR_len]) rfl (by unfold maxBytes; omega) (fun hh => capR_0 (hcap ▸ hh)) ?_
      intro L2 e1 e2 e3 e4
      rw [encI_one, ← mapR_succ, List.length_append, List.length_singleton] at e3
      simp (maxSteps := 2000000) +contextual only [hw, Wp_some, Wp_none, Wp_ite, Wc_some, Wc_none, Wc_ite, Wp_thenRun, seqQ_normal, seqQ_exit, seqQ_ret, Wp_inBlock, blkQ_normal, blkQ_ret, blkQ_same, blkQ_exit, Wp_opThen, opQ_at, Wp_guardP, retQ_normal, retQ_ret, loopQ_normal, loopQ_exit, loopQ_ret, go_sem, entry, joinEsc, if_pos, reduceIte, Nat.reduceAdd, Nat.reduceLeDiff, Nat.reduceLT, Nat.reduceEqDiff]
      exact ⟨k - 1, by omega, i + 1, L2, _, none, _, _, _, by omega, by have := hg.le; simp at this; omega, by simp [capR], e4 _ (hg.more _) (by simp; omega), e3, rfl⟩
  · exact ⟨0, _, H.length + 1, some 0, _, _, _, by omega, by omega, rfl, ⟨[.cells [] true], by simp⟩, by rw [blkAt_newk]; rfl, rfl⟩

theorem e_i_BendTimes {q : Nat} {c : Option Nat} (hq : cellsAt H q = some (encL ls)) (h : onOk X a b ls = true) : call T pr f_i_BendTimes [bmV X a b, slL q ls.length c] ⟨H, e⟩ = some (.tup [slI H.length (X + 1) none, .bool true], ⟨H ++ [.cells (encI (mapR (X + 1) (bendZ a b ls))) true], e⟩) := by
  have h' := on_facts h
  have h1 := h'.len
  rw [call_eq t_i_BendTimes]
  have hb := fun G => e_i_Beam_bends (pr := pr) (e := none) (c := c) (cells_mono hq G) h'
  have hf := fun B0 => finish_slb (H := H) (s1 := 1) (n1 := X + 1) (c1 := none) (.bool true) rfl (fun _ => rfl) (L := H ++ [B0, .cells (encI (mapR (X + 1) (bendZ a b ls))) true]) ⟨_, rfl⟩ e none rfl (b1 := H.length + 1) (by omega) (by rw [blkAt_newk]; rfl) (under_encI _ _)
  simp +contextual only [a_i_BendTimes, c_i_BendTimes, e_i_isOn (cells_mono hq _) (show ls.length ≤ 9223372036854775806 by omega), hb, h, hf, go_sem, entry, joinEsc, if_pos, reduceIte, Nat.reduceAdd, Nat.reduceLeDiff, Nat.reduceLT, Nat.reduceEqDiff]

theorem e_i_BendTimes_bad {x : Int} {q : Nat} {c : Option Nat} (hq : cellsAt H q = some (encL ls)) (hn : ls.length ≤ 100) (h : onOk x a b ls = false) : call T pr f_i_BendTimes [bmV x a b, slL q ls.length c] ⟨H, e⟩ = some (.tup [.slice none 0 0 none, .bool false], ⟨H, e⟩) := by
  rw [call_eq t_i_BendTimes]
  simp +contextual only [a_i_BendTimes, c_i_BendTimes, e_i_isOn (cells_mono hq _) (show ls.length ≤ 9223372036854775806 by omega), h, finish_noneb (H := H) ⟨_, rfl⟩ e, go_sem, entry, joinEsc, if_pos, reduceIte, Nat.reduceAdd, Nat.reduceLeDiff, Nat.reduceLT, Nat.reduceEqDiff]

theorem e_i_SupportTimes {q : Nat} {c : Option Nat} (hq : cellsAt H q = some (encL ls)) (h : onOk X a b ls = true) : call T pr f_i_SupportTimes [bmV X a b, slL q ls.length c] ⟨H, e⟩ = some (.tup [.int .i64 (-momZ ls b), .int .i64 (momZ ls a), .bool true], ⟨H, e⟩) := by
  have h' := on_facts h
  have h1 := h'.len
  rw [call_eq t_i_SupportTimes]
  have hb := fun G => e_i_Beam_supports (pr := pr) (e := none) (c := c) (cells_mono hq G) h'
  simp +contextual only [a_i_SupportTimes, c_i_SupportTimes, e_i_isOn (cells_mono hq _) (show ls.length ≤ 9223372036854775806 by omega), hb, h, go_sem, entry, joinEsc, if_pos, reduceIte, Nat.reduceAdd, Nat.reduceLeDiff, Nat.reduceLT, Nat.reduceEqDiff]

theorem e_i_SupportTimes_bad {x : Int} {q : Nat} {c : Option Nat} (hq : cellsAt H q = some (encL ls)) (hn : ls.length ≤ 100) (h : onOk x a b ls = false) : call T pr f_i_SupportTimes [bmV x a b, slL q ls.length c] ⟨H, e⟩ = some (.tup [.int .i64 0, .int .i64 0, .bool false], ⟨H, e⟩) := by
  rw [call_eq t_i_SupportTimes]
  simp +contextual only [a_i_SupportTimes, c_i_SupportTimes, e_i_isOn (cells_mono hq _) (show ls.length ≤ 9223372036854775806 by omega), h, go_sem, entry, joinEsc, if_pos, reduceIte, Nat.reduceAdd, Nat.reduceLeDiff, Nat.reduceLT, Nat.reduceEqDiff]

/-- the last part of a shear -/
def shearG (a b p : Int) (l : Ld) : Int := if l.1 ≤ p then (b - a) * l.2 else 0

theorem shearG_bds {x p : Int} (h : OnB x a b ls) {l : Ld} (hl : l ∈ ls) : (0 ≤ (b - a) * l.2 ∧ (b - a) * l.2 ≤ 5940) ∧ (-5940 ≤ shearG a b p l ∧ shearG a b p l ≤ 5940) := by
  obtain ⟨e1, e2, e3, e4⟩ := h.each l hl
  have h1 := h.x2; have h2 := h.a0; have h3 := h.ab; have h4 := h.bx
  have g0 : 0 ≤ (b - a) * l.2 := Int.mul_nonneg (by omega) (by omega)
  have g1 : (b - a) * l.2 ≤ 60 * 99 := Int.le_trans (Int.mul_le_mul_of_nonneg_right (show b - a ≤ 60 by omega) (by omega)) (Int.mul_le_mul_of_nonneg_left e4 (by omega))
  unfold shearG
  split <;> omega

theorem shear_sum {x : Int} (h : OnB x a b ls) (p : Int) (i : Nat) : -71280 ≤ sumZ (shearG a b p) (ls.take i) ∧ sumZ (shearG a b p) (ls.take i) ≤ 71280 := by
  have hb := sumZ_bd (g := shearG a b p) (B := 5940) (by omega) (ls.take i) (fun l hl => (shearG_bds h (List.mem_of_mem_take hl)).2)
  have hl := h.len
  have : (ls.take i).length ≤ 12 := by rw [List.length_take]; omega
  omega

theorem shear_in {w3 w4 w5 w6 w7 w10 w11 w12 w13 w14 w15 w16 w20 w21 : AV} {x p s0 : Int} {B q r : Nat} {c : Option Nat} (hB : cellsAt H B = some [.int .i64 x, .int .i64 a, .int .i64 b]) (hq : cellsAt H q = some (encL ls)) (h : OnB x a b ls) (hs : -1000000 ≤ s0 ∧ s0 ≤ 1000000) :
    Wp (run T pr (.loop w_i_ShearTimes_1) ⟨[bmV x a b, slL q ls.length c, .ptr (some (B, 0)), w3, w4, w5, w6, w7, .int .i64 p, .int .i64 s0, w10, w11, w12, w13, w14, w15, w16, slL q ls.length c, .int .i64 ls.length, .int .i64 0, w20, w21], ⟨H, none⟩⟩) (fun ex st => ex = .exit 2 ∧ ∃ (L : List Blk) (v10 v19 v20 v21 : AV), Grown H L ∧ st = ⟨[bmV x a b, slL q ls.length c, .ptr (some (B, 0)), w3, w4, w5, w6, w7, .int .i64 p, .int .i64 (s0 - sumZ (shearG a b p) ls), v10, w11, w12, w13, w14, w15, w16, slL q ls.length c, .int .i64 ls.length, v19, v20, v21], ⟨L, none⟩⟩) := by
  have h1 := h.x2; have h2 := h.a0; have h3 := h.ab; have h4 := h.bx
  have hl := h.len
  refine Wp_loop (fun k st => ∃ (i : Nat) (G : List Blk) (v10 v20 v21 : AV), i + k = ls.length ∧ st = ⟨[bmV x a b, slL q ls.length c, .ptr (some (B, 0)), w3, w4, w5, w6, w7, .int .i64 p, .int .i64 (s0 - sumZ (shearG a b p) (ls.take i)), v10, w11, w12, w13, w14, w15, w16, slL q ls.length c, .int .i64 ls.length, .int .i64 i, v20, v21], ⟨H ++ G, none⟩⟩) ?_ ls.length _ ⟨0, [], w10, w20, w21, by omega, by simp [sumZ]⟩
  rintro k _ ⟨i, G, v10, v20, v21, hi, rfl⟩
  by_cases hk : k = 0
  · have he : i = ls.length := by omega
    subst he
    rw [List.take_length]
    simp (maxSteps := 2000000) +contextual only [w_i_ShearTimes_1, Nat.lt_irrefl, decide_false, Wp_some, Wp_none, Wp_ite, Wc_some, Wc_none, Wc_ite, Wp_thenRun, seqQ_normal, seqQ_exit, seqQ_ret, Wp_inBlock, blkQ_normal, blkQ_ret, blkQ_same, blkQ_exit, Wp_opThen, opQ_at, Wp_guardP, retQ_normal, retQ_ret, loopQ_normal, loopQ_exit, loopQ_ret, go_sem, entry, joinEsc, if_pos, reduceIte, Nat.reduceAdd, Nat.reduceLeDiff, Nat.reduceLT, Nat.reduceEqDiff]
    exact ⟨_, _, _, _, _, ⟨G, rfl⟩, rfl⟩
  · have hii : i < ls.length := by omega
    have hmem := List.getElem_mem hii
    obtain ⟨⟨g0, g1⟩, g2, g3⟩ := shearG_bds (p := p) h hmem
    obtain ⟨e1, e2, e3, e4⟩ := h.each _ hmem
    have ht := sumZ_take (shearG a b p) hii
    have hb3 := shear_sum h p i
    have hb4 := shear_sum h p (i + 1)
    have hsp := fun G => e_i_Beam_span (pr := pr) (H := G) (e := none) x a b h2 h3 (by omega)
    have v2 : IntKind.i64.wrap ((b - a) * ls[i].2) = (b - a) * ls[i].2 := wrap64 (by omega) (by omega)
    have hqm := fun G => cells_mono hq G
    have hBm := fun G => cells_mono hB G
    have hpt := part_encL (List.getElem?_eq_getElem hii)
    have hw := wrap_succ (show i < 9223372036854775807 by omega)
    by_cases hle : ls[i].1 ≤ p
    · have hg : shearG a b p ls[i] = (b - a) * ls[i].2 := if_pos hle
      have v4 : IntKind.i64.wrap (s0 - sumZ (shearG a b p) (ls.take i) - (b - a) * ls[i].2) = s0 - sumZ (shearG a b p) (ls.take (i + 1)) := by
        rw [ht, hg, wrap64 (by omega) (by omega)]
        omega
      simp (maxSteps := 2000000) +contextual only [w_i_ShearTimes_1, hii, hsp, v2, v4, hw, hqm, hBm, hpt, hle, decide_true, Wp_some, Wp_none, Wp_ite, Wc_some, Wc_none, Wc_ite, Wp_thenRun, seqQ_normal, seqQ_exit, seqQ_ret, Wp_inBlock, blkQ_normal, blkQ_ret, blkQ_same, blkQ_exit, Wp_opThen, opQ_at, Wp_guardP, retQ_normal, retQ_ret, loopQ_normal, loopQ_exit, loopQ_ret, go_sem, entry, joinEsc, if_pos, reduceIte, Nat.reduceAdd, Nat.reduceLeDiff, Nat.reduceLT, Nat.reduceEqDiff]
      exact ⟨k - 1, by omega, i + 1, _, _, _, _, by omega, rfl⟩
    · have hg : shearG a b p ls[i] = 0 := if_neg hle
      have v4 : sumZ (shearG a b p) (ls.take (i + 1)) = sumZ (shearG a b p) (ls.take i) := by
        rw [ht, hg]
        omega
      simp (maxSteps := 2000000) +contextual only [w_i_ShearTimes_1, hii, hsp, v2, hw, hqm, hBm, hpt, hle, decide_true, decide_false, Wp_some, Wp_none, Wp_ite, Wc_some, Wc_none, Wc_ite, Wp_thenRun, seqQ_normal, seqQ_exit, seqQ_ret, Wp_inBlock, blkQ_normal, blkQ_ret, blkQ_same, blkQ_exit, Wp_opThen, opQ_at, Wp_guardP, retQ_normal, retQ_ret, loopQ_normal, loopQ_exit, loopQ_ret, go_sem, entry, joinEsc, if_pos, reduceIte, Nat.reduceAdd, Nat.reduceLeDiff, Nat.reduceLT, Nat.reduceEqDiff]
      exact ⟨k - 1, by omega, i + 1, _, _, _, _, by omega, by rw [v4]⟩

theorem e_i_ShearTimes {q : Nat} {c : Option Nat} (hq : cellsAt H q = some (encL ls)) (hon : onOk X a b ls = true) : call T pr f_i_ShearTimes [bmV X a b, slL q ls.length c] ⟨H, e⟩ = some (.tup [slI H.length X none, .bool true], ⟨H ++ [.cells (encI (mapR X (shearZ a b ls))) true], e⟩) := by
  have h := on_facts hon
  have h1 := h.x2; have h0 := h.x1; have h2 := h.a0; have h3 := h.ab; have h4 := h.bx; have h5 := h.len
  obtain ⟨_, m1, m2⟩ := mom_at h.row (p := a) (by omega)
  obtain ⟨_, m3, m4⟩ := mom_at h.row (p := b) (by omega)
  apply Wc.eq
  rw [call_wc t_i_ShearTimes]
  have hb := fun G => e_i_Beam_supports (pr := pr) (e := none) (c := c) (cells_mono hq G) h
  simp +contextual only [a_i_ShearTimes, c_i_ShearTimes, fillParts, e_i_isOn (cells_mono hq _) (show ls.length ≤ 9223372036854775806 by omega), hb, hon, Wp_some, Wp_none, Wp_ite, Wc_some, Wc_none, Wc_ite, Wp_thenRun, seqQ_normal, seqQ_exit, seqQ_ret, Wp_inBlock, blkQ_normal, blkQ_ret, blkQ_same, blkQ_exit, Wp_opThen, opQ_at, Wp_guardP, retQ_normal, retQ_ret, loopQ_normal, loopQ_exit, loopQ_ret, go_sem, entry, joinEsc, if_pos, reduceIte, Nat.reduceAdd, Nat.reduceLeDiff, Nat.reduceLT, Nat.reduceEqDiff]
  refine Wp_loop (fun k st => ∃ (i : Nat) (L : List Blk) (bb : Nat) (c'' : Option Nat) (w3 w4 w8 w9 w10 w11 w14 w15 w16 w17 w18 w19 w20 w21 : AV), i + k = X ∧ H.length + 1 ≤ bb ∧ c'' = capR i ∧ Grown (H ++ [.cells [.int .i64 X, .int .i64 a, .int .i64 b] true]) L ∧ L[bb]? = some (.cells (encI (mapR i (shearZ a b ls))) true) ∧ st = ⟨[bmV X a b, slL q ls.length c, .ptr (some (H.length, 0)), w3, w4, .int .i64 (-momZ ls b), .int .i64 (momZ ls a), slI bb i c'', w8, w9, w10, w11, .int .i64 X, .int .i64 i, w14, w15, w16, w17, w18, w19, w20, w21], ⟨L, none⟩⟩) ?_ X _ ?_
  · rintro k _ ⟨i, L, bb, c'', w3, w4, w8, w9, w10, w11, w14, w15, w16, w17, w18, w19, w20, w21, hi, hb, hcap, hg, hL, rfl⟩
    by_cases hk : k = 0
    · have he : i = X := by omega
      subst he
      have hf := finish_slb (H := H) (s1 := 1) (n1 := i) (c1 := c'') (.bool true) rfl (fun _ => rfl) (bx_grown hg) e none rfl (by omega) hL (under_encI _ _)
      simp (maxSteps := 2000000) +contextual only [w_i_ShearTimes_2, Nat.lt_irrefl, decide_false, hf, Wp_some, Wp_none, Wp_ite, Wc_some, Wc_none, Wc_ite, Wp_thenRun, seqQ_normal, seqQ_exit, seqQ_ret, Wp_inBlock, blkQ_normal, blkQ_ret, blkQ_same, blkQ_exit, Wp_opThen, opQ_at, Wp_guardP, retQ_normal, retQ_ret, loopQ_normal, loopQ_exit, loopQ_ret, go_sem, entry, joinEsc, if_pos, reduceIte, Nat.reduceAdd, Nat.reduceLeDiff, Nat.reduceLT, Nat.reduceEqDiff]
      rw [hcap, capR, if_neg (by omega)]
    · have hd : i < X := by omega
      have hw := wrap_succ (show i < 9223372036854775807 by omega)
      have hbx := bx_cells hg
      have hsh := shearZ_at a b ls (i : Int)
      have hgd : sumZ (fun l => if l.1 ≤ (i : Int) then (b - a) * l.2 else 0) ls = sumZ (shearG a b (i : Int)) ls := rfl
      rw [hgd] at hsh
      have z1 : IntKind.i64.wrap (0 + -momZ ls b) = -momZ ls b := by rw [Int.zero_add]; exact wrap64 (by omega) (by omega)
      have z2 : IntKind.i64.wrap (-momZ ls b + momZ ls a) = -momZ ls b + momZ ls a := wrap64 (by omega) (by omega)
      by_cases ha : a ≤ (i : Int)
      · by_cases hbp : b ≤ (i : Int)
        · simp (maxSteps := 2000000) +contextual only [w_i_ShearTimes_2, fillParts, hd, hw, hbx, ha, hbp, z1, z2, decide_true, Wp_some, Wp_none, Wp_ite, Wc_some, Wc_none, Wc_ite, Wp_thenRun, seqQ_normal, seqQ_exit, seqQ_ret, Wp_inBlock, blkQ_normal, blkQ_ret, blkQ_same, blkQ_exit, Wp_opThen, opQ_at, Wp_guardP, retQ_normal, retQ_ret, loopQ_normal, loopQ_exit, loopQ_ret, go_sem, entry, joinEsc, if_pos, reduceIte, Nat.reduceAdd, Nat.reduceLeDiff, Nat.reduceLT, Nat.reduceEqDiff]
          refine (shear_in (B := H.length) (r := 0) hbx (bx_old hq hg) h (by omega)).mono ?_
          rintro _ _ ⟨rfl, L1, v10, v19, v20, v21, hg1, rfl⟩
          have hL1 : L1[bb]? = some (.cells (encI (mapR i (shearZ a b ls))) true) := by
            obtain ⟨G, rfl⟩ := hg1
            exact get_more hL G
          have hg2 : Grown (H ++ [.cells [.int .i64 X, .int .i64 a, .int .i64 b] true]) L1 := by
            obtain ⟨G, rfl⟩ := hg1
            exact hg.more G
          have hv : -momZ ls b + momZ ls a - sumZ (shearG a b (i : Int)) ls = shearZ a b ls (i : Int) := by rw [hsh, if_pos ha, if_pos hbp]
          rw [hv]
          simp (maxSteps := 2000000) +contextual only [fillParts, hd, hw, decide_true, Wp_some, Wp_none, Wp_ite, Wc_some, Wc_none, Wc_ite, Wp_thenRun, seqQ_normal, seqQ_exit, seqQ_ret, Wp_inBlock, blkQ_normal, blkQ_ret, blkQ_same, blkQ_exit, Wp_opThen, opQ_at, Wp_guardP, retQ_normal, retQ_ret, loopQ_normal, loopQ_exit, loopQ_ret, go_sem, entry, joinEsc, if_pos, reduceIte, Nat.reduceAdd, Nat.reduceLeDiff, Nat.reduceLT, Nat.reduceEqDiff]
          refine wc_ap (k := 1) (new := [.int .i64 (shearZ a b ls (i : Int))]) (get_more hL1 _) (src_new _ 1 1 _ _ L1.length (by simp +contextual only [go_sem, entry, joinEsc, if_pos, reduceIte, Nat.reduceAdd, Nat.reduceLeDiff, Nat.reduceLT, Nat.reduceEqDiff]) rfl) (by simp [encI, mapR_len]) rfl (by unfold maxBytes; omega) (fun hh => capR_0 (hcap ▸ hh)) ?_
          intro L2 e1 e2 e3 e4
          rw [encI_one, ← mapR_succ, List.length_append, List.length_singleton] at e3
          simp (maxSteps := 2000000) +contextual only [hw, Wp_some, Wp_none, Wp_ite, Wc_some, Wc_none, Wc_ite, Wp_thenRun, seqQ_normal, seqQ_exit, seqQ_ret, Wp_inBlock, blkQ_normal, blkQ_ret, blkQ_same, blkQ_exit, Wp_opThen, opQ_at, Wp_guardP, retQ_normal, retQ_ret, loopQ_normal, loopQ_exit, loopQ_ret, go_sem, entry, joinEsc, if_pos, reduceIte, Nat.reduceAdd, Nat.reduceLeDiff, Nat.reduceLT, Nat.reduceEqDiff]
          exact ⟨k - 1, by omega, i + 1, L2, _, none, _, _, _, _, _, _, _, _, _, _, _, _, _, _, by omega, by have := hg2.le; simp at this; omega, by simp [capR], e4 _ (hg2.more _) (by simp; omega), e3, rfl⟩
        · simp (maxSteps := 2000000) +contextual only [w_i_ShearTimes_2, fillParts, hd, hw, hbx, ha, hbp, z1, z2, decide_true, decide_false, Wp_some, Wp_none, Wp_ite, Wc_some, Wc_none, Wc_ite, Wp_thenRun, seqQ_normal, seqQ_exit, seqQ_ret, Wp_inBlock, blkQ_normal, blkQ_ret, blkQ_same, blkQ_exit, Wp_opThen, opQ_at, Wp_guardP, retQ_normal, retQ_ret, loopQ_normal, loopQ_exit, loopQ_ret, go_sem, entry, joinEsc, if_pos, reduceIte, Nat.reduceAdd, Nat.reduceLeDiff, Nat.reduceLT, Nat.reduceEqDiff]
          refine (shear_in (B := H.length) (r := 0) hbx (bx_old hq hg) h (by omega)).mono ?_
          rintro _ _ ⟨rfl, L1, v10, v19, v20, v21, hg1, rfl⟩
          have hL1 : L1[bb]? = some (.cells (encI (mapR i (shearZ a b ls))) true) := by
            obtain ⟨G, rfl⟩ := hg1
            exact get_more hL G
          have hg2 : Grown (H ++ [.cells [.int .i64 X, .int .i64 a, .int .i64 b] true]) L1 := by
            obtain ⟨G, rfl⟩ := hg1
            exact hg.more G
          have hv : -momZ ls b - sumZ (shearG a b (i : Int)) ls = shearZ a b ls (i : Int) := by rw [hsh, if_pos ha, if_neg hbp, Int.add_zero]
          rw [hv]
          simp (maxSteps := 2000000) +contextual only [fillParts, hd, hw, decide_true, Wp_some, Wp_none, Wp_ite, Wc_some, Wc_none, Wc_ite, Wp_thenRun, seqQ_normal, seqQ_exit, seqQ_ret, Wp_inBlock, blkQ_normal, blkQ_ret, blkQ_same, blkQ_exit, Wp_opThen, opQ_at, Wp_guardP, retQ_normal, retQ_ret, loopQ_normal, loopQ_exit, loopQ_ret, go_sem, entry, joinEsc, if_pos, reduceIte, Nat.reduceAdd, Nat.reduceLeDiff, Nat.reduceLT, Nat.reduceEqDiff]
          refine wc_ap (k := 1) (new := [.int .i64 (shearZ a b ls (i : Int))]) (get_more hL1 _) (src_new _ 1 1 _ _ L1.length (by simp +contextual only [go_sem, entry, joinEsc, if_pos, reduceIte, Nat.reduceAdd, Nat.reduceLeDiff, Nat.reduceLT, Nat.reduceEqDiff]) rfl) (by simp [encI, mapR_len]) rfl (by unfold maxBytes; omega) (fun hh => capR_0 (hcap ▸ hh)) ?_
          intro L2 e1 e2 e3 e4
          rw [encI_one, ← mapR_succ, List.length_append, List.length_singleton] at e3
          simp (maxSteps := 2000000) +contextual only [hw, Wp_some, Wp_none, Wp_ite, Wc_some, Wc_none, Wc_ite, Wp_thenRun, seqQ_normal, seqQ_exit, seqQ_ret, Wp_inBlock, blkQ_normal, blkQ_ret, blkQ_same, blkQ_exit, Wp_opThen, opQ_at, Wp_guardP, retQ_normal, retQ_ret, loopQ_normal, loopQ_exit, loopQ_ret, go_sem, entry, joinEsc, if_pos, reduceIte, Nat.reduceAdd, Nat.reduceLeDiff, Nat.reduceLT, Nat.reduceEqDiff]
          exact ⟨k - 1, by omega, i + 1, L2, _, none, _, _, _, _, _, _, _, _, _, _, _, _, _, _, by omega, by have := hg2.le; simp at this; omega, by simp [capR], e4 _ (hg2.more _) (by simp; omega), e3, rfl⟩
      · have hbp : ¬ b ≤ (i : Int) := by omega
        simp (maxSteps := 2000000) +contextual only [w_i_ShearTimes_2, fillParts, hd, hw, hbx, ha, hbp, z1, z2, decide_true, decide_false, Wp_some, Wp_none, Wp_ite, Wc_some, Wc_none, Wc_ite, Wp_thenRun, seqQ_normal, seqQ_exit, seqQ_ret, Wp_inBlock, blkQ_normal, blkQ_ret, blkQ_same, blkQ_exit, Wp_opThen, opQ_at, Wp_guardP, retQ_normal, retQ_ret, loopQ_normal, loopQ_exit, loopQ_ret, go_sem, entry, joinEsc, if_pos, reduceIte, Nat.reduceAdd, Nat.reduceLeDiff, Nat.reduceLT, Nat.reduceEqDiff]
        refine (shear_in (B := H.length) (r := 0) hbx (bx_old hq hg) h (by omega)).mono ?_
        rintro _ _ ⟨rfl, L1, v10, v19, v20, v21, hg1, rfl⟩
        have hL1 : L1[bb]? = some (.cells (encI (mapR i (shearZ a b ls))) true) := by
          obtain ⟨G, rfl⟩ := hg1
          exact get_more hL G
        have hg2 : Grown (H ++ [.cells [.int .i64 X, .int .i64 a, .int .i64 b] true]) L1 := by
          obtain ⟨G, rfl⟩ := hg1
          exact hg.more G
        have hv : 0 - sumZ (shearG a b (i : Int)) ls = shearZ a b ls (i : Int) := by rw [hsh, if_neg ha, if_neg hbp, Int.add_zero]
        rw [hv]
        simp (maxSteps := 2000000) +contextual only [fillParts, hd, hw, decide_true, Wp_some, Wp_none, Wp_ite, Wc_some, Wc_none, Wc_ite, Wp_thenRun, seqQ_normal, seqQ_exit, seqQ_ret, Wp_inBlock, blkQ_normal, blkQ_ret, blkQ_same, blkQ_exit, Wp_opThen, opQ_at, Wp_guardP, retQ_normal, retQ_ret, loopQ_normal, loopQ_exit, loopQ_ret, go_sem, entry, joinEsc, if_pos, reduceIte, Nat.reduceAdd, Nat.reduceLeDiff, Nat.reduceLT, Nat.reduceEqDiff]
        refine wc_ap (k := 1) (new := [.int .i64 (shearZ a b ls (i : Int))]) (get_more hL1 _) (src_new _ 1 1 _ _ L1.length (by simp +contextual only [go_sem, entry, joinEsc, if_pos, reduceIte, Nat.reduceAdd, Nat.reduceLeDiff, Nat.reduceLT, Nat.reduceEqDiff]) rfl) (by simp [encI, mapR_len]) rfl (by unfold maxBytes; omega) (fun hh => capR_0 (hcap ▸ hh)) ?_
        intro L2 e1 e2 e3 e4
        rw [encI_one, ← mapR_succ, List.length_append, List.length_singleton] at e3
        simp (maxSteps := 2000000) +contextual only [hw, Wp_some, Wp_none, Wp_ite, Wc_some, Wc_none, Wc_ite, Wp_thenRun, seqQ_normal, seqQ_exit, seqQ_ret, Wp_inBlock, blkQ_normal, blkQ_ret, blkQ_same, blkQ_exit, Wp_opThen, opQ_at, Wp_guardP, retQ_normal, retQ_ret, loopQ_normal, loopQ_exit, loopQ_ret, go_sem, entry, joinEsc, if_pos, reduceIte, Nat.reduceAdd, Nat.reduceLeDiff, Nat.reduceLT, Nat.reduceEqDiff]
        exact ⟨k - 1, by omega, i + 1, L2, _, none, _, _, _, _, _, _, _, _, _, _, _, _, _, _, by omega, by have := hg2.le; simp at this; omega, by simp [capR], e4 _ (hg2.more _) (by simp; omega), e3, rfl⟩
  · exact ⟨0, _, H.length + 1, some 0, _, _, _, _, _, _, _, _, _, _, _, _, _, _, by omega, by omega, rfl, ⟨[.cells [] true], by simp⟩, by rw [blkAt_newk]; rfl, rfl⟩

end

end Go.Proofs.Ytaikmfldjkbmmaa.Slim

/- Beams: the greatest bend, influences, bends by a row and mirrors in the program. -/
namespace Go.Proofs.Ytaikmfldjkbmmaa.Slim

open Go

set_option linter.unusedSimpArgs false

set_option linter.unusedVariables false

variable {pr : Prims} {H : List Blk} {e : Option Nat}

/-- a size (see t_i_GreatestBend) -/
def sizeZ (v : Int) : Int := if -v > v then -v else v

/-- the greatest size of n values, and its least place -/
def grR (f : Int → Int) : Nat → Int × Int
  | 0 => (0, 0)
  | n + 1 => if sizeZ (f (n : Int)) > (grR f n).1 then (sizeZ (f (n : Int)), (n : Int)) else grR f n

section
variable {a b : Int} {X : Nat} {ls : List Ld}

theorem bendZ_bds {x : Int} (h : OnB x a b ls) {p : Int} (hp0 : 0 ≤ p) (hp : p ≤ 60) : -20000000 ≤ bendZ a b ls p ∧ bendZ a b ls p ≤ 20000000 := by
  obtain ⟨b1, b2, b3, b4, b5⟩ := bend_bds h hp0 hp
  have hat := bendZ_at a b ls p
  have hgd : sumZ (fun l => (b - a) * l.2 * mx (p - l.1)) ls = sumZ (bendG a b p) ls := rfl
  rw [hgd] at hat
  have := b3 ls.length
  rw [List.take_length] at this
  omega

theorem e_i_isOnBeam (x a b p : Int) : call T pr f_i_isOnBeam [bmV x a b, .int .i64 p] ⟨H, e⟩ = some (.bool (beamOk x a b && (decide (0 ≤ p) && decide (p ≤ x))), ⟨H, e⟩) := by
  rw [call_eq t_i_isOnBeam]
  cases h : beamOk x a b <;> simp +contextual only [a_i_isOnBeam, c_i_isOnBeam, e_i_IsBeam, e_i_within, h, Bool.true_and, Bool.false_and, go_sem, entry, joinEsc, if_pos, reduceIte, Nat.reduceAdd, Nat.reduceLeDiff, Nat.reduceLT, Nat.reduceEqDiff]

theorem e_i_MirrorBeam (x a b : Int) (h : beamOk x a b = true) : call T pr f_i_MirrorBeam [bmV x a b] ⟨H, e⟩ = some (.tup [bmV x (x - b) (x - a), .bool true], ⟨H, e⟩) := by
  have h' := h
  unfold beamOk at h'
  simp only [decide_eq_true_eq] at h'
  rw [call_eq t_i_MirrorBeam]
  simp +contextual only [a_i_MirrorBeam, c_i_MirrorBeam, fillParts, e_i_IsBeam, h, show IntKind.i64.wrap (x - b) = x - b from wrap64 (by omega) (by omega), show IntKind.i64.wrap (x - a) = x - a from wrap64 (by omega) (by omega), go_sem, entry, joinEsc, if_pos, reduceIte, Nat.reduceAdd, Nat.reduceLeDiff, Nat.reduceLT, Nat.reduceEqDiff]

theorem e_i_MirrorBeam_bad (x a b : Int) (h : beamOk x a b = false) : call T pr f_i_MirrorBeam [bmV x a b] ⟨H, e⟩ = some (.tup [bmV 0 0 0, .bool false], ⟨H, e⟩) := by
  rw [call_eq t_i_MirrorBeam]
  simp +contextual only [a_i_MirrorBeam, c_i_MirrorBeam, fillParts, e_i_IsBeam, h, go_sem, entry, joinEsc, if_pos, reduceIte, Nat.reduceAdd, Nat.reduceLeDiff, Nat.reduceLT, Nat.reduceEqDiff]

theorem e_s_MirrorBeam (x a b : Int) (h : beamOk x a b = true) : call T pr f_s_MirrorBeam [bmV x a b] ⟨H, e⟩ = some (.tup [bmV x (x - b) (x - a), .bool true], ⟨H, e⟩) := by
  have h' := h
  unfold beamOk at h'
  simp only [decide_eq_true_eq] at h'
  rw [call_eq t_s_MirrorBeam]
  simp +contextual only [a_s_MirrorBeam, c_s_MirrorBeam, fillParts, e_s_l6Beam, h, show IntKind.i64.wrap (x - b) = x - b from wrap64 (by omega) (by omega), show IntKind.i64.wrap (x - a) = x - a from wrap64 (by omega) (by omega), go_sem, entry, joinEsc, if_pos, reduceIte, Nat.reduceAdd, Nat.reduceLeDiff, Nat.reduceLT, Nat.reduceEqDiff]

theorem e_s_MirrorBeam_bad (x a b : Int) (h : beamOk x a b = false) : call T pr f_s_MirrorBeam [bmV x a b] ⟨H, e⟩ = some (.tup [bmV 0 0 0, .bool false], ⟨H, e⟩) := by
  rw [call_eq t_s_MirrorBeam]
  simp +contextual only [a_s_MirrorBeam, c_s_MirrorBeam, fillParts, e_s_l6Beam, h, go_sem, entry, joinEsc, if_pos, reduceIte, Nat.reduceAdd, Nat.reduceLeDiff, Nat.reduceLT, Nat.reduceEqDiff]

theorem e_i_BendBy {q : Nat} {c : Option Nat} (hq : cellsAt H q = some (encL ls)) (h : onOk X a b ls = true) {p : Int} (hp0 : 0 ≤ p) (hp : p ≤ X) : call T pr f_i_BendBy [bmV X a b, slL q ls.length c, .int .i64 p] ⟨H, e⟩ = some (.tup [.int .i64 (bendZ a b ls p), .bool true], ⟨H, e⟩) := by
  have h' := on_facts h
  have h1 := h'.len; have h2 := h'.x2
  have hbm : beamOk X a b = true := by
    unfold onOk at h
    simp only [Bool.and_eq_true] at h
    exact h.1.1
  rw [call_eq t_i_BendBy]
  have hb := fun G => e_i_Beam_bendAt (pr := pr) (e := none) (c := c) (cells_mono hq G) h' (p := p) hp0 (by omega)
  simp +contextual only [a_i_BendBy, c_i_BendBy, e_i_isOn (cells_mono hq _) (show ls.length ≤ 9223372036854775806 by omega), e_i_isOnBeam, hbm, hp0, hp, hb, h, decide_true, Bool.and_self, Bool.not_true, go_sem, entry, joinEsc, if_pos, reduceIte, Nat.reduceAdd, Nat.reduceLeDiff, Nat.reduceLT, Nat.reduceEqDiff]

theorem e_i_BendBy_bad {q : Nat} {c : Option Nat} {x : Int} (hq : cellsAt H q = some (encL ls)) (hn : ls.length ≤ 100) {p : Int} (h : onOk x a b ls = true → ¬ (0 ≤ p ∧ p ≤ x)) : call T pr f_i_BendBy [bmV x a b, slL q ls.length c, .int .i64 p] ⟨H, e⟩ = some (.tup [.int .i64 0, .bool false], ⟨H, e⟩) := by
  rw [call_eq t_i_BendBy]
  cases ho : onOk x a b ls with
  | false => simp +contextual only [a_i_BendBy, c_i_BendBy, e_i_isOn (cells_mono hq _) (show ls.length ≤ 9223372036854775806 by omega), e_i_isOnBeam, ho, go_sem, entry, joinEsc, if_pos, reduceIte, Nat.reduceAdd, Nat.reduceLeDiff, Nat.reduceLT, Nat.reduceEqDiff]
  | true =>
    have hbm : beamOk x a b = true := by
      unfold onOk at ho
      simp only [Bool.and_eq_true] at ho
      exact ho.1.1
    have hpp : (decide (0 ≤ p) && decide (p ≤ x)) = false := by
      have := h ho
      rw [Bool.and_eq_false_iff, decide_eq_false_iff_not, decide_eq_false_iff_not]
      omega
    simp +contextual only [a_i_BendBy, c_i_BendBy, e_i_isOn (cells_mono hq _) (show ls.length ≤ 9223372036854775806 by omega), e_i_isOnBeam, ho, hbm, hpp, Bool.true_and, Bool.not_true, Bool.not_false, go_sem, entry, joinEsc, if_pos, reduceIte, Nat.reduceAdd, Nat.reduceLeDiff, Nat.reduceLT, Nat.reduceEqDiff]

theorem e_i_GreatestBend {q : Nat} {c : Option Nat} (hq : cellsAt H q = some (encL ls)) (hon : onOk X a b ls = true) : call T pr f_i_GreatestBend [bmV X a b, slL q ls.length c] ⟨H, e⟩ = some (.tup [.int .i64 (grR (bendZ a b ls) (X + 1)).1, .int .i64 (grR (bendZ a b ls) (X + 1)).2, .bool true], ⟨H, e⟩) := by
  have h := on_facts hon
  have h1 := h.x2; have h0 := h.x1; have h5 := h.len
  apply Wc.eq
  rw [call_wc t_i_GreatestBend]
  have hb := fun G => e_i_Beam_bends (pr := pr) (e := none) (c := c) (cells_mono hq G) h
  simp +contextual only [a_i_GreatestBend, c_i_GreatestBend, fillParts, e_i_isOn (cells_mono hq _) (show ls.length ≤ 9223372036854775806 by omega), hb, hon, Wp_some, Wp_none, Wp_ite, Wc_some, Wc_none, Wc_ite, Wp_thenRun, seqQ_normal, seqQ_exit, seqQ_ret, Wp_inBlock, blkQ_normal, blkQ_ret, blkQ_same, blkQ_exit, Wp_opThen, opQ_at, Wp_guardP, retQ_normal, retQ_ret, loopQ_normal, loopQ_exit, loopQ_ret, go_sem, entry, joinEsc, if_pos, reduceIte, Nat.reduceAdd, Nat.reduceLeDiff, Nat.reduceLT, Nat.reduceEqDiff]
  refine Wp_loop (fun k st => ∃ (i : Nat) (w3 w4 w5 w8 w9 w10 w11 w15 w16 : AV), i + k = X + 1 ∧ st = ⟨[bmV X a b, slL q ls.length c, .ptr (some (H.length, 0)), w3, w4, w5, .int .i64 (grR (bendZ a b ls) i).1, .int .i64 (grR (bendZ a b ls) i).2, w8, w9, w10, w11, slI (H.length + 1) (X + 1) none, .int .i64 (X + 1 : Nat), .int .i64 i, w15, w16], ⟨H ++ [.cells [.int .i64 X, .int .i64 a, .int .i64 b] true, .cells (encI (mapR (X + 1) (bendZ a b ls))) true], none⟩⟩) ?_ (X + 1) _ ?_
  · rintro k _ ⟨i, w3, w4, w5, w8, w9, w10, w11, w15, w16, hi, rfl⟩
    by_cases hk : k = 0
    · have he : i = X + 1 := by omega
      subst he
      simp (maxSteps := 2000000) +contextual only [w_i_GreatestBend_1, Nat.lt_irrefl, decide_false, Wp_some, Wp_none, Wp_ite, Wc_some, Wc_none, Wc_ite, Wp_thenRun, seqQ_normal, seqQ_exit, seqQ_ret, Wp_inBlock, blkQ_normal, blkQ_ret, blkQ_same, blkQ_exit, Wp_opThen, opQ_at, Wp_guardP, retQ_normal, retQ_ret, loopQ_normal, loopQ_exit, loopQ_ret, go_sem, entry, joinEsc, if_pos, reduceIte, Nat.reduceAdd, Nat.reduceLeDiff, Nat.reduceLT, Nat.reduceEqDiff]
    · have hd : i < X + 1 := by omega
      have hw := wrap_succ (show i < 9223372036854775807 by omega)
      have hpt := part_encI 1 (mapR_get (bendZ a b ls) hd)
      obtain ⟨d1, d2⟩ := bendZ_bds h (p := (i : Int)) (by omega) (by omega)
      have hng : IntKind.i64.wrap (0 - bendZ a b ls (i : Int)) = - bendZ a b ls (i : Int) := by rw [Int.zero_sub]; exact wrap64 (by omega) (by omega)
      have hsz : (if -bendZ a b ls (i : Int) > bendZ a b ls (i : Int) then -bendZ a b ls (i : Int) else bendZ a b ls (i : Int)) = sizeZ (bendZ a b ls (i : Int)) := rfl
      by_cases hgt : sizeZ (bendZ a b ls (i : Int)) > (grR (bendZ a b ls) i).1
      · have hst : grR (bendZ a b ls) (i + 1) = (sizeZ (bendZ a b ls (i : Int)), (i : Int)) := by rw [grR, if_pos hgt]
        simp (maxSteps := 2000000) +contextual only [w_i_GreatestBend_1, hd, hw, hpt, hng, hsz, hgt, decide_true, Wp_some, Wp_none, Wp_ite, Wc_some, Wc_none, Wc_ite, Wp_thenRun, seqQ_normal, seqQ_exit, seqQ_ret, Wp_inBlock, blkQ_normal, blkQ_ret, blkQ_same, blkQ_exit, Wp_opThen, opQ_at, Wp_guardP, retQ_normal, retQ_ret, loopQ_normal, loopQ_exit, loopQ_ret, go_sem, entry, joinEsc, if_pos, reduceIte, Nat.reduceAdd, Nat.reduceLeDiff, Nat.reduceLT, Nat.reduceEqDiff]
        exact ⟨k - 1, by omega, i + 1, _, _, _, _, _, _, _, _, _, by omega, by rw [hst]⟩
      · have hst : grR (bendZ a b ls) (i + 1) = grR (bendZ a b ls) i := by rw [grR, if_neg hgt]
        simp (maxSteps := 2000000) +contextual only [w_i_GreatestBend_1, hd, hw, hpt, hng, hsz, hgt, decide_true, decide_false, Wp_some, Wp_none, Wp_ite, Wc_some, Wc_none, Wc_ite, Wp_thenRun, seqQ_normal, seqQ_exit, seqQ_ret, Wp_inBlock, blkQ_normal, blkQ_ret, blkQ_same, blkQ_exit, Wp_opThen, opQ_at, Wp_guardP, retQ_normal, retQ_ret, loopQ_normal, loopQ_exit, loopQ_ret, go_sem, entry, joinEsc, if_pos, reduceIte, Nat.reduceAdd, Nat.reduceLeDiff, Nat.reduceLT, Nat.reduceEqDiff]
        exact ⟨k - 1, by omega, i + 1, _, _, _, _, _, _, _, _, _, by omega, by rw [hst]⟩
  · exact ⟨0, _, _, _, _, _, _, _, _, _, by omega, rfl⟩

theorem e_i_GreatestBend_bad {x : Int} {q : Nat} {c : Option Nat} (hq : cellsAt H q = some (encL ls)) (hn : ls.length ≤ 100) (h : onOk x a b ls = false) : call T pr f_i_GreatestBend [bmV x a b, slL q ls.length c] ⟨H, e⟩ = some (.tup [.int .i64 0, .int .i64 0, .bool false], ⟨H, e⟩) := by
  rw [call_eq t_i_GreatestBend]
  simp +contextual only [a_i_GreatestBend, c_i_GreatestBend, e_i_isOn (cells_mono hq _) (show ls.length ≤ 9223372036854775806 by omega), h, go_sem, entry, joinEsc, if_pos, reduceIte, Nat.reduceAdd, Nat.reduceLeDiff, Nat.reduceLT, Nat.reduceEqDiff]

theorem e_i_ShearTimes_bad {x : Int} {q : Nat} {c : Option Nat} (hq : cellsAt H q = some (encL ls)) (hn : ls.length ≤ 100) (h : onOk x a b ls = false) : call T pr f_i_ShearTimes [bmV x a b, slL q ls.length c] ⟨H, e⟩ = some (.tup [.slice none 0 0 none, .bool false], ⟨H, e⟩) := by
  rw [call_eq t_i_ShearTimes]
  simp +contextual only [a_i_ShearTimes, c_i_ShearTimes, e_i_isOn (cells_mono hq _) (show ls.length ≤ 9223372036854775806 by omega), h, finish_noneb (H := H) ⟨_, rfl⟩ e, go_sem, entry, joinEsc, if_pos, reduceIte, Nat.reduceAdd, Nat.reduceLeDiff, Nat.reduceLT, Nat.reduceEqDiff]

theorem on_one {x y : Int} (h : beamOk x a b = true) (hy0 : 0 ≤ y) (hy : y ≤ x) : onOk x a b [(y, 1)] = true := by
  have hb := h
  unfold beamOk at hb
  simp only [decide_eq_true_eq] at hb
  unfold onOk
  rw [h]
  have h1 : y ≤ 60 := by omega
  have h2 : ¬ x < y := by omega
  simp [rowOk, okL, hy0, h1, h2]

theorem e_i_InfluenceOf (h : beamOk X a b = true) {p : Int} (hp0 : 0 ≤ p) (hp : p ≤ X) : call T pr f_i_InfluenceOf [bmV X a b, .int .i64 p] ⟨H, e⟩ = some (.tup [slI H.length (X + 1) none, .bool true], ⟨H ++ [.cells (encI (mapR (X + 1) (fun y => fZ a b y p))) true], e⟩) := by
  have hb := h
  unfold beamOk at hb
  simp only [decide_eq_true_eq] at hb
  apply Wc.eq
  rw [call_wc t_i_InfluenceOf]
  have hX := wrap_succ (show X < 9223372036854775807 by omega)
  simp +contextual only [a_i_InfluenceOf, c_i_InfluenceOf, fillParts, e_i_isOnBeam, h, hp0, hp, hX, decide_true, Bool.and_self, Wp_some, Wp_none, Wp_ite, Wc_some, Wc_none, Wc_ite, Wp_thenRun, seqQ_normal, seqQ_exit, seqQ_ret, Wp_inBlock, blkQ_normal, blkQ_ret, blkQ_same, blkQ_exit, Wp_opThen, opQ_at, Wp_guardP, retQ_normal, retQ_ret, loopQ_normal, loopQ_exit, loopQ_ret, go_sem, entry, joinEsc, if_pos, reduceIte, Nat.reduceAdd, Nat.reduceLeDiff, Nat.reduceLT, Nat.reduceEqDiff]
  refine Wp_loop (fun k st => ∃ (i : Nat) (L : List Blk) (bb : Nat) (c'' : Option Nat) (w3 w4 w6 w7 w10 : AV), i + k = X + 1 ∧ H.length + 1 ≤ bb ∧ c'' = capR i ∧ Grown (H ++ [.cells [.int .i64 X, .int .i64 a, .int .i64 b] true]) L ∧ L[bb]? = some (.cells (encI (mapR i (fun y => fZ a b y p))) true) ∧ st = ⟨[bmV X a b, .int .i64 p, .ptr (some (H.length, 0)), w3, w4, slI bb i c'', w6, w7, .int .i64 (X + 1 : Nat), .int .i64 i, w10], ⟨L, none⟩⟩) ?_ (X + 1) _ ?_
  · rintro k _ ⟨i, L, bb, c'', w3, w4, w6, w7, w10, hi, hbb, hcap, hg, hL, rfl⟩
    by_cases hk : k = 0
    · have he : i = X + 1 := by omega
      subst he
      have hf := finish_slb (H := H) (s1 := 1) (n1 := X + 1) (c1 := c'') (.bool true) rfl (fun _ => rfl) (bx_grown hg) e none rfl (by omega) hL (under_encI _ _)
      simp (maxSteps := 2000000) +contextual only [w_i_InfluenceOf_1, Nat.lt_irrefl, decide_false, hf, Wp_some, Wp_none, Wp_ite, Wc_some, Wc_none, Wc_ite, Wp_thenRun, seqQ_normal, seqQ_exit, seqQ_ret, Wp_inBlock, blkQ_normal, blkQ_ret, blkQ_same, blkQ_exit, Wp_opThen, opQ_at, Wp_guardP, retQ_normal, retQ_ret, loopQ_normal, loopQ_exit, loopQ_ret, go_sem, entry, joinEsc, if_pos, reduceIte, Nat.reduceAdd, Nat.reduceLeDiff, Nat.reduceLT, Nat.reduceEqDiff]
      rw [hcap]
      rfl
    · have hd : i < X + 1 := by omega
      have hw := wrap_succ (show i < 9223372036854775807 by omega)
      have hbx := cells_mono (bx_cells hg) [.cells [.int .i64 i, .int .i64 1] true]
      have hat := e_i_Beam_bendAt (pr := pr) (e := none) (c := some 1) (ls := [((i : Int), 1)]) (H := L ++ [.cells [.int .i64 i, .int .i64 1] true]) (q := L.length) (by simp [cellsAt, encL]) (on_facts (on_one (y := (i : Int)) h (by omega) (by omega))) hp0 (by omega)
      rw [bendZ_one] at hat
      replace hat : call T pr f_i_Beam_bendAt [.agg [.int .i64 (X : Int), .int .i64 a, .int .i64 b], .slice (some (L.length, 0)) 2 1 (some 1), .int .i64 p] ⟨L ++ [.cells [.int .i64 i, .int .i64 1] true], none⟩ = some (.int .i64 (fZ a b i p), ⟨L ++ [.cells [.int .i64 i, .int .i64 1] true], none⟩) := hat
      have hbx' := bx_cells hg
      simp (maxSteps := 2000000) +contextual only [w_i_InfluenceOf_1, fillParts, hd, hw, hbx, hbx', hat, List.length_singleton, decide_true, Wp_some, Wp_none, Wp_ite, Wc_some, Wc_none, Wc_ite, Wp_thenRun, seqQ_normal, seqQ_exit, seqQ_ret, Wp_inBlock, blkQ_normal, blkQ_ret, blkQ_same, blkQ_exit, Wp_opThen, opQ_at, Wp_guardP, retQ_normal, retQ_ret, loopQ_normal, loopQ_exit, loopQ_ret, go_sem, entry, joinEsc, if_pos, reduceIte, Nat.reduceAdd, Nat.reduceLeDiff, Nat.reduceLT, Nat.reduceEqDiff]
      refine wc_ap (k := 1) (new := [.int .i64 (fZ a b (i : Int) p)]) (get_more hL _) (src_new _ 1 1 _ _ (L.length + 1) (by simp +contextual only [go_sem, entry, joinEsc, if_pos, reduceIte, Nat.reduceAdd, Nat.reduceLeDiff, Nat.reduceLT, Nat.reduceEqDiff]) rfl) (by simp [encI, mapR_len]) rfl (by unfold maxBytes; omega) (fun hh => capR_0 (hcap ▸ hh)) ?_
      intro L2 e1 e2 e3 e4
      rw [encI_one, ← mapR_succ (f := fun y => fZ a b y p), List.length_append] at e3
      simp (maxSteps := 2000000) +contextual only [hw, Wp_some, Wp_none, Wp_ite, Wc_some, Wc_none, Wc_ite, Wp_thenRun, seqQ_normal, seqQ_exit, seqQ_ret, Wp_inBlock, blkQ_normal, blkQ_ret, blkQ_same, blkQ_exit, Wp_opThen, opQ_at, Wp_guardP, retQ_normal, retQ_ret, loopQ_normal, loopQ_exit, loopQ_ret, go_sem, entry, joinEsc, if_pos, reduceIte, Nat.reduceAdd, Nat.reduceLeDiff, Nat.reduceLT, Nat.reduceEqDiff]
      exact ⟨k - 1, by omega, i + 1, L2, _, none, _, _, _, _, _, by omega, by have := hg.le; simp at this; omega, by simp [capR], e4 _ (hg.more _) (by simp; omega), e3, rfl⟩
  · exact ⟨0, _, H.length + 1, some 0, _, _, _, _, _, by omega, by omega, rfl, ⟨[.cells [] true], by simp⟩, by rw [blkAt_newk]; rfl, rfl⟩

theorem e_i_InfluenceOf_bad {x p : Int} (h : beamOk x a b = true → ¬ (0 ≤ p ∧ p ≤ x)) : call T pr f_i_InfluenceOf [bmV x a b, .int .i64 p] ⟨H, e⟩ = some (.tup [.slice none 0 0 none, .bool false], ⟨H, e⟩) := by
  have hh : (beamOk x a b && (decide (0 ≤ p) && decide (p ≤ x))) = false := by
    cases ho : beamOk x a b with
    | false => rfl
    | true =>
      have := h ho
      rw [Bool.true_and, Bool.and_eq_false_iff, decide_eq_false_iff_not, decide_eq_false_iff_not]
      omega
  rw [call_eq t_i_InfluenceOf]
  simp +contextual only [a_i_InfluenceOf, c_i_InfluenceOf, fillParts, e_i_isOnBeam, hh, finish_noneb (H := H) ⟨_, rfl⟩ e, go_sem, entry, joinEsc, if_pos, reduceIte, Nat.reduceAdd, Nat.reduceLeDiff, Nat.reduceLT, Nat.reduceEqDiff]

end

end Go.Proofs.Ytaikmfldjkbmmaa.Slim

/- Beams: forces, shears and bends in the other program. -/
namespace Go.Proofs.Ytaikmfldjkbmmaa.Slim

open Go

set_option linter.unusedSimpArgs false

set_option linter.unusedVariables false

variable {pr : Prims} {H : List Blk} {e : Option Nat}

theorem encI_len (xs : List Int) : (encI xs).length = xs.length := by simp [encI]

theorem setRange_int (cs : List AV) (i : Nat) (v : AV) (h : i < cs.length) : setRange cs i [v] = cs.set i v := by
  rw [List.set_eq_take_append_cons_drop, if_pos h]
  simp [setRange]

theorem setR_mapR {n i : Nat} (f : Int → Int) (v : Int) (h : i < n) : setRange (encI (mapR n f)) i [.int .i64 v] = encI (mapR n (fun p => if p = (i : Int) then v else f p)) := by
  rw [setRange_int _ _ _ (by rw [encI_len, mapR_len]; exact h), ← mapR_set f v h]
  unfold encI
  rw [List.map_set]

theorem zeros_mapR (n : Nat) : zeros n [.int .i64 0] = encI (mapR n (fun _ => 0)) := by
  induction n with
  | zero => rfl
  | succ n ih =>
    rw [mapR_succ, ← encI_one, ← ih]
    unfold zeros
    rw [List.replicate_succ', List.flatten_append]
    rfl

/-- the part of a force that a load has -/
def forceG (a b p : Int) (l : Ld) : Int := if p = l.1 then (b - a) * l.2 else 0

section
variable {a b : Int} {X : Nat} {ls : List Ld}

theorem forceG_bds {x p : Int} (h : OnB x a b ls) {l : Ld} (hl : l ∈ ls) : (0 ≤ (b - a) * l.2 ∧ (b - a) * l.2 ≤ 5940) ∧ (-5940 ≤ forceG a b p l ∧ forceG a b p l ≤ 5940) := by
  obtain ⟨g, _⟩ := shearG_bds (p := p) h hl
  refine ⟨g, ?_⟩
  unfold forceG
  split <;> omega

theorem force_sum {x : Int} (h : OnB x a b ls) (p : Int) (i : Nat) : -71280 ≤ sumZ (forceG a b p) (ls.take i) ∧ sumZ (forceG a b p) (ls.take i) ≤ 71280 := by
  have hb := sumZ_bd (g := forceG a b p) (B := 5940) (by omega) (ls.take i) (fun l hl => (forceG_bds h (List.mem_of_mem_take hl)).2)
  have hl := h.len
  have : (ls.take i).length ≤ 12 := by rw [List.length_take]; omega
  omega

/-- a force without the loads -/
def baseF (a b : Int) (ls : List Ld) (p : Int) : Int := if p = b then momZ ls a else if p = a then -momZ ls b else 0

theorem forceZ_base (h : a < b) (p : Int) : forceZ a b ls p = baseF a b ls p - sumZ (forceG a b p) ls := by
  rw [forceZ_at]
  unfold baseF
  have hgd : sumZ (fun l => if p = l.1 then (b - a) * l.2 else 0) ls = sumZ (forceG a b p) ls := rfl
  rw [hgd]
  by_cases hpb : p = b
  · rw [if_neg (by omega), if_pos hpb]
    omega
  · rw [if_neg hpb, if_neg hpb]
    omega

theorem baseF_bds {x : Int} (h : OnB x a b ls) (p : Int) : -71280 ≤ baseF a b ls p ∧ baseF a b ls p ≤ 71280 := by
  have h1 := h.x2; have h0 := h.x1; have h2 := h.a0; have h3 := h.ab; have h4 := h.bx
  obtain ⟨n1, m1, m2⟩ := mom_at h.row (p := a) (by omega)
  obtain ⟨n3, m3, m4⟩ := mom_at h.row (p := b) (by omega)
  unfold baseF
  split
  · omega
  · split <;> omega

theorem e_s_l6Forces {q : Nat} {c : Option Nat} (hq : cellsAt H q = some (encL ls)) (hon : onOk X a b ls = true) : call T pr f_s_l6Forces [bmV X a b, slL q ls.length c] ⟨H, e⟩ = some (slI H.length (X + 1) (some (X + 1)), ⟨H ++ [.cells (encI (mapR (X + 1) (forceZ a b ls))) true], e⟩) := by
  have h := on_facts hon
  have h1 := h.x2; have h0 := h.x1; have h2 := h.a0; have h3 := h.ab; have h4 := h.bx; have h5 := h.len
  obtain ⟨n1, m1, m2⟩ := mom_at h.row (p := a) (by omega)
  obtain ⟨n3, m3, m4⟩ := mom_at h.row (p := b) (by omega)
  obtain ⟨A, rfl⟩ := Int.eq_ofNat_of_zero_le h2
  obtain ⟨B, rfl⟩ := Int.eq_ofNat_of_zero_le (show 0 ≤ b by omega)
  apply Wc.eq
  rw [call_wc t_s_l6Forces]
  have hX := wrap_succ (show X < 9223372036854775807 by omega)
  have hng : IntKind.i64.wrap (0 - momZ ls (B : Int)) = -momZ ls (B : Int) := by rw [Int.zero_sub]; exact wrap64 (by omega) (by omega)
  have hm := fun G => e_s_l2Moment (pr := pr) (e := none) (c := c) (cells_mono hq G) (by omega)
  have hms : makeSliceV (H ++ [.cells [.int .i64 X, .int .i64 A, .int .i64 B] true]) none 1 8 [.int .i64 0] (.int .i64 (X + 1 : Nat)) (.int .i64 (X + 1 : Nat)) = some (slI (H.length + 1) (X + 1) (some (X + 1)), ⟨H ++ [.cells [.int .i64 X, .int .i64 A, .int .i64 B] true, .cells (encI (mapR (X + 1) (fun _ => 0))) true], none⟩) := by
    rw [makeSliceV_int, if_pos (by unfold maxBytes; omega), Int.toNat_natCast, zeros_mapR]
    simp
  have hA : A < X + 1 := by omega
  have hB : B < X + 1 := by omega
  have hs1 := setR_mapR (fun _ => 0) (-momZ ls (B : Int)) hA
  have hs2 := setR_mapR (fun p => if p = (A : Int) then -momZ ls (B : Int) else 0) (momZ ls (A : Int)) hB
  have hlen : ∀ f, (encI (mapR (X + 1) f)).length = X + 1 := fun f => by rw [encI_len, mapR_len]
  simp (maxSteps := 2000000) +contextual only [a_s_l6Forces, c_s_l6Forces, fillParts, hX, aop_makeSlice, hms, hm, n1, n3, hng, hA, hB, hs1, hs2, hlen, Nat.succ_le_of_lt, cellsAt_s0, cellsAt_sk, blkAt_s0, blkAt_sk, set_s0, set_sk, set_sapp, set_app, List.set_set, List.length_set, finish_one_setG, finish_one_set0, clean_none', Nat.add_assoc, Wp_some, Wp_none, Wp_ite, Wc_some, Wc_none, Wc_ite, Wp_thenRun, seqQ_normal, seqQ_exit, seqQ_ret, Wp_inBlock, blkQ_normal, blkQ_ret, blkQ_same, blkQ_exit, Wp_opThen, opQ_at, Wp_guardP, retQ_normal, retQ_ret, loopQ_normal, loopQ_exit, loopQ_ret, go_sem, entry, joinEsc, if_pos, reduceIte, Nat.reduceAdd, Nat.reduceLeDiff, Nat.reduceLT, Nat.reduceEqDiff]
  have hbf : (fun p => if p = (B : Int) then momZ ls (A : Int) else if p = (A : Int) then -momZ ls (B : Int) else 0) = baseF (A : Int) (B : Int) ls := rfl
  rw [hbf]
  refine Wp_loop (fun k st => ∃ (i : Nat) (w6 : AV), i + k = ls.length ∧ st = ⟨[bmV X A B, slL q ls.length c, .ptr (some (H.length, 0)), .slice none 0 0 none, slI (H.length + 1) (X + 1) (some (X + 1)), .int .i64 i, w6], ⟨H ++ [.cells [.int .i64 X, .int .i64 A, .int .i64 B] true, .cells (encI (mapR (X + 1) (fun p => baseF A B ls p - sumZ (forceG A B p) (ls.take i)))) true], none⟩⟩) ?_ ls.length _ ?_
  · rintro k _ ⟨i, w6, hi, rfl⟩
    by_cases hk : k = 0
    · have he : i = ls.length := by omega
      subst he
      have hz : mapR (X + 1) (fun p => baseF A B ls p - sumZ (forceG A B p) (ls.take ls.length)) = mapR (X + 1) (forceZ A B ls) := mapR_congr (fun i _ => by rw [List.take_length, forceZ_base h3])
      rw [hz]
      have hf := finish_sl (H := H) (sz := 1) (n := X + 1) (c := some (X + 1)) (L := H ++ [.cells [.int .i64 X, .int .i64 A, .int .i64 B] true, .cells (encI (mapR (X + 1) (forceZ A B ls))) true]) ⟨_, rfl⟩ e none rfl (b := H.length + 1) (by omega) (by rw [blkAt_newk]; rfl) (under_encI _ _)
      simp (maxSteps := 2000000) +contextual only [w_s_l6Forces_1, Nat.lt_irrefl, decide_false, hf, Wp_some, Wp_none, Wp_ite, Wc_some, Wc_none, Wc_ite, Wp_thenRun, seqQ_normal, seqQ_exit, seqQ_ret, Wp_inBlock, blkQ_normal, blkQ_ret, blkQ_same, blkQ_exit, Wp_opThen, opQ_at, Wp_guardP, retQ_normal, retQ_ret, loopQ_normal, loopQ_exit, loopQ_ret, go_sem, entry, joinEsc, if_pos, reduceIte, Nat.reduceAdd, Nat.reduceLeDiff, Nat.reduceLT, Nat.reduceEqDiff]
    · have hii : i < ls.length := by omega
      have hmem := List.getElem_mem hii
      obtain ⟨⟨g0, g1⟩, _⟩ := forceG_bds (p := 0) h hmem
      obtain ⟨e1, e2, e3, e4⟩ := h.each _ hmem
      have hqm := fun G => cells_mono hq G
      have hp0 := part_encL0 1 (List.getElem?_eq_getElem hii)
      have hp1 := part_encL1 1 (List.getElem?_eq_getElem hii)
      obtain ⟨P, hP⟩ := Int.eq_ofNat_of_zero_le e1
      rw [hP] at hp0 e2
      have hPX : P < X + 1 := by omega
      have hw := wrap_succ (show i < 9223372036854775807 by omega)
      have hv1 : IntKind.i64.wrap ((B : Int) - (A : Int)) = (B : Int) - (A : Int) := wrap64 (by omega) (by omega)
      have hv2 : IntKind.i64.wrap (((B : Int) - (A : Int)) * ls[i].2) = ((B : Int) - (A : Int)) * ls[i].2 := wrap64 (by omega) (by omega)
      have hb1 := baseF_bds h (P : Int)
      have hb2 := force_sum h (P : Int) i
      have hv3 : IntKind.i64.wrap (baseF A B ls P - sumZ (forceG A B P) (ls.take i) - ((B : Int) - (A : Int)) * ls[i].2) = baseF A B ls P - sumZ (forceG A B P) (ls.take i) - ((B : Int) - (A : Int)) * ls[i].2 := wrap64 (by omega) (by omega)
      have hpt := part_encI 1 (mapR_get (fun p => baseF A B ls p - sumZ (forceG A B p) (ls.take i)) hPX)
      have hst := setR_mapR (fun p => baseF A B ls p - sumZ (forceG A B p) (ls.take i)) (baseF A B ls P - sumZ (forceG A B P) (ls.take i) - ((B : Int) - (A : Int)) * ls[i].2) hPX
      have hnx : mapR (X + 1) (fun p => if p = (P : Int) then baseF A B ls P - sumZ (forceG A B P) (ls.take i) - ((B : Int) - (A : Int)) * ls[i].2 else baseF A B ls p - sumZ (forceG A B p) (ls.take i)) = mapR (X + 1) (fun p => baseF A B ls p - sumZ (forceG A B p) (ls.take (i + 1))) := by
        apply mapR_congr
        intro j _
        rw [sumZ_take _ hii]
        by_cases hjP : (j : Int) = (P : Int)
        · rw [if_pos hjP, hjP, forceG, if_pos hP.symm]
          omega
        · rw [if_neg hjP, forceG, if_neg (by rw [hP]; exact hjP)]
          omega
      rw [hnx] at hst
      simp (maxSteps := 2000000) +contextual only [w_s_l6Forces_1, hii, hw, hqm, hp0, hp1, hPX, hv1, hv2, hv3, hpt, hst, hlen, Nat.succ_le_of_lt, decide_true, cellsAt_s0, cellsAt_sk, blkAt_s0, blkAt_sk, set_s0, set_sk, set_sapp, set_app, List.set_set, List.length_set, finish_one_setG, finish_one_set0, clean_none', Nat.add_assoc, Wp_some, Wp_none, Wp_ite, Wc_some, Wc_none, Wc_ite, Wp_thenRun, seqQ_normal, seqQ_exit, seqQ_ret, Wp_inBlock, blkQ_normal, blkQ_ret, blkQ_same, blkQ_exit, Wp_opThen, opQ_at, Wp_guardP, retQ_normal, retQ_ret, loopQ_normal, loopQ_exit, loopQ_ret, go_sem, entry, joinEsc, if_pos, reduceIte, Nat.reduceAdd, Nat.reduceLeDiff, Nat.reduceLT, Nat.reduceEqDiff]
      exact ⟨k - 1, by omega, i + 1, _, by omega, rfl⟩
  · exact ⟨0, _, by omega, by simp [sumZ]; rfl⟩

end

end Go.Proofs.Ytaikmfldjkbmmaa.Slim

/- Beams: shears and bends in the other program. -/
namespace Go.Proofs.Ytaikmfldjkbmmaa.Slim

open Go

set_option linter.unusedSimpArgs false

set_option linter.unusedVariables false

variable {pr : Prims} {H : List Blk} {e : Option Nat}

section
variable {a b : Int} {X : Nat} {ls : List Ld}

theorem forceZ_bds {x : Int} (h : OnB x a b ls) (p : Int) : -200000 ≤ forceZ a b ls p ∧ forceZ a b ls p ≤ 200000 := by
  rw [forceZ_base h.ab]
  have h1 := baseF_bds h p
  have h2 := force_sum h p ls.length
  rw [List.take_length] at h2
  omega

theorem shearZ_bds {x : Int} (h : OnB x a b ls) (p : Int) : -400000 ≤ shearZ a b ls p ∧ shearZ a b ls p ≤ 400000 := by
  have h1 := h.x2; have h0 := h.x1; have h2 := h.a0; have h3 := h.ab; have h4 := h.bx
  obtain ⟨n1, m1, m2⟩ := mom_at h.row (p := a) (by omega)
  obtain ⟨n3, m3, m4⟩ := mom_at h.row (p := b) (by omega)
  rw [shearZ_at]
  have hgd : sumZ (fun l => if l.1 ≤ p then (b - a) * l.2 else 0) ls = sumZ (shearG a b p) ls := rfl
  rw [hgd]
  have h5 := shear_sum h p ls.length
  rw [List.take_length] at h5
  split <;> split <;> omega

/-- the shear ahead of a place -/
def shearB (a b : Int) (ls : List Ld) (i : Nat) : Int := if i = 0 then 0 else shearZ a b ls ((i : Int) - 1)

theorem shearB_next {x : Int} (h : OnB x a b ls) (i : Nat) : shearB a b ls i + forceZ a b ls (i : Int) = shearB a b ls (i + 1) := by
  unfold shearB
  rw [if_neg (show ¬ i + 1 = 0 by omega), show ((i + 1 : Nat) : Int) - 1 = (i : Int) by omega]
  cases i with
  | zero =>
    rw [if_pos rfl, Int.zero_add]
    unfold forceZ shearZ
    apply sumZ_congr
    intro l hl
    rw [Int.natCast_zero, hZ_start h.a0 h.ab (h.each l hl).1]
  | succ i =>
    rw [if_neg (show ¬ i + 1 = 0 by omega), show ((i + 1 : Nat) : Int) - 1 = (i : Int) by omega]
    have := shearZ_step a b ls (i : Int)
    rw [show ((i + 1 : Nat) : Int) = (i : Int) + 1 by omega]
    omega

theorem bendZ_0 {x : Int} (h : OnB x a b ls) : bendZ a b ls 0 = 0 := by
  unfold bendZ
  apply sumZ_zero
  intro l hl
  rw [fZ_start h.a0 h.ab (h.each l hl).1, Int.mul_zero]

theorem bendZ_n {x : Int} (h : OnB x a b ls) : bendZ a b ls x = 0 := by
  unfold bendZ
  apply sumZ_zero
  intro l hl
  rw [fZ_end h.ab h.bx (h.each l hl).2.1, Int.mul_zero]

theorem e_s_l6Shears {q : Nat} {c : Option Nat} (hq : cellsAt H q = some (encL ls)) (hon : onOk X a b ls = true) : call T pr f_s_l6Shears [bmV X a b, slL q ls.length c] ⟨H, e⟩ = some (slI H.length X none, ⟨H ++ [.cells (encI (mapR X (shearZ a b ls))) true], e⟩) := by
  have h := on_facts hon
  have h1 := h.x2; have h0 := h.x1; have h2 := h.a0; have h3 := h.ab; have h4 := h.bx; have h5 := h.len
  apply Wc.eq
  rw [call_wc t_s_l6Shears]
  have hfo := fun G => e_s_l6Forces (pr := pr) (e := none) (c := c) (cells_mono hq G) hon
  simp (maxSteps := 2000000) +contextual only [a_s_l6Shears, c_s_l6Shears, fillParts, hfo, Wp_some, Wp_none, Wp_ite, Wc_some, Wc_none, Wc_ite, Wp_thenRun, seqQ_normal, seqQ_exit, seqQ_ret, Wp_inBlock, blkQ_normal, blkQ_ret, blkQ_same, blkQ_exit, Wp_opThen, opQ_at, Wp_guardP, retQ_normal, retQ_ret, loopQ_normal, loopQ_exit, loopQ_ret, go_sem, entry, joinEsc, if_pos, reduceIte, Nat.reduceAdd, Nat.reduceLeDiff, Nat.reduceLT, Nat.reduceEqDiff]
  refine Wp_loop (fun k st => ∃ (i : Nat) (L : List Blk) (bb : Nat) (c'' : Option Nat) (w8 : AV), i + k = X ∧ H.length + 1 ≤ bb ∧ c'' = capR i ∧ Grown (H ++ [.cells [.int .i64 X, .int .i64 a, .int .i64 b] true]) L ∧ L[H.length + 2]? = some (.cells (encI (mapR (X + 1) (forceZ a b ls))) true) ∧ bb ≠ H.length + 2 ∧ L[bb]? = some (.cells (encI (mapR i (shearZ a b ls))) true) ∧ st = ⟨[bmV X a b, slL q ls.length c, .ptr (some (H.length, 0)), .slice none 0 0 none, slI bb i c'', .int .i64 (shearB a b ls i), slI (H.length + 2) (X + 1) (some (X + 1)), .int .i64 i, w8], ⟨L, none⟩⟩) ?_ X _ ?_
  · rintro k _ ⟨i, L, bb, c'', w8, hi, hb, hcap, hg, hF, hne, hL, rfl⟩
    by_cases hk : k = 0
    · have he : i = X := by omega
      subst he
      have hbx := bx_cells hg
      have hf := finish_sl (H := H) (sz := 1) (n := i) (c := c'') (bx_grown hg) e none rfl (by omega) hL (under_encI _ _)
      simp (maxSteps := 2000000) +contextual only [w_s_l6Shears_1, hbx, Int.lt_irrefl, Nat.lt_irrefl, decide_false, hf, Wp_some, Wp_none, Wp_ite, Wc_some, Wc_none, Wc_ite, Wp_thenRun, seqQ_normal, seqQ_exit, seqQ_ret, Wp_inBlock, blkQ_normal, blkQ_ret, blkQ_same, blkQ_exit, Wp_opThen, opQ_at, Wp_guardP, retQ_normal, retQ_ret, loopQ_normal, loopQ_exit, loopQ_ret, go_sem, entry, joinEsc, if_pos, reduceIte, Nat.reduceAdd, Nat.reduceLeDiff, Nat.reduceLT, Nat.reduceEqDiff]
      rw [hcap, capR, if_neg (by omega)]
    · have hd : i < X := by omega
      have hd1 : i < X + 1 := by omega
      have hw := wrap_succ (show i < 9223372036854775807 by omega)
      have hbx := bx_cells hg
      have hFc := cellsAt_of hF
      have hpt := part_encI 1 (mapR_get (forceZ a b ls) hd1)
      have hn1 := shearB_next h i
      have hn2 : shearB a b ls (i + 1) = shearZ a b ls (i : Int) := by
        unfold shearB
        rw [if_neg (by omega), show ((i + 1 : Nat) : Int) - 1 = (i : Int) by omega]
      have hsb := shearZ_bds h (i : Int)
      have hwr : IntKind.i64.wrap (shearB a b ls i + forceZ a b ls (i : Int)) = shearZ a b ls (i : Int) := by
        rw [hn1, hn2]
        exact wrap64 (by omega) (by omega)
      simp (maxSteps := 2000000) +contextual only [w_s_l6Shears_1, fillParts, hd, hd1, hw, hbx, hFc, hpt, hwr, decide_true, Wp_some, Wp_none, Wp_ite, Wc_some, Wc_none, Wc_ite, Wp_thenRun, seqQ_normal, seqQ_exit, seqQ_ret, Wp_inBlock, blkQ_normal, blkQ_ret, blkQ_same, blkQ_exit, Wp_opThen, opQ_at, Wp_guardP, retQ_normal, retQ_ret, loopQ_normal, loopQ_exit, loopQ_ret, go_sem, entry, joinEsc, if_pos, reduceIte, Nat.reduceAdd, Nat.reduceLeDiff, Nat.reduceLT, Nat.reduceEqDiff]
      refine wc_ap (k := 1) (new := [.int .i64 (shearZ a b ls (i : Int))]) (get_more hL _) (src_new _ 1 1 _ _ L.length (by simp +contextual only [go_sem, entry, joinEsc, if_pos, reduceIte, Nat.reduceAdd, Nat.reduceLeDiff, Nat.reduceLT, Nat.reduceEqDiff]) rfl) (by simp [encI, mapR_len]) rfl (by unfold maxBytes; omega) (fun hh => capR_0 (hcap ▸ hh)) ?_
      intro L2 e1 e2 e3 e4
      rw [encI_one, ← mapR_succ, List.length_append, List.length_singleton] at e3
      simp (maxSteps := 2000000) +contextual only [hw, Wp_some, Wp_none, Wp_ite, Wc_some, Wc_none, Wc_ite, Wp_thenRun, seqQ_normal, seqQ_exit, seqQ_ret, Wp_inBlock, blkQ_normal, blkQ_ret, blkQ_same, blkQ_exit, Wp_opThen, opQ_at, Wp_guardP, retQ_normal, retQ_ret, loopQ_normal, loopQ_exit, loopQ_ret, go_sem, entry, joinEsc, if_pos, reduceIte, Nat.reduceAdd, Nat.reduceLeDiff, Nat.reduceLT, Nat.reduceEqDiff]
      have hlt := (List.getElem?_eq_some_iff.mp hF).1
      exact ⟨k - 1, by omega, i + 1, L2, _, none, _, by omega, by omega, by simp [capR], e4 _ (hg.more _) (by simp; omega), by rw [e2 _ (Ne.symm hne) (by rw [List.length_append]; omega)]; exact get_more hF _, by omega, e3, by rw [hn2]⟩
  · exact ⟨0, _, H.length + 1, some 0, _, by omega, by omega, rfl, ⟨[.cells [] true, _], by simp; rfl⟩, by rw [blkAt_newk]; rfl, by omega, by rw [blkAt_newk]; rfl, rfl⟩

theorem e_s_l6Bends {q : Nat} {c : Option Nat} (hq : cellsAt H q = some (encL ls)) (hon : onOk X a b ls = true) : call T pr f_s_l6Bends [bmV X a b, slL q ls.length c] ⟨H, e⟩ = some (slI H.length (X + 1) none, ⟨H ++ [.cells (encI (mapR (X + 1) (bendZ a b ls))) true], e⟩) := by
  have h := on_facts hon
  have h1 := h.x2; have h0 := h.x1; have h2 := h.a0; have h3 := h.ab; have h4 := h.bx; have h5 := h.len
  apply Wc.eq
  rw [call_wc t_s_l6Bends]
  have hfo := fun G => e_s_l6Shears (pr := pr) (e := none) (c := c) (cells_mono hq G) hon
  simp (maxSteps := 2000000) +contextual only [a_s_l6Bends, c_s_l6Bends, fillParts, hfo, Wp_some, Wp_none, Wp_ite, Wc_some, Wc_none, Wc_ite, Wp_thenRun, seqQ_normal, seqQ_exit, seqQ_ret, Wp_inBlock, blkQ_normal, blkQ_ret, blkQ_same, blkQ_exit, Wp_opThen, opQ_at, Wp_guardP, retQ_normal, retQ_ret, loopQ_normal, loopQ_exit, loopQ_ret, go_sem, entry, joinEsc, if_pos, reduceIte, Nat.reduceAdd, Nat.reduceLeDiff, Nat.reduceLT, Nat.reduceEqDiff]
  refine Wp_loop (fun k st => ∃ (i : Nat) (L : List Blk) (bb : Nat) (c'' : Option Nat) (w7 : AV), i + k = X ∧ H.length + 1 ≤ bb ∧ c'' = (if i = 0 then some 1 else none) ∧ Grown (H ++ [.cells [.int .i64 X, .int .i64 a, .int .i64 b] true]) L ∧ L[H.length + 2]? = some (.cells (encI (mapR X (shearZ a b ls))) true) ∧ bb ≠ H.length + 2 ∧ L[bb]? = some (.cells (encI (mapR (i + 1) (bendZ a b ls))) true) ∧ st = ⟨[bmV X a b, slL q ls.length c, .ptr (some (H.length, 0)), .slice none 0 0 none, slI bb (i + 1) c'', slI (H.length + 2) X none, .int .i64 i, w7], ⟨L, none⟩⟩) ?_ X _ ?_
  · rintro k _ ⟨i, L, bb, c'', w7, hi, hb, hcap, hg, hF, hne, hL, rfl⟩
    by_cases hk : k = 0
    · have he : i = X := by omega
      subst he
      have hbx := bx_cells hg
      have hf := finish_sl (H := H) (sz := 1) (n := i + 1) (c := c'') (bx_grown hg) e none rfl (by omega) hL (under_encI _ _)
      simp (maxSteps := 2000000) +contextual only [w_s_l6Bends_1, hbx, Int.lt_irrefl, Nat.lt_irrefl, decide_false, hf, Wp_some, Wp_none, Wp_ite, Wc_some, Wc_none, Wc_ite, Wp_thenRun, seqQ_normal, seqQ_exit, seqQ_ret, Wp_inBlock, blkQ_normal, blkQ_ret, blkQ_same, blkQ_exit, Wp_opThen, opQ_at, Wp_guardP, retQ_normal, retQ_ret, loopQ_normal, loopQ_exit, loopQ_ret, go_sem, entry, joinEsc, if_pos, reduceIte, Nat.reduceAdd, Nat.reduceLeDiff, Nat.reduceLT, Nat.reduceEqDiff]
      rw [hcap, if_neg (by omega)]
    · have hd : i < X := by omega
      have hd1 : i < i + 1 := by omega
      have hw := wrap_succ (show i < 9223372036854775807 by omega)
      have hbx := bx_cells hg
      have hFc := cellsAt_of hF
      have hLc := cellsAt_of hL
      have hpt := part_encI 1 (mapR_get (shearZ a b ls) hd)
      have hpt1 := part_encI 1 (mapR_get (bendZ a b ls) hd1)
      have hn1 := bendZ_step a b ls (i : Int)
      have hsb := bendZ_bds h (p := (i : Int) + 1) (by omega) (by omega)
      have hwr : IntKind.i64.wrap (bendZ a b ls (i : Int) + shearZ a b ls (i : Int)) = bendZ a b ls ((i + 1 : Nat) : Int) := by
        rw [← hn1]
        exact wrap64 (by omega) (by omega)
      simp (maxSteps := 2000000) +contextual only [w_s_l6Bends_1, fillParts, hd, hd1, hw, hbx, hFc, hLc, hpt, hpt1, hwr, decide_true, Wp_some, Wp_none, Wp_ite, Wc_some, Wc_none, Wc_ite, Wp_thenRun, seqQ_normal, seqQ_exit, seqQ_ret, Wp_inBlock, blkQ_normal, blkQ_ret, blkQ_same, blkQ_exit, Wp_opThen, opQ_at, Wp_guardP, retQ_normal, retQ_ret, loopQ_normal, loopQ_exit, loopQ_ret, go_sem, entry, joinEsc, if_pos, reduceIte, Nat.reduceAdd, Nat.reduceLeDiff, Nat.reduceLT, Nat.reduceEqDiff]
      refine wc_ap (k := 1) (new := [.int .i64 (bendZ a b ls ((i + 1 : Nat) : Int))]) (get_more hL _) (src_new _ 1 1 _ _ L.length (by simp +contextual only [go_sem, entry, joinEsc, if_pos, reduceIte, Nat.reduceAdd, Nat.reduceLeDiff, Nat.reduceLT, Nat.reduceEqDiff]) rfl) (by simp [encI, mapR_len]) rfl (by unfold maxBytes; omega) (fun hh => by rw [hcap] at hh; split at hh <;> simp at hh) ?_
      intro L2 e1 e2 e3 e4
      rw [encI_one, ← mapR_succ, List.length_append, List.length_singleton] at e3
      simp (maxSteps := 2000000) +contextual only [hw, Wp_some, Wp_none, Wp_ite, Wc_some, Wc_none, Wc_ite, Wp_thenRun, seqQ_normal, seqQ_exit, seqQ_ret, Wp_inBlock, blkQ_normal, blkQ_ret, blkQ_same, blkQ_exit, Wp_opThen, opQ_at, Wp_guardP, retQ_normal, retQ_ret, loopQ_normal, loopQ_exit, loopQ_ret, go_sem, entry, joinEsc, if_pos, reduceIte, Nat.reduceAdd, Nat.reduceLeDiff, Nat.reduceLT, Nat.reduceEqDiff]
      have hlt := (List.getElem?_eq_some_iff.mp hF).1
      exact ⟨k - 1, by omega, i + 1, L2, _, none, _, by omega, by omega, by simp, e4 _ (hg.more _) (by simp; omega), by rw [e2 _ (Ne.symm hne) (by rw [List.length_append]; omega)]; exact get_more hF _, by omega, e3, rfl⟩
  · refine ⟨0, _, H.length + 1, some 1, _, by omega, by omega, rfl, ⟨[.cells [.int .i64 0] true, _], by simp; rfl⟩, by rw [blkAt_newk]; rfl, by omega, ?_, rfl⟩
    rw [blkAt_newk]
    have := bendZ_0 h
    simp [mapR, encI, this]

theorem e_s_BendTimes {q : Nat} {c : Option Nat} (hq : cellsAt H q = some (encL ls)) (h : onOk X a b ls = true) : call T pr f_s_BendTimes [bmV X a b, slL q ls.length c] ⟨H, e⟩ = some (.tup [slI H.length (X + 1) none, .bool true], ⟨H ++ [.cells (encI (mapR (X + 1) (bendZ a b ls))) true], e⟩) := by
  have h' := on_facts h
  have h1 := h'.len
  rw [call_eq t_s_BendTimes]
  have hb := fun G => e_s_l6Bends (pr := pr) (e := none) (c := c) (cells_mono hq G) h
  have hf := fun B0 => finish_slb (H := H) (s1 := 1) (n1 := X + 1) (c1 := none) (.bool true) rfl (fun _ => rfl) (L := H ++ [B0, .cells (encI (mapR (X + 1) (bendZ a b ls))) true]) ⟨_, rfl⟩ e none rfl (b1 := H.length + 1) (by omega) (by rw [blkAt_newk]; rfl) (under_encI _ _)
  simp +contextual only [a_s_BendTimes, c_s_BendTimes, e_s_l6On (cells_mono hq _) (show ls.length ≤ 9223372036854775806 by omega), hb, h, hf, go_sem, entry, joinEsc, if_pos, reduceIte, Nat.reduceAdd, Nat.reduceLeDiff, Nat.reduceLT, Nat.reduceEqDiff]

theorem e_s_ShearTimes {q : Nat} {c : Option Nat} (hq : cellsAt H q = some (encL ls)) (h : onOk X a b ls = true) : call T pr f_s_ShearTimes [bmV X a b, slL q ls.length c] ⟨H, e⟩ = some (.tup [slI H.length X none, .bool true], ⟨H ++ [.cells (encI (mapR X (shearZ a b ls))) true], e⟩) := by
  have h' := on_facts h
  have h1 := h'.len
  rw [call_eq t_s_ShearTimes]
  have hb := fun G => e_s_l6Shears (pr := pr) (e := none) (c := c) (cells_mono hq G) h
  have hf := fun B0 => finish_slb (H := H) (s1 := 1) (n1 := X) (c1 := none) (.bool true) rfl (fun _ => rfl) (L := H ++ [B0, .cells (encI (mapR X (shearZ a b ls))) true]) ⟨_, rfl⟩ e none rfl (b1 := H.length + 1) (by omega) (by rw [blkAt_newk]; rfl) (under_encI _ _)
  simp +contextual only [a_s_ShearTimes, c_s_ShearTimes, e_s_l6On (cells_mono hq _) (show ls.length ≤ 9223372036854775806 by omega), hb, h, hf, go_sem, entry, joinEsc, if_pos, reduceIte, Nat.reduceAdd, Nat.reduceLeDiff, Nat.reduceLT, Nat.reduceEqDiff]

/-- an empty new list, and false -/
theorem e_s_BendTimes_bad {x : Int} {q : Nat} {c : Option Nat} (hq : cellsAt H q = some (encL ls)) (hn : ls.length ≤ 100) (h : onOk x a b ls = false) : call T pr f_s_BendTimes [bmV x a b, slL q ls.length c] ⟨H, e⟩ = some (.tup [slI H.length 0 (some 0), .bool false], ⟨H ++ [.cells [] true], e⟩) := by
  rw [call_eq t_s_BendTimes]
  have hf := fun B0 => finish_slb (H := H) (s1 := 1) (n1 := 0) (c1 := some 0) (.bool false) rfl (fun _ => rfl) (L := H ++ [B0, .cells [] true]) ⟨_, rfl⟩ e none rfl (b1 := H.length + 1) (by omega) (by rw [blkAt_newk]; rfl) rfl
  simp +contextual only [a_s_BendTimes, c_s_BendTimes, fillParts, e_s_l6On (cells_mono hq _) (show ls.length ≤ 9223372036854775806 by omega), h, hf, go_sem, entry, joinEsc, if_pos, reduceIte, Nat.reduceAdd, Nat.reduceLeDiff, Nat.reduceLT, Nat.reduceEqDiff]

theorem e_s_ShearTimes_bad {x : Int} {q : Nat} {c : Option Nat} (hq : cellsAt H q = some (encL ls)) (hn : ls.length ≤ 100) (h : onOk x a b ls = false) : call T pr f_s_ShearTimes [bmV x a b, slL q ls.length c] ⟨H, e⟩ = some (.tup [slI H.length 0 (some 0), .bool false], ⟨H ++ [.cells [] true], e⟩) := by
  rw [call_eq t_s_ShearTimes]
  have hf := fun B0 => finish_slb (H := H) (s1 := 1) (n1 := 0) (c1 := some 0) (.bool false) rfl (fun _ => rfl) (L := H ++ [B0, .cells [] true]) ⟨_, rfl⟩ e none rfl (b1 := H.length + 1) (by omega) (by rw [blkAt_newk]; rfl) rfl
  simp +contextual only [a_s_ShearTimes, c_s_ShearTimes, fillParts, e_s_l6On (cells_mono hq _) (show ls.length ≤ 9223372036854775806 by omega), h, hf, go_sem, entry, joinEsc, if_pos, reduceIte, Nat.reduceAdd, Nat.reduceLeDiff, Nat.reduceLT, Nat.reduceEqDiff]

theorem e_s_SupportTimes {q : Nat} {c : Option Nat} (hq : cellsAt H q = some (encL ls)) (h : onOk X a b ls = true) : call T pr f_s_SupportTimes [bmV X a b, slL q ls.length c] ⟨H, e⟩ = some (.tup [.int .i64 (-momZ ls b), .int .i64 (momZ ls a), .bool true], ⟨H, e⟩) := by
  have h' := on_facts h
  have h1 := h'.x2; have h0 := h'.x1; have h2 := h'.a0; have h3 := h'.ab; have h4 := h'.bx; have h5 := h'.len
  obtain ⟨n1, m1, m2⟩ := mom_at h'.row (p := a) (by omega)
  obtain ⟨n3, m3, m4⟩ := mom_at h'.row (p := b) (by omega)
  have hng : IntKind.i64.wrap (0 - momZ ls b) = -momZ ls b := by rw [Int.zero_sub]; exact wrap64 (by omega) (by omega)
  have hm := fun G => e_s_l2Moment (pr := pr) (e := none) (c := c) (cells_mono hq G) (by omega)
  rw [call_eq t_s_SupportTimes]
  simp +contextual only [a_s_SupportTimes, c_s_SupportTimes, e_s_l6On (cells_mono hq _) (show ls.length ≤ 9223372036854775806 by omega), hm, n1, n3, hng, h, go_sem, entry, joinEsc, if_pos, reduceIte, Nat.reduceAdd, Nat.reduceLeDiff, Nat.reduceLT, Nat.reduceEqDiff]

theorem e_s_SupportTimes_bad {x : Int} {q : Nat} {c : Option Nat} (hq : cellsAt H q = some (encL ls)) (hn : ls.length ≤ 100) (h : onOk x a b ls = false) : call T pr f_s_SupportTimes [bmV x a b, slL q ls.length c] ⟨H, e⟩ = some (.tup [.int .i64 0, .int .i64 0, .bool false], ⟨H, e⟩) := by
  rw [call_eq t_s_SupportTimes]
  simp +contextual only [a_s_SupportTimes, c_s_SupportTimes, e_s_l6On (cells_mono hq _) (show ls.length ≤ 9223372036854775806 by omega), h, go_sem, entry, joinEsc, if_pos, reduceIte, Nat.reduceAdd, Nat.reduceLeDiff, Nat.reduceLT, Nat.reduceEqDiff]

theorem e_s_GreatestBend {q : Nat} {c : Option Nat} (hq : cellsAt H q = some (encL ls)) (hon : onOk X a b ls = true) : call T pr f_s_GreatestBend [bmV X a b, slL q ls.length c] ⟨H, e⟩ = some (.tup [.int .i64 (grR (bendZ a b ls) (X + 1)).1, .int .i64 (grR (bendZ a b ls) (X + 1)).2, .bool true], ⟨H, e⟩) := by
  have h := on_facts hon
  have h1 := h.x2; have h0 := h.x1; have h5 := h.len
  apply Wc.eq
  rw [call_wc t_s_GreatestBend]
  have hb := fun G => e_s_l6Bends (pr := pr) (e := none) (c := c) (cells_mono hq G) hon
  simp +contextual only [a_s_GreatestBend, c_s_GreatestBend, fillParts, e_s_l6On (cells_mono hq _) (show ls.length ≤ 9223372036854775806 by omega), hb, hon, Wp_some, Wp_none, Wp_ite, Wc_some, Wc_none, Wc_ite, Wp_thenRun, seqQ_normal, seqQ_exit, seqQ_ret, Wp_inBlock, blkQ_normal, blkQ_ret, blkQ_same, blkQ_exit, Wp_opThen, opQ_at, Wp_guardP, retQ_normal, retQ_ret, loopQ_normal, loopQ_exit, loopQ_ret, go_sem, entry, joinEsc, if_pos, reduceIte, Nat.reduceAdd, Nat.reduceLeDiff, Nat.reduceLT, Nat.reduceEqDiff]
  refine Wp_loop (fun k st => ∃ (i : Nat) (w3 w4 w5 w10 w11 w12 w13 : AV), i + k = X + 1 ∧ st = ⟨[bmV X a b, slL q ls.length c, .ptr (some (H.length, 0)), w3, w4, w5, slI (H.length + 1) (X + 1) none, .int .i64 (grR (bendZ a b ls) i).1, .int .i64 (grR (bendZ a b ls) i).2, .int .i64 i, w10, w11, w12, w13], ⟨H ++ [.cells [.int .i64 X, .int .i64 a, .int .i64 b] true, .cells (encI (mapR (X + 1) (bendZ a b ls))) true], none⟩⟩) ?_ (X + 1) _ ?_
  · rintro k _ ⟨i, w3, w4, w5, w10, w11, w12, w13, hi, rfl⟩
    by_cases hk : k = 0
    · have he : i = X + 1 := by omega
      subst he
      simp (maxSteps := 2000000) +contextual only [w_s_GreatestBend_1, Nat.lt_irrefl, decide_false, Wp_some, Wp_none, Wp_ite, Wc_some, Wc_none, Wc_ite, Wp_thenRun, seqQ_normal, seqQ_exit, seqQ_ret, Wp_inBlock, blkQ_normal, blkQ_ret, blkQ_same, blkQ_exit, Wp_opThen, opQ_at, Wp_guardP, retQ_normal, retQ_ret, loopQ_normal, loopQ_exit, loopQ_ret, go_sem, entry, joinEsc, if_pos, reduceIte, Nat.reduceAdd, Nat.reduceLeDiff, Nat.reduceLT, Nat.reduceEqDiff]
    · have hd : i < X + 1 := by omega
      have hw := wrap_succ (show i < 9223372036854775807 by omega)
      have hpt := part_encI 1 (mapR_get (bendZ a b ls) hd)
      obtain ⟨d1, d2⟩ := bendZ_bds h (p := (i : Int)) (by omega) (by omega)
      have hng : IntKind.i64.wrap (0 - bendZ a b ls (i : Int)) = - bendZ a b ls (i : Int) := by rw [Int.zero_sub]; exact wrap64 (by omega) (by omega)
      have hsz : (if -bendZ a b ls (i : Int) < bendZ a b ls (i : Int) then bendZ a b ls (i : Int) else -bendZ a b ls (i : Int)) = sizeZ (bendZ a b ls (i : Int)) := by
        unfold sizeZ
        split <;> split <;> omega
      by_cases hgt : sizeZ (bendZ a b ls (i : Int)) > (grR (bendZ a b ls) i).1
      · have hst : grR (bendZ a b ls) (i + 1) = (sizeZ (bendZ a b ls (i : Int)), (i : Int)) := by rw [grR, if_pos hgt]
        simp (maxSteps := 2000000) +contextual only [w_s_GreatestBend_1, e_s_l1Most, hd, hw, hpt, hng, hsz, hgt, decide_true, Wp_some, Wp_none, Wp_ite, Wc_some, Wc_none, Wc_ite, Wp_thenRun, seqQ_normal, seqQ_exit, seqQ_ret, Wp_inBlock, blkQ_normal, blkQ_ret, blkQ_same, blkQ_exit, Wp_opThen, opQ_at, Wp_guardP, retQ_normal, retQ_ret, loopQ_normal, loopQ_exit, loopQ_ret, go_sem, entry, joinEsc, if_pos, reduceIte, Nat.reduceAdd, Nat.reduceLeDiff, Nat.reduceLT, Nat.reduceEqDiff]
        exact ⟨k - 1, by omega, i + 1, _, _, _, _, _, _, _, by omega, by rw [hst]⟩
      · have hst : grR (bendZ a b ls) (i + 1) = grR (bendZ a b ls) i := by rw [grR, if_neg hgt]
        simp (maxSteps := 2000000) +contextual only [w_s_GreatestBend_1, e_s_l1Most, hd, hw, hpt, hng, hsz, hgt, decide_true, decide_false, Wp_some, Wp_none, Wp_ite, Wc_some, Wc_none, Wc_ite, Wp_thenRun, seqQ_normal, seqQ_exit, seqQ_ret, Wp_inBlock, blkQ_normal, blkQ_ret, blkQ_same, blkQ_exit, Wp_opThen, opQ_at, Wp_guardP, retQ_normal, retQ_ret, loopQ_normal, loopQ_exit, loopQ_ret, go_sem, entry, joinEsc, if_pos, reduceIte, Nat.reduceAdd, Nat.reduceLeDiff, Nat.reduceLT, Nat.reduceEqDiff]
        exact ⟨k - 1, by omega, i + 1, _, _, _, _, _, _, _, by omega, by rw [hst]⟩
  · exact ⟨0, _, _, _, _, _, _, _, by omega, rfl⟩

theorem e_s_GreatestBend_bad {x : Int} {q : Nat} {c : Option Nat} (hq : cellsAt H q = some (encL ls)) (hn : ls.length ≤ 100) (h : onOk x a b ls = false) : call T pr f_s_GreatestBend [bmV x a b, slL q ls.length c] ⟨H, e⟩ = some (.tup [.int .i64 0, .int .i64 0, .bool false], ⟨H, e⟩) := by
  rw [call_eq t_s_GreatestBend]
  simp +contextual only [a_s_GreatestBend, c_s_GreatestBend, e_s_l6On (cells_mono hq _) (show ls.length ≤ 9223372036854775806 by omega), h, go_sem, entry, joinEsc, if_pos, reduceIte, Nat.reduceAdd, Nat.reduceLeDiff, Nat.reduceLT, Nat.reduceEqDiff]

end

end Go.Proofs.Ytaikmfldjkbmmaa.Slim

/- Beams: influences and bends by a row in the other program. -/
namespace Go.Proofs.Ytaikmfldjkbmmaa.Slim

open Go

set_option linter.unusedSimpArgs false

set_option linter.unusedVariables false

variable {pr : Prims} {H : List Blk} {e : Option Nat}

section
variable {a b : Int} {X : Nat} {ls : List Ld}

/-- one influence (see t_s_l6Influence) -/
theorem fZ_bds {x y p : Int} (h : beamOk x a b = true) (hy0 : 0 ≤ y) (hy : y ≤ x) (hp0 : 0 ≤ p) (hp : p ≤ 60) : -20000000 ≤ fZ a b y p ∧ fZ a b y p ≤ 20000000 := by
  rw [← bendZ_one]
  exact bendZ_bds (on_facts (on_one h hy0 hy)) hp0 hp

theorem e_s_l6Influence (h : beamOk X a b = true) {P : Nat} (hp : P ≤ X) : call T pr f_s_l6Influence [bmV X a b, .int .i64 P] ⟨H, e⟩ = some (slI H.length (X + 1) none, ⟨H ++ [.cells (encI (mapR (X + 1) (fun y => fZ a b y P))) true], e⟩) := by
  have hb := h
  unfold beamOk at hb
  simp only [decide_eq_true_eq] at hb
  apply Wc.eq
  rw [call_wc t_s_l6Influence]
  simp +contextual only [a_s_l6Influence, c_s_l6Influence, fillParts, Wp_some, Wp_none, Wp_ite, Wc_some, Wc_none, Wc_ite, Wp_thenRun, seqQ_normal, seqQ_exit, seqQ_ret, Wp_inBlock, blkQ_normal, blkQ_ret, blkQ_same, blkQ_exit, Wp_opThen, opQ_at, Wp_guardP, retQ_normal, retQ_ret, loopQ_normal, loopQ_exit, loopQ_ret, go_sem, entry, joinEsc, if_pos, reduceIte, Nat.reduceAdd, Nat.reduceLeDiff, Nat.reduceLT, Nat.reduceEqDiff]
  refine Wp_loop (fun k st => ∃ (i : Nat) (L : List Blk) (bb : Nat) (c'' : Option Nat) (w6 : AV), i + k = X + 1 ∧ H.length + 1 ≤ bb ∧ c'' = capR i ∧ Grown (H ++ [.cells [.int .i64 X, .int .i64 a, .int .i64 b] true]) L ∧ L[bb]? = some (.cells (encI (mapR i (fun y => fZ a b y P))) true) ∧ st = ⟨[bmV X a b, .int .i64 P, .ptr (some (H.length, 0)), .slice none 0 0 none, slI bb i c'', .int .i64 i, w6], ⟨L, none⟩⟩) ?_ (X + 1) _ ?_
  · rintro k _ ⟨i, L, bb, c'', w6, hi, hbb, hcap, hg, hL, rfl⟩
    have hbx := bx_cells hg
    by_cases hk : k = 0
    · have he : i = X + 1 := by omega
      subst he
      have hd : ¬ ((X + 1 : Nat) : Int) ≤ (X : Int) := by omega
      have hd' : ¬ X + 1 ≤ X := by omega
      have hf := finish_sl (H := H) (sz := 1) (n := X + 1) (c := c'') (bx_grown hg) e none rfl (by omega) hL (under_encI _ _)
      simp (maxSteps := 2000000) +contextual only [w_s_l6Influence_1, hbx, hd, hd', decide_false, hf, Wp_some, Wp_none, Wp_ite, Wc_some, Wc_none, Wc_ite, Wp_thenRun, seqQ_normal, seqQ_exit, seqQ_ret, Wp_inBlock, blkQ_normal, blkQ_ret, blkQ_same, blkQ_exit, Wp_opThen, opQ_at, Wp_guardP, retQ_normal, retQ_ret, loopQ_normal, loopQ_exit, loopQ_ret, go_sem, entry, joinEsc, if_pos, reduceIte, Nat.reduceAdd, Nat.reduceLeDiff, Nat.reduceLT, Nat.reduceEqDiff]
      rw [hcap]
      rfl
    · have hd : (i : Int) ≤ (X : Int) := by omega
      have hd' : i ≤ X := by omega
      have hp1 : P < X + 1 := by omega
      have hw := wrap_succ (show i < 9223372036854775807 by omega)
      have hbn := e_s_l6Bends (pr := pr) (e := none) (c := some 1) (X := X) (a := a) (b := b) (ls := [((i : Int), 1)]) (H := L ++ [.cells [.int .i64 i, .int .i64 1] true]) (q := L.length) (by simp [cellsAt, encL]) (on_one (y := (i : Int)) h (by omega) (by omega))
      rw [List.length_append, List.length_singleton, List.append_assoc, List.singleton_append] at hbn
      replace hbn : call T pr f_s_l6Bends [.agg [.int .i64 (X : Int), .int .i64 a, .int .i64 b], .slice (some (L.length, 0)) 2 1 (some 1)] ⟨L ++ [.cells [.int .i64 i, .int .i64 1] true], none⟩ = some (.slice (some (L.length + 1, 0)) 1 (X + 1) none, ⟨L ++ [.cells [.int .i64 i, .int .i64 1] true, .cells (encI (mapR (X + 1) (bendZ a b [((i : Int), 1)]))) true], none⟩) := hbn
      have hpt := part_encI 1 (mapR_get (bendZ a b [((i : Int), 1)]) hp1)
      rw [bendZ_one] at hpt
      simp (maxSteps := 2000000) +contextual only [w_s_l6Influence_1, fillParts, hd, hd', hp1, hw, hbx, hbn, hpt, decide_true, Wp_some, Wp_none, Wp_ite, Wc_some, Wc_none, Wc_ite, Wp_thenRun, seqQ_normal, seqQ_exit, seqQ_ret, Wp_inBlock, blkQ_normal, blkQ_ret, blkQ_same, blkQ_exit, Wp_opThen, opQ_at, Wp_guardP, retQ_normal, retQ_ret, loopQ_normal, loopQ_exit, loopQ_ret, go_sem, entry, joinEsc, if_pos, reduceIte, Nat.reduceAdd, Nat.reduceLeDiff, Nat.reduceLT, Nat.reduceEqDiff]
      refine wc_ap (k := 1) (new := [.int .i64 (fZ a b (i : Int) P)]) (get_more hL _) (src_new _ 1 1 _ _ (L.length + 2) (by simp +contextual only [go_sem, entry, joinEsc, if_pos, reduceIte, Nat.reduceAdd, Nat.reduceLeDiff, Nat.reduceLT, Nat.reduceEqDiff]) rfl) (by simp [encI, mapR_len]) rfl (by unfold maxBytes; omega) (fun hh => capR_0 (hcap ▸ hh)) ?_
      intro L2 e1 e2 e3 e4
      rw [encI_one, ← mapR_succ (f := fun y => fZ a b y P), List.length_append] at e3
      simp (maxSteps := 2000000) +contextual only [hw, Wp_some, Wp_none, Wp_ite, Wc_some, Wc_none, Wc_ite, Wp_thenRun, seqQ_normal, seqQ_exit, seqQ_ret, Wp_inBlock, blkQ_normal, blkQ_ret, blkQ_same, blkQ_exit, Wp_opThen, opQ_at, Wp_guardP, retQ_normal, retQ_ret, loopQ_normal, loopQ_exit, loopQ_ret, go_sem, entry, joinEsc, if_pos, reduceIte, Nat.reduceAdd, Nat.reduceLeDiff, Nat.reduceLT, Nat.reduceEqDiff]
      exact ⟨k - 1, by omega, i + 1, L2, _, none, _, by omega, by have := hg.le; simp at this; omega, by simp [capR], e4 _ (hg.more _) (by simp; omega), e3, rfl⟩
  · exact ⟨0, _, H.length + 1, some 0, _, by omega, by omega, rfl, ⟨[.cells [] true], by simp⟩, by rw [blkAt_newk]; rfl, rfl⟩

theorem e_s_InfluenceOf (h : beamOk X a b = true) {P : Nat} (hp : P ≤ X) : call T pr f_s_InfluenceOf [bmV X a b, .int .i64 P] ⟨H, e⟩ = some (.tup [slI H.length (X + 1) none, .bool true], ⟨H ++ [.cells (encI (mapR (X + 1) (fun y => fZ a b y P))) true], e⟩) := by
  have h0 : (0 : Int) ≤ (P : Int) := by omega
  have h1 : (P : Int) ≤ (X : Int) := by omega
  have hi := fun G => e_s_l6Influence (pr := pr) (H := G) (e := none) h hp
  have hf := fun B0 => finish_slb (H := H) (s1 := 1) (n1 := X + 1) (c1 := none) (.bool true) rfl (fun _ => rfl) (L := H ++ [B0, .cells (encI (mapR (X + 1) (fun y => fZ a b y P))) true]) ⟨_, rfl⟩ e none rfl (b1 := H.length + 1) (by omega) (by rw [blkAt_newk]; rfl) (under_encI _ _)
  rw [call_eq t_s_InfluenceOf]
  simp +contextual only [a_s_InfluenceOf, c_s_InfluenceOf, fillParts, e_s_l6Beam, e_s_l1In, h, h0, h1, hi, hf, hp, decide_true, Bool.and_self, Bool.not_true, go_sem, entry, joinEsc, if_pos, reduceIte, Nat.reduceAdd, Nat.reduceLeDiff, Nat.reduceLT, Nat.reduceEqDiff]

theorem e_s_InfluenceOf_bad {x p : Int} (h : beamOk x a b = true → ¬ (0 ≤ p ∧ p ≤ x)) : call T pr f_s_InfluenceOf [bmV x a b, .int .i64 p] ⟨H, e⟩ = some (.tup [slI H.length 0 (some 0), .bool false], ⟨H ++ [.cells [] true], e⟩) := by
  have hf := fun B0 => finish_slb (H := H) (s1 := 1) (n1 := 0) (c1 := some 0) (.bool false) rfl (fun _ => rfl) (L := H ++ [B0, .cells [] true]) ⟨_, rfl⟩ e none rfl (b1 := H.length + 1) (by omega) (by rw [blkAt_newk]; rfl) rfl
  rw [call_eq t_s_InfluenceOf]
  cases ho : beamOk x a b with
  | false => simp +contextual only [a_s_InfluenceOf, c_s_InfluenceOf, fillParts, e_s_l6Beam, e_s_l1In, ho, hf, go_sem, entry, joinEsc, if_pos, reduceIte, Nat.reduceAdd, Nat.reduceLeDiff, Nat.reduceLT, Nat.reduceEqDiff]
  | true =>
    have hh : (decide (0 ≤ p) && decide (p ≤ x)) = false := by
      have := h ho
      rw [Bool.and_eq_false_iff, decide_eq_false_iff_not, decide_eq_false_iff_not]
      omega
    simp +contextual only [a_s_InfluenceOf, c_s_InfluenceOf, fillParts, e_s_l6Beam, e_s_l1In, ho, hh, hf, go_sem, entry, joinEsc, if_pos, reduceIte, Nat.reduceAdd, Nat.reduceLeDiff, Nat.reduceLT, Nat.reduceEqDiff]

theorem e_s_BendBy {q : Nat} {c : Option Nat} (hq : cellsAt H q = some (encL ls)) (hon : onOk X a b ls = true) {P : Nat} (hp : P ≤ X) : call T pr f_s_BendBy [bmV X a b, slL q ls.length c, .int .i64 P] ⟨H, e⟩ = some (.tup [.int .i64 (bendZ a b ls P), .bool true], ⟨H, e⟩) := by
  have h := on_facts hon
  have h1 := h.x2; have h0 := h.x1; have h5 := h.len
  have hbm : beamOk X a b = true := by
    unfold onOk at hon
    simp only [Bool.and_eq_true] at hon
    exact hon.1.1
  have p0 : (0 : Int) ≤ (P : Int) := by omega
  have p1 : (P : Int) ≤ (X : Int) := by omega
  have hin := fun G => e_s_l6Influence (pr := pr) (H := G) (e := none) hbm hp
  have hgb : ∀ l ∈ ls, -1980000000 ≤ l.2 * fZ a b l.1 P ∧ l.2 * fZ a b l.1 P ≤ 1980000000 := by
    intro l hl
    obtain ⟨e1, e2, e3, e4⟩ := h.each l hl
    obtain ⟨f1, f2⟩ := fZ_bds (p := (P : Int)) hbm e1 e2 p0 (by omega)
    have := mul_bds (x := fZ a b l.1 P) (d := l.2) (M := 20000000) (D := 99) (by omega) (by omega) (by omega) e4 (by omega)
    rw [Int.mul_comm]
    omega
  apply Wc.eq
  rw [call_wc t_s_BendBy]
  simp +contextual only [a_s_BendBy, c_s_BendBy, fillParts, e_s_l6On (cells_mono hq _) (show ls.length ≤ 9223372036854775806 by omega), e_s_l1In, hon, p0, p1, hp, hin, decide_true, Bool.and_self, Bool.not_true, Wp_some, Wp_none, Wp_ite, Wc_some, Wc_none, Wc_ite, Wp_thenRun, seqQ_normal, seqQ_exit, seqQ_ret, Wp_inBlock, blkQ_normal, blkQ_ret, blkQ_same, blkQ_exit, Wp_opThen, opQ_at, Wp_guardP, retQ_normal, retQ_ret, loopQ_normal, loopQ_exit, loopQ_ret, go_sem, entry, joinEsc, if_pos, reduceIte, Nat.reduceAdd, Nat.reduceLeDiff, Nat.reduceLT, Nat.reduceEqDiff]
  refine Wp_loop (fun k st => ∃ (i : Nat) (w4 w5 w9 w10 : AV), i + k = ls.length ∧ st = ⟨[bmV X a b, slL q ls.length c, .int .i64 P, .ptr (some (H.length, 0)), w4, w5, .int .i64 (sumZ (fun l => l.2 * fZ a b l.1 P) (ls.take i)), slI (H.length + 1) (X + 1) none, .int .i64 i, w9, w10], ⟨H ++ [.cells [.int .i64 X, .int .i64 a, .int .i64 b] true, .cells (encI (mapR (X + 1) (fun y => fZ a b y P))) true], none⟩⟩) ?_ ls.length _ ?_
  · rintro k _ ⟨i, w4, w5, w9, w10, hi, rfl⟩
    by_cases hk : k = 0
    · have he : i = ls.length := by omega
      subst he
      rw [List.take_length]
      have hbz : sumZ (fun l => l.2 * fZ a b l.1 P) ls = bendZ a b ls P := rfl
      rw [hbz]
      simp (maxSteps := 2000000) +contextual only [w_s_BendBy_1, Nat.lt_irrefl, decide_false, Wp_some, Wp_none, Wp_ite, Wc_some, Wc_none, Wc_ite, Wp_thenRun, seqQ_normal, seqQ_exit, seqQ_ret, Wp_inBlock, blkQ_normal, blkQ_ret, blkQ_same, blkQ_exit, Wp_opThen, opQ_at, Wp_guardP, retQ_normal, retQ_ret, loopQ_normal, loopQ_exit, loopQ_ret, go_sem, entry, joinEsc, if_pos, reduceIte, Nat.reduceAdd, Nat.reduceLeDiff, Nat.reduceLT, Nat.reduceEqDiff]
    · have hii : i < ls.length := by omega
      have hmem := List.getElem_mem hii
      obtain ⟨e1, e2, e3, e4⟩ := h.each _ hmem
      have hqm := fun G => cells_mono hq G
      have hp0 := part_encL0 1 (List.getElem?_eq_getElem hii)
      have hp1 := part_encL1 1 (List.getElem?_eq_getElem hii)
      have hst := sumZ_take (fun l => l.2 * fZ a b l.1 P) hii
      have hgi := hgb _ hmem
      have hsb := sumZ_bd (g := fun l => l.2 * fZ a b l.1 P) (B := 1980000000) (by omega) (ls.take i) (fun l hl => hgb l (List.mem_of_mem_take hl))
      have hlt : (ls.take i).length ≤ 12 := by rw [List.length_take]; omega
      have hw := wrap_succ (show i < 9223372036854775807 by omega)
      have hw1 : IntKind.i64.wrap (ls[i].2 * fZ a b ls[i].1 P) = ls[i].2 * fZ a b ls[i].1 P := wrap64 (by omega) (by omega)
      have hw2 : IntKind.i64.wrap (sumZ (fun l => l.2 * fZ a b l.1 P) (ls.take i) + ls[i].2 * fZ a b ls[i].1 P) = sumZ (fun l => l.2 * fZ a b l.1 P) (ls.take (i + 1)) := by
        rw [hst]
        exact wrap64 (by omega) (by omega)
      obtain ⟨R, hR⟩ := Int.eq_ofNat_of_zero_le e1
      rw [hR] at hp0 e2 hw1 hw2
      have hRX : R < X + 1 := by omega
      have hpt := part_encI 1 (mapR_get (fun y => fZ a b y P) hRX)
      simp (maxSteps := 2000000) +contextual only [w_s_BendBy_1, hii, hw, hqm, hp0, hp1, hRX, hpt, hw1, hw2, decide_true, Wp_some, Wp_none, Wp_ite, Wc_some, Wc_none, Wc_ite, Wp_thenRun, seqQ_normal, seqQ_exit, seqQ_ret, Wp_inBlock, blkQ_normal, blkQ_ret, blkQ_same, blkQ_exit, Wp_opThen, opQ_at, Wp_guardP, retQ_normal, retQ_ret, loopQ_normal, loopQ_exit, loopQ_ret, go_sem, entry, joinEsc, if_pos, reduceIte, Nat.reduceAdd, Nat.reduceLeDiff, Nat.reduceLT, Nat.reduceEqDiff]
      exact ⟨k - 1, by omega, i + 1, _, _, _, _, by omega, rfl⟩
  · exact ⟨0, _, _, _, _, by omega, rfl⟩

theorem e_s_BendBy_bad {q : Nat} {c : Option Nat} {x : Int} (hq : cellsAt H q = some (encL ls)) (hn : ls.length ≤ 100) {p : Int} (h : onOk x a b ls = true → ¬ (0 ≤ p ∧ p ≤ x)) : call T pr f_s_BendBy [bmV x a b, slL q ls.length c, .int .i64 p] ⟨H, e⟩ = some (.tup [.int .i64 0, .bool false], ⟨H, e⟩) := by
  rw [call_eq t_s_BendBy]
  cases ho : onOk x a b ls with
  | false => simp +contextual only [a_s_BendBy, c_s_BendBy, e_s_l6On (cells_mono hq _) (show ls.length ≤ 9223372036854775806 by omega), e_s_l1In, ho, go_sem, entry, joinEsc, if_pos, reduceIte, Nat.reduceAdd, Nat.reduceLeDiff, Nat.reduceLT, Nat.reduceEqDiff]
  | true =>
    have hpp : (decide (0 ≤ p) && decide (p ≤ x)) = false := by
      have := h ho
      rw [Bool.and_eq_false_iff, decide_eq_false_iff_not, decide_eq_false_iff_not]
      omega
    simp +contextual only [a_s_BendBy, c_s_BendBy, e_s_l6On (cells_mono hq _) (show ls.length ≤ 9223372036854775806 by omega), e_s_l1In, ho, hpp, Bool.true_and, Bool.not_true, Bool.not_false, go_sem, entry, joinEsc, if_pos, reduceIte, Nat.reduceAdd, Nat.reduceLeDiff, Nat.reduceLT, Nat.reduceEqDiff]

end

end Go.Proofs.Ytaikmfldjkbmmaa.Slim

/- Beams: convoys' worst bends and outermost places. -/
namespace Go.Proofs.Ytaikmfldjkbmmaa.Slim

open Go

set_option linter.unusedSimpArgs false

set_option linter.unusedVariables false

variable {pr : Prims} {H : List Blk} {e : Option Nat}

theorem cv_mem : ∀ (ls : List Ld) (o : Option Int), cvAll o ls = true → ∀ l ∈ ls, 0 ≤ l.1 ∧ l.1 ≤ 20 ∧ 1 ≤ l.2 ∧ l.2 ≤ 99
  | [], o, h, l, hl => by cases hl
  | k :: ls, o, h, l, hl => by
    rw [cvAll, Bool.and_eq_true] at h
    rcases List.mem_cons.mp hl with rfl | hl
    · have := h.1
      unfold cvOk at this
      simp only [Bool.and_eq_true, decide_eq_true_eq] at this
      omega
    · exact cv_mem ls _ h.2 l hl

/-- what is known of a convoy (see t_i_WorstBend) -/
theorem conv_facts {ls : List Ld} (h : convOk ls = true) : ls.length ≤ 6 ∧ ∀ l ∈ ls, 0 ≤ l.1 ∧ l.1 ≤ 20 ∧ 1 ≤ l.2 ∧ l.2 ≤ 99 := by
  unfold convOk at h
  rw [Bool.and_eq_true, Bool.and_eq_true, Bool.and_eq_true, decide_eq_true_eq, decide_eq_true_eq] at h
  exact ⟨h.2.1.2, cv_mem ls _ h.1⟩

section
variable {a b : Int} {X : Nat} {ls : List Ld}

theorem row_on {x : Int} (hb : beamOk x a b = true) (hc : convOk ls = true) {y : Int} (hy0 : 0 ≤ y) (hy : y ≤ x) : onOk x a b (rowAt y ls) = true := by
  obtain ⟨c1, c2⟩ := conv_facts hc
  have hb' := hb
  unfold beamOk at hb'
  simp only [decide_eq_true_eq] at hb'
  have hl := rowAt_length y ls
  have hk : ∀ l ∈ rowAt y ls, 0 ≤ l.1 ∧ l.1 ≤ y ∧ 1 ≤ l.2 ∧ l.2 ≤ 99 := by
    intro l hl
    unfold rowAt at hl
    obtain ⟨k, hk, rfl⟩ := List.mem_map.mp hl
    obtain ⟨hk1, hk2⟩ := List.mem_filter.mp hk
    simp only [decide_eq_true_eq] at hk2
    obtain ⟨e1, e2, e3, e4⟩ := c2 k hk1
    show 0 ≤ IntKind.i64.wrap (y - k.1) ∧ IntKind.i64.wrap (y - k.1) ≤ y ∧ 1 ≤ k.2 ∧ k.2 ≤ 99
    rw [wrap64 (by omega) (by omega)]
    omega
  unfold onOk rowOk
  have hall : (rowAt y ls).all okL = true := by
    rw [List.all_eq_true]
    intro l hl
    have := hk l hl
    unfold okL
    simp only [Bool.and_eq_true, decide_eq_true_eq]
    omega
  have hany : ((rowAt y ls).any fun l => decide (x < l.1)) = false := by
    rw [List.any_eq_false]
    intro l hl
    have := hk l hl
    simp only [decide_eq_true_eq]
    omega
  rw [hb, hall, hany, decide_eq_true (by omega : (rowAt y ls).length ≤ 12)]
  rfl

/-- the greatest of n values, and its least place -/
def wbR (f : Int → Int) : Nat → Int × Int
  | 0 => (0, 0)
  | n + 1 => if n = 0 ∨ f (n : Int) > (wbR f n).1 then (f (n : Int), (n : Int)) else wbR f n

/-- the same, -1 as a place ahead of the first -/
def wbS (f : Int → Int) : Nat → Int × Int
  | 0 => (0, -1)
  | n + 1 => wbR f (n + 1)

theorem wbR_place (f : Int → Int) : ∀ n : Nat, ∃ J : Nat, (wbR f (n + 1)).2 = (J : Int) ∧ J ≤ n ∧ f (J : Int) = (wbR f (n + 1)).1 ∧ (∀ i : Nat, i < J → f (i : Int) < (wbR f (n + 1)).1) ∧ ∀ i : Nat, i ≤ n → f (i : Int) ≤ (wbR f (n + 1)).1
  | 0 => by
    rw [wbR, if_pos (Or.inl rfl)]
    exact ⟨0, rfl, Nat.le_refl _, rfl, fun i hi => by omega, fun i hi => by rw [show i = 0 by omega]; exact Int.le_refl _⟩
  | n + 1 => by
    obtain ⟨J, j1, j2, j3, j4, j5⟩ := wbR_place f n
    rw [wbR]
    by_cases hgt : f ((n + 1 : Nat) : Int) > (wbR f (n + 1)).1
    · rw [if_pos (Or.inr hgt)]
      refine ⟨n + 1, rfl, Nat.le_refl _, rfl, fun i hi => ?_, fun i hi => ?_⟩
      · have := j5 i (by omega)
        show _ < f _
        omega
      · show _ ≤ f _
        by_cases he : i = n + 1
        · subst he; exact Int.le_refl _
        · have := j5 i (by omega)
          omega
    · rw [if_neg (by omega)]
      refine ⟨J, j1, by omega, j3, j4, fun i hi => ?_⟩
      by_cases he : i = n + 1
      · subst he; omega
      · exact j5 i (by omega)

theorem e_i_WorstBend {q : Nat} {c : Option Nat} (hq : cellsAt H q = some (encL ls)) (hbm : beamOk X a b = true) (hcv : convOk ls = true) {P : Nat} (hp : P ≤ X) : call T pr f_i_WorstBend [bmV X a b, slL q ls.length c, .int .i64 P] ⟨H, e⟩ = some (.tup [.int .i64 (wbR (fun y => bendZ a b (rowAt y ls) P) (X + 1)).1, .int .i64 (wbR (fun y => bendZ a b (rowAt y ls) P) (X + 1)).2, .bool true], ⟨H, e⟩) := by
  have hb := hbm
  unfold beamOk at hb
  simp only [decide_eq_true_eq] at hb
  have hlen := (conv_facts hcv).1
  have p0 : (0 : Int) ≤ (P : Int) := by omega
  have p1 : (P : Int) ≤ (X : Int) := by omega
  have hX := wrap_succ (show X < 9223372036854775807 by omega)
  have hic := fun G => e_i_IsConvoy (pr := pr) (e := none) (c := c) (cells_mono hq G) (by omega)
  apply Wc.eq
  rw [call_wc t_i_WorstBend]
  simp +contextual only [a_i_WorstBend, c_i_WorstBend, fillParts, e_i_isOnBeam, hic, hbm, hcv, p0, p1, hp, hX, decide_true, Bool.and_self, Bool.not_true, Wp_some, Wp_none, Wp_ite, Wc_some, Wc_none, Wc_ite, Wp_thenRun, seqQ_normal, seqQ_exit, seqQ_ret, Wp_inBlock, blkQ_normal, blkQ_ret, blkQ_same, blkQ_exit, Wp_opThen, opQ_at, Wp_guardP, retQ_normal, retQ_ret, loopQ_normal, loopQ_exit, loopQ_ret, go_sem, entry, joinEsc, if_pos, reduceIte, Nat.reduceAdd, Nat.reduceLeDiff, Nat.reduceLT, Nat.reduceEqDiff]
  refine Wp_loop (fun k st => ∃ (i : Nat) (L : List Blk) (w4 w5 w6 w9 w10 w11 w14 w15 : AV), i + k = X + 1 ∧ Grown (H ++ [.cells [.int .i64 X, .int .i64 a, .int .i64 b] true]) L ∧ st = ⟨[bmV X a b, slL q ls.length c, .int .i64 P, .ptr (some (H.length, 0)), w4, w5, w6, .int .i64 (wbR (fun y => bendZ a b (rowAt y ls) P) i).1, .int .i64 (wbR (fun y => bendZ a b (rowAt y ls) P) i).2, w9, w10, w11, .int .i64 (X + 1 : Nat), .int .i64 i, w14, w15], ⟨L, none⟩⟩) ?_ (X + 1) _ ?_
  · rintro k _ ⟨i, L, w4, w5, w6, w9, w10, w11, w14, w15, hi, hg, rfl⟩
    by_cases hk : k = 0
    · have he : i = X + 1 := by omega
      subst he
      obtain ⟨G, rfl⟩ := hg
      simp (maxSteps := 2000000) +contextual only [w_i_WorstBend_1, Nat.lt_irrefl, decide_false, Wp_some, Wp_none, Wp_ite, Wc_some, Wc_none, Wc_ite, Wp_thenRun, seqQ_normal, seqQ_exit, seqQ_ret, Wp_inBlock, blkQ_normal, blkQ_ret, blkQ_same, blkQ_exit, Wp_opThen, opQ_at, Wp_guardP, retQ_normal, retQ_ret, loopQ_normal, loopQ_exit, loopQ_ret, go_sem, entry, joinEsc, if_pos, reduceIte, Nat.reduceAdd, Nat.reduceLeDiff, Nat.reduceLT, Nat.reduceEqDiff]
    · have hd : i < X + 1 := by omega
      have hw := wrap_succ (show i < 9223372036854775807 by omega)
      have hbx := bx_cells hg
      have hbx2 := fun G => cells_mono hbx G
      obtain ⟨cap, hrow⟩ := e_i_convoyRow (pr := pr) (H := L) (e := none) (c := c) (bx_old hq hg) (by omega) (i : Int)
      have hon := row_on hbm hcv (y := (i : Int)) (by omega) (by omega)
      have hat := e_i_Beam_bendAt (pr := pr) (H := L ++ [.cells (encL (rowAt (i : Int) ls)) true]) (e := none) (c := cap) (q := L.length) (by simp [cellsAt]) (on_facts hon) (p := (P : Int)) (by omega) (by omega)
      have hi0 : decide ((i : Int) = 0) = decide (i = 0) := by
        rw [decide_eq_decide]
        omega
      by_cases hgt : i = 0 ∨ bendZ a b (rowAt (i : Int) ls) P > (wbR (fun y => bendZ a b (rowAt y ls) P) i).1
      · have hst : wbR (fun y => bendZ a b (rowAt y ls) P) (i + 1) = (bendZ a b (rowAt (i : Int) ls) P, (i : Int)) := by rw [wbR, if_pos hgt]
        by_cases h0 : i = 0
        · have hi1 : decide ((i : Int) = 0) = true := decide_eq_true (by omega)
          have hi2 : (i : Int) = 0 := by omega
          simp (maxSteps := 2000000) +contextual only [w_i_WorstBend_1, hd, hw, hbx, hbx2, hrow, hat, hi1, decide_true, Wp_some, Wp_none, Wp_ite, Wc_some, Wc_none, Wc_ite, Wp_thenRun, seqQ_normal, seqQ_exit, seqQ_ret, Wp_inBlock, blkQ_normal, blkQ_ret, blkQ_same, blkQ_exit, Wp_opThen, opQ_at, Wp_guardP, retQ_normal, retQ_ret, loopQ_normal, loopQ_exit, loopQ_ret, go_sem, entry, joinEsc, if_pos, reduceIte, Nat.reduceAdd, Nat.reduceLeDiff, Nat.reduceLT, Nat.reduceEqDiff]
          exact ⟨k - 1, by omega, i + 1, _, _, _, _, _, _, _, _, _, by omega, hg.more _, by rw [hst]⟩
        · have hgt' := hgt.resolve_left h0
          have hi1 : decide ((i : Int) = 0) = false := decide_eq_false (by omega)
          simp (maxSteps := 2000000) +contextual only [w_i_WorstBend_1, hd, hw, hbx, hbx2, hrow, hat, hi1, hgt', decide_true, Wp_some, Wp_none, Wp_ite, Wc_some, Wc_none, Wc_ite, Wp_thenRun, seqQ_normal, seqQ_exit, seqQ_ret, Wp_inBlock, blkQ_normal, blkQ_ret, blkQ_same, blkQ_exit, Wp_opThen, opQ_at, Wp_guardP, retQ_normal, retQ_ret, loopQ_normal, loopQ_exit, loopQ_ret, go_sem, entry, joinEsc, if_pos, reduceIte, Nat.reduceAdd, Nat.reduceLeDiff, Nat.reduceLT, Nat.reduceEqDiff]
          exact ⟨k - 1, by omega, i + 1, _, _, _, _, _, _, _, _, _, by omega, hg.more _, by rw [hst]⟩
      · have hst : wbR (fun y => bendZ a b (rowAt y ls) P) (i + 1) = wbR (fun y => bendZ a b (rowAt y ls) P) i := by rw [wbR, if_neg hgt]
        have h0 : i ≠ 0 := fun h => hgt (Or.inl h)
        have hgt' : ¬ bendZ a b (rowAt (i : Int) ls) P > (wbR (fun y => bendZ a b (rowAt y ls) P) i).1 := fun h => hgt (Or.inr h)
        have hi1 : decide ((i : Int) = 0) = false := decide_eq_false (by omega)
        simp (maxSteps := 2000000) +contextual only [w_i_WorstBend_1, hd, hw, hbx, hbx2, hrow, hat, hi1, hgt', decide_true, decide_false, Wp_some, Wp_none, Wp_ite, Wc_some, Wc_none, Wc_ite, Wp_thenRun, seqQ_normal, seqQ_exit, seqQ_ret, Wp_inBlock, blkQ_normal, blkQ_ret, blkQ_same, blkQ_exit, Wp_opThen, opQ_at, Wp_guardP, retQ_normal, retQ_ret, loopQ_normal, loopQ_exit, loopQ_ret, go_sem, entry, joinEsc, if_pos, reduceIte, Nat.reduceAdd, Nat.reduceLeDiff, Nat.reduceLT, Nat.reduceEqDiff]
        exact ⟨k - 1, by omega, i + 1, _, _, _, _, _, _, _, _, _, by omega, hg.more _, by rw [hst]⟩
  · exact ⟨0, _, _, _, _, _, _, _, _, _, by omega, ⟨[], by simp⟩, rfl⟩

theorem e_i_WorstBend_bad {x p : Int} {q : Nat} {c : Option Nat} (hq : cellsAt H q = some (encL ls)) (hn : ls.length ≤ 100) (h : ¬ (beamOk x a b = true ∧ convOk ls = true ∧ 0 ≤ p ∧ p ≤ x)) : call T pr f_i_WorstBend [bmV x a b, slL q ls.length c, .int .i64 p] ⟨H, e⟩ = some (.tup [.int .i64 0, .int .i64 0, .bool false], ⟨H, e⟩) := by
  have hic := fun G => e_i_IsConvoy (pr := pr) (e := none) (c := c) (cells_mono hq G) (by omega)
  rw [call_eq t_i_WorstBend]
  cases hbp : (beamOk x a b && (decide (0 ≤ p) && decide (p ≤ x))) with
  | false => simp +contextual only [a_i_WorstBend, c_i_WorstBend, fillParts, e_i_isOnBeam, hic, hbp, Bool.not_true, Bool.not_false, go_sem, entry, joinEsc, if_pos, reduceIte, Nat.reduceAdd, Nat.reduceLeDiff, Nat.reduceLT, Nat.reduceEqDiff]
  | true =>
    have hcv : convOk ls = false := by
      cases hcv : convOk ls with
      | false => rfl
      | true =>
        simp only [Bool.and_eq_true, decide_eq_true_eq] at hbp
        exact absurd ⟨hbp.1, hcv, hbp.2.1, hbp.2.2⟩ h
    simp +contextual only [a_i_WorstBend, c_i_WorstBend, fillParts, e_i_isOnBeam, hic, hbp, hcv, Bool.not_true, Bool.not_false, go_sem, entry, joinEsc, if_pos, reduceIte, Nat.reduceAdd, Nat.reduceLeDiff, Nat.reduceLT, Nat.reduceEqDiff]

theorem e_s_WorstBend {q : Nat} {c : Option Nat} (hq : cellsAt H q = some (encL ls)) (hbm : beamOk X a b = true) (hcv : convOk ls = true) {P : Nat} (hp : P ≤ X) : call T pr f_s_WorstBend [bmV X a b, slL q ls.length c, .int .i64 P] ⟨H, e⟩ = some (.tup [.int .i64 (wbR (fun y => bendZ a b (rowAt y ls) P) (X + 1)).1, .int .i64 (wbR (fun y => bendZ a b (rowAt y ls) P) (X + 1)).2, .bool true], ⟨H, e⟩) := by
  have hb := hbm
  unfold beamOk at hb
  simp only [decide_eq_true_eq] at hb
  have hlen := (conv_facts hcv).1
  have p0 : (0 : Int) ≤ (P : Int) := by omega
  have p1 : (P : Int) ≤ (X : Int) := by omega
  have hp1 : P < X + 1 := by omega
  have hic := fun G => e_s_l6Convoy (pr := pr) (e := none) (c := c) (cells_mono hq G) (by omega)
  apply Wc.eq
  rw [call_wc t_s_WorstBend]
  simp +contextual only [a_s_WorstBend, c_s_WorstBend, fillParts, e_s_l6Beam, e_s_l1In, hic, hbm, hcv, p0, p1, hp, decide_true, Bool.and_self, Bool.not_true, Wp_some, Wp_none, Wp_ite, Wc_some, Wc_none, Wc_ite, Wp_thenRun, seqQ_normal, seqQ_exit, seqQ_ret, Wp_inBlock, blkQ_normal, blkQ_ret, blkQ_same, blkQ_exit, Wp_opThen, opQ_at, Wp_guardP, retQ_normal, retQ_ret, loopQ_normal, loopQ_exit, loopQ_ret, go_sem, entry, joinEsc, if_pos, reduceIte, Nat.reduceAdd, Nat.reduceLeDiff, Nat.reduceLT, Nat.reduceEqDiff]
  refine Wp_loop (fun k st => ∃ (i : Nat) (L : List Blk) (w4 w5 w6 w10 w11 w12 w13 : AV), i + k = X + 1 ∧ Grown (H ++ [.cells [.int .i64 X, .int .i64 a, .int .i64 b] true]) L ∧ st = ⟨[bmV X a b, slL q ls.length c, .int .i64 P, .ptr (some (H.length, 0)), w4, w5, w6, .int .i64 (wbS (fun y => bendZ a b (rowAt y ls) P) i).1, .int .i64 (wbS (fun y => bendZ a b (rowAt y ls) P) i).2, .int .i64 i, w10, w11, w12, w13], ⟨L, none⟩⟩) ?_ (X + 1) _ ?_
  · rintro k _ ⟨i, L, w4, w5, w6, w10, w11, w12, w13, hi, hg, rfl⟩
    have hbx := bx_cells hg
    by_cases hk : k = 0
    · have he : i = X + 1 := by omega
      subst he
      have hd : ¬ ((X + 1 : Nat) : Int) ≤ (X : Int) := by omega
      have hd' : ¬ X + 1 ≤ X := by omega
      have hws : wbS (fun y => bendZ a b (rowAt y ls) P) (X + 1) = wbR (fun y => bendZ a b (rowAt y ls) P) (X + 1) := rfl
      rw [hws]
      obtain ⟨G, rfl⟩ := hg
      simp (maxSteps := 2000000) +contextual only [w_s_WorstBend_1, hbx, hd, hd', decide_false, Wp_some, Wp_none, Wp_ite, Wc_some, Wc_none, Wc_ite, Wp_thenRun, seqQ_normal, seqQ_exit, seqQ_ret, Wp_inBlock, blkQ_normal, blkQ_ret, blkQ_same, blkQ_exit, Wp_opThen, opQ_at, Wp_guardP, retQ_normal, retQ_ret, loopQ_normal, loopQ_exit, loopQ_ret, go_sem, entry, joinEsc, if_pos, reduceIte, Nat.reduceAdd, Nat.reduceLeDiff, Nat.reduceLT, Nat.reduceEqDiff]
    · have hd : (i : Int) ≤ (X : Int) := by omega
      have hd' : i ≤ X := by omega
      have hw := wrap_succ (show i < 9223372036854775807 by omega)
      have hbx2 := fun G => cells_mono hbx G
      obtain ⟨cap, hrow⟩ := e_s_l6At (pr := pr) (H := L) (e := none) (c := c) (bx_old hq hg) (by omega) (i : Int)
      have hon := row_on hbm hcv (y := (i : Int)) (by omega) (by omega)
      have hat := e_s_l6Bends (pr := pr) (H := L ++ [.cells (encL (rowAt (i : Int) ls)) true]) (e := none) (c := cap) (q := L.length) (by simp [cellsAt]) hon
      rw [List.length_append, List.length_singleton, List.append_assoc, List.singleton_append] at hat
      have hpt := part_encI 1 (mapR_get (bendZ a b (rowAt (i : Int) ls)) hp1)
      by_cases hgt : i = 0 ∨ bendZ a b (rowAt (i : Int) ls) P > (wbR (fun y => bendZ a b (rowAt y ls) P) i).1
      · have hst : wbS (fun y => bendZ a b (rowAt y ls) P) (i + 1) = (bendZ a b (rowAt (i : Int) ls) P, (i : Int)) := by rw [wbS, wbR, if_pos hgt]
        by_cases h0 : i = 0
        · subst h0
          have hws : wbS (fun y => bendZ a b (rowAt y ls) P) 0 = (0, -1) := rfl
          have hneg : (-1 : Int) < 0 := by omega
          rw [hws]
          simp (maxSteps := 2000000) +contextual only [w_s_WorstBend_1, hd, hd', hw, hbx, hbx2, hrow, hat, hpt, hp1, hneg, decide_true, Wp_some, Wp_none, Wp_ite, Wc_some, Wc_none, Wc_ite, Wp_thenRun, seqQ_normal, seqQ_exit, seqQ_ret, Wp_inBlock, blkQ_normal, blkQ_ret, blkQ_same, blkQ_exit, Wp_opThen, opQ_at, Wp_guardP, retQ_normal, retQ_ret, loopQ_normal, loopQ_exit, loopQ_ret, go_sem, entry, joinEsc, if_pos, reduceIte, Nat.reduceAdd, Nat.reduceLeDiff, Nat.reduceLT, Nat.reduceEqDiff]
          exact ⟨k - 1, by omega, 0 + 1, _, _, _, _, _, _, _, _, by omega, hg.more _, by rw [hst]⟩
        · have hgt' := hgt.resolve_left h0
          obtain ⟨i', rfl⟩ : ∃ i', i = i' + 1 := ⟨i - 1, by omega⟩
          have hws : wbS (fun y => bendZ a b (rowAt y ls) P) (i' + 1) = wbR (fun y => bendZ a b (rowAt y ls) P) (i' + 1) := rfl
          obtain ⟨J, j1, _⟩ := wbR_place (fun y => bendZ a b (rowAt y ls) P) i'
          have hneg : ¬ (J : Int) < 0 := by omega
          rw [hws, j1]
          simp (maxSteps := 2000000) +contextual only [w_s_WorstBend_1, hd, hd', hw, hbx, hbx2, hrow, hat, hpt, hp1, hneg, hgt', decide_true, decide_false, Wp_some, Wp_none, Wp_ite, Wc_some, Wc_none, Wc_ite, Wp_thenRun, seqQ_normal, seqQ_exit, seqQ_ret, Wp_inBlock, blkQ_normal, blkQ_ret, blkQ_same, blkQ_exit, Wp_opThen, opQ_at, Wp_guardP, retQ_normal, retQ_ret, loopQ_normal, loopQ_exit, loopQ_ret, go_sem, entry, joinEsc, if_pos, reduceIte, Nat.reduceAdd, Nat.reduceLeDiff, Nat.reduceLT, Nat.reduceEqDiff]
          exact ⟨k - 1, by omega, i' + 1 + 1, _, _, _, _, _, _, _, _, by omega, hg.more _, by rw [hst]⟩
      · have h0 : i ≠ 0 := fun h => hgt (Or.inl h)
        have hgt' : ¬ bendZ a b (rowAt (i : Int) ls) P > (wbR (fun y => bendZ a b (rowAt y ls) P) i).1 := fun h => hgt (Or.inr h)
        obtain ⟨i', rfl⟩ : ∃ i', i = i' + 1 := ⟨i - 1, by omega⟩
        have hws : wbS (fun y => bendZ a b (rowAt y ls) P) (i' + 1) = wbR (fun y => bendZ a b (rowAt y ls) P) (i' + 1) := rfl
        have hst : wbS (fun y => bendZ a b (rowAt y ls) P) (i' + 1 + 1) = wbR (fun y => bendZ a b (rowAt y ls) P) (i' + 1) := by rw [wbS, wbR, if_neg hgt]
        obtain ⟨J, j1, _⟩ := wbR_place (fun y => bendZ a b (rowAt y ls) P) i'
        have hneg : ¬ (J : Int) < 0 := by omega
        rw [hws, j1]
        simp (maxSteps := 2000000) +contextual only [w_s_WorstBend_1, hd, hd', hw, hbx, hbx2, hrow, hat, hpt, hp1, hneg, hgt', decide_true, decide_false, Wp_some, Wp_none, Wp_ite, Wc_some, Wc_none, Wc_ite, Wp_thenRun, seqQ_normal, seqQ_exit, seqQ_ret, Wp_inBlock, blkQ_normal, blkQ_ret, blkQ_same, blkQ_exit, Wp_opThen, opQ_at, Wp_guardP, retQ_normal, retQ_ret, loopQ_normal, loopQ_exit, loopQ_ret, go_sem, entry, joinEsc, if_pos, reduceIte, Nat.reduceAdd, Nat.reduceLeDiff, Nat.reduceLT, Nat.reduceEqDiff]
        exact ⟨k - 1, by omega, i' + 1 + 1, _, _, _, _, _, _, _, _, by omega, hg.more _, by rw [hst, j1]⟩
  · exact ⟨0, _, _, _, _, _, _, _, _, by omega, ⟨[], by simp⟩, rfl⟩

theorem e_s_WorstBend_bad {x p : Int} {q : Nat} {c : Option Nat} (hq : cellsAt H q = some (encL ls)) (hn : ls.length ≤ 100) (h : ¬ (beamOk x a b = true ∧ convOk ls = true ∧ 0 ≤ p ∧ p ≤ x)) : call T pr f_s_WorstBend [bmV x a b, slL q ls.length c, .int .i64 p] ⟨H, e⟩ = some (.tup [.int .i64 0, .int .i64 0, .bool false], ⟨H, e⟩) := by
  have hic := fun G => e_s_l6Convoy (pr := pr) (e := none) (c := c) (cells_mono hq G) (by omega)
  rw [call_eq t_s_WorstBend]
  cases hbm : beamOk x a b with
  | false => simp +contextual only [a_s_WorstBend, c_s_WorstBend, fillParts, e_s_l6Beam, e_s_l1In, hic, hbm, Bool.not_true, Bool.not_false, go_sem, entry, joinEsc, if_pos, reduceIte, Nat.reduceAdd, Nat.reduceLeDiff, Nat.reduceLT, Nat.reduceEqDiff]
  | true =>
    cases hcv : convOk ls with
    | false => simp +contextual only [a_s_WorstBend, c_s_WorstBend, fillParts, e_s_l6Beam, e_s_l1In, hic, hbm, hcv, Bool.not_true, Bool.not_false, go_sem, entry, joinEsc, if_pos, reduceIte, Nat.reduceAdd, Nat.reduceLeDiff, Nat.reduceLT, Nat.reduceEqDiff]
    | true =>
      have hp : (decide (0 ≤ p) && decide (p ≤ x)) = false := by
        rw [Bool.and_eq_false_iff, decide_eq_false_iff_not, decide_eq_false_iff_not]
        by_cases h1 : 0 ≤ p
        · exact Or.inr fun h2 => h ⟨hbm, hcv, h1, h2⟩
        · exact Or.inl h1
      simp +contextual only [a_s_WorstBend, c_s_WorstBend, fillParts, e_s_l6Beam, e_s_l1In, hic, hbm, hcv, hp, Bool.not_true, Bool.not_false, go_sem, entry, joinEsc, if_pos, reduceIte, Nat.reduceAdd, Nat.reduceLeDiff, Nat.reduceLT, Nat.reduceEqDiff]

end

end Go.Proofs.Ytaikmfldjkbmmaa.Slim

/- Beams: outermost places, convoys' rows. -/
namespace Go.Proofs.Ytaikmfldjkbmmaa.Slim

open Go

set_option linter.unusedSimpArgs false

set_option linter.unusedVariables false

variable {pr : Prims} {H : List Blk} {e : Option Nat}

theorem encL_snoc (ls : List Ld) (p w : Int) : encL ls ++ [AV.int .i64 p, AV.int .i64 w] = encL (ls ++ [(p, w)]) := by
  rw [encL_append]
  rfl

theorem e_i_standsWith {q : Nat} {c : Option Nat} {ls : List Ld} (hq : cellsAt H q = some (encL ls)) (hn : ls.length ≤ 100) (a b p w : Int) : call T pr f_i_standsWith [slL q ls.length c, .int .i64 a, .int .i64 b, .int .i64 p, .int .i64 w] ⟨H, e⟩ = some (.bool (decide (sideW (ls ++ [(p, w)]) a b = 0)), ⟨H, e⟩) := by
  apply Wc.eq
  rw [call_wc t_i_standsWith]
  have hcl := e_Clone_Load (pr := pr) (H := H) (e := none) (c := c) hq (by omega)
  simp (maxSteps := 2000000) +contextual only [a_i_standsWith, c_i_standsWith, fillParts, hcl, Wp_some, Wp_none, Wp_ite, Wc_some, Wc_none, Wc_ite, Wp_thenRun, seqQ_normal, seqQ_exit, seqQ_ret, Wp_inBlock, blkQ_normal, blkQ_ret, blkQ_same, blkQ_exit, Wp_opThen, opQ_at, Wp_guardP, retQ_normal, retQ_ret, loopQ_normal, loopQ_exit, loopQ_ret, go_sem, entry, joinEsc, if_pos, reduceIte, Nat.reduceAdd, Nat.reduceLeDiff, Nat.reduceLT, Nat.reduceEqDiff]
  refine wc_ap (k := 1) (cs := encL ls) (new := [.int .i64 p, .int .i64 w]) (by simp +contextual only [go_sem, entry, joinEsc, if_pos, reduceIte, Nat.reduceAdd, Nat.reduceLeDiff, Nat.reduceLT, Nat.reduceEqDiff]) (src_new _ 1 2 _ _ (H.length + 1) (by simp +contextual only [go_sem, entry, joinEsc, if_pos, reduceIte, Nat.reduceAdd, Nat.reduceLeDiff, Nat.reduceLT, Nat.reduceEqDiff]) rfl) (encL_length ls) rfl (by unfold maxBytes; omega) (fun hh => by simp at hh) ?_
  intro L2 e1 e2 e3 e4
  obtain ⟨G2, hG2⟩ := e4 H ⟨_, rfl⟩ (by omega)
  rw [encL_snoc] at e3
  have ht := e_i_tipSide (pr := pr) (H := L2) (e := none) (c := none) (cellsAt_of e3) (by rw [List.length_append, List.length_singleton]; omega) a b
  simp only [List.length_append, List.length_cons, List.length_nil, Nat.zero_add, Nat.reduceAdd] at ht
  simp (maxSteps := 2000000) +contextual only [ht, Wp_some, Wp_none, Wp_ite, Wc_some, Wc_none, Wc_ite, Wp_thenRun, seqQ_normal, seqQ_exit, seqQ_ret, Wp_inBlock, blkQ_normal, blkQ_ret, blkQ_same, blkQ_exit, Wp_opThen, opQ_at, Wp_guardP, retQ_normal, retQ_ret, loopQ_normal, loopQ_exit, loopQ_ret, go_sem, entry, joinEsc, if_pos, reduceIte, Nat.reduceAdd, Nat.reduceLeDiff, Nat.reduceLT, Nat.reduceEqDiff]
  subst hG2
  simp +contextual only [Wp_some, Wp_none, Wp_ite, Wc_some, Wc_none, Wc_ite, Wp_thenRun, seqQ_normal, seqQ_exit, seqQ_ret, Wp_inBlock, blkQ_normal, blkQ_ret, blkQ_same, blkQ_exit, Wp_opThen, opQ_at, Wp_guardP, retQ_normal, retQ_ret, loopQ_normal, loopQ_exit, loopQ_ret, go_sem, entry, joinEsc, if_pos, reduceIte, Nat.reduceAdd, Nat.reduceLeDiff, Nat.reduceLT, Nat.reduceEqDiff]

theorem e_s_l2With {q : Nat} {c : Option Nat} {ls : List Ld} (hq : cellsAt H q = some (encL ls)) (hn : ls.length ≤ 100) (p w : Int) : call T pr f_s_l2With [slL q ls.length c, .int .i64 p, .int .i64 w] ⟨H, e⟩ = some (slL H.length (ls.length + 1) none, ⟨H ++ [.cells (encL (ls ++ [(p, w)])) true], e⟩) := by
  apply Wc.eq
  rw [call_wc t_s_l2With]
  simp (maxSteps := 2000000) +contextual only [a_s_l2With, c_s_l2With, fillParts, Wp_some, Wp_none, Wp_ite, Wc_some, Wc_none, Wc_ite, Wp_thenRun, seqQ_normal, seqQ_exit, seqQ_ret, Wp_inBlock, blkQ_normal, blkQ_ret, blkQ_same, blkQ_exit, Wp_opThen, opQ_at, Wp_guardP, retQ_normal, retQ_ret, loopQ_normal, loopQ_exit, loopQ_ret, go_sem, entry, joinEsc, if_pos, reduceIte, Nat.reduceAdd, Nat.reduceLeDiff, Nat.reduceLT, Nat.reduceEqDiff]
  refine wc_ap (k := ls.length) (cs := []) (n := 0) (new := encL ls) (by simp +contextual only [go_sem, entry, joinEsc, if_pos, reduceIte, Nat.reduceAdd, Nat.reduceLeDiff, Nat.reduceLT, Nat.reduceEqDiff]) (src_new _ ls.length 2 _ _ q (cells_mono hq _) (encL_length ls)) rfl (encL_length ls) (by unfold maxBytes; omega) (fun _ => rfl) ?_
  intro L2 e1 e2 e3 e4
  rw [List.length_append, List.length_singleton] at e3 e1
  have g4 := e4 H ⟨_, rfl⟩ (by omega)
  rw [Nat.zero_add]
  simp (maxSteps := 2000000) +contextual only [fillParts, List.length_append, Wp_some, Wp_none, Wp_ite, Wc_some, Wc_none, Wc_ite, Wp_thenRun, seqQ_normal, seqQ_exit, seqQ_ret, Wp_inBlock, blkQ_normal, blkQ_ret, blkQ_same, blkQ_exit, Wp_opThen, opQ_at, Wp_guardP, retQ_normal, retQ_ret, loopQ_normal, loopQ_exit, loopQ_ret, go_sem, entry, joinEsc, if_pos, reduceIte, Nat.reduceAdd, Nat.reduceLeDiff, Nat.reduceLT, Nat.reduceEqDiff]
  refine wc_ap (k := 1) (cs := encL ls) (new := [.int .i64 p, .int .i64 w]) (get_more e3 _) (src_new _ 1 2 _ _ L2.length (by simp +contextual only [go_sem, entry, joinEsc, if_pos, reduceIte, Nat.reduceAdd, Nat.reduceLeDiff, Nat.reduceLT, Nat.reduceEqDiff]) rfl) (encL_length ls) rfl (by unfold maxBytes; omega) (fun hh => by simp at hh) ?_
  intro L3 f1 f2 f3 f4
  rw [encL_snoc, List.length_append, List.length_singleton] at f3
  have hf := finish_sl (H := H) (sz := 2) (n := ls.length + 1) (c := none) (f4 H (g4.more _) (by omega)) e none rfl (by have := g4.le; omega) f3 (under_encL _ _)
  simp (maxSteps := 2000000) +contextual only [hf, List.length_append, Wp_some, Wp_none, Wp_ite, Wc_some, Wc_none, Wc_ite, Wp_thenRun, seqQ_normal, seqQ_exit, seqQ_ret, Wp_inBlock, blkQ_normal, blkQ_ret, blkQ_same, blkQ_exit, Wp_opThen, opQ_at, Wp_guardP, retQ_normal, retQ_ret, loopQ_normal, loopQ_exit, loopQ_ret, go_sem, entry, joinEsc, if_pos, reduceIte, Nat.reduceAdd, Nat.reduceLeDiff, Nat.reduceLT, Nat.reduceEqDiff]

/-- the outermost places of n at which something holds, -1 for none (see t_i_OutermostPlaces) -/
def opR (g : Int → Bool) : Nat → Int × Int
  | 0 => (-1, -1)
  | n + 1 => if g (n : Int) = true then (if (opR g n).1 < 0 then (n : Int) else (opR g n).1, (n : Int)) else opR g n

theorem opR_facts (g : Int → Bool) : ∀ n : Nat, ((opR g n) = (-1, -1) ∧ ∀ i : Nat, i < n → g (i : Int) = false) ∨ ∃ J K : Nat, opR g n = ((J : Int), (K : Int)) ∧ J ≤ K ∧ K < n ∧ g (J : Int) = true ∧ g (K : Int) = true ∧ (∀ i : Nat, i < J → g (i : Int) = false) ∧ ∀ i : Nat, K < i → i < n → g (i : Int) = false
  | 0 => Or.inl ⟨rfl, fun i hi => by omega⟩
  | n + 1 => by
    rw [opR]
    rcases opR_facts g n with ⟨h1, h2⟩ | ⟨J, K, h1, h2, h3, h4, h5, h6, h7⟩
    · cases hg : g (n : Int) with
      | false =>
        rw [if_neg (by simp)]
        refine Or.inl ⟨h1, fun i hi => ?_⟩
        by_cases he : i = n
        · rw [he]; exact hg
        · exact h2 i (by omega)
      | true =>
        rw [if_pos rfl, h1]
        refine Or.inr ⟨n, n, ?_, Nat.le_refl _, by omega, hg, hg, fun i hi => h2 i hi, fun i h1 h2 => by omega⟩
        rw [if_pos (by decide)]
    · cases hg : g (n : Int) with
      | false =>
        rw [if_neg (by simp)]
        refine Or.inr ⟨J, K, h1, h2, by omega, h4, h5, h6, fun i hi hi2 => ?_⟩
        by_cases he : i = n
        · rw [he]; exact hg
        · exact h7 i hi (by omega)
      | true =>
        rw [if_pos rfl, h1]
        refine Or.inr ⟨J, n, ?_, by omega, by omega, h4, hg, h6, fun i h1 h2 => by omega⟩
        rw [if_neg (by show ¬ (J : Int) < 0; omega)]

/-- does the row rest with one more? -/
def withG (a b w : Int) (ls : List Ld) (y : Int) : Bool := decide (sideW (ls ++ [(y, w)]) a b = 0)

/-- what a walker can go -/
def opT (r : Int × Int) : AV := if r.1 < 0 then .tup [.int .i64 0, .int .i64 0, .bool false] else .tup [.int .i64 r.1, .int .i64 r.2, .bool true]

section
variable {a b : Int} {X : Nat} {ls : List Ld}

theorem e_i_OutermostPlaces {q : Nat} {c : Option Nat} (hq : cellsAt H q = some (encL ls)) (hon : onOk X a b ls = true) (hn : ls.length ≠ 12) {w : Int} (hw0 : 1 ≤ w) (hw1 : w ≤ 99) : call T pr f_i_OutermostPlaces [bmV X a b, slL q ls.length c, .int .i64 w] ⟨H, e⟩ = some (opT (opR (withG a b w ls) (X + 1)), ⟨H, e⟩) := by
  have h := on_facts hon
  have h1 := h.x2; have h0 := h.x1; have h5 := h.len
  have hX := wrap_succ (show X < 9223372036854775807 by omega)
  have hn12 : decide (((ls.length : Nat) : Int) = 12) = false := decide_eq_false (by omega)
  apply Wc.eq
  rw [call_wc t_i_OutermostPlaces]
  simp +contextual only [a_i_OutermostPlaces, c_i_OutermostPlaces, fillParts, e_i_isOn (cells_mono hq _) (show ls.length ≤ 9223372036854775806 by omega), e_i_isWeight, hon, hn12, hw0, hw1, hX, decide_true, Bool.and_self, Bool.not_true, Wp_some, Wp_none, Wp_ite, Wc_some, Wc_none, Wc_ite, Wp_thenRun, seqQ_normal, seqQ_exit, seqQ_ret, Wp_inBlock, blkQ_normal, blkQ_ret, blkQ_same, blkQ_exit, Wp_opThen, opQ_at, Wp_guardP, retQ_normal, retQ_ret, loopQ_normal, loopQ_exit, loopQ_ret, go_sem, entry, joinEsc, if_pos, reduceIte, Nat.reduceAdd, Nat.reduceLeDiff, Nat.reduceLT, Nat.reduceEqDiff]
  refine Wp_loop (fun k st => ∃ (i : Nat) (v4 v5 v6 v9 v10 v13 v14 v15 v16 : AV), i + k = X + 1 ∧ st = ⟨[bmV X a b, slL q ls.length c, .int .i64 w, .ptr (some (H.length, 0)), v4, v5, v6, .int .i64 (opR (withG a b w ls) i).1, .int .i64 (opR (withG a b w ls) i).2, v9, v10, .int .i64 (X + 1 : Nat), .int .i64 i, v13, v14, v15, v16], ⟨H ++ [.cells [.int .i64 X, .int .i64 a, .int .i64 b] true], none⟩⟩) ?_ (X + 1) _ ?_
  · rintro k _ ⟨i, v4, v5, v6, v9, v10, v13, v14, v15, v16, hi, rfl⟩
    by_cases hk : k = 0
    · have he : i = X + 1 := by omega
      subst he
      unfold opT
      by_cases hlt : (opR (withG a b w ls) (X + 1)).1 < 0
      · simp (maxSteps := 2000000) +contextual only [w_i_OutermostPlaces_1, Nat.lt_irrefl, hlt, decide_true, decide_false, Wp_some, Wp_none, Wp_ite, Wc_some, Wc_none, Wc_ite, Wp_thenRun, seqQ_normal, seqQ_exit, seqQ_ret, Wp_inBlock, blkQ_normal, blkQ_ret, blkQ_same, blkQ_exit, Wp_opThen, opQ_at, Wp_guardP, retQ_normal, retQ_ret, loopQ_normal, loopQ_exit, loopQ_ret, go_sem, entry, joinEsc, if_pos, reduceIte, Nat.reduceAdd, Nat.reduceLeDiff, Nat.reduceLT, Nat.reduceEqDiff]
      · simp (maxSteps := 2000000) +contextual only [w_i_OutermostPlaces_1, Nat.lt_irrefl, hlt, decide_true, decide_false, Wp_some, Wp_none, Wp_ite, Wc_some, Wc_none, Wc_ite, Wp_thenRun, seqQ_normal, seqQ_exit, seqQ_ret, Wp_inBlock, blkQ_normal, blkQ_ret, blkQ_same, blkQ_exit, Wp_opThen, opQ_at, Wp_guardP, retQ_normal, retQ_ret, loopQ_normal, loopQ_exit, loopQ_ret, go_sem, entry, joinEsc, if_pos, reduceIte, Nat.reduceAdd, Nat.reduceLeDiff, Nat.reduceLT, Nat.reduceEqDiff]
    · have hd : i < X + 1 := by omega
      have hw := wrap_succ (show i < 9223372036854775807 by omega)
      have hsw := fun G => e_i_standsWith (pr := pr) (e := none) (c := c) (cells_mono hq G) (by omega) a b (i : Int) w
      have hgd : decide (sideW (ls ++ [((i : Int), w)]) a b = 0) = withG a b w ls i := rfl
      cases hg : withG a b w ls (i : Int) with
      | false =>
        have hst : opR (withG a b w ls) (i + 1) = opR (withG a b w ls) i := by rw [opR, if_neg (by rw [hg]; simp)]
        simp (maxSteps := 2000000) +contextual only [w_i_OutermostPlaces_1, hd, hw, hsw, hgd, hg, decide_true, decide_false, Wp_some, Wp_none, Wp_ite, Wc_some, Wc_none, Wc_ite, Wp_thenRun, seqQ_normal, seqQ_exit, seqQ_ret, Wp_inBlock, blkQ_normal, blkQ_ret, blkQ_same, blkQ_exit, Wp_opThen, opQ_at, Wp_guardP, retQ_normal, retQ_ret, loopQ_normal, loopQ_exit, loopQ_ret, go_sem, entry, joinEsc, if_pos, reduceIte, Nat.reduceAdd, Nat.reduceLeDiff, Nat.reduceLT, Nat.reduceEqDiff]
        exact ⟨k - 1, by omega, i + 1, _, _, _, _, _, _, _, _, _, by omega, by rw [hst]⟩
      | true =>
        by_cases hlt : (opR (withG a b w ls) i).1 < 0
        · have hst : opR (withG a b w ls) (i + 1) = ((i : Int), (i : Int)) := by rw [opR, if_pos hg, if_pos hlt]
          simp (maxSteps := 2000000) +contextual only [w_i_OutermostPlaces_1, hd, hw, hsw, hgd, hg, hlt, decide_true, decide_false, Wp_some, Wp_none, Wp_ite, Wc_some, Wc_none, Wc_ite, Wp_thenRun, seqQ_normal, seqQ_exit, seqQ_ret, Wp_inBlock, blkQ_normal, blkQ_ret, blkQ_same, blkQ_exit, Wp_opThen, opQ_at, Wp_guardP, retQ_normal, retQ_ret, loopQ_normal, loopQ_exit, loopQ_ret, go_sem, entry, joinEsc, if_pos, reduceIte, Nat.reduceAdd, Nat.reduceLeDiff, Nat.reduceLT, Nat.reduceEqDiff]
          exact ⟨k - 1, by omega, i + 1, _, _, _, _, _, _, _, _, _, by omega, by rw [hst]⟩
        · have hst : opR (withG a b w ls) (i + 1) = ((opR (withG a b w ls) i).1, (i : Int)) := by rw [opR, if_pos hg, if_neg hlt]
          simp (maxSteps := 2000000) +contextual only [w_i_OutermostPlaces_1, hd, hw, hsw, hgd, hg, hlt, decide_true, decide_false, Wp_some, Wp_none, Wp_ite, Wc_some, Wc_none, Wc_ite, Wp_thenRun, seqQ_normal, seqQ_exit, seqQ_ret, Wp_inBlock, blkQ_normal, blkQ_ret, blkQ_same, blkQ_exit, Wp_opThen, opQ_at, Wp_guardP, retQ_normal, retQ_ret, loopQ_normal, loopQ_exit, loopQ_ret, go_sem, entry, joinEsc, if_pos, reduceIte, Nat.reduceAdd, Nat.reduceLeDiff, Nat.reduceLT, Nat.reduceEqDiff]
          exact ⟨k - 1, by omega, i + 1, _, _, _, _, _, _, _, _, _, by omega, by rw [hst]⟩
  · exact ⟨0, _, _, _, _, _, _, _, _, _, by omega, rfl⟩

theorem e_s_OutermostPlaces {q : Nat} {c : Option Nat} (hq : cellsAt H q = some (encL ls)) (hon : onOk X a b ls = true) (hn : ls.length ≠ 12) {w : Int} (hw0 : 1 ≤ w) (hw1 : w ≤ 99) : call T pr f_s_OutermostPlaces [bmV X a b, slL q ls.length c, .int .i64 w] ⟨H, e⟩ = some (opT (opR (withG a b w ls) (X + 1)), ⟨H, e⟩) := by
  have h := on_facts hon
  have h1 := h.x2; have h0 := h.x1; have h5 := h.len
  have hn12 : decide (((ls.length : Nat) : Int) = 12) = false := decide_eq_false (by omega)
  apply Wc.eq
  rw [call_wc t_s_OutermostPlaces]
  simp +contextual only [a_s_OutermostPlaces, c_s_OutermostPlaces, fillParts, e_s_l6On (cells_mono hq _) (show ls.length ≤ 9223372036854775806 by omega), e_s_l1In, hon, hn12, hw0, hw1, decide_true, Bool.and_self, Bool.not_true, Wp_some, Wp_none, Wp_ite, Wc_some, Wc_none, Wc_ite, Wp_thenRun, seqQ_normal, seqQ_exit, seqQ_ret, Wp_inBlock, blkQ_normal, blkQ_ret, blkQ_same, blkQ_exit, Wp_opThen, opQ_at, Wp_guardP, retQ_normal, retQ_ret, loopQ_normal, loopQ_exit, loopQ_ret, go_sem, entry, joinEsc, if_pos, reduceIte, Nat.reduceAdd, Nat.reduceLeDiff, Nat.reduceLT, Nat.reduceEqDiff]
  refine Wp_loop (fun k st => ∃ (i : Nat) (L : List Blk) (v4 v5 v6 v10 v11 v12 v13 v14 : AV), i + k = X + 1 ∧ Grown (H ++ [.cells [.int .i64 X, .int .i64 a, .int .i64 b] true]) L ∧ st = ⟨[bmV X a b, slL q ls.length c, .int .i64 w, .ptr (some (H.length, 0)), v4, v5, v6, .int .i64 (opR (withG a b w ls) i).1, .int .i64 (opR (withG a b w ls) i).2, .int .i64 i, v10, v11, v12, v13, v14], ⟨L, none⟩⟩) ?_ (X + 1) _ ?_
  · rintro k _ ⟨i, L, v4, v5, v6, v10, v11, v12, v13, v14, hi, hg0, rfl⟩
    have hbx := bx_cells hg0
    by_cases hk : k = 0
    · have he : i = X + 1 := by omega
      subst he
      have hd : ¬ ((X + 1 : Nat) : Int) ≤ (X : Int) := by omega
      have hd' : ¬ X + 1 ≤ X := by omega
      obtain ⟨G, rfl⟩ := hg0
      unfold opT
      by_cases hlt : (opR (withG a b w ls) (X + 1)).1 < 0
      · simp (maxSteps := 2000000) +contextual only [w_s_OutermostPlaces_1, hbx, hd, hd', hlt, decide_true, decide_false, Wp_some, Wp_none, Wp_ite, Wc_some, Wc_none, Wc_ite, Wp_thenRun, seqQ_normal, seqQ_exit, seqQ_ret, Wp_inBlock, blkQ_normal, blkQ_ret, blkQ_same, blkQ_exit, Wp_opThen, opQ_at, Wp_guardP, retQ_normal, retQ_ret, loopQ_normal, loopQ_exit, loopQ_ret, go_sem, entry, joinEsc, if_pos, reduceIte, Nat.reduceAdd, Nat.reduceLeDiff, Nat.reduceLT, Nat.reduceEqDiff]
      · simp (maxSteps := 2000000) +contextual only [w_s_OutermostPlaces_1, hbx, hd, hd', hlt, decide_true, decide_false, Wp_some, Wp_none, Wp_ite, Wc_some, Wc_none, Wc_ite, Wp_thenRun, seqQ_normal, seqQ_exit, seqQ_ret, Wp_inBlock, blkQ_normal, blkQ_ret, blkQ_same, blkQ_exit, Wp_opThen, opQ_at, Wp_guardP, retQ_normal, retQ_ret, loopQ_normal, loopQ_exit, loopQ_ret, go_sem, entry, joinEsc, if_pos, reduceIte, Nat.reduceAdd, Nat.reduceLeDiff, Nat.reduceLT, Nat.reduceEqDiff]
    · have hd : (i : Int) ≤ (X : Int) := by omega
      have hd' : i ≤ X := by omega
      have hw := wrap_succ (show i < 9223372036854775807 by omega)
      have hbx2 := fun G => cells_mono hbx G
      have hwi := e_s_l2With (pr := pr) (H := L) (e := none) (c := c) (bx_old hq hg0) (by omega) (i : Int) w
      have hsw := e_s_l2Side (pr := pr) (H := L ++ [.cells (encL (ls ++ [((i : Int), w)])) true]) (e := none) (c := none) (b := L.length) (ls := ls ++ [((i : Int), w)]) (by simp [cellsAt]) (by rw [List.length_append, List.length_singleton]; omega) a b
      rw [List.length_append, List.length_singleton] at hsw
      have hgd : decide (sideW (ls ++ [((i : Int), w)]) a b = 0) = withG a b w ls i := rfl
      cases hg : withG a b w ls (i : Int) with
      | false =>
        have hst : opR (withG a b w ls) (i + 1) = opR (withG a b w ls) i := by rw [opR, if_neg (by rw [hg]; simp)]
        simp (maxSteps := 2000000) +contextual only [w_s_OutermostPlaces_1, hd, hd', hw, hbx, hbx2, hwi, hsw, hgd, hg, decide_true, decide_false, Wp_some, Wp_none, Wp_ite, Wc_some, Wc_none, Wc_ite, Wp_thenRun, seqQ_normal, seqQ_exit, seqQ_ret, Wp_inBlock, blkQ_normal, blkQ_ret, blkQ_same, blkQ_exit, Wp_opThen, opQ_at, Wp_guardP, retQ_normal, retQ_ret, loopQ_normal, loopQ_exit, loopQ_ret, go_sem, entry, joinEsc, if_pos, reduceIte, Nat.reduceAdd, Nat.reduceLeDiff, Nat.reduceLT, Nat.reduceEqDiff]
        exact ⟨k - 1, by omega, i + 1, _, _, _, _, _, _, _, _, _, by omega, hg0.more _, by rw [hst]⟩
      | true =>
        by_cases hlt : (opR (withG a b w ls) i).1 < 0
        · have hst : opR (withG a b w ls) (i + 1) = ((i : Int), (i : Int)) := by rw [opR, if_pos hg, if_pos hlt]
          simp (maxSteps := 2000000) +contextual only [w_s_OutermostPlaces_1, hd, hd', hw, hbx, hbx2, hwi, hsw, hgd, hg, hlt, decide_true, decide_false, Wp_some, Wp_none, Wp_ite, Wc_some, Wc_none, Wc_ite, Wp_thenRun, seqQ_normal, seqQ_exit, seqQ_ret, Wp_inBlock, blkQ_normal, blkQ_ret, blkQ_same, blkQ_exit, Wp_opThen, opQ_at, Wp_guardP, retQ_normal, retQ_ret, loopQ_normal, loopQ_exit, loopQ_ret, go_sem, entry, joinEsc, if_pos, reduceIte, Nat.reduceAdd, Nat.reduceLeDiff, Nat.reduceLT, Nat.reduceEqDiff]
          exact ⟨k - 1, by omega, i + 1, _, _, _, _, _, _, _, _, _, by omega, hg0.more _, by rw [hst]⟩
        · have hst : opR (withG a b w ls) (i + 1) = ((opR (withG a b w ls) i).1, (i : Int)) := by rw [opR, if_pos hg, if_neg hlt]
          simp (maxSteps := 2000000) +contextual only [w_s_OutermostPlaces_1, hd, hd', hw, hbx, hbx2, hwi, hsw, hgd, hg, hlt, decide_true, decide_false, Wp_some, Wp_none, Wp_ite, Wc_some, Wc_none, Wc_ite, Wp_thenRun, seqQ_normal, seqQ_exit, seqQ_ret, Wp_inBlock, blkQ_normal, blkQ_ret, blkQ_same, blkQ_exit, Wp_opThen, opQ_at, Wp_guardP, retQ_normal, retQ_ret, loopQ_normal, loopQ_exit, loopQ_ret, go_sem, entry, joinEsc, if_pos, reduceIte, Nat.reduceAdd, Nat.reduceLeDiff, Nat.reduceLT, Nat.reduceEqDiff]
          exact ⟨k - 1, by omega, i + 1, _, _, _, _, _, _, _, _, _, by omega, hg0.more _, by rw [hst]⟩
  · exact ⟨0, _, _, _, _, _, _, _, _, _, by omega, ⟨[], by simp⟩, rfl⟩

theorem out_no {x w : Int} (h : ¬ (onOk x a b ls = true ∧ ls.length ≠ 12 ∧ 1 ≤ w ∧ w ≤ 99)) : onOk x a b ls = false ∨ (onOk x a b ls = true ∧ decide (((ls.length : Nat) : Int) = 12) = true) ∨ (onOk x a b ls = true ∧ decide (((ls.length : Nat) : Int) = 12) = false ∧ (decide (1 ≤ w) && decide (w ≤ 99)) = false) := by
  cases hon : onOk x a b ls with
  | false => exact Or.inl rfl
  | true =>
    by_cases hn : ls.length = 12
    · exact Or.inr (Or.inl ⟨rfl, decide_eq_true (by omega)⟩)
    · refine Or.inr (Or.inr ⟨rfl, decide_eq_false (by omega), ?_⟩)
      rw [Bool.and_eq_false_iff, decide_eq_false_iff_not, decide_eq_false_iff_not]
      by_cases h1 : 1 ≤ w
      · exact Or.inr fun h2 => h ⟨hon, hn, h1, h2⟩
      · exact Or.inl h1

theorem e_i_OutermostPlaces_bad {x w : Int} {q : Nat} {c : Option Nat} (hq : cellsAt H q = some (encL ls)) (hn : ls.length ≤ 100) (h : ¬ (onOk x a b ls = true ∧ ls.length ≠ 12 ∧ 1 ≤ w ∧ w ≤ 99)) : call T pr f_i_OutermostPlaces [bmV x a b, slL q ls.length c, .int .i64 w] ⟨H, e⟩ = some (.tup [.int .i64 0, .int .i64 0, .bool false], ⟨H, e⟩) := by
  rw [call_eq t_i_OutermostPlaces]
  rcases out_no h with h1 | ⟨h1, h2⟩ | ⟨h1, h2, h3⟩
  · simp +contextual only [a_i_OutermostPlaces, c_i_OutermostPlaces, e_i_isOn (cells_mono hq _) (show ls.length ≤ 9223372036854775806 by omega), e_i_isWeight, h1, Bool.not_true, Bool.not_false, go_sem, entry, joinEsc, if_pos, reduceIte, Nat.reduceAdd, Nat.reduceLeDiff, Nat.reduceLT, Nat.reduceEqDiff]
  · simp +contextual only [a_i_OutermostPlaces, c_i_OutermostPlaces, e_i_isOn (cells_mono hq _) (show ls.length ≤ 9223372036854775806 by omega), e_i_isWeight, h1, h2, Bool.not_true, Bool.not_false, go_sem, entry, joinEsc, if_pos, reduceIte, Nat.reduceAdd, Nat.reduceLeDiff, Nat.reduceLT, Nat.reduceEqDiff]
  · simp +contextual only [a_i_OutermostPlaces, c_i_OutermostPlaces, e_i_isOn (cells_mono hq _) (show ls.length ≤ 9223372036854775806 by omega), e_i_isWeight, h1, h2, h3, Bool.not_true, Bool.not_false, go_sem, entry, joinEsc, if_pos, reduceIte, Nat.reduceAdd, Nat.reduceLeDiff, Nat.reduceLT, Nat.reduceEqDiff]

theorem e_s_OutermostPlaces_bad {x w : Int} {q : Nat} {c : Option Nat} (hq : cellsAt H q = some (encL ls)) (hn : ls.length ≤ 100) (h : ¬ (onOk x a b ls = true ∧ ls.length ≠ 12 ∧ 1 ≤ w ∧ w ≤ 99)) : call T pr f_s_OutermostPlaces [bmV x a b, slL q ls.length c, .int .i64 w] ⟨H, e⟩ = some (.tup [.int .i64 0, .int .i64 0, .bool false], ⟨H, e⟩) := by
  rw [call_eq t_s_OutermostPlaces]
  rcases out_no h with h1 | ⟨h1, h2⟩ | ⟨h1, h2, h3⟩
  · simp +contextual only [a_s_OutermostPlaces, c_s_OutermostPlaces, e_s_l6On (cells_mono hq _) (show ls.length ≤ 9223372036854775806 by omega), e_s_l1In, h1, Bool.not_true, Bool.not_false, go_sem, entry, joinEsc, if_pos, reduceIte, Nat.reduceAdd, Nat.reduceLeDiff, Nat.reduceLT, Nat.reduceEqDiff]
  · simp +contextual only [a_s_OutermostPlaces, c_s_OutermostPlaces, e_s_l6On (cells_mono hq _) (show ls.length ≤ 9223372036854775806 by omega), e_s_l1In, h1, h2, Bool.not_true, Bool.not_false, go_sem, entry, joinEsc, if_pos, reduceIte, Nat.reduceAdd, Nat.reduceLeDiff, Nat.reduceLT, Nat.reduceEqDiff]
  · simp +contextual only [a_s_OutermostPlaces, c_s_OutermostPlaces, e_s_l6On (cells_mono hq _) (show ls.length ≤ 9223372036854775806 by omega), e_s_l1In, h1, h2, h3, Bool.not_true, Bool.not_false, go_sem, entry, joinEsc, if_pos, reduceIte, Nat.reduceAdd, Nat.reduceLeDiff, Nat.reduceLT, Nat.reduceEqDiff]

end

end Go.Proofs.Ytaikmfldjkbmmaa.Slim

/- Rafts: the drawn arguments. -/
namespace Go.Proofs.Ytaikmfldjkbmmaa.Slim

open Go

set_option linter.unusedSimpArgs false

set_option linter.unusedVariables false

variable {pr : Prims} {H : List Blk} {e : Option Nat}

theorem set_ld0 {ls : List Ld} {i : Nat} (h : i < ls.length) (a : Int) : ∃ ls' : List Ld, ls'.length = ls.length ∧ setRange (encL ls) (i * 2) [.int .i64 a] = encL ls' := by
  have hl : ls = ls.take i ++ ls[i] :: ls.drop (i + 1) := by rw [← List.drop_eq_getElem_cons h, List.take_append_drop]
  have ht : (ls.take i).length = i := by rw [List.length_take]; omega
  have := setRange_midL0 (ls.take i) (ls.drop (i + 1)) ls[i] a
  rw [← hl, ht] at this
  refine ⟨_, ?_, this⟩
  rw [List.length_append, List.length_cons, List.length_drop, ht]
  omega

theorem set_ld1 {ls : List Ld} {i : Nat} (h : i < ls.length) (a : Int) : ∃ ls' : List Ld, ls'.length = ls.length ∧ setRange (encL ls) (i * 2 + 1) [.int .i64 a] = encL ls' := by
  have hl : ls = ls.take i ++ ls[i] :: ls.drop (i + 1) := by rw [← List.drop_eq_getElem_cons h, List.take_append_drop]
  have ht : (ls.take i).length = i := by rw [List.length_take]; omega
  have := setRange_midL1 (ls.take i) (ls.drop (i + 1)) ls[i] a
  rw [← hl, ht] at this
  refine ⟨_, ?_, this⟩
  rw [List.length_append, List.length_cons, List.length_drop, ht]
  omega

theorem last_get {M : List Blk} {n : Nat} (h : M.length = n) (x : Blk) : (M ++ [x])[n]? = some x := by
  rw [← h, List.getElem?_append_right (Nat.le_refl _), Nat.sub_self]
  rfl

theorem orderFor_hd {L : List Blk} {b i : Nat} {os : List Int} {c : Option Nat} (hb : cellsAt L b = some (encI os)) (hk : i ≤ os.length) : srcCells false L (.slice (some (b, 0)) 1 i c) = some (i, encI (os.take i)) := by
  have := src_part (L := L) (q := b) (sz := 1) (o := 0) (k := i) (n := 0) c hb (by simp; omega)
  rw [Nat.zero_mul, Nat.mul_one, List.drop_zero] at this
  rw [this, encI, ← List.map_take]

theorem orderFor_tl {L : List Blk} {b i : Nat} {os : List Int} {c : Option Nat} (hb : cellsAt L b = some (encI os)) (hk : i ≤ os.length) : srcCells false L (.slice (some (b, i)) 1 (os.length - i) c) = some (os.length - i, encI (os.drop i)) := by
  have := src_part (L := L) (q := b) (sz := 1) (o := i) (k := os.length - i) (n := 0) c hb (by simp; omega)
  rw [Nat.mul_one, Nat.mul_one, List.take_of_length_le (by simp)] at this
  rw [this, encI, ← List.map_drop]

end Go.Proofs.Ytaikmfldjkbmmaa.Slim

/- Beams: what is drawn. -/
namespace Go.Proofs.Ytaikmfldjkbmmaa.Slim

open Go

set_option linter.unusedSimpArgs false

set_option linter.unusedVariables false

variable {pr : Prims} {H : List Blk} {e : Option Nat}

theorem leastZ (a b : Int) : call T pr f_s_l1Least [.int .i64 a, .int .i64 b] ⟨H, e⟩ = some (.int .i64 (if a < b then a else b), ⟨H, e⟩) := by
  rw [call_eq t_s_l1Least]
  by_cases h : a < b <;> simp +contextual only [a_s_l1Least, c_s_l1Least, h, decide_true, decide_false, go_sem, entry, joinEsc, if_pos, reduceIte, Nat.reduceAdd, Nat.reduceLeDiff, Nat.reduceLT, Nat.reduceEqDiff]

theorem mostZ (a b : Int) : call T pr f_s_l1Most [.int .i64 a, .int .i64 b] ⟨H, e⟩ = some (.int .i64 (if b < a then a else b), ⟨H, e⟩) := by
  rw [call_eq t_s_l1Most]
  by_cases h : b < a <;> simp +contextual only [a_s_l1Most, c_s_l1Most, gt_iff_lt, h, decide_true, decide_false, go_sem, entry, joinEsc, if_pos, reduceIte, Nat.reduceAdd, Nat.reduceLeDiff, Nat.reduceLT, Nat.reduceEqDiff]

set_option maxHeartbeats 4000000 in
theorem wc_beam {q : Nat} {av : AV} {p : Int} (h : Cu H q av p) (hp : p ≤ 10000000000) : Wc (call T pr f_s_l1Cur_beam [.ptr (some (q, 0))] ⟨H, e⟩) (fun v m => ∃ x a b y z : Int, v = bmV x a b ∧ 0 ≤ y ∧ y ≤ p + 20 ∧ m = ⟨H.set q (curB av y z), e⟩) := by
  have hl := h.lt
  rw [call_wc t_s_l1Cur_beam]
  obtain ⟨R, hR⟩ : ∃ R, R = (seqTl (seqTl (seqTl (seqTl (seqTl c_s_l1Cur_beam))))) := ⟨_, rfl⟩
  obtain ⟨R1, hR1⟩ : ∃ R, R = (seqTl (seqTl (seqTl (seqTl c_s_l1Cur_beam)))) := ⟨_, rfl⟩
  have hc1 : R1 = .seq (seqHd R1) R := by rw [hR1, hR]; rfl
  have hc : c_s_l1Cur_beam = (.seq (seqHd c_s_l1Cur_beam) (.seq (seqHd (seqTl c_s_l1Cur_beam)) (.seq (seqHd (seqTl (seqTl c_s_l1Cur_beam))) (.seq (seqHd (seqTl (seqTl (seqTl c_s_l1Cur_beam)))) R1)))) := by rw [hR1]; rfl
  have r : ∀ (x a b y z : Int) (B1 : Blk) (G : List Blk) (w2 w4 w5 w6 w7 w8 : AV), 0 ≤ y → y ≤ p + 20 →
      Wp (run T pr R ⟨[.ptr (some (q, 0)), .ptr (some (H.length, 0)), w2, .ptr (some (H.length + 2, 0)), w4, w5, w6, w7, w8], ⟨H.set q (curB av y z) ++ (.cells [.int .i64 0, .int .i64 0, .int .i64 0] true :: B1 :: .cells [.int .i64 x, .int .i64 a, .int .i64 b] true :: G), none⟩⟩) (retQ a_s_l1Cur_beam ⟨H, e⟩ fun v m => ∃ x a b y z : Int, v = bmV x a b ∧ 0 ≤ y ∧ y ≤ p + 20 ∧ m = ⟨H.set q (curB av y z), e⟩) := by
    rintro x a b y z B1 G w2 w4 w5 w6 w7 w8 hy0 hy1
    rw [hR]
    simp (maxSteps := 2000000) +contextual only [a_s_l1Cur_beam, c_s_l1Cur_beam, seqTl, seqHd, hl, cellsAt_s0, cellsAt_sk, blkAt_s0, blkAt_sk, set_s0, set_sk, set_sapp, set_app, List.set_set, List.length_set, finish_one_setG, finish_one_set0, clean_none', Nat.add_assoc, Wp_some, Wp_none, Wp_ite, Wc_some, Wc_none, Wc_ite, Wp_thenRun, seqQ_normal, seqQ_exit, seqQ_ret, Wp_inBlock, blkQ_normal, blkQ_ret, blkQ_same, blkQ_exit, Wp_opThen, opQ_at, Wp_guardP, retQ_normal, retQ_ret, loopQ_normal, loopQ_exit, loopQ_ret, finish_one_eq, finish_one_eq0, finish_two_eq, finish_two_eq0, roots_slice_new, roots_slice_new0, roots_slice_none, roots_ptr_new, roots_ptr_new0, roots_int, roots_bool, roots_str, roots_agg, roots_tup, roots_cons, roots_nil, rename_slice, rename_slice_none, rename_ptr, rename_int, rename_bool, rename_str, rename_agg, rename_tup, rename_cons, rename_nil, keepBlks_nil, keepBlks_cons, flatAll_nil, flatAll_cons, flatBlk_cells, dedup_nil, dedup_one, dedup_two, renum_one, renum_one0, renum_two0, renum_two1, clean_none', clean_some, minEsc_none, minEsc_some, Nat.add_left_cancel_iff, Nat.le_add_right, Nat.le_refl, decide_true, go_sem, entry, joinEsc, if_pos, reduceIte, Nat.reduceAdd, Nat.reduceLeDiff, Nat.reduceLT, Nat.reduceEqDiff]
    exact ⟨x, a, b, y, z, rfl, hy0, hy1, rfl⟩
  have r1 : ∀ (x a b y z : Int) (B1 : Blk) (w2 w4 w5 w6 w7 w8 : AV), 0 ≤ y → y ≤ p + 12 →
      Wp (run T pr R1 ⟨[.ptr (some (q, 0)), .ptr (some (H.length, 0)), w2, .ptr (some (H.length + 2, 0)), w4, w5, w6, w7, w8], ⟨H.set q (curB av y z) ++ [.cells [.int .i64 0, .int .i64 0, .int .i64 0] true, B1, .cells [.int .i64 x, .int .i64 a, .int .i64 b] true], none⟩⟩) (retQ a_s_l1Cur_beam ⟨H, e⟩ fun v m => ∃ x a b y z : Int, v = bmV x a b ∧ 0 ≤ y ∧ y ≤ p + 20 ∧ m = ⟨H.set q (curB av y z), e⟩) := by
    rintro x a b y z B1 w2 w4 w5 w6 w7 w8 hy0 hy1
    have h1 := h.step hy0 z
    rw [hc1]
    simp (maxSteps := 2000000) +contextual only [hR1, c_s_l1Cur_beam, seqTl, seqHd, hl, cellsAt_s0, cellsAt_sk, blkAt_s0, blkAt_sk, set_s0, set_sk, set_sapp, set_app, List.set_set, List.length_set, finish_one_setG, finish_one_set0, clean_none', Nat.add_assoc, Wp_some, Wp_none, Wp_ite, Wc_some, Wc_none, Wc_ite, Wp_thenRun, seqQ_normal, seqQ_exit, seqQ_ret, Wp_inBlock, blkQ_normal, blkQ_ret, blkQ_same, blkQ_exit, Wp_opThen, opQ_at, Wp_guardP, retQ_normal, retQ_ret, loopQ_normal, loopQ_exit, loopQ_ret, go_sem, entry, joinEsc, if_pos, reduceIte, Nat.reduceAdd, Nat.reduceLeDiff, Nat.reduceLT, Nat.reduceEqDiff]
    refine (wc_pick 50 (h1.more _) (by omega) (by omega)).mono ?_
    rintro v m ⟨x5, y5, z5, rfl, hx50, hx51, hy50, hy51, rfl⟩
    have h5 := h1.step hy50 z5
    rw [List.set_set] at h5
    by_cases c0 : x5 = 0
    · subst c0
      simp (maxSteps := 2000000) +contextual only [fillParts, hl, decide_true, cellsAt_s0, cellsAt_sk, blkAt_s0, blkAt_sk, set_s0, set_sk, set_sapp, set_app, List.set_set, List.length_set, finish_one_setG, finish_one_set0, clean_none', Nat.add_assoc, Wp_some, Wp_none, Wp_ite, Wc_some, Wc_none, Wc_ite, Wp_thenRun, seqQ_normal, seqQ_exit, seqQ_ret, Wp_inBlock, blkQ_normal, blkQ_ret, blkQ_same, blkQ_exit, Wp_opThen, opQ_at, Wp_guardP, retQ_normal, retQ_ret, loopQ_normal, loopQ_exit, loopQ_ret, go_sem, entry, joinEsc, if_pos, reduceIte, Nat.reduceAdd, Nat.reduceLeDiff, Nat.reduceLT, Nat.reduceEqDiff]
      refine (amongZ (n := 3) [0, 61, -1] (h5.more _) (by omega) (by simp +contextual only [cellsAt_s0, cellsAt_sk, blkAt_s0, blkAt_sk, set_s0, set_sk, set_sapp, set_app, List.set_set, List.length_set, finish_one_setG, finish_one_set0, clean_none', Nat.add_assoc, go_sem, entry, joinEsc, if_pos, reduceIte, Nat.reduceAdd, Nat.reduceLeDiff, Nat.reduceLT, Nat.reduceEqDiff]) (by omega) rfl (by omega) (by omega)).mono ?_
      rintro v m ⟨x6, y6, z6, rfl, hx6, hy60, hy61, rfl⟩
      simp (maxSteps := 2000000) +contextual only [fillParts, hl, decide_true, cellsAt_s0, cellsAt_sk, blkAt_s0, blkAt_sk, set_s0, set_sk, set_sapp, set_app, List.set_set, List.length_set, finish_one_setG, finish_one_set0, clean_none', Nat.add_assoc, Wp_some, Wp_none, Wp_ite, Wc_some, Wc_none, Wc_ite, Wp_thenRun, seqQ_normal, seqQ_exit, seqQ_ret, Wp_inBlock, blkQ_normal, blkQ_ret, blkQ_same, blkQ_exit, Wp_opThen, opQ_at, Wp_guardP, retQ_normal, retQ_ret, loopQ_normal, loopQ_exit, loopQ_ret, go_sem, entry, joinEsc, if_pos, reduceIte, Nat.reduceAdd, Nat.reduceLeDiff, Nat.reduceLT, Nat.reduceEqDiff]
      exact r _ _ _ _ _ _ _ _ _ _ _ _ _ hy60 (by omega)
    · have c0' : decide (x5 = 0) = false := decide_eq_false c0
      by_cases c1 : x5 = 1
      · subst c1
        simp (maxSteps := 2000000) +contextual only [fillParts, hl, c0', decide_true, cellsAt_s0, cellsAt_sk, blkAt_s0, blkAt_sk, set_s0, set_sk, set_sapp, set_app, List.set_set, List.length_set, finish_one_setG, finish_one_set0, clean_none', Nat.add_assoc, Wp_some, Wp_none, Wp_ite, Wc_some, Wc_none, Wc_ite, Wp_thenRun, seqQ_normal, seqQ_exit, seqQ_ret, Wp_inBlock, blkQ_normal, blkQ_ret, blkQ_same, blkQ_exit, Wp_opThen, opQ_at, Wp_guardP, retQ_normal, retQ_ret, loopQ_normal, loopQ_exit, loopQ_ret, go_sem, entry, joinEsc, if_pos, reduceIte, Nat.reduceAdd, Nat.reduceLeDiff, Nat.reduceLT, Nat.reduceEqDiff]
        refine (amongZ (n := 3) [-1, b, IntKind.i64.wrap (b + 1)] (h5.more _) (by omega) (by simp +contextual only [cellsAt_s0, cellsAt_sk, blkAt_s0, blkAt_sk, set_s0, set_sk, set_sapp, set_app, List.set_set, List.length_set, finish_one_setG, finish_one_set0, clean_none', Nat.add_assoc, go_sem, entry, joinEsc, if_pos, reduceIte, Nat.reduceAdd, Nat.reduceLeDiff, Nat.reduceLT, Nat.reduceEqDiff]) (by omega) rfl (by omega) (by omega)).mono ?_
        rintro v m ⟨x6, y6, z6, rfl, hx6, hy60, hy61, rfl⟩
        simp (maxSteps := 2000000) +contextual only [fillParts, hl, decide_true, cellsAt_s0, cellsAt_sk, blkAt_s0, blkAt_sk, set_s0, set_sk, set_sapp, set_app, List.set_set, List.length_set, finish_one_setG, finish_one_set0, clean_none', Nat.add_assoc, Wp_some, Wp_none, Wp_ite, Wc_some, Wc_none, Wc_ite, Wp_thenRun, seqQ_normal, seqQ_exit, seqQ_ret, Wp_inBlock, blkQ_normal, blkQ_ret, blkQ_same, blkQ_exit, Wp_opThen, opQ_at, Wp_guardP, retQ_normal, retQ_ret, loopQ_normal, loopQ_exit, loopQ_ret, go_sem, entry, joinEsc, if_pos, reduceIte, Nat.reduceAdd, Nat.reduceLeDiff, Nat.reduceLT, Nat.reduceEqDiff]
        exact r _ _ _ _ _ _ _ _ _ _ _ _ _ hy60 (by omega)
      · have c1' : decide (x5 = 1) = false := decide_eq_false c1
        by_cases c2 : x5 = 2
        · subst c2
          simp (maxSteps := 2000000) +contextual only [fillParts, hl, c0', c1', decide_true, cellsAt_s0, cellsAt_sk, blkAt_s0, blkAt_sk, set_s0, set_sk, set_sapp, set_app, List.set_set, List.length_set, finish_one_setG, finish_one_set0, clean_none', Nat.add_assoc, Wp_some, Wp_none, Wp_ite, Wc_some, Wc_none, Wc_ite, Wp_thenRun, seqQ_normal, seqQ_exit, seqQ_ret, Wp_inBlock, blkQ_normal, blkQ_ret, blkQ_same, blkQ_exit, Wp_opThen, opQ_at, Wp_guardP, retQ_normal, retQ_ret, loopQ_normal, loopQ_exit, loopQ_ret, go_sem, entry, joinEsc, if_pos, reduceIte, Nat.reduceAdd, Nat.reduceLeDiff, Nat.reduceLT, Nat.reduceEqDiff]
          refine (amongZ (n := 3) [IntKind.i64.wrap (x + 1), 0, 4611686018427387904] (h5.more _) (by omega) (by simp +contextual only [cellsAt_s0, cellsAt_sk, blkAt_s0, blkAt_sk, set_s0, set_sk, set_sapp, set_app, List.set_set, List.length_set, finish_one_setG, finish_one_set0, clean_none', Nat.add_assoc, go_sem, entry, joinEsc, if_pos, reduceIte, Nat.reduceAdd, Nat.reduceLeDiff, Nat.reduceLT, Nat.reduceEqDiff]) (by omega) rfl (by omega) (by omega)).mono ?_
          rintro v m ⟨x6, y6, z6, rfl, hx6, hy60, hy61, rfl⟩
          simp (maxSteps := 2000000) +contextual only [fillParts, hl, decide_true, cellsAt_s0, cellsAt_sk, blkAt_s0, blkAt_sk, set_s0, set_sk, set_sapp, set_app, List.set_set, List.length_set, finish_one_setG, finish_one_set0, clean_none', Nat.add_assoc, Wp_some, Wp_none, Wp_ite, Wc_some, Wc_none, Wc_ite, Wp_thenRun, seqQ_normal, seqQ_exit, seqQ_ret, Wp_inBlock, blkQ_normal, blkQ_ret, blkQ_same, blkQ_exit, Wp_opThen, opQ_at, Wp_guardP, retQ_normal, retQ_ret, loopQ_normal, loopQ_exit, loopQ_ret, go_sem, entry, joinEsc, if_pos, reduceIte, Nat.reduceAdd, Nat.reduceLeDiff, Nat.reduceLT, Nat.reduceEqDiff]
          exact r _ _ _ _ _ _ _ _ _ _ _ _ _ hy60 (by omega)
        · have c2' : decide (x5 = 2) = false := decide_eq_false c2
          simp (maxSteps := 2000000) +contextual only [hl, c0', c1', c2', cellsAt_s0, cellsAt_sk, blkAt_s0, blkAt_sk, set_s0, set_sk, set_sapp, set_app, List.set_set, List.length_set, finish_one_setG, finish_one_set0, clean_none', Nat.add_assoc, Wp_some, Wp_none, Wp_ite, Wc_some, Wc_none, Wc_ite, Wp_thenRun, seqQ_normal, seqQ_exit, seqQ_ret, Wp_inBlock, blkQ_normal, blkQ_ret, blkQ_same, blkQ_exit, Wp_opThen, opQ_at, Wp_guardP, retQ_normal, retQ_ret, loopQ_normal, loopQ_exit, loopQ_ret, go_sem, entry, joinEsc, if_pos, reduceIte, Nat.reduceAdd, Nat.reduceLeDiff, Nat.reduceLT, Nat.reduceEqDiff]
          exact r _ _ _ _ _ _ _ _ _ _ _ _ _ hy50 (by omega)
  show Wp (run T pr c_s_l1Cur_beam _) _
  rw [hc]
  simp (maxSteps := 2000000) +contextual only [a_s_l1Cur_beam, c_s_l1Cur_beam, seqTl, seqHd, fillParts, cellsAt_s0, cellsAt_sk, blkAt_s0, blkAt_sk, set_s0, set_sk, set_sapp, set_app, List.set_set, List.length_set, finish_one_setG, finish_one_set0, clean_none', Nat.add_assoc, Wp_some, Wp_none, Wp_ite, Wc_some, Wc_none, Wc_ite, Wp_thenRun, seqQ_normal, seqQ_exit, seqQ_ret, Wp_inBlock, blkQ_normal, blkQ_ret, blkQ_same, blkQ_exit, Wp_opThen, opQ_at, Wp_guardP, retQ_normal, retQ_ret, loopQ_normal, loopQ_exit, loopQ_ret, go_sem, entry, joinEsc, if_pos, reduceIte, Nat.reduceAdd, Nat.reduceLeDiff, Nat.reduceLT, Nat.reduceEqDiff]
  refine (amongZ (n := 8) [8, 10, 6, 4, 12, 1, 20, 60] (h.more _) (by omega) (by simp +contextual only [cellsAt_s0, cellsAt_sk, blkAt_s0, blkAt_sk, set_s0, set_sk, set_sapp, set_app, List.set_set, List.length_set, finish_one_setG, finish_one_set0, clean_none', Nat.add_assoc, go_sem, entry, joinEsc, if_pos, reduceIte, Nat.reduceAdd, Nat.reduceLeDiff, Nat.reduceLT, Nat.reduceEqDiff]) (by omega) rfl (by omega) (by omega)).mono ?_
  rintro v m ⟨x1, y1, z1, rfl, hx1, hy10, hy11, rfl⟩
  have h1 := h.step hy10 z1
  have hx1' : 0 ≤ x1 ∧ x1 ≤ 60 := by
    simp at hx1
    omega
  simp (maxSteps := 2000000) +contextual only [fillParts, hl, cellsAt_s0, cellsAt_sk, blkAt_s0, blkAt_sk, set_s0, set_sk, set_sapp, set_app, List.set_set, List.length_set, finish_one_setG, finish_one_set0, clean_none', Nat.add_assoc, Wp_some, Wp_none, Wp_ite, Wc_some, Wc_none, Wc_ite, Wp_thenRun, seqQ_normal, seqQ_exit, seqQ_ret, Wp_inBlock, blkQ_normal, blkQ_ret, blkQ_same, blkQ_exit, Wp_opThen, opQ_at, Wp_guardP, retQ_normal, retQ_ret, loopQ_normal, loopQ_exit, loopQ_ret, go_sem, entry, joinEsc, if_pos, reduceIte, Nat.reduceAdd, Nat.reduceLeDiff, Nat.reduceLT, Nat.reduceEqDiff]
  refine (wc_one 2 (h1.more _) (by omega) (by omega)).mono ?_
  rintro v m ⟨x2, y2, z2, rfl, hy20, hy21, rfl⟩
  have h2 := h1.step hy20 z2
  rw [List.set_set] at h2
  cases x2 with
  | false =>
    simp (maxSteps := 2000000) +contextual only [hl, cellsAt_s0, cellsAt_sk, blkAt_s0, blkAt_sk, set_s0, set_sk, set_sapp, set_app, List.set_set, List.length_set, finish_one_setG, finish_one_set0, clean_none', Nat.add_assoc, Wp_some, Wp_none, Wp_ite, Wc_some, Wc_none, Wc_ite, Wp_thenRun, seqQ_normal, seqQ_exit, seqQ_ret, Wp_inBlock, blkQ_normal, blkQ_ret, blkQ_same, blkQ_exit, Wp_opThen, opQ_at, Wp_guardP, retQ_normal, retQ_ret, loopQ_normal, loopQ_exit, loopQ_ret, go_sem, entry, joinEsc, if_pos, reduceIte, Nat.reduceAdd, Nat.reduceLeDiff, Nat.reduceLT, Nat.reduceEqDiff]
    exact r1 _ _ _ _ _ _ _ _ _ _ _ _ hy20 (by omega)
  | true =>
    simp (maxSteps := 2000000) +contextual only [hl, cellsAt_s0, cellsAt_sk, blkAt_s0, blkAt_sk, set_s0, set_sk, set_sapp, set_app, List.set_set, List.length_set, finish_one_setG, finish_one_set0, clean_none', Nat.add_assoc, Wp_some, Wp_none, Wp_ite, Wc_some, Wc_none, Wc_ite, Wp_thenRun, seqQ_normal, seqQ_exit, seqQ_ret, Wp_inBlock, blkQ_normal, blkQ_ret, blkQ_same, blkQ_exit, Wp_opThen, opQ_at, Wp_guardP, retQ_normal, retQ_ret, loopQ_normal, loopQ_exit, loopQ_ret, go_sem, entry, joinEsc, if_pos, reduceIte, Nat.reduceAdd, Nat.reduceLeDiff, Nat.reduceLT, Nat.reduceEqDiff]
    refine (wc_pick x1 (h2.more _) (by omega) (by omega)).mono ?_
    rintro v m ⟨x3, y3, z3, rfl, hx30, hx31, hy30, hy31, rfl⟩
    have h3 := h2.step hy30 z3
    rw [List.set_set] at h3
    have hw : IntKind.i64.wrap (x1 - x3) = x1 - x3 := wrap64 (by omega) (by omega)
    simp (maxSteps := 2000000) +contextual only [hl, hw, cellsAt_s0, cellsAt_sk, blkAt_s0, blkAt_sk, set_s0, set_sk, set_sapp, set_app, List.set_set, List.length_set, finish_one_setG, finish_one_set0, clean_none', Nat.add_assoc, Wp_some, Wp_none, Wp_ite, Wc_some, Wc_none, Wc_ite, Wp_thenRun, seqQ_normal, seqQ_exit, seqQ_ret, Wp_inBlock, blkQ_normal, blkQ_ret, blkQ_same, blkQ_exit, Wp_opThen, opQ_at, Wp_guardP, retQ_normal, retQ_ret, loopQ_normal, loopQ_exit, loopQ_ret, go_sem, entry, joinEsc, if_pos, reduceIte, Nat.reduceAdd, Nat.reduceLeDiff, Nat.reduceLT, Nat.reduceEqDiff]
    refine (wc_pick (x1 - x3) (h3.more _) (by omega) (by omega)).mono ?_
    rintro v m ⟨x4, y4, z4, rfl, hx40, hx41, hy40, hy41, rfl⟩
    simp (maxSteps := 2000000) +contextual only [hl, hw, cellsAt_s0, cellsAt_sk, blkAt_s0, blkAt_sk, set_s0, set_sk, set_sapp, set_app, List.set_set, List.length_set, finish_one_setG, finish_one_set0, clean_none', Nat.add_assoc, Wp_some, Wp_none, Wp_ite, Wc_some, Wc_none, Wc_ite, Wp_thenRun, seqQ_normal, seqQ_exit, seqQ_ret, Wp_inBlock, blkQ_normal, blkQ_ret, blkQ_same, blkQ_exit, Wp_opThen, opQ_at, Wp_guardP, retQ_normal, retQ_ret, loopQ_normal, loopQ_exit, loopQ_ret, go_sem, entry, joinEsc, if_pos, reduceIte, Nat.reduceAdd, Nat.reduceLeDiff, Nat.reduceLT, Nat.reduceEqDiff]
    exact r1 _ _ _ _ _ _ _ _ _ _ _ _ hy40 (by omega)

set_option maxHeartbeats 4000000 in
theorem wc_someRow {q : Nat} {av : AV} {p : Int} (h : Cu H q av p) (hp : p ≤ 1000000000) : Wc (call T pr f_s_l1Cur_someRow [.ptr (some (q, 0)), .int .i64 12] ⟨H, e⟩) (fun v m => ∃ (ls : List Ld) (c : Option Nat) (y z : Int), v = slL H.length ls.length c ∧ ls.length ≤ 13 ∧ 0 ≤ y ∧ y ≤ p + 300 ∧ m = ⟨H.set q (curB av y z) ++ [.cells (encL ls) true], e⟩) := by
  have hl := h.lt
  rw [call_wc t_s_l1Cur_someRow]
  obtain ⟨R, hR⟩ : ∃ R, R = (seqTl (seqTl (seqTl (seqTl c_s_l1Cur_someRow)))) := ⟨_, rfl⟩
  have hc : c_s_l1Cur_someRow = (.seq (seqHd c_s_l1Cur_someRow) (.seq (seqHd (seqTl c_s_l1Cur_someRow)) (.seq (seqHd (seqTl (seqTl c_s_l1Cur_someRow))) (.seq (seqHd (seqTl (seqTl (seqTl c_s_l1Cur_someRow)))) R)))) := by rw [hR]; rfl
  have r : ∀ (ls : List Ld) (b : Nat) (c : Option Nat) (y z : Int) (L : List Blk) (w2 w4 w5 w6 w7 w8 w9 w10 w11 w12 : AV), 0 ≤ y → y ≤ p + 300 → ls.length ≤ 13 → H.length ≤ b → Grown (H.set q (curB av y z)) L → L[b]? = some (.cells (encL ls) true) →
      Wp (run T pr R ⟨[.ptr (some (q, 0)), .int .i64 12, w2, slL b ls.length c, w4, w5, w6, w7, w8, w9, w10, w11, w12], ⟨L, none⟩⟩) (retQ a_s_l1Cur_someRow ⟨H, e⟩ fun v m => ∃ (ls : List Ld) (c : Option Nat) (y z : Int), v = slL H.length ls.length c ∧ ls.length ≤ 13 ∧ 0 ≤ y ∧ y ≤ p + 300 ∧ m = ⟨H.set q (curB av y z) ++ [.cells (encL ls) true], e⟩) := by
    rintro ls b c y z L w2 w4 w5 w6 w7 w8 w9 w10 w11 w12 hy0 hy1 hn hb hg hL
    have hf := finish_sl_set (H := H) (sz := 2) (n := ls.length) (c := c) hg e none rfl hb hL (under_encL _ _)
    rw [hR]
    simp (maxSteps := 2000000) +contextual only [a_s_l1Cur_someRow, c_s_l1Cur_someRow, seqTl, seqHd, hl, hf, Wp_some, Wp_none, Wp_ite, Wc_some, Wc_none, Wc_ite, Wp_thenRun, seqQ_normal, seqQ_exit, seqQ_ret, Wp_inBlock, blkQ_normal, blkQ_ret, blkQ_same, blkQ_exit, Wp_opThen, opQ_at, Wp_guardP, retQ_normal, retQ_ret, loopQ_normal, loopQ_exit, loopQ_ret, go_sem, entry, joinEsc, if_pos, reduceIte, Nat.reduceAdd, Nat.reduceLeDiff, Nat.reduceLT, Nat.reduceEqDiff]
    exact ⟨ls, c, y, z, rfl, hn, hy0, hy1, rfl⟩
  show Wp (run T pr c_s_l1Cur_someRow _) _
  rw [hc]
  simp (maxSteps := 2000000) +contextual only [a_s_l1Cur_someRow, c_s_l1Cur_someRow, seqTl, seqHd, fillParts, cellsAt_s0, cellsAt_sk, blkAt_s0, blkAt_sk, set_s0, set_sk, set_sapp, set_app, List.set_set, List.length_set, finish_one_setG, finish_one_set0, clean_none', Nat.add_assoc, Wp_some, Wp_none, Wp_ite, Wc_some, Wc_none, Wc_ite, Wp_thenRun, seqQ_normal, seqQ_exit, seqQ_ret, Wp_inBlock, blkQ_normal, blkQ_ret, blkQ_same, blkQ_exit, Wp_opThen, opQ_at, Wp_guardP, retQ_normal, retQ_ret, loopQ_normal, loopQ_exit, loopQ_ret, go_sem, entry, joinEsc, if_pos, reduceIte, Nat.reduceAdd, Nat.reduceLeDiff, Nat.reduceLT, Nat.reduceEqDiff]
  refine (amongZ (n := 7) [3, 2, 4, 1, 0, 6, 12] (h.more _) (by omega) (by simp +contextual only [cellsAt_s0, cellsAt_sk, blkAt_s0, blkAt_sk, set_s0, set_sk, set_sapp, set_app, List.set_set, List.length_set, finish_one_setG, finish_one_set0, clean_none', Nat.add_assoc, go_sem, entry, joinEsc, if_pos, reduceIte, Nat.reduceAdd, Nat.reduceLeDiff, Nat.reduceLT, Nat.reduceEqDiff]) (by omega) rfl (by omega) (by omega)).mono ?_
  rintro v m ⟨x1, y1, z1, rfl, hx1, hy10, hy11, rfl⟩
  have hx1' : 0 ≤ x1 ∧ x1 ≤ 12 := by
    simp at hx1
    omega
  obtain ⟨n, rfl⟩ : ∃ n : Nat, x1 = (n : Int) := ⟨x1.toNat, by omega⟩
  have hle : (if (n : Int) < 12 then (n : Int) else 12) = (n : Int) := by split <;> omega
  simp (maxSteps := 2000000) +contextual only [hl, leastZ, hle, cellsAt_s0, cellsAt_sk, blkAt_s0, blkAt_sk, set_s0, set_sk, set_sapp, set_app, List.set_set, List.length_set, finish_one_setG, finish_one_set0, clean_none', Nat.add_assoc, Wp_some, Wp_none, Wp_ite, Wc_some, Wc_none, Wc_ite, Wp_thenRun, seqQ_normal, seqQ_exit, seqQ_ret, Wp_inBlock, blkQ_normal, blkQ_ret, blkQ_same, blkQ_exit, Wp_opThen, opQ_at, Wp_guardP, retQ_normal, retQ_ret, loopQ_normal, loopQ_exit, loopQ_ret, go_sem, entry, joinEsc, if_pos, reduceIte, Nat.reduceAdd, Nat.reduceLeDiff, Nat.reduceLT, Nat.reduceEqDiff]
  refine Wp_loop (fun k st => ∃ (ls : List Ld) (b : Nat) (c : Option Nat) (y z : Int) (L : List Blk) (w5 w6 w7 w8 w9 w10 w11 w12 : AV), 0 ≤ y ∧ y + (k : Int) * 8 ≤ p + 120 ∧ ls.length + k ≤ 12 ∧ (c = some 0 → ls.length = 0) ∧ H.length ≤ b ∧ Grown (H.set q (curB av y z)) L ∧ L[b]? = some (.cells (encL ls) true) ∧
      st = ⟨[.ptr (some (q, 0)), .int .i64 12, .slice none 0 0 none, slL b ls.length c, .int .i64 k, w5, w6, w7, w8, w9, w10, w11, w12], ⟨L, none⟩⟩) ?_ n _
    ⟨[], H.length, some 0, y1, z1, _, _, _, _, _, _, _, _, _, hy10, by omega, by simp; omega, fun _ => rfl, Nat.le_refl _, ⟨_, rfl⟩, by rw [blkAt_s0]; rfl, rfl⟩
  rintro k _ ⟨ls, b, c, y, z, L, w5, w6, w7, w8, w9, w10, w11, w12, hy0, hy1, hn, hcap, hb, hg, hL, rfl⟩
  have h4 := hg.curs h hy0
  have hqb : b ≠ q := by omega
  by_cases hk : k = 0
  · subst hk
    have hd : decide ((0 : Int) < ((0 : Nat) : Int)) = false := by decide
    have hd' : ¬ ((0 : Int) < ((0 : Nat) : Int)) := by omega
    by_cases h0 : ls.length = 0
    · have h0' : decide ((0 : Int) < (ls.length : Int)) = false := decide_eq_false (by omega)
      simp (maxSteps := 2000000) +contextual only [w_s_l1Cur_someRow_1, gt_iff_lt, hd, hd', h0', decide_false, Wp_some, Wp_none, Wp_ite, Wc_some, Wc_none, Wc_ite, Wp_thenRun, seqQ_normal, seqQ_exit, seqQ_ret, Wp_inBlock, blkQ_normal, blkQ_ret, blkQ_same, blkQ_exit, Wp_opThen, opQ_at, Wp_guardP, retQ_normal, retQ_ret, loopQ_normal, loopQ_exit, loopQ_ret, go_sem, entry, joinEsc, if_pos, reduceIte, Nat.reduceAdd, Nat.reduceLeDiff, Nat.reduceLT, Nat.reduceEqDiff]
      exact r ls b c y z L _ _ _ _ _ _ _ _ _ _ hy0 (by omega) (by omega) hb hg hL
    · have h0' : decide ((0 : Int) < (ls.length : Int)) = true := decide_eq_true (by omega)
      simp (maxSteps := 2000000) +contextual only [w_s_l1Cur_someRow_1, gt_iff_lt, hd, hd', h0', decide_true, decide_false, Wp_some, Wp_none, Wp_ite, Wc_some, Wc_none, Wc_ite, Wp_thenRun, seqQ_normal, seqQ_exit, seqQ_ret, Wp_inBlock, blkQ_normal, blkQ_ret, blkQ_same, blkQ_exit, Wp_opThen, opQ_at, Wp_guardP, retQ_normal, retQ_ret, loopQ_normal, loopQ_exit, loopQ_ret, go_sem, entry, joinEsc, if_pos, reduceIte, Nat.reduceAdd, Nat.reduceLeDiff, Nat.reduceLT, Nat.reduceEqDiff]
      refine (wc_pick 60 h4 (by omega) (by omega)).mono ?_
      rintro v m ⟨x5, y5, z5, rfl, hx50, hx51, hy50, hy51, rfl⟩
      have hg5 := hg.cur hl (curB av y5 z5)
      have h5 := hg5.curs h hy50
      have hL5 : (L.set q (curB av y5 z5))[b]? = some (.cells (encL ls) true) := by rw [List.getElem?_set_ne (fun e => hqb e.symm)]; exact hL
      have hlb : (L.set q (curB av y5 z5)).length = L.length := List.length_set
      generalize L.set q (curB av y5 z5) = L5 at *
      have hbl : b < L5.length := (List.getElem?_eq_some_iff.mp hL5).1
      have hLs : ∀ x X, (L5.set q x ++ X)[b]? = some (.cells (encL ls) true) := fun x X => by
        rw [List.getElem?_append_left (by rw [List.length_set]; exact hbl), List.getElem?_set_ne (fun e => hqb e.symm)]
        exact hL5
      have hll : ((2 : Nat) ≤ (encL ls).length) := by rw [encL_length]; omega
      by_cases c0 : x5 = 0
      · subst c0
        simp (maxSteps := 2000000) +contextual only [fillParts, decide_true, Wp_some, Wp_none, Wp_ite, Wc_some, Wc_none, Wc_ite, Wp_thenRun, seqQ_normal, seqQ_exit, seqQ_ret, Wp_inBlock, blkQ_normal, blkQ_ret, blkQ_same, blkQ_exit, Wp_opThen, opQ_at, Wp_guardP, retQ_normal, retQ_ret, loopQ_normal, loopQ_exit, loopQ_ret, go_sem, entry, joinEsc, if_pos, reduceIte, Nat.reduceAdd, Nat.reduceLeDiff, Nat.reduceLT, Nat.reduceEqDiff]
        refine (wc_pick (ls.length : Int) h5 (by omega) (by omega)).mono ?_
        rintro v m ⟨x6, y6, z6, rfl, hx60, hx61, hy60, hy61, rfl⟩
        obtain ⟨i, rfl⟩ : ∃ i : Nat, x6 = (i : Int) := ⟨x6.toNat, by omega⟩
        have hi : i < ls.length := by omega
        have h6 := h5.step hy60 z6
        simp (maxSteps := 2000000) +contextual only [fillParts, hi, cellsAt_s0, cellsAt_sk, blkAt_s0, blkAt_sk, set_s0, set_sk, set_sapp, set_app, List.set_set, List.length_set, finish_one_setG, finish_one_set0, clean_none', Nat.add_assoc, Wp_some, Wp_none, Wp_ite, Wc_some, Wc_none, Wc_ite, Wp_thenRun, seqQ_normal, seqQ_exit, seqQ_ret, Wp_inBlock, blkQ_normal, blkQ_ret, blkQ_same, blkQ_exit, Wp_opThen, opQ_at, Wp_guardP, retQ_normal, retQ_ret, loopQ_normal, loopQ_exit, loopQ_ret, go_sem, entry, joinEsc, if_pos, reduceIte, Nat.reduceAdd, Nat.reduceLeDiff, Nat.reduceLT, Nat.reduceEqDiff]
        refine (amongZ (n := 4) [-1, 60, 61, 4611686018427387904] (h6.more _) (by omega) (by simp +contextual only [cellsAt_s0, cellsAt_sk, blkAt_s0, blkAt_sk, set_s0, set_sk, set_sapp, set_app, List.set_set, List.length_set, finish_one_setG, finish_one_set0, clean_none', Nat.add_assoc, go_sem, entry, joinEsc, if_pos, reduceIte, Nat.reduceAdd, Nat.reduceLeDiff, Nat.reduceLT, Nat.reduceEqDiff]) (by have := h5.lt; omega) rfl (by omega) (by omega)).mono ?_
        rintro v m ⟨x7, y7, z7, rfl, hx7, hy70, hy71, rfl⟩
        obtain ⟨ls', e1, e2⟩ := set_ld0 hi x7
        have hle : i * 2 + 1 ≤ ls.length * 2 := by omega
        simp (maxSteps := 2000000) +contextual only [fillParts, hi, hLs, h5.lt, e2, hle, encL_length, Nat.add_zero, cellsAt_s0, cellsAt_sk, blkAt_s0, blkAt_sk, set_s0, set_sk, set_sapp, set_app, List.set_set, List.length_set, finish_one_setG, finish_one_set0, clean_none', Nat.add_assoc, Wp_some, Wp_none, Wp_ite, Wc_some, Wc_none, Wc_ite, Wp_thenRun, seqQ_normal, seqQ_exit, seqQ_ret, Wp_inBlock, blkQ_normal, blkQ_ret, blkQ_same, blkQ_exit, Wp_opThen, opQ_at, Wp_guardP, retQ_normal, retQ_ret, loopQ_normal, loopQ_exit, loopQ_ret, go_sem, entry, joinEsc, if_pos, reduceIte, Nat.reduceAdd, Nat.reduceLeDiff, Nat.reduceLT, Nat.reduceEqDiff]
        rw [← e1]
        exact r ls' b c y7 z7 _ _ _ _ _ _ _ _ _ _ _ hy70 (by omega) (by omega) hb (((hg5.cur hl _).more _).put (by rw [List.length_set]; exact hb) _) (List.getElem?_set_self (by rw [List.length_append, List.length_set]; omega))
      · have c0' : decide (x5 = 0) = false := decide_eq_false c0
        by_cases c1 : x5 = 1
        · subst c1
          simp (maxSteps := 2000000) +contextual only [fillParts, c0', decide_true, Wp_some, Wp_none, Wp_ite, Wc_some, Wc_none, Wc_ite, Wp_thenRun, seqQ_normal, seqQ_exit, seqQ_ret, Wp_inBlock, blkQ_normal, blkQ_ret, blkQ_same, blkQ_exit, Wp_opThen, opQ_at, Wp_guardP, retQ_normal, retQ_ret, loopQ_normal, loopQ_exit, loopQ_ret, go_sem, entry, joinEsc, if_pos, reduceIte, Nat.reduceAdd, Nat.reduceLeDiff, Nat.reduceLT, Nat.reduceEqDiff]
          refine (wc_pick (ls.length : Int) h5 (by omega) (by omega)).mono ?_
          rintro v m ⟨x6, y6, z6, rfl, hx60, hx61, hy60, hy61, rfl⟩
          obtain ⟨i, rfl⟩ : ∃ i : Nat, x6 = (i : Int) := ⟨x6.toNat, by omega⟩
          have hi : i < ls.length := by omega
          have h6 := h5.step hy60 z6
          simp (maxSteps := 2000000) +contextual only [fillParts, hi, cellsAt_s0, cellsAt_sk, blkAt_s0, blkAt_sk, set_s0, set_sk, set_sapp, set_app, List.set_set, List.length_set, finish_one_setG, finish_one_set0, clean_none', Nat.add_assoc, Wp_some, Wp_none, Wp_ite, Wc_some, Wc_none, Wc_ite, Wp_thenRun, seqQ_normal, seqQ_exit, seqQ_ret, Wp_inBlock, blkQ_normal, blkQ_ret, blkQ_same, blkQ_exit, Wp_opThen, opQ_at, Wp_guardP, retQ_normal, retQ_ret, loopQ_normal, loopQ_exit, loopQ_ret, go_sem, entry, joinEsc, if_pos, reduceIte, Nat.reduceAdd, Nat.reduceLeDiff, Nat.reduceLT, Nat.reduceEqDiff]
          refine (amongZ (n := 4) [0, 99, 100, -1] (h6.more _) (by omega) (by simp +contextual only [cellsAt_s0, cellsAt_sk, blkAt_s0, blkAt_sk, set_s0, set_sk, set_sapp, set_app, List.set_set, List.length_set, finish_one_setG, finish_one_set0, clean_none', Nat.add_assoc, go_sem, entry, joinEsc, if_pos, reduceIte, Nat.reduceAdd, Nat.reduceLeDiff, Nat.reduceLT, Nat.reduceEqDiff]) (by have := h5.lt; omega) rfl (by omega) (by omega)).mono ?_
          rintro v m ⟨x7, y7, z7, rfl, hx7, hy70, hy71, rfl⟩
          obtain ⟨ls', e1, e2⟩ := set_ld1 hi x7
          have hle : i * 2 + 1 + 1 ≤ ls.length * 2 := by omega
          simp (maxSteps := 2000000) +contextual only [fillParts, hi, hLs, h5.lt, e2, hle, encL_length, Nat.add_zero, cellsAt_s0, cellsAt_sk, blkAt_s0, blkAt_sk, set_s0, set_sk, set_sapp, set_app, List.set_set, List.length_set, finish_one_setG, finish_one_set0, clean_none', Nat.add_assoc, Wp_some, Wp_none, Wp_ite, Wc_some, Wc_none, Wc_ite, Wp_thenRun, seqQ_normal, seqQ_exit, seqQ_ret, Wp_inBlock, blkQ_normal, blkQ_ret, blkQ_same, blkQ_exit, Wp_opThen, opQ_at, Wp_guardP, retQ_normal, retQ_ret, loopQ_normal, loopQ_exit, loopQ_ret, go_sem, entry, joinEsc, if_pos, reduceIte, Nat.reduceAdd, Nat.reduceLeDiff, Nat.reduceLT, Nat.reduceEqDiff]
          rw [← e1]
          exact r ls' b c y7 z7 _ _ _ _ _ _ _ _ _ _ _ hy70 (by omega) (by omega) hb (((hg5.cur hl _).more _).put (by rw [List.length_set]; exact hb) _) (List.getElem?_set_self (by rw [List.length_append, List.length_set]; omega))
        · have c1' : decide (x5 = 1) = false := decide_eq_false c1
          by_cases c2 : x5 = 2
          · subst c2
            simp (maxSteps := 2000000) +contextual only [c0', c1', decide_true, Wp_some, Wp_none, Wp_ite, Wc_some, Wc_none, Wc_ite, Wp_thenRun, seqQ_normal, seqQ_exit, seqQ_ret, Wp_inBlock, blkQ_normal, blkQ_ret, blkQ_same, blkQ_exit, Wp_opThen, opQ_at, Wp_guardP, retQ_normal, retQ_ret, loopQ_normal, loopQ_exit, loopQ_ret, go_sem, entry, joinEsc, if_pos, reduceIte, Nat.reduceAdd, Nat.reduceLeDiff, Nat.reduceLT, Nat.reduceEqDiff]
            refine Wp_loop (fun k st => ∃ (ls : List Ld) (b : Nat) (c : Option Nat) (L : List Blk) (w2 w4 w5 w6 w7 w8 w9 w10 w11 w12 : AV), ls.length + k = 13 ∧ (c = some 0 → ls.length = 0) ∧ H.length ≤ b ∧ Grown (H.set q (curB av y5 z5)) L ∧ L[b]? = some (.cells (encL ls) true) ∧
                st = ⟨[.ptr (some (q, 0)), .int .i64 12, w2, slL b ls.length c, w4, w5, w6, w7, w8, w9, w10, w11, w12], ⟨L, none⟩⟩) ?_ (13 - ls.length) _
              ⟨ls, b, c, L5, _, _, _, _, _, _, _, _, _, _, by omega, hcap, hb, hg5, hL5, rfl⟩
            rintro k _ ⟨ls, b, c, L, w2, w4, w5, w6, w7, w8, w9, w10, w11, w12, hn, hcap, hb, hg, hL, rfl⟩
            by_cases hk : k = 0
            · have hd : decide ((ls.length : Int) < 13) = false := decide_eq_false (by omega)
              simp (maxSteps := 2000000) +contextual only [w_s_l1Cur_someRow_2, hd, Wp_some, Wp_none, Wp_ite, Wc_some, Wc_none, Wc_ite, Wp_thenRun, seqQ_normal, seqQ_exit, seqQ_ret, Wp_inBlock, blkQ_normal, blkQ_ret, blkQ_same, blkQ_exit, Wp_opThen, opQ_at, Wp_guardP, retQ_normal, retQ_ret, loopQ_normal, loopQ_exit, loopQ_ret, go_sem, entry, joinEsc, if_pos, reduceIte, Nat.reduceAdd, Nat.reduceLeDiff, Nat.reduceLT, Nat.reduceEqDiff]
              exact r ls b c y5 z5 L _ _ _ _ _ _ _ _ _ _ hy50 (by omega) (by omega) hb hg hL
            · have hd : decide ((ls.length : Int) < 13) = true := decide_eq_true (by omega)
              have hap := fun M q' c' (hb : M[b]? = some (Blk.cells (encL ls) true)) (hq : cellsAt M q' = some [AV.int .i64 5, AV.int .i64 1]) => apOne (e := none) (sz := 2) (bytes := 16) (n := ls.length) (cap := c) (c := c') hb hq (encL_length _) rfl (by unfold maxBytes; omega) hcap
              have hLs : ∀ X, (L ++ X)[b]? = some (.cells (encL ls) true) := fun X => get_more hL X
              simp (maxSteps := 2000000) +contextual only [w_s_l1Cur_someRow_2, fillParts, hd, hLs, hap, cellsAt_s0, cellsAt_sk, blkAt_s0, blkAt_sk, set_s0, set_sk, set_sapp, set_app, List.set_set, List.length_set, finish_one_setG, finish_one_set0, clean_none', Nat.add_assoc, Wp_some, Wp_none, Wp_ite, Wc_some, Wc_none, Wc_ite, Wp_thenRun, seqQ_normal, seqQ_exit, seqQ_ret, Wp_inBlock, blkQ_normal, blkQ_ret, blkQ_same, blkQ_exit, Wp_opThen, opQ_at, Wp_guardP, retQ_normal, retQ_ret, loopQ_normal, loopQ_exit, loopQ_ret, go_sem, entry, joinEsc, if_pos, reduceIte, Nat.reduceAdd, Nat.reduceLeDiff, Nat.reduceLT, Nat.reduceEqDiff]
              have hen : encL ls ++ [AV.int .i64 5, AV.int .i64 1] = encL (ls ++ [(5, 1)]) := by rw [encL_append]; rfl
              rw [hen, show ls.length + 1 = (ls ++ [(5, 1)]).length by simp]
              exact ⟨k - 1, by omega, ls ++ [(5, 1)], _, none, _, _, _, _, _, _, _, _, _, _, _, by rw [List.length_append, List.length_singleton]; omega, by simp, by have := hg.le; rw [List.length_set] at this; omega, ((hg.more _).kill (by rw [List.length_set]; exact hb) _).more _, last_get (by rw [killL_length]; simp) _, rfl⟩
          · have c2' : decide (x5 = 2) = false := decide_eq_false c2
            simp (maxSteps := 2000000) +contextual only [c0', c1', c2', decide_true, Wp_some, Wp_none, Wp_ite, Wc_some, Wc_none, Wc_ite, Wp_thenRun, seqQ_normal, seqQ_exit, seqQ_ret, Wp_inBlock, blkQ_normal, blkQ_ret, blkQ_same, blkQ_exit, Wp_opThen, opQ_at, Wp_guardP, retQ_normal, retQ_ret, loopQ_normal, loopQ_exit, loopQ_ret, go_sem, entry, joinEsc, if_pos, reduceIte, Nat.reduceAdd, Nat.reduceLeDiff, Nat.reduceLT, Nat.reduceEqDiff]
            exact r ls b c y5 z5 L5 _ _ _ _ _ _ _ _ _ _ hy50 (by omega) (by omega) hb hg5 hL5
  · have hd : decide ((0 : Int) < (k : Int)) = true := decide_eq_true (by omega)
    have hd' : (0 : Int) < (k : Int) := by omega
    have hwk : IntKind.i64.wrap ((k : Int) - 1) = ((k - 1 : Nat) : Int) := by
      rw [show ((k : Int) - 1) = ((k - 1 : Nat) : Int) by omega]; exact wrap64 (by omega) (by omega)
    have hql := h4.lt
    have hbl : b < L.length := (List.getElem?_eq_some_iff.mp hL).1
    have hLs : ∀ x X, (L.set q x ++ X)[b]? = some (.cells (encL ls) true) := fun x X => by
      rw [List.getElem?_append_left (by rw [List.length_set]; exact hbl), List.getElem?_set_ne (fun e => hqb e.symm)]
      exact hL
    simp (maxSteps := 2000000) +contextual only [w_s_l1Cur_someRow_1, fillParts, gt_iff_lt, hd, hd', decide_true, Wp_some, Wp_none, Wp_ite, Wc_some, Wc_none, Wc_ite, Wp_thenRun, seqQ_normal, seqQ_exit, seqQ_ret, Wp_inBlock, blkQ_normal, blkQ_ret, blkQ_same, blkQ_exit, Wp_opThen, opQ_at, Wp_guardP, retQ_normal, retQ_ret, loopQ_normal, loopQ_exit, loopQ_ret, go_sem, entry, joinEsc, if_pos, reduceIte, Nat.reduceAdd, Nat.reduceLeDiff, Nat.reduceLT, Nat.reduceEqDiff]
    refine (amongZ (n := 4) [11, 11, 21, 61] (h4.more _) (by omega) (by simp +contextual only [cellsAt_s0, cellsAt_sk, blkAt_s0, blkAt_sk, set_s0, set_sk, set_sapp, set_app, List.set_set, List.length_set, finish_one_setG, finish_one_set0, clean_none', Nat.add_assoc, go_sem, entry, joinEsc, if_pos, reduceIte, Nat.reduceAdd, Nat.reduceLeDiff, Nat.reduceLT, Nat.reduceEqDiff]) (by omega) rfl (by omega) (by omega)).mono ?_
    rintro v m ⟨x5, y5, z5, rfl, hx5, hy50, hy51, rfl⟩
    have h5 := h4.step hy50 z5
    have hx5' : x5 ≤ 61 := by
      simp at hx5
      omega
    simp (maxSteps := 2000000) +contextual only [fillParts, hql, cellsAt_s0, cellsAt_sk, blkAt_s0, blkAt_sk, set_s0, set_sk, set_sapp, set_app, List.set_set, List.length_set, finish_one_setG, finish_one_set0, clean_none', Nat.add_assoc, Wp_some, Wp_none, Wp_ite, Wc_some, Wc_none, Wc_ite, Wp_thenRun, seqQ_normal, seqQ_exit, seqQ_ret, Wp_inBlock, blkQ_normal, blkQ_ret, blkQ_same, blkQ_exit, Wp_opThen, opQ_at, Wp_guardP, retQ_normal, retQ_ret, loopQ_normal, loopQ_exit, loopQ_ret, go_sem, entry, joinEsc, if_pos, reduceIte, Nat.reduceAdd, Nat.reduceLeDiff, Nat.reduceLT, Nat.reduceEqDiff]
    refine (wc_pick x5 (h5.more _) (by omega) (by omega)).mono ?_
    rintro v m ⟨x6, y6, z6, rfl, hx60, hx61, hy60, hy61, rfl⟩
    have h6 := h5.step hy60 z6
    rw [List.set_set] at h6
    simp (maxSteps := 2000000) +contextual only [fillParts, hql, cellsAt_s0, cellsAt_sk, blkAt_s0, blkAt_sk, set_s0, set_sk, set_sapp, set_app, List.set_set, List.length_set, finish_one_setG, finish_one_set0, clean_none', Nat.add_assoc, Wp_some, Wp_none, Wp_ite, Wc_some, Wc_none, Wc_ite, Wp_thenRun, seqQ_normal, seqQ_exit, seqQ_ret, Wp_inBlock, blkQ_normal, blkQ_ret, blkQ_same, blkQ_exit, Wp_opThen, opQ_at, Wp_guardP, retQ_normal, retQ_ret, loopQ_normal, loopQ_exit, loopQ_ret, go_sem, entry, joinEsc, if_pos, reduceIte, Nat.reduceAdd, Nat.reduceLeDiff, Nat.reduceLT, Nat.reduceEqDiff]
    refine (amongZ (n := 3) [3, 9, 30] (h6.more _) (by omega) (by simp +contextual only [cellsAt_s0, cellsAt_sk, blkAt_s0, blkAt_sk, set_s0, set_sk, set_sapp, set_app, List.set_set, List.length_set, finish_one_setG, finish_one_set0, clean_none', Nat.add_assoc, go_sem, entry, joinEsc, if_pos, reduceIte, Nat.reduceAdd, Nat.reduceLeDiff, Nat.reduceLT, Nat.reduceEqDiff]) (by omega) rfl (by omega) (by omega)).mono ?_
    rintro v m ⟨x7, y7, z7, rfl, hx7, hy70, hy71, rfl⟩
    have h7 := h6.step hy70 z7
    rw [List.set_set] at h7
    have hx7' : x7 ≤ 61 := by
      simp at hx7
      omega
    simp (maxSteps := 2000000) +contextual only [fillParts, hql, cellsAt_s0, cellsAt_sk, blkAt_s0, blkAt_sk, set_s0, set_sk, set_sapp, set_app, List.set_set, List.length_set, finish_one_setG, finish_one_set0, clean_none', Nat.add_assoc, Wp_some, Wp_none, Wp_ite, Wc_some, Wc_none, Wc_ite, Wp_thenRun, seqQ_normal, seqQ_exit, seqQ_ret, Wp_inBlock, blkQ_normal, blkQ_ret, blkQ_same, blkQ_exit, Wp_opThen, opQ_at, Wp_guardP, retQ_normal, retQ_ret, loopQ_normal, loopQ_exit, loopQ_ret, go_sem, entry, joinEsc, if_pos, reduceIte, Nat.reduceAdd, Nat.reduceLeDiff, Nat.reduceLT, Nat.reduceEqDiff]
    refine (wc_pick x7 (h7.more _) (by omega) (by omega)).mono ?_
    rintro v m ⟨x8, y8, z8, rfl, hx80, hx81, hy80, hy81, rfl⟩
    generalize hw : IntKind.i64.wrap (1 + x8) = w
    have hap := fun M q' c' (hb : M[b]? = some (Blk.cells (encL ls) true)) (hq : cellsAt M q' = some [AV.int .i64 x6, AV.int .i64 w]) => apOne (e := none) (sz := 2) (bytes := 16) (n := ls.length) (cap := c) (c := c') hb hq (encL_length _) rfl (by unfold maxBytes; omega) hcap
    simp (maxSteps := 2000000) +contextual only [fillParts, hql, hLs, hap, hwk, hw, cellsAt_s0, cellsAt_sk, blkAt_s0, blkAt_sk, set_s0, set_sk, set_sapp, set_app, List.set_set, List.length_set, finish_one_setG, finish_one_set0, clean_none', Nat.add_assoc, Wp_some, Wp_none, Wp_ite, Wc_some, Wc_none, Wc_ite, Wp_thenRun, seqQ_normal, seqQ_exit, seqQ_ret, Wp_inBlock, blkQ_normal, blkQ_ret, blkQ_same, blkQ_exit, Wp_opThen, opQ_at, Wp_guardP, retQ_normal, retQ_ret, loopQ_normal, loopQ_exit, loopQ_ret, go_sem, entry, joinEsc, if_pos, reduceIte, Nat.reduceAdd, Nat.reduceLeDiff, Nat.reduceLT, Nat.reduceEqDiff]
    have hen : encL ls ++ [AV.int .i64 x6, AV.int .i64 w] = encL (ls ++ [(x6, w)]) := by rw [encL_append]; rfl
    rw [hen, show ls.length + 1 = (ls ++ [(x6, w)]).length by simp]
    exact ⟨k - 1, by omega, ls ++ [(x6, w)], _, none, y8, z8, _, _, _, _, _, _, _, _, _, hy80, by omega, by rw [List.length_append, List.length_singleton]; omega, by simp, by have := hg.le; rw [List.length_set] at this; omega, (((hg.cur hl _).more _).kill (by rw [List.length_set]; exact hb) _).more _, last_get (by rw [killL_length]; simp) _, rfl⟩

end Go.Proofs.Ytaikmfldjkbmmaa.Slim

/- Beams: the drawn arguments. -/
namespace Go.Proofs.Ytaikmfldjkbmmaa.Slim

open Go

set_option linter.unusedSimpArgs false

set_option linter.unusedVariables false

variable {pr : Prims} {H : List Blk} {e : Option Nat}

/-- the end of a call that hands back something plain, a list, and something plain -/
theorem finish_slm {L : List Blk} {b1 s1 n1 : Nat} {c1 : Option Nat} {cs1 : List AV} {w1 : Bool} (v0 v2 : AV) (h0 : AV.roots H.length v0 = []) (h0' : ∀ f, AV.rename f v0 = v0) (h2 : AV.roots H.length v2 = []) (h2' : ∀ f, AV.rename f v2 = v2) (hL : Grown H L) (e0 e1 : Option Nat) (hc : clean H.length e1 = true) (hb1 : H.length ≤ b1)
    (h1 : L[b1]? = some (.cells cs1 w1)) (u1 : (cs1.all fun c => c.under H.length) = true) :
    finish 2 H.length e0 (.tup [v0, .slice (some (b1, 0)) s1 n1 c1, v2]) ⟨L, e1⟩ = some (.tup [v0, .slice (some (H.length, 0)) s1 n1 c1, v2], ⟨H ++ [.cells cs1 w1], e0⟩) := by
  obtain ⟨G, rfl⟩ := hL
  have hlt1 : ¬ b1 < H.length := by omega
  have hr : dedup (AV.roots H.length (.tup [v0, .slice (some (b1, 0)) s1 n1 c1, v2])) = [b1] := by
    simp only [AV.roots, AV.roots.go, h0, h2, if_neg hlt1, List.nil_append, List.cons_append, List.append_nil]
    simp [dedup]
  unfold finish
  simp only [hr]
  have h3 : ([b1].all fun b => flatBlk H.length (H ++ G)[b]?) = true := by
    simp only [List.all_cons, List.all_nil, Bool.and_true, h1, flatBlk, u1, Bool.and_self]
  simp only [hc, h3, and_self, if_true]
  simp [AV.rename, AV.rename.go, h0', h2', renum, h1, hlt1]

theorem wc_row {q : Nat} {av : AV} {p : Int} (h : Cu H q av p) (hp : p ≤ 1000000000) : Wc (call T pr f_s_l1Cur_row [.ptr (some (q, 0))] ⟨H, e⟩) (fun v m => ∃ (ls : List Ld) (c : Option Nat) (y z : Int), v = slL H.length ls.length c ∧ ls.length ≤ 13 ∧ 0 ≤ y ∧ y ≤ p + 300 ∧ m = ⟨H.set q (curB av y z) ++ [.cells (encL ls) true], e⟩) := by
  have hl := h.lt
  rw [call_wc t_s_l1Cur_row]
  simp +contextual only [a_s_l1Cur_row, c_s_l1Cur_row, cellsAt_s0, cellsAt_sk, blkAt_s0, blkAt_sk, set_s0, set_sk, set_sapp, set_app, List.set_set, List.length_set, finish_one_setG, finish_one_set0, clean_none', Nat.add_assoc, Wp_some, Wp_none, Wp_ite, Wc_some, Wc_none, Wc_ite, Wp_thenRun, seqQ_normal, seqQ_exit, seqQ_ret, Wp_inBlock, blkQ_normal, blkQ_ret, blkQ_same, blkQ_exit, Wp_opThen, opQ_at, Wp_guardP, retQ_normal, retQ_ret, loopQ_normal, loopQ_exit, loopQ_ret, go_sem, entry, joinEsc, if_pos, reduceIte, Nat.reduceAdd, Nat.reduceLeDiff, Nat.reduceLT, Nat.reduceEqDiff]
  refine (wc_someRow h hp).mono ?_
  rintro v m ⟨ls, c, y, z, rfl, hn, hy0, hy1, rfl⟩
  have hf := finish_sl_set (H := H) (q := q) (X := curB av y z) (L := H.set q (curB av y z) ++ [.cells (encL ls) true]) (b := H.length) (sz := 2) (n := ls.length) (c := c) ⟨_, rfl⟩ e none rfl (Nat.le_refl _) (by rw [blkAt_s0]; rfl) (under_encL _ _)
  simp +contextual only [a_s_l1Cur_row, hf, cellsAt_s0, cellsAt_sk, blkAt_s0, blkAt_sk, set_s0, set_sk, set_sapp, set_app, List.set_set, List.length_set, finish_one_setG, finish_one_set0, clean_none', Nat.add_assoc, Wp_some, Wp_none, Wp_ite, Wc_some, Wc_none, Wc_ite, Wp_thenRun, seqQ_normal, seqQ_exit, seqQ_ret, Wp_inBlock, blkQ_normal, blkQ_ret, blkQ_same, blkQ_exit, Wp_opThen, opQ_at, Wp_guardP, retQ_normal, retQ_ret, loopQ_normal, loopQ_exit, loopQ_ret, go_sem, entry, joinEsc, if_pos, reduceIte, Nat.reduceAdd, Nat.reduceLeDiff, Nat.reduceLT, Nat.reduceEqDiff]
  exact ⟨ls, c, y, z, rfl, hn, hy0, hy1, rfl⟩

theorem wc_placeOn {q : Nat} {av : AV} {p : Int} (x a b : Int) (h : Cu H q av p) (hp : p ≤ 1000000000) : Wc (call T pr f_s_l1Cur_placeOn [.ptr (some (q, 0)), bmV x a b] ⟨H, e⟩) (fun v m => ∃ x y z : Int, v = .int .i64 x ∧ 0 ≤ y ∧ y ≤ p + 10 ∧ m = ⟨H.set q (curB av y z), e⟩) := by
  have hl := h.lt
  rw [call_wc t_s_l1Cur_placeOn]
  simp +contextual only [a_s_l1Cur_placeOn, c_s_l1Cur_placeOn, fillParts, cellsAt_s0, cellsAt_sk, blkAt_s0, blkAt_sk, set_s0, set_sk, set_sapp, set_app, List.set_set, List.length_set, finish_one_setG, finish_one_set0, clean_none', Nat.add_assoc, Wp_some, Wp_none, Wp_ite, Wc_some, Wc_none, Wc_ite, Wp_thenRun, seqQ_normal, seqQ_exit, seqQ_ret, Wp_inBlock, blkQ_normal, blkQ_ret, blkQ_same, blkQ_exit, Wp_opThen, opQ_at, Wp_guardP, retQ_normal, retQ_ret, loopQ_normal, loopQ_exit, loopQ_ret, go_sem, entry, joinEsc, if_pos, reduceIte, Nat.reduceAdd, Nat.reduceLeDiff, Nat.reduceLT, Nat.reduceEqDiff]
  refine (wc_one 24 (h.more _) (by omega) (by omega)).mono ?_
  rintro v m ⟨x1, y1, z1, rfl, hy10, hy11, rfl⟩
  have h1 := h.step hy10 z1
  cases x1 with
  | true =>
    simp +contextual only [fillParts, hl, cellsAt_s0, cellsAt_sk, blkAt_s0, blkAt_sk, set_s0, set_sk, set_sapp, set_app, List.set_set, List.length_set, finish_one_setG, finish_one_set0, clean_none', Nat.add_assoc, Wp_some, Wp_none, Wp_ite, Wc_some, Wc_none, Wc_ite, Wp_thenRun, seqQ_normal, seqQ_exit, seqQ_ret, Wp_inBlock, blkQ_normal, blkQ_ret, blkQ_same, blkQ_exit, Wp_opThen, opQ_at, Wp_guardP, retQ_normal, retQ_ret, loopQ_normal, loopQ_exit, loopQ_ret, go_sem, entry, joinEsc, if_pos, reduceIte, Nat.reduceAdd, Nat.reduceLeDiff, Nat.reduceLT, Nat.reduceEqDiff]
    refine (amongZ (n := 4) [-1, x, IntKind.i64.wrap (x + 1), 4611686018427387904] (h1.more _) (by omega) (by simp +contextual only [cellsAt_s0, cellsAt_sk, blkAt_s0, blkAt_sk, set_s0, set_sk, set_sapp, set_app, List.set_set, List.length_set, finish_one_setG, finish_one_set0, clean_none', Nat.add_assoc, go_sem, entry, joinEsc, if_pos, reduceIte, Nat.reduceAdd, Nat.reduceLeDiff, Nat.reduceLT, Nat.reduceEqDiff]) (by omega) rfl (by omega) (by omega)).mono ?_
    rintro v m ⟨x2, y2, z2, rfl, hx2, hy20, hy21, rfl⟩
    simp +contextual only [a_s_l1Cur_placeOn, hl, cellsAt_s0, cellsAt_sk, blkAt_s0, blkAt_sk, set_s0, set_sk, set_sapp, set_app, List.set_set, List.length_set, finish_one_setG, finish_one_set0, clean_none', Nat.add_assoc, Wp_some, Wp_none, Wp_ite, Wc_some, Wc_none, Wc_ite, Wp_thenRun, seqQ_normal, seqQ_exit, seqQ_ret, Wp_inBlock, blkQ_normal, blkQ_ret, blkQ_same, blkQ_exit, Wp_opThen, opQ_at, Wp_guardP, retQ_normal, retQ_ret, loopQ_normal, loopQ_exit, loopQ_ret, finish_one_eq, finish_one_eq0, finish_two_eq, finish_two_eq0, roots_slice_new, roots_slice_new0, roots_slice_none, roots_ptr_new, roots_ptr_new0, roots_int, roots_bool, roots_str, roots_agg, roots_tup, roots_cons, roots_nil, rename_slice, rename_slice_none, rename_ptr, rename_int, rename_bool, rename_str, rename_agg, rename_tup, rename_cons, rename_nil, keepBlks_nil, keepBlks_cons, flatAll_nil, flatAll_cons, flatBlk_cells, dedup_nil, dedup_one, dedup_two, renum_one, renum_one0, renum_two0, renum_two1, clean_none', clean_some, minEsc_none, minEsc_some, Nat.add_left_cancel_iff, Nat.le_add_right, Nat.le_refl, decide_true, go_sem, entry, joinEsc, if_pos, reduceIte, Nat.reduceAdd, Nat.reduceLeDiff, Nat.reduceLT, Nat.reduceEqDiff]
    exact ⟨x2, y2, z2, rfl, hy20, by omega, rfl⟩
  | false =>
    obtain ⟨w, hw⟩ : ∃ w : Int, (if 0 < (if x < 60 then x else 60) then (if x < 60 then x else 60) else 0) = w := ⟨_, rfl⟩
    have hwb : 0 ≤ w ∧ w ≤ 60 := by
      rw [← hw]
      (repeat' split) <;> omega
    have hww : IntKind.i64.wrap (w + 1) = w + 1 := wrap64 (by omega) (by omega)
    simp +contextual only [fillParts, hl, leastZ, mostZ, hw, hww, cellsAt_s0, cellsAt_sk, blkAt_s0, blkAt_sk, set_s0, set_sk, set_sapp, set_app, List.set_set, List.length_set, finish_one_setG, finish_one_set0, clean_none', Nat.add_assoc, Wp_some, Wp_none, Wp_ite, Wc_some, Wc_none, Wc_ite, Wp_thenRun, seqQ_normal, seqQ_exit, seqQ_ret, Wp_inBlock, blkQ_normal, blkQ_ret, blkQ_same, blkQ_exit, Wp_opThen, opQ_at, Wp_guardP, retQ_normal, retQ_ret, loopQ_normal, loopQ_exit, loopQ_ret, go_sem, entry, joinEsc, if_pos, reduceIte, Nat.reduceAdd, Nat.reduceLeDiff, Nat.reduceLT, Nat.reduceEqDiff]
    refine (wc_pick (w + 1) (h1.more _) (by omega) (by omega)).mono ?_
    rintro v m ⟨x3, y3, z3, rfl, hx30, hx31, hy30, hy31, rfl⟩
    simp +contextual only [a_s_l1Cur_placeOn, hl, cellsAt_s0, cellsAt_sk, blkAt_s0, blkAt_sk, set_s0, set_sk, set_sapp, set_app, List.set_set, List.length_set, finish_one_setG, finish_one_set0, clean_none', Nat.add_assoc, Wp_some, Wp_none, Wp_ite, Wc_some, Wc_none, Wc_ite, Wp_thenRun, seqQ_normal, seqQ_exit, seqQ_ret, Wp_inBlock, blkQ_normal, blkQ_ret, blkQ_same, blkQ_exit, Wp_opThen, opQ_at, Wp_guardP, retQ_normal, retQ_ret, loopQ_normal, loopQ_exit, loopQ_ret, finish_one_eq, finish_one_eq0, finish_two_eq, finish_two_eq0, roots_slice_new, roots_slice_new0, roots_slice_none, roots_ptr_new, roots_ptr_new0, roots_int, roots_bool, roots_str, roots_agg, roots_tup, roots_cons, roots_nil, rename_slice, rename_slice_none, rename_ptr, rename_int, rename_bool, rename_str, rename_agg, rename_tup, rename_cons, rename_nil, keepBlks_nil, keepBlks_cons, flatAll_nil, flatAll_cons, flatBlk_cells, dedup_nil, dedup_one, dedup_two, renum_one, renum_one0, renum_two0, renum_two1, clean_none', clean_some, minEsc_none, minEsc_some, Nat.add_left_cancel_iff, Nat.le_add_right, Nat.le_refl, decide_true, go_sem, entry, joinEsc, if_pos, reduceIte, Nat.reduceAdd, Nat.reduceLeDiff, Nat.reduceLT, Nat.reduceEqDiff]
    exact ⟨x3, y3, z3, rfl, hy30, by omega, rfl⟩

theorem wc_onBeam {q : Nat} {av : AV} {p : Int} (x a b : Int) (h : Cu H q av p) (hp : p ≤ 1000000000) : Wc (call T pr f_s_l1Cur_onBeam [.ptr (some (q, 0)), bmV x a b] ⟨H, e⟩) (fun v m => ∃ (ls : List Ld) (c : Option Nat) (y z : Int), v = slL H.length ls.length c ∧ ls.length ≤ 13 ∧ 0 ≤ y ∧ y ≤ p + 310 ∧ m = ⟨H.set q (curB av y z) ++ [.cells (encL ls) true], e⟩) := by
  have hl := h.lt
  rw [call_wc t_s_l1Cur_onBeam]
  obtain ⟨R, hR⟩ : ∃ R, R = (seqTl (seqTl (seqTl c_s_l1Cur_onBeam))) := ⟨_, rfl⟩
  have hc : c_s_l1Cur_onBeam = (.seq (seqHd c_s_l1Cur_onBeam) (.seq (seqHd (seqTl c_s_l1Cur_onBeam)) (.seq (seqHd (seqTl (seqTl c_s_l1Cur_onBeam))) R))) := by rw [hR]; rfl
  have r : ∀ (ls : List Ld) (c : Option Nat) (y z : Int) (B0 : Blk) (w0 w1 w2 w3 w5 w6 w7 : AV), 0 ≤ y → y ≤ p + 310 → ls.length ≤ 13 →
      Wp (run T pr R ⟨[w0, w1, w2, w3, slL (H.length + 1) ls.length c, w5, w6, w7], ⟨H.set q (curB av y z) ++ [B0, .cells (encL ls) true], none⟩⟩) (retQ a_s_l1Cur_onBeam ⟨H, e⟩ fun v m => ∃ (ls : List Ld) (c : Option Nat) (y z : Int), v = slL H.length ls.length c ∧ ls.length ≤ 13 ∧ 0 ≤ y ∧ y ≤ p + 310 ∧ m = ⟨H.set q (curB av y z) ++ [.cells (encL ls) true], e⟩) := by
    intro ls c y z B0 w0 w1 w2 w3 w5 w6 w7 hy0 hy1 hn
    have hf := finish_sl_set (H := H) (q := q) (X := curB av y z) (L := H.set q (curB av y z) ++ [B0, .cells (encL ls) true]) (b := H.length + 1) (sz := 2) (n := ls.length) (c := c) ⟨_, rfl⟩ e none rfl (by omega) (by rw [blkAt_sk]; rfl) (under_encL _ _)
    rw [hR]
    simp +contextual only [a_s_l1Cur_onBeam, c_s_l1Cur_onBeam, seqTl, hf, Wp_some, Wp_none, Wp_ite, Wc_some, Wc_none, Wc_ite, Wp_thenRun, seqQ_normal, seqQ_exit, seqQ_ret, Wp_inBlock, blkQ_normal, blkQ_ret, blkQ_same, blkQ_exit, Wp_opThen, opQ_at, Wp_guardP, retQ_normal, retQ_ret, loopQ_normal, loopQ_exit, loopQ_ret, go_sem, entry, joinEsc, if_pos, reduceIte, Nat.reduceAdd, Nat.reduceLeDiff, Nat.reduceLT, Nat.reduceEqDiff]
    exact ⟨ls, c, y, z, rfl, hn, hy0, hy1, rfl⟩
  show Wp (run T pr c_s_l1Cur_onBeam _) _
  rw [hc]
  simp +contextual only [a_s_l1Cur_onBeam, c_s_l1Cur_onBeam, seqTl, seqHd, cellsAt_s0, cellsAt_sk, blkAt_s0, blkAt_sk, set_s0, set_sk, set_sapp, set_app, List.set_set, List.length_set, finish_one_setG, finish_one_set0, clean_none', Nat.add_assoc, Wp_some, Wp_none, Wp_ite, Wc_some, Wc_none, Wc_ite, Wp_thenRun, seqQ_normal, seqQ_exit, seqQ_ret, Wp_inBlock, blkQ_normal, blkQ_ret, blkQ_same, blkQ_exit, Wp_opThen, opQ_at, Wp_guardP, retQ_normal, retQ_ret, loopQ_normal, loopQ_exit, loopQ_ret, go_sem, entry, joinEsc, if_pos, reduceIte, Nat.reduceAdd, Nat.reduceLeDiff, Nat.reduceLT, Nat.reduceEqDiff]
  refine (wc_row (h.more _) (by omega)).mono ?_
  rintro v m ⟨ls, c, y1, z1, rfl, hn, hy10, hy11, rfl⟩
  have h1 := h.step hy10 z1
  have hb := fun L e' => e_s_l6Beam (pr := pr) (H := L) (e := e') x a b
  have hr := fun L e' (h1 : cellsAt L (H.length + 1) = some (encL ls)) => e_s_l2Row (pr := pr) (H := L) (e := e') (c := c) h1
  cases hbo : beamOk x a b with
  | false =>
    rw [hbo] at hb
    simp (maxSteps := 2000000) +contextual only [hl, hb, hr, cellsAt_s0, cellsAt_sk, blkAt_s0, blkAt_sk, set_s0, set_sk, set_sapp, set_app, List.set_set, List.length_set, finish_one_setG, finish_one_set0, clean_none', Nat.add_assoc, Wp_some, Wp_none, Wp_ite, Wc_some, Wc_none, Wc_ite, Wp_thenRun, seqQ_normal, seqQ_exit, seqQ_ret, Wp_inBlock, blkQ_normal, blkQ_ret, blkQ_same, blkQ_exit, Wp_opThen, opQ_at, Wp_guardP, retQ_normal, retQ_ret, loopQ_normal, loopQ_exit, loopQ_ret, go_sem, entry, joinEsc, if_pos, reduceIte, Nat.reduceAdd, Nat.reduceLeDiff, Nat.reduceLT, Nat.reduceEqDiff]
    exact r ls c y1 z1 _ _ _ _ _ _ _ _ hy10 (by omega) hn
  | true =>
    rw [hbo] at hb
    have hx := hbo
    unfold beamOk at hx
    simp only [decide_eq_true_eq] at hx
    cases hro : rowOk ls with
    | false =>
      rw [hro] at hr
      simp (maxSteps := 2000000) +contextual only [hl, hb, hr, cellsAt_s0, cellsAt_sk, blkAt_s0, blkAt_sk, set_s0, set_sk, set_sapp, set_app, List.set_set, List.length_set, finish_one_setG, finish_one_set0, clean_none', Nat.add_assoc, Wp_some, Wp_none, Wp_ite, Wc_some, Wc_none, Wc_ite, Wp_thenRun, seqQ_normal, seqQ_exit, seqQ_ret, Wp_inBlock, blkQ_normal, blkQ_ret, blkQ_same, blkQ_exit, Wp_opThen, opQ_at, Wp_guardP, retQ_normal, retQ_ret, loopQ_normal, loopQ_exit, loopQ_ret, go_sem, entry, joinEsc, if_pos, reduceIte, Nat.reduceAdd, Nat.reduceLeDiff, Nat.reduceLT, Nat.reduceEqDiff]
      exact r ls c y1 z1 _ _ _ _ _ _ _ _ hy10 (by omega) hn
    | true =>
      rw [hro] at hr
      simp (maxSteps := 2000000) +contextual only [hl, hb, hr, cellsAt_s0, cellsAt_sk, blkAt_s0, blkAt_sk, set_s0, set_sk, set_sapp, set_app, List.set_set, List.length_set, finish_one_setG, finish_one_set0, clean_none', Nat.add_assoc, Wp_some, Wp_none, Wp_ite, Wc_some, Wc_none, Wc_ite, Wp_thenRun, seqQ_normal, seqQ_exit, seqQ_ret, Wp_inBlock, blkQ_normal, blkQ_ret, blkQ_same, blkQ_exit, Wp_opThen, opQ_at, Wp_guardP, retQ_normal, retQ_ret, loopQ_normal, loopQ_exit, loopQ_ret, go_sem, entry, joinEsc, if_pos, reduceIte, Nat.reduceAdd, Nat.reduceLeDiff, Nat.reduceLT, Nat.reduceEqDiff]
      refine (wc_one 16 (h1.more _) (by omega) (by omega)).mono ?_
      rintro v m ⟨x2, y2, z2, rfl, hy20, hy21, rfl⟩
      cases x2 with
      | true =>
        simp (maxSteps := 2000000) +contextual only [hl, cellsAt_s0, cellsAt_sk, blkAt_s0, blkAt_sk, set_s0, set_sk, set_sapp, set_app, List.set_set, List.length_set, finish_one_setG, finish_one_set0, clean_none', Nat.add_assoc, Wp_some, Wp_none, Wp_ite, Wc_some, Wc_none, Wc_ite, Wp_thenRun, seqQ_normal, seqQ_exit, seqQ_ret, Wp_inBlock, blkQ_normal, blkQ_ret, blkQ_same, blkQ_exit, Wp_opThen, opQ_at, Wp_guardP, retQ_normal, retQ_ret, loopQ_normal, loopQ_exit, loopQ_ret, go_sem, entry, joinEsc, if_pos, reduceIte, Nat.reduceAdd, Nat.reduceLeDiff, Nat.reduceLT, Nat.reduceEqDiff]
        exact r ls c y2 z2 _ _ _ _ _ _ _ _ hy20 (by omega) hn
      | false =>
        simp (maxSteps := 2000000) +contextual only [hl, cellsAt_s0, cellsAt_sk, blkAt_s0, blkAt_sk, set_s0, set_sk, set_sapp, set_app, List.set_set, List.length_set, finish_one_setG, finish_one_set0, clean_none', Nat.add_assoc, Wp_some, Wp_none, Wp_ite, Wc_some, Wc_none, Wc_ite, Wp_thenRun, seqQ_normal, seqQ_exit, seqQ_ret, Wp_inBlock, blkQ_normal, blkQ_ret, blkQ_same, blkQ_exit, Wp_opThen, opQ_at, Wp_guardP, retQ_normal, retQ_ret, loopQ_normal, loopQ_exit, loopQ_ret, go_sem, entry, joinEsc, if_pos, reduceIte, Nat.reduceAdd, Nat.reduceLeDiff, Nat.reduceLT, Nat.reduceEqDiff]
        refine Wp_loop (fun k st => ∃ (i : Nat) (ls' : List Ld) (w6 w7 : AV), i + k = ls.length ∧ ls'.length = ls.length ∧ st = ⟨[.ptr (some (q, 0)), bmV x a b, .ptr (some (H.length, 0)), .slice none 0 0 none, slL (H.length + 1) ls.length c, .int .i64 i, w6, w7], ⟨H.set q (curB av y2 z2) ++ [.cells [.int .i64 x, .int .i64 a, .int .i64 b] true, .cells (encL ls') true], none⟩⟩) ?_ ls.length _ ⟨0, ls, _, _, Nat.zero_add _, rfl, rfl⟩
        rintro k _ ⟨i, ls', w6, w7, hi, hlen, rfl⟩
        by_cases hk : k = 0
        · have hd : ¬ i < ls.length := by omega
          simp (maxSteps := 2000000) +contextual only [w_s_l1Cur_onBeam_1, hd, decide_false, cellsAt_s0, cellsAt_sk, blkAt_s0, blkAt_sk, set_s0, set_sk, set_sapp, set_app, List.set_set, List.length_set, finish_one_setG, finish_one_set0, clean_none', Nat.add_assoc, Wp_some, Wp_none, Wp_ite, Wc_some, Wc_none, Wc_ite, Wp_thenRun, seqQ_normal, seqQ_exit, seqQ_ret, Wp_inBlock, blkQ_normal, blkQ_ret, blkQ_same, blkQ_exit, Wp_opThen, opQ_at, Wp_guardP, retQ_normal, retQ_ret, loopQ_normal, loopQ_exit, loopQ_ret, go_sem, entry, joinEsc, if_pos, reduceIte, Nat.reduceAdd, Nat.reduceLeDiff, Nat.reduceLT, Nat.reduceEqDiff]
          rw [← hlen]
          exact r ls' c y2 z2 _ _ _ _ _ _ _ _ hy20 (by omega) (by omega)
        · have hd : i < ls.length := by omega
          have hw := wrap_succ (show i < 9223372036854775807 by omega)
          have hwx : IntKind.i64.wrap (x + 1) = x + 1 := wrap64 (by omega) (by omega)
          have hnz : ¬ x + 1 = 0 := by omega
          have hl' : ls'[i]? = some (ls'[i]'(by omega)) := List.getElem?_eq_getElem (by omega)
          have hp0 := part_encL0 1 hl'
          obtain ⟨ls2, e1, e2⟩ := set_ld0 (ls := ls') (i := i) (by omega) ((ls'[i]'(by omega)).1.tmod (x + 1))
          have hle : i * 2 + 1 ≤ ls'.length * 2 := by omega
          simp (maxSteps := 2000000) +contextual only [w_s_l1Cur_onBeam_1, hd, hw, hwx, hnz, hp0, e2, hle, encL_length, Nat.add_zero, decide_true, cellsAt_s0, cellsAt_sk, blkAt_s0, blkAt_sk, set_s0, set_sk, set_sapp, set_app, List.set_set, List.length_set, finish_one_setG, finish_one_set0, clean_none', Nat.add_assoc, Wp_some, Wp_none, Wp_ite, Wc_some, Wc_none, Wc_ite, Wp_thenRun, seqQ_normal, seqQ_exit, seqQ_ret, Wp_inBlock, blkQ_normal, blkQ_ret, blkQ_same, blkQ_exit, Wp_opThen, opQ_at, Wp_guardP, retQ_normal, retQ_ret, loopQ_normal, loopQ_exit, loopQ_ret, go_sem, entry, joinEsc, if_pos, reduceIte, Nat.reduceAdd, Nat.reduceLeDiff, Nat.reduceLT, Nat.reduceEqDiff]
          exact ⟨k - 1, by omega, i + 1, ls2, _, _, by omega, by omega, rfl⟩

end Go.Proofs.Ytaikmfldjkbmmaa.Slim

/- Beams: the drawn convoy, and the laws' arguments. -/
namespace Go.Proofs.Ytaikmfldjkbmmaa.Slim

open Go

set_option linter.unusedSimpArgs false

set_option linter.unusedVariables false

variable {pr : Prims} {H : List Blk} {e : Option Nat}

set_option maxHeartbeats 4000000 in
theorem wc_convoy {q : Nat} {av : AV} {p : Int} (h : Cu H q av p) (hp : p ≤ 1000000000) : Wc (call T pr f_s_l1Cur_convoy [.ptr (some (q, 0))] ⟨H, e⟩) (fun v m => ∃ (ls : List Ld) (c : Option Nat) (y z : Int), v = slL H.length ls.length c ∧ ls.length ≤ 13 ∧ 0 ≤ y ∧ y ≤ p + 300 ∧ m = ⟨H.set q (curB av y z) ++ [.cells (encL ls) true], e⟩) := by
  have hl := h.lt
  rw [call_wc t_s_l1Cur_convoy]
  obtain ⟨R, hR⟩ : ∃ R, R = (seqTl (seqTl (seqTl (seqTl c_s_l1Cur_convoy)))) := ⟨_, rfl⟩
  have hc : c_s_l1Cur_convoy = (.seq (seqHd c_s_l1Cur_convoy) (.seq (seqHd (seqTl c_s_l1Cur_convoy)) (.seq (seqHd (seqTl (seqTl c_s_l1Cur_convoy))) (.seq (seqHd (seqTl (seqTl (seqTl c_s_l1Cur_convoy)))) R)))) := by rw [hR]; rfl
  have r : ∀ (ls : List Ld) (b : Nat) (c : Option Nat) (y z : Int) (L : List Blk) (w1 w3 w4 w5 w6 w7 w8 w9 w10 w11 w12 : AV), 0 ≤ y → y ≤ p + 300 → ls.length ≤ 13 → H.length ≤ b → Grown (H.set q (curB av y z)) L → L[b]? = some (.cells (encL ls) true) →
      Wp (run T pr R ⟨[.ptr (some (q, 0)), w1, slL b ls.length c, w3, w4, w5, w6, w7, w8, w9, w10, w11, w12], ⟨L, none⟩⟩) (retQ a_s_l1Cur_convoy ⟨H, e⟩ fun v m => ∃ (ls : List Ld) (c : Option Nat) (y z : Int), v = slL H.length ls.length c ∧ ls.length ≤ 13 ∧ 0 ≤ y ∧ y ≤ p + 300 ∧ m = ⟨H.set q (curB av y z) ++ [.cells (encL ls) true], e⟩) := by
    rintro ls b c y z L w1 w3 w4 w5 w6 w7 w8 w9 w10 w11 w12 hy0 hy1 hn hb hg hL
    have hf := finish_sl_set (H := H) (sz := 2) (n := ls.length) (c := c) hg e none rfl hb hL (under_encL _ _)
    rw [hR]
    simp (maxSteps := 2000000) +contextual only [a_s_l1Cur_convoy, c_s_l1Cur_convoy, seqTl, seqHd, hl, hf, Wp_some, Wp_none, Wp_ite, Wc_some, Wc_none, Wc_ite, Wp_thenRun, seqQ_normal, seqQ_exit, seqQ_ret, Wp_inBlock, blkQ_normal, blkQ_ret, blkQ_same, blkQ_exit, Wp_opThen, opQ_at, Wp_guardP, retQ_normal, retQ_ret, loopQ_normal, loopQ_exit, loopQ_ret, go_sem, entry, joinEsc, if_pos, reduceIte, Nat.reduceAdd, Nat.reduceLeDiff, Nat.reduceLT, Nat.reduceEqDiff]
    exact ⟨ls, c, y, z, rfl, hn, hy0, hy1, rfl⟩
  show Wp (run T pr c_s_l1Cur_convoy _) _
  rw [hc]
  simp (maxSteps := 2000000) +contextual only [a_s_l1Cur_convoy, c_s_l1Cur_convoy, seqTl, seqHd, fillParts, cellsAt_s0, cellsAt_sk, blkAt_s0, blkAt_sk, set_s0, set_sk, set_sapp, set_app, List.set_set, List.length_set, finish_one_setG, finish_one_set0, clean_none', Nat.add_assoc, Wp_some, Wp_none, Wp_ite, Wc_some, Wc_none, Wc_ite, Wp_thenRun, seqQ_normal, seqQ_exit, seqQ_ret, Wp_inBlock, blkQ_normal, blkQ_ret, blkQ_same, blkQ_exit, Wp_opThen, opQ_at, Wp_guardP, retQ_normal, retQ_ret, loopQ_normal, loopQ_exit, loopQ_ret, go_sem, entry, joinEsc, if_pos, reduceIte, Nat.reduceAdd, Nat.reduceLeDiff, Nat.reduceLT, Nat.reduceEqDiff]
  refine (amongZ (n := 5) [2, 3, 1, 4, 6] (h.more _) (by omega) (by simp +contextual only [cellsAt_s0, cellsAt_sk, blkAt_s0, blkAt_sk, set_s0, set_sk, set_sapp, set_app, List.set_set, List.length_set, finish_one_setG, finish_one_set0, clean_none', Nat.add_assoc, go_sem, entry, joinEsc, if_pos, reduceIte, Nat.reduceAdd, Nat.reduceLeDiff, Nat.reduceLT, Nat.reduceEqDiff]) (by omega) rfl (by omega) (by omega)).mono ?_
  rintro v m ⟨x1, y1, z1, rfl, hx1, hy10, hy11, rfl⟩
  have hx1' : 1 ≤ x1 ∧ x1 ≤ 6 := by
    simp at hx1
    omega
  obtain ⟨n, rfl⟩ : ∃ n : Nat, x1 = (n : Int) := ⟨x1.toNat, by omega⟩
  simp (maxSteps := 2000000) +contextual only [hl, cellsAt_s0, cellsAt_sk, blkAt_s0, blkAt_sk, set_s0, set_sk, set_sapp, set_app, List.set_set, List.length_set, finish_one_setG, finish_one_set0, clean_none', Nat.add_assoc, Wp_some, Wp_none, Wp_ite, Wc_some, Wc_none, Wc_ite, Wp_thenRun, seqQ_normal, seqQ_exit, seqQ_ret, Wp_inBlock, blkQ_normal, blkQ_ret, blkQ_same, blkQ_exit, Wp_opThen, opQ_at, Wp_guardP, retQ_normal, retQ_ret, loopQ_normal, loopQ_exit, loopQ_ret, go_sem, entry, joinEsc, if_pos, reduceIte, Nat.reduceAdd, Nat.reduceLeDiff, Nat.reduceLT, Nat.reduceEqDiff]
  refine Wp_loop (fun k st => ∃ (ls : List Ld) (at' : Int) (b : Nat) (c : Option Nat) (y z : Int) (L : List Blk) (w5 w6 w7 w8 w9 w10 w11 w12 : AV), 0 ≤ y ∧ y + (k : Int) * 8 ≤ p + 60 ∧ ls.length + k = n ∧ (c = some 0 → ls.length = 0) ∧ H.length ≤ b ∧ Grown (H.set q (curB av y z)) L ∧ L[b]? = some (.cells (encL ls) true) ∧
      st = ⟨[.ptr (some (q, 0)), .slice none 0 0 none, slL b ls.length c, .int .i64 at', .int .i64 k, w5, w6, w7, w8, w9, w10, w11, w12], ⟨L, none⟩⟩) ?_ n _
    ⟨[], 0, H.length, some 0, y1, z1, _, _, _, _, _, _, _, _, _, hy10, by omega, by simp, fun _ => rfl, Nat.le_refl _, ⟨_, rfl⟩, by rw [blkAt_s0]; rfl, rfl⟩
  rintro k _ ⟨ls, at', b, c, y, z, L, w5, w6, w7, w8, w9, w10, w11, w12, hy0, hy1, hn, hcap, hb, hg, hL, rfl⟩
  have h4 := hg.curs h hy0
  have hqb : b ≠ q := by omega
  by_cases hk : k = 0
  · subst hk
    have hd : decide ((0 : Int) < ((0 : Nat) : Int)) = false := by decide
    have hd' : ¬ ((0 : Int) < ((0 : Nat) : Int)) := by omega
    have hi : 0 < ls.length := by omega
    have hi0 : (0 : Int) < (ls.length : Int) := by omega
    simp (maxSteps := 2000000) +contextual only [w_s_l1Cur_convoy_1, gt_iff_lt, hd, hd', decide_true, decide_false, Wp_some, Wp_none, Wp_ite, Wc_some, Wc_none, Wc_ite, Wp_thenRun, seqQ_normal, seqQ_exit, seqQ_ret, Wp_inBlock, blkQ_normal, blkQ_ret, blkQ_same, blkQ_exit, Wp_opThen, opQ_at, Wp_guardP, retQ_normal, retQ_ret, loopQ_normal, loopQ_exit, loopQ_ret, go_sem, entry, joinEsc, if_pos, reduceIte, Nat.reduceAdd, Nat.reduceLeDiff, Nat.reduceLT, Nat.reduceEqDiff]
    refine (wc_pick 40 h4 (by omega) (by omega)).mono ?_
    rintro v m ⟨x5, y5, z5, rfl, hx50, hx51, hy50, hy51, rfl⟩
    have hg5 := hg.cur hl (curB av y5 z5)
    have h5 := hg5.curs h hy50
    have hL5 : (L.set q (curB av y5 z5))[b]? = some (.cells (encL ls) true) := by rw [List.getElem?_set_ne (fun e => hqb e.symm)]; exact hL
    have hlb : (L.set q (curB av y5 z5)).length = L.length := List.length_set
    generalize L.set q (curB av y5 z5) = L5 at *
    have hbl : b < L5.length := (List.getElem?_eq_some_iff.mp hL5).1
    have hLs : ∀ x X, (L5.set q x ++ X)[b]? = some (.cells (encL ls) true) := fun x X => by
      rw [List.getElem?_append_left (by rw [List.length_set]; exact hbl), List.getElem?_set_ne (fun e => hqb e.symm)]
      exact hL5
    by_cases c0 : x5 = 0
    · subst c0
      simp (maxSteps := 2000000) +contextual only [fillParts, decide_true, Wp_some, Wp_none, Wp_ite, Wc_some, Wc_none, Wc_ite, Wp_thenRun, seqQ_normal, seqQ_exit, seqQ_ret, Wp_inBlock, blkQ_normal, blkQ_ret, blkQ_same, blkQ_exit, Wp_opThen, opQ_at, Wp_guardP, retQ_normal, retQ_ret, loopQ_normal, loopQ_exit, loopQ_ret, go_sem, entry, joinEsc, if_pos, reduceIte, Nat.reduceAdd, Nat.reduceLeDiff, Nat.reduceLT, Nat.reduceEqDiff]
      refine (amongZ (n := 2) [1, -1] (h5.more _) (by omega) (by simp +contextual only [cellsAt_s0, cellsAt_sk, blkAt_s0, blkAt_sk, set_s0, set_sk, set_sapp, set_app, List.set_set, List.length_set, finish_one_setG, finish_one_set0, clean_none', Nat.add_assoc, go_sem, entry, joinEsc, if_pos, reduceIte, Nat.reduceAdd, Nat.reduceLeDiff, Nat.reduceLT, Nat.reduceEqDiff]) (by have := h5.lt; omega) rfl (by omega) (by omega)).mono ?_
      rintro v m ⟨x7, y7, z7, rfl, hx7, hy70, hy71, rfl⟩
      obtain ⟨ls', e1, e2⟩ := set_ld0 hi x7
      rw [Nat.zero_mul] at e2
      have hle : 1 ≤ ls.length * 2 := by omega
      simp (maxSteps := 2000000) +contextual only [fillParts, hi, hi0, hLs, h5.lt, e2, hle, encL_length, Int.le_refl, Int.toNat_zero, Nat.zero_mul, Nat.add_zero, cellsAt_s0, cellsAt_sk, blkAt_s0, blkAt_sk, set_s0, set_sk, set_sapp, set_app, List.set_set, List.length_set, finish_one_setG, finish_one_set0, clean_none', Nat.add_assoc, Wp_some, Wp_none, Wp_ite, Wc_some, Wc_none, Wc_ite, Wp_thenRun, seqQ_normal, seqQ_exit, seqQ_ret, Wp_inBlock, blkQ_normal, blkQ_ret, blkQ_same, blkQ_exit, Wp_opThen, opQ_at, Wp_guardP, retQ_normal, retQ_ret, loopQ_normal, loopQ_exit, loopQ_ret, go_sem, entry, joinEsc, if_pos, reduceIte, Nat.reduceAdd, Nat.reduceLeDiff, Nat.reduceLT, Nat.reduceEqDiff]
      rw [← e1]
      exact r ls' b c y7 z7 _ _ _ _ _ _ _ _ _ _ _ _ hy70 (by omega) (by omega) hb (((hg5.cur hl _).more _).put (by rw [List.length_set]; exact hb) _) (List.getElem?_set_self (by rw [List.length_append, List.length_set]; omega))
    · have c0' : decide (x5 = 0) = false := decide_eq_false c0
      by_cases c1 : x5 = 1
      · subst c1
        have hwl : IntKind.i64.wrap ((ls.length : Int) - 1) = ((ls.length - 1 : Nat) : Int) := by
          rw [show (ls.length : Int) - 1 = ((ls.length - 1 : Nat) : Int) by omega]
          exact wrap64 (by omega) (by omega)
        have hi2 : ls.length - 1 < ls.length := by omega
        simp (maxSteps := 2000000) +contextual only [fillParts, c0', hwl, decide_true, Wp_some, Wp_none, Wp_ite, Wc_some, Wc_none, Wc_ite, Wp_thenRun, seqQ_normal, seqQ_exit, seqQ_ret, Wp_inBlock, blkQ_normal, blkQ_ret, blkQ_same, blkQ_exit, Wp_opThen, opQ_at, Wp_guardP, retQ_normal, retQ_ret, loopQ_normal, loopQ_exit, loopQ_ret, go_sem, entry, joinEsc, if_pos, reduceIte, Nat.reduceAdd, Nat.reduceLeDiff, Nat.reduceLT, Nat.reduceEqDiff]
        refine (amongZ (n := 3) [20, 21, -1] (h5.more _) (by omega) (by simp +contextual only [cellsAt_s0, cellsAt_sk, blkAt_s0, blkAt_sk, set_s0, set_sk, set_sapp, set_app, List.set_set, List.length_set, finish_one_setG, finish_one_set0, clean_none', Nat.add_assoc, go_sem, entry, joinEsc, if_pos, reduceIte, Nat.reduceAdd, Nat.reduceLeDiff, Nat.reduceLT, Nat.reduceEqDiff]) (by have := h5.lt; omega) rfl (by omega) (by omega)).mono ?_
        rintro v m ⟨x7, y7, z7, rfl, hx7, hy70, hy71, rfl⟩
        obtain ⟨ls', e1, e2⟩ := set_ld0 hi2 x7
        have hle : (ls.length - 1) * 2 + 1 ≤ ls.length * 2 := by omega
        simp (maxSteps := 2000000) +contextual only [fillParts, hi2, hLs, h5.lt, e2, hle, encL_length, Nat.add_zero, cellsAt_s0, cellsAt_sk, blkAt_s0, blkAt_sk, set_s0, set_sk, set_sapp, set_app, List.set_set, List.length_set, finish_one_setG, finish_one_set0, clean_none', Nat.add_assoc, Wp_some, Wp_none, Wp_ite, Wc_some, Wc_none, Wc_ite, Wp_thenRun, seqQ_normal, seqQ_exit, seqQ_ret, Wp_inBlock, blkQ_normal, blkQ_ret, blkQ_same, blkQ_exit, Wp_opThen, opQ_at, Wp_guardP, retQ_normal, retQ_ret, loopQ_normal, loopQ_exit, loopQ_ret, go_sem, entry, joinEsc, if_pos, reduceIte, Nat.reduceAdd, Nat.reduceLeDiff, Nat.reduceLT, Nat.reduceEqDiff]
        rw [← e1]
        exact r ls' b c y7 z7 _ _ _ _ _ _ _ _ _ _ _ _ hy70 (by omega) (by omega) hb (((hg5.cur hl _).more _).put (by rw [List.length_set]; exact hb) _) (List.getElem?_set_self (by rw [List.length_append, List.length_set]; omega))
      · have c1' : decide (x5 = 1) = false := decide_eq_false c1
        by_cases c2 : x5 = 2
        · subst c2
          simp (maxSteps := 2000000) +contextual only [fillParts, c0', c1', decide_true, Wp_some, Wp_none, Wp_ite, Wc_some, Wc_none, Wc_ite, Wp_thenRun, seqQ_normal, seqQ_exit, seqQ_ret, Wp_inBlock, blkQ_normal, blkQ_ret, blkQ_same, blkQ_exit, Wp_opThen, opQ_at, Wp_guardP, retQ_normal, retQ_ret, loopQ_normal, loopQ_exit, loopQ_ret, go_sem, entry, joinEsc, if_pos, reduceIte, Nat.reduceAdd, Nat.reduceLeDiff, Nat.reduceLT, Nat.reduceEqDiff]
          refine (amongZ (n := 3) [0, 99, 100] (h5.more _) (by omega) (by simp +contextual only [cellsAt_s0, cellsAt_sk, blkAt_s0, blkAt_sk, set_s0, set_sk, set_sapp, set_app, List.set_set, List.length_set, finish_one_setG, finish_one_set0, clean_none', Nat.add_assoc, go_sem, entry, joinEsc, if_pos, reduceIte, Nat.reduceAdd, Nat.reduceLeDiff, Nat.reduceLT, Nat.reduceEqDiff]) (by have := h5.lt; omega) rfl (by omega) (by omega)).mono ?_
          rintro v m ⟨x7, y7, z7, rfl, hx7, hy70, hy71, rfl⟩
          obtain ⟨ls', e1, e2⟩ := set_ld1 hi x7
          rw [Nat.zero_mul, Nat.zero_add] at e2
          have hle : 1 + 1 ≤ ls.length * 2 := by omega
          simp (maxSteps := 2000000) +contextual only [fillParts, hi, hi0, hLs, h5.lt, e2, hle, encL_length, Int.le_refl, Int.toNat_zero, Nat.zero_mul, Nat.zero_add, Nat.add_zero, cellsAt_s0, cellsAt_sk, blkAt_s0, blkAt_sk, set_s0, set_sk, set_sapp, set_app, List.set_set, List.length_set, finish_one_setG, finish_one_set0, clean_none', Nat.add_assoc, Wp_some, Wp_none, Wp_ite, Wc_some, Wc_none, Wc_ite, Wp_thenRun, seqQ_normal, seqQ_exit, seqQ_ret, Wp_inBlock, blkQ_normal, blkQ_ret, blkQ_same, blkQ_exit, Wp_opThen, opQ_at, Wp_guardP, retQ_normal, retQ_ret, loopQ_normal, loopQ_exit, loopQ_ret, go_sem, entry, joinEsc, if_pos, reduceIte, Nat.reduceAdd, Nat.reduceLeDiff, Nat.reduceLT, Nat.reduceEqDiff]
          rw [← e1]
          exact r ls' b c y7 z7 _ _ _ _ _ _ _ _ _ _ _ _ hy70 (by omega) (by omega) hb (((hg5.cur hl _).more _).put (by rw [List.length_set]; exact hb) _) (List.getElem?_set_self (by rw [List.length_append, List.length_set]; omega))
        · have c2' : decide (x5 = 2) = false := decide_eq_false c2
          by_cases c3 : x5 = 3
          · subst c3
            simp (maxSteps := 2000000) +contextual only [c0', c1', c2', decide_true, Wp_some, Wp_none, Wp_ite, Wc_some, Wc_none, Wc_ite, Wp_thenRun, seqQ_normal, seqQ_exit, seqQ_ret, Wp_inBlock, blkQ_normal, blkQ_ret, blkQ_same, blkQ_exit, Wp_opThen, opQ_at, Wp_guardP, retQ_normal, retQ_ret, loopQ_normal, loopQ_exit, loopQ_ret, go_sem, entry, joinEsc, if_pos, reduceIte, Nat.reduceAdd, Nat.reduceLeDiff, Nat.reduceLT, Nat.reduceEqDiff]
            refine Wp_loop (fun k st => ∃ (ls : List Ld) (b : Nat) (c : Option Nat) (L : List Blk) (w1 w4 w5 w6 w7 w8 w9 w10 w11 w12 : AV), ls.length + k = 7 ∧ (c = some 0 → ls.length = 0) ∧ H.length ≤ b ∧ Grown (H.set q (curB av y5 z5)) L ∧ L[b]? = some (.cells (encL ls) true) ∧
                st = ⟨[.ptr (some (q, 0)), w1, slL b ls.length c, .int .i64 at', w4, w5, w6, w7, w8, w9, w10, w11, w12], ⟨L, none⟩⟩) ?_ (7 - ls.length) _
              ⟨ls, b, c, L5, _, _, _, _, _, _, _, _, _, _, by omega, hcap, hb, hg5, hL5, rfl⟩
            rintro k _ ⟨ls, b, c, L, w1, w4, w5, w6, w7, w8, w9, w10, w11, w12, hn, hcap, hb, hg, hL, rfl⟩
            by_cases hk : k = 0
            · have hd : decide ((ls.length : Int) < 7) = false := decide_eq_false (by omega)
              simp (maxSteps := 2000000) +contextual only [w_s_l1Cur_convoy_2, hd, Wp_some, Wp_none, Wp_ite, Wc_some, Wc_none, Wc_ite, Wp_thenRun, seqQ_normal, seqQ_exit, seqQ_ret, Wp_inBlock, blkQ_normal, blkQ_ret, blkQ_same, blkQ_exit, Wp_opThen, opQ_at, Wp_guardP, retQ_normal, retQ_ret, loopQ_normal, loopQ_exit, loopQ_ret, go_sem, entry, joinEsc, if_pos, reduceIte, Nat.reduceAdd, Nat.reduceLeDiff, Nat.reduceLT, Nat.reduceEqDiff]
              exact r ls b c y5 z5 L _ _ _ _ _ _ _ _ _ _ _ hy50 (by omega) (by omega) hb hg hL
            · have hd : decide ((ls.length : Int) < 7) = true := decide_eq_true (by omega)
              have hap := fun M q' c' (hb : M[b]? = some (Blk.cells (encL ls) true)) (hq : cellsAt M q' = some [AV.int .i64 at', AV.int .i64 1]) => apOne (e := none) (sz := 2) (bytes := 16) (n := ls.length) (cap := c) (c := c') hb hq (encL_length _) rfl (by unfold maxBytes; omega) hcap
              have hLs : ∀ X, (L ++ X)[b]? = some (.cells (encL ls) true) := fun X => get_more hL X
              simp (maxSteps := 2000000) +contextual only [w_s_l1Cur_convoy_2, fillParts, hd, hLs, hap, cellsAt_s0, cellsAt_sk, blkAt_s0, blkAt_sk, set_s0, set_sk, set_sapp, set_app, List.set_set, List.length_set, finish_one_setG, finish_one_set0, clean_none', Nat.add_assoc, Wp_some, Wp_none, Wp_ite, Wc_some, Wc_none, Wc_ite, Wp_thenRun, seqQ_normal, seqQ_exit, seqQ_ret, Wp_inBlock, blkQ_normal, blkQ_ret, blkQ_same, blkQ_exit, Wp_opThen, opQ_at, Wp_guardP, retQ_normal, retQ_ret, loopQ_normal, loopQ_exit, loopQ_ret, go_sem, entry, joinEsc, if_pos, reduceIte, Nat.reduceAdd, Nat.reduceLeDiff, Nat.reduceLT, Nat.reduceEqDiff]
              have hen : encL ls ++ [AV.int .i64 at', AV.int .i64 1] = encL (ls ++ [(at', 1)]) := by rw [encL_append]; rfl
              rw [hen, show ls.length + 1 = (ls ++ [(at', 1)]).length by simp]
              exact ⟨k - 1, by omega, ls ++ [(at', 1)], _, none, _, _, _, _, _, _, _, _, _, _, _, by rw [List.length_append, List.length_singleton]; omega, by simp, by have := hg.le; rw [List.length_set] at this; omega, ((hg.more _).kill (by rw [List.length_set]; exact hb) _).more _, last_get (by rw [killL_length]; simp) _, rfl⟩
          · have c3' : decide (x5 = 3) = false := decide_eq_false c3
            by_cases c4 : x5 = 4
            · subst c4
              simp (maxSteps := 2000000) +contextual only [fillParts, c0', c1', c2', c3', decide_true, Wp_some, Wp_none, Wp_ite, Wc_some, Wc_none, Wc_ite, Wp_thenRun, seqQ_normal, seqQ_exit, seqQ_ret, Wp_inBlock, blkQ_normal, blkQ_ret, blkQ_same, blkQ_exit, Wp_opThen, opQ_at, Wp_guardP, retQ_normal, retQ_ret, loopQ_normal, loopQ_exit, loopQ_ret, go_sem, entry, joinEsc, if_pos, reduceIte, Nat.reduceAdd, Nat.reduceLeDiff, Nat.reduceLT, Nat.reduceEqDiff]
              exact r [] L5.length (some 0) y5 z5 _ _ _ _ _ _ _ _ _ _ _ _ hy50 (by omega) (by simp) (by have := hg5.le; rw [List.length_set] at this; exact this) (hg5.more _) (by rw [blkAt_new0]; rfl)
            · have c4' : decide (x5 = 4) = false := decide_eq_false c4
              simp (maxSteps := 2000000) +contextual only [c0', c1', c2', c3', c4', decide_true, Wp_some, Wp_none, Wp_ite, Wc_some, Wc_none, Wc_ite, Wp_thenRun, seqQ_normal, seqQ_exit, seqQ_ret, Wp_inBlock, blkQ_normal, blkQ_ret, blkQ_same, blkQ_exit, Wp_opThen, opQ_at, Wp_guardP, retQ_normal, retQ_ret, loopQ_normal, loopQ_exit, loopQ_ret, go_sem, entry, joinEsc, if_pos, reduceIte, Nat.reduceAdd, Nat.reduceLeDiff, Nat.reduceLT, Nat.reduceEqDiff]
              exact r ls b c y5 z5 L5 _ _ _ _ _ _ _ _ _ _ _ hy50 (by omega) (by omega) hb hg5 hL5
  · have hd : decide ((0 : Int) < (k : Int)) = true := decide_eq_true (by omega)
    have hd' : (0 : Int) < (k : Int) := by omega
    have hwk : IntKind.i64.wrap ((k : Int) - 1) = ((k - 1 : Nat) : Int) := by
      rw [show ((k : Int) - 1) = ((k - 1 : Nat) : Int) by omega]; exact wrap64 (by omega) (by omega)
    have hql := h4.lt
    have hbl : b < L.length := (List.getElem?_eq_some_iff.mp hL).1
    have hLs : ∀ x X, (L.set q x ++ X)[b]? = some (.cells (encL ls) true) := fun x X => by
      rw [List.getElem?_append_left (by rw [List.length_set]; exact hbl), List.getElem?_set_ne (fun e => hqb e.symm)]
      exact hL
    simp (maxSteps := 2000000) +contextual only [w_s_l1Cur_convoy_1, fillParts, gt_iff_lt, hd, hd', decide_true, Wp_some, Wp_none, Wp_ite, Wc_some, Wc_none, Wc_ite, Wp_thenRun, seqQ_normal, seqQ_exit, seqQ_ret, Wp_inBlock, blkQ_normal, blkQ_ret, blkQ_same, blkQ_exit, Wp_opThen, opQ_at, Wp_guardP, retQ_normal, retQ_ret, loopQ_normal, loopQ_exit, loopQ_ret, go_sem, entry, joinEsc, if_pos, reduceIte, Nat.reduceAdd, Nat.reduceLeDiff, Nat.reduceLT, Nat.reduceEqDiff]
    refine (amongZ (n := 3) [3, 9, 30] (h4.more _) (by omega) (by simp +contextual only [cellsAt_s0, cellsAt_sk, blkAt_s0, blkAt_sk, set_s0, set_sk, set_sapp, set_app, List.set_set, List.length_set, finish_one_setG, finish_one_set0, clean_none', Nat.add_assoc, go_sem, entry, joinEsc, if_pos, reduceIte, Nat.reduceAdd, Nat.reduceLeDiff, Nat.reduceLT, Nat.reduceEqDiff]) (by omega) rfl (by omega) (by omega)).mono ?_
    rintro v m ⟨x7, y7, z7, rfl, hx7, hy70, hy71, rfl⟩
    have h7 := h4.step hy70 z7
    have hx7' : x7 ≤ 61 := by
      simp at hx7
      omega
    simp (maxSteps := 2000000) +contextual only [fillParts, hql, cellsAt_s0, cellsAt_sk, blkAt_s0, blkAt_sk, set_s0, set_sk, set_sapp, set_app, List.set_set, List.length_set, finish_one_setG, finish_one_set0, clean_none', Nat.add_assoc, Wp_some, Wp_none, Wp_ite, Wc_some, Wc_none, Wc_ite, Wp_thenRun, seqQ_normal, seqQ_exit, seqQ_ret, Wp_inBlock, blkQ_normal, blkQ_ret, blkQ_same, blkQ_exit, Wp_opThen, opQ_at, Wp_guardP, retQ_normal, retQ_ret, loopQ_normal, loopQ_exit, loopQ_ret, go_sem, entry, joinEsc, if_pos, reduceIte, Nat.reduceAdd, Nat.reduceLeDiff, Nat.reduceLT, Nat.reduceEqDiff]
    refine (wc_pick x7 (h7.more _) (by omega) (by omega)).mono ?_
    rintro v m ⟨x8, y8, z8, rfl, hx80, hx81, hy80, hy81, rfl⟩
    generalize hw : IntKind.i64.wrap (1 + x8) = w
    have hg8 := hg.cur hl (curB av y8 z8)
    have hL8 : (L.set q (curB av y8 z8))[b]? = some (.cells (encL ls) true) := by rw [List.getElem?_set_ne (fun e => hqb e.symm)]; exact hL
    have hlb : (L.set q (curB av y8 z8)).length = L.length := List.length_set
    simp (maxSteps := 2000000) +contextual only [fillParts, hql, hw, cellsAt_s0, cellsAt_sk, blkAt_s0, blkAt_sk, set_s0, set_sk, set_sapp, set_app, List.set_set, List.length_set, finish_one_setG, finish_one_set0, clean_none', Nat.add_assoc, Wp_some, Wp_none, Wp_ite, Wc_some, Wc_none, Wc_ite, Wp_thenRun, seqQ_normal, seqQ_exit, seqQ_ret, Wp_inBlock, blkQ_normal, blkQ_ret, blkQ_same, blkQ_exit, Wp_opThen, opQ_at, Wp_guardP, retQ_normal, retQ_ret, loopQ_normal, loopQ_exit, loopQ_ret, go_sem, entry, joinEsc, if_pos, reduceIte, Nat.reduceAdd, Nat.reduceLeDiff, Nat.reduceLT, Nat.reduceEqDiff]
    generalize L.set q (curB av y8 z8) = L8 at *
    refine wc_ap (k := 1) (new := [.int .i64 at', .int .i64 w]) (get_more hL8 _) (src_new _ 1 2 _ _ (L.length + 1) (by rw [← hlb]; simp +contextual only [go_sem, entry, joinEsc, if_pos, reduceIte, Nat.reduceAdd, Nat.reduceLeDiff, Nat.reduceLT, Nat.reduceEqDiff]) rfl) (encL_length _) rfl (by unfold maxBytes; omega) hcap ?_
    intro L9 e1 e2 e3 e4
    have hen : encL ls ++ [AV.int .i64 at', AV.int .i64 w] = encL (ls ++ [(at', w)]) := by rw [encL_append]; rfl
    rw [hen] at e3
    have hg9 := e4 _ (hg8.more _) (by rw [List.length_set]; exact hb)
    simp (maxSteps := 2000000) +contextual only [Wp_some, Wp_none, Wp_ite, Wc_some, Wc_none, Wc_ite, Wp_thenRun, seqQ_normal, seqQ_exit, seqQ_ret, Wp_inBlock, blkQ_normal, blkQ_ret, blkQ_same, blkQ_exit, Wp_opThen, opQ_at, Wp_guardP, retQ_normal, retQ_ret, loopQ_normal, loopQ_exit, loopQ_ret, go_sem, entry, joinEsc, if_pos, reduceIte, Nat.reduceAdd, Nat.reduceLeDiff, Nat.reduceLT, Nat.reduceEqDiff]
    have h9 := hg9.curs h hy80
    refine (wc_pick 4 h9 (by omega) (by omega)).mono ?_
    rintro v m ⟨x10, y10, z10, rfl, hx100, hx101, hy100, hy101, rfl⟩
    have hg10 := hg9.cur hl (curB av y10 z10)
    simp (maxSteps := 2000000) +contextual only [hwk, Wp_some, Wp_none, Wp_ite, Wc_some, Wc_none, Wc_ite, Wp_thenRun, seqQ_normal, seqQ_exit, seqQ_ret, Wp_inBlock, blkQ_normal, blkQ_ret, blkQ_same, blkQ_exit, Wp_opThen, opQ_at, Wp_guardP, retQ_normal, retQ_ret, loopQ_normal, loopQ_exit, loopQ_ret, go_sem, entry, joinEsc, if_pos, reduceIte, Nat.reduceAdd, Nat.reduceLeDiff, Nat.reduceLT, Nat.reduceEqDiff]
    rw [show ls.length + 1 = (ls ++ [(at', w)]).length by simp]
    have hle8 := hg8.le
    rw [List.length_set] at hle8
    rw [List.length_append] at e3
    exact ⟨k - 1, by omega, ls ++ [(at', w)], _, _, none, y10, z10, _, _, _, _, _, _, _, _, _, hy100, by omega, by rw [List.length_append, List.length_singleton]; omega, by simp, by omega, hg10, by rw [List.getElem?_set_ne (by omega)]; simpa using e3, rfl⟩

end Go.Proofs.Ytaikmfldjkbmmaa.Slim

/- Beams: the drawn arguments of laws. -/
namespace Go.Proofs.Ytaikmfldjkbmmaa.Slim

open Go

set_option linter.unusedSimpArgs false

set_option linter.unusedVariables false

variable {pr : Prims} {H : List Blk} {e : Option Nat}

abbrev z3B : Blk := .cells [.int .i64 0, .int .i64 0, .int .i64 0] true

theorem wc_DrawRestsOn {av : AV} (hc : CodeAt H av) : Wc (call T pr f_s_DrawRestsOn [av] ⟨H, e⟩) (fun v m => ∃ (x a b : Int) (ls : List Ld) (c1 : Option Nat), v = .tup [bmV x a b, slL H.length ls.length c1] ∧ ls.length ≤ 13 ∧ m = ⟨H ++ [.cells (encL ls) true], e⟩) := by
  obtain ⟨p0, s0, n0, c0, rfl⟩ := hc.form
  rw [call_wc t_s_DrawRestsOn]
  simp +contextual only [a_s_DrawRestsOn, c_s_DrawRestsOn, fillParts, Nat.add_assoc, Wp_some, Wp_none, Wp_ite, Wc_some, Wc_none, Wc_ite, Wp_thenRun, seqQ_normal, seqQ_exit, seqQ_ret, Wp_inBlock, blkQ_normal, blkQ_ret, blkQ_same, blkQ_exit, Wp_opThen, opQ_at, Wp_guardP, retQ_normal, retQ_ret, loopQ_normal, loopQ_exit, loopQ_ret, go_sem, entry, joinEsc, if_pos, reduceIte, Nat.reduceAdd, Nat.reduceLeDiff, Nat.reduceLT, Nat.reduceEqDiff]
  refine (wc_beam (Cu.new (k := 1) (G := [z3B, curB _ 0 0]) rfl hc (by omega)) (by omega)).mono ?_
  rintro v m ⟨x, a, b, y1, z1, rfl, hy10, hy11, rfl⟩
  simp +contextual only [Nat.add_zero, Nat.add_assoc, Wp_some, Wp_none, Wp_ite, Wc_some, Wc_none, Wc_ite, Wp_thenRun, seqQ_normal, seqQ_exit, seqQ_ret, Wp_inBlock, blkQ_normal, blkQ_ret, blkQ_same, blkQ_exit, Wp_opThen, opQ_at, Wp_guardP, retQ_normal, retQ_ret, loopQ_normal, loopQ_exit, loopQ_ret, go_sem, entry, joinEsc, if_pos, reduceIte, Nat.reduceAdd, Nat.reduceLeDiff, Nat.reduceLT, Nat.reduceEqDiff]
  refine (wc_onBeam x a b (Cu.new (H := H) (k := 1) (y := y1) (z := z1) rfl hc hy10) (by omega)).mono ?_
  rintro v m ⟨ls, c1, y2, z2, rfl, hn1, hy20, hy21, rfl⟩
  have hf := fun (B0 B1 B2 : Blk) => finish_sl1 (H := H) (s1 := 2) (n1 := ls.length) (c1 := c1) (bmV x a b) rfl (fun _ => rfl) (L := H ++ [B0, B1, B2, .cells (encL ls) true]) ⟨_, rfl⟩ e none rfl (b1 := H.length + 3) (by omega) (by rw [blkAt_newk]; rfl) (under_encL _ _)
  simp +contextual only [a_s_DrawRestsOn, hf, Nat.add_zero, Nat.add_assoc, Wp_some, Wp_none, Wp_ite, Wc_some, Wc_none, Wc_ite, Wp_thenRun, seqQ_normal, seqQ_exit, seqQ_ret, Wp_inBlock, blkQ_normal, blkQ_ret, blkQ_same, blkQ_exit, Wp_opThen, opQ_at, Wp_guardP, retQ_normal, retQ_ret, loopQ_normal, loopQ_exit, loopQ_ret, go_sem, entry, joinEsc, if_pos, reduceIte, Nat.reduceAdd, Nat.reduceLeDiff, Nat.reduceLT, Nat.reduceEqDiff]
  exact ⟨x, a, b, ls, c1, rfl, hn1, rfl⟩

theorem wc_DrawBendTimes {av : AV} (hc : CodeAt H av) : Wc (call T pr f_s_DrawBendTimes [av] ⟨H, e⟩) (fun v m => ∃ (x a b : Int) (ls : List Ld) (c1 : Option Nat), v = .tup [bmV x a b, slL H.length ls.length c1] ∧ ls.length ≤ 13 ∧ m = ⟨H ++ [.cells (encL ls) true], e⟩) := by
  rw [call_wc t_s_DrawBendTimes]
  simp +contextual only [a_s_DrawBendTimes, c_s_DrawBendTimes, fillParts, Nat.add_assoc, Wp_some, Wp_none, Wp_ite, Wc_some, Wc_none, Wc_ite, Wp_thenRun, seqQ_normal, seqQ_exit, seqQ_ret, Wp_inBlock, blkQ_normal, blkQ_ret, blkQ_same, blkQ_exit, Wp_opThen, opQ_at, Wp_guardP, retQ_normal, retQ_ret, loopQ_normal, loopQ_exit, loopQ_ret, go_sem, entry, joinEsc, if_pos, reduceIte, Nat.reduceAdd, Nat.reduceLeDiff, Nat.reduceLT, Nat.reduceEqDiff]
  refine (wc_DrawRestsOn (hc.more _)).mono ?_
  rintro v m ⟨x, a, b, ls, c1, rfl, hn1, rfl⟩
  have hf := fun (B0 : Blk) => finish_sl1 (H := H) (s1 := 2) (n1 := ls.length) (c1 := c1) (bmV x a b) rfl (fun _ => rfl) (L := H ++ [B0, .cells (encL ls) true]) ⟨_, rfl⟩ e none rfl (b1 := H.length + 1) (by omega) (by rw [blkAt_newk]; rfl) (under_encL _ _)
  simp +contextual only [a_s_DrawBendTimes, hf, Nat.add_zero, Nat.add_assoc, Wp_some, Wp_none, Wp_ite, Wc_some, Wc_none, Wc_ite, Wp_thenRun, seqQ_normal, seqQ_exit, seqQ_ret, Wp_inBlock, blkQ_normal, blkQ_ret, blkQ_same, blkQ_exit, Wp_opThen, opQ_at, Wp_guardP, retQ_normal, retQ_ret, loopQ_normal, loopQ_exit, loopQ_ret, go_sem, entry, joinEsc, if_pos, reduceIte, Nat.reduceAdd, Nat.reduceLeDiff, Nat.reduceLT, Nat.reduceEqDiff]
  exact ⟨x, a, b, ls, c1, rfl, hn1, rfl⟩

theorem wc_DrawInfluenceOf {av : AV} (hc : CodeAt H av) : Wc (call T pr f_s_DrawInfluenceOf [av] ⟨H, e⟩) (fun v m => ∃ x a b p : Int, v = .tup [bmV x a b, .int .i64 p] ∧ m = ⟨H, e⟩) := by
  obtain ⟨p0, s0, n0, c0, rfl⟩ := hc.form
  rw [call_wc t_s_DrawInfluenceOf]
  simp +contextual only [a_s_DrawInfluenceOf, c_s_DrawInfluenceOf, fillParts, Nat.add_assoc, Wp_some, Wp_none, Wp_ite, Wc_some, Wc_none, Wc_ite, Wp_thenRun, seqQ_normal, seqQ_exit, seqQ_ret, Wp_inBlock, blkQ_normal, blkQ_ret, blkQ_same, blkQ_exit, Wp_opThen, opQ_at, Wp_guardP, retQ_normal, retQ_ret, loopQ_normal, loopQ_exit, loopQ_ret, go_sem, entry, joinEsc, if_pos, reduceIte, Nat.reduceAdd, Nat.reduceLeDiff, Nat.reduceLT, Nat.reduceEqDiff]
  refine (wc_beam (Cu.new (k := 1) (G := [z3B, curB _ 0 0]) rfl hc (by omega)) (by omega)).mono ?_
  rintro v m ⟨x, a, b, y1, z1, rfl, hy10, hy11, rfl⟩
  simp +contextual only [Nat.add_zero, Nat.add_assoc, Wp_some, Wp_none, Wp_ite, Wc_some, Wc_none, Wc_ite, Wp_thenRun, seqQ_normal, seqQ_exit, seqQ_ret, Wp_inBlock, blkQ_normal, blkQ_ret, blkQ_same, blkQ_exit, Wp_opThen, opQ_at, Wp_guardP, retQ_normal, retQ_ret, loopQ_normal, loopQ_exit, loopQ_ret, go_sem, entry, joinEsc, if_pos, reduceIte, Nat.reduceAdd, Nat.reduceLeDiff, Nat.reduceLT, Nat.reduceEqDiff]
  refine (wc_placeOn x a b (Cu.new (H := H) (k := 1) (y := y1) (z := z1) rfl hc hy10) (by omega)).mono ?_
  rintro v m ⟨p, y2, z2, rfl, hy20, hy21, rfl⟩
  simp +contextual only [a_s_DrawInfluenceOf, Nat.add_zero, Nat.add_assoc, Wp_some, Wp_none, Wp_ite, Wc_some, Wc_none, Wc_ite, Wp_thenRun, seqQ_normal, seqQ_exit, seqQ_ret, Wp_inBlock, blkQ_normal, blkQ_ret, blkQ_same, blkQ_exit, Wp_opThen, opQ_at, Wp_guardP, retQ_normal, retQ_ret, loopQ_normal, loopQ_exit, loopQ_ret, finish_one_eq, finish_one_eq0, finish_two_eq, finish_two_eq0, roots_slice_new, roots_slice_new0, roots_slice_none, roots_ptr_new, roots_ptr_new0, roots_int, roots_bool, roots_str, roots_agg, roots_tup, roots_cons, roots_nil, rename_slice, rename_slice_none, rename_ptr, rename_int, rename_bool, rename_str, rename_agg, rename_tup, rename_cons, rename_nil, keepBlks_nil, keepBlks_cons, flatAll_nil, flatAll_cons, flatBlk_cells, dedup_nil, dedup_one, dedup_two, renum_one, renum_one0, renum_two0, renum_two1, clean_none', clean_some, minEsc_none, minEsc_some, Nat.add_left_cancel_iff, Nat.le_add_right, Nat.le_refl, decide_true, go_sem, entry, joinEsc, if_pos, reduceIte, Nat.reduceAdd, Nat.reduceLeDiff, Nat.reduceLT, Nat.reduceEqDiff]
  exact ⟨x, a, b, p, rfl⟩

theorem wc_DrawBendBy {av : AV} (hc : CodeAt H av) : Wc (call T pr f_s_DrawBendBy [av] ⟨H, e⟩) (fun v m => ∃ (x a b p : Int) (ls : List Ld) (c1 : Option Nat), v = .tup [bmV x a b, slL H.length ls.length c1, .int .i64 p] ∧ ls.length ≤ 13 ∧ m = ⟨H ++ [.cells (encL ls) true], e⟩) := by
  obtain ⟨p0, s0, n0, c0, rfl⟩ := hc.form
  rw [call_wc t_s_DrawBendBy]
  simp +contextual only [a_s_DrawBendBy, c_s_DrawBendBy, fillParts, Nat.add_assoc, Wp_some, Wp_none, Wp_ite, Wc_some, Wc_none, Wc_ite, Wp_thenRun, seqQ_normal, seqQ_exit, seqQ_ret, Wp_inBlock, blkQ_normal, blkQ_ret, blkQ_same, blkQ_exit, Wp_opThen, opQ_at, Wp_guardP, retQ_normal, retQ_ret, loopQ_normal, loopQ_exit, loopQ_ret, go_sem, entry, joinEsc, if_pos, reduceIte, Nat.reduceAdd, Nat.reduceLeDiff, Nat.reduceLT, Nat.reduceEqDiff]
  refine (wc_beam (Cu.new (k := 1) (G := [z3B, curB _ 0 0]) rfl hc (by omega)) (by omega)).mono ?_
  rintro v m ⟨x, a, b, y1, z1, rfl, hy10, hy11, rfl⟩
  simp +contextual only [Nat.add_zero, Nat.add_assoc, Wp_some, Wp_none, Wp_ite, Wc_some, Wc_none, Wc_ite, Wp_thenRun, seqQ_normal, seqQ_exit, seqQ_ret, Wp_inBlock, blkQ_normal, blkQ_ret, blkQ_same, blkQ_exit, Wp_opThen, opQ_at, Wp_guardP, retQ_normal, retQ_ret, loopQ_normal, loopQ_exit, loopQ_ret, go_sem, entry, joinEsc, if_pos, reduceIte, Nat.reduceAdd, Nat.reduceLeDiff, Nat.reduceLT, Nat.reduceEqDiff]
  refine (wc_onBeam x a b (Cu.new (H := H) (k := 1) (y := y1) (z := z1) rfl hc hy10) (by omega)).mono ?_
  rintro v m ⟨ls, c1, y2, z2, rfl, hn1, hy20, hy21, rfl⟩
  simp +contextual only [Nat.add_zero, Nat.add_assoc, Wp_some, Wp_none, Wp_ite, Wc_some, Wc_none, Wc_ite, Wp_thenRun, seqQ_normal, seqQ_exit, seqQ_ret, Wp_inBlock, blkQ_normal, blkQ_ret, blkQ_same, blkQ_exit, Wp_opThen, opQ_at, Wp_guardP, retQ_normal, retQ_ret, loopQ_normal, loopQ_exit, loopQ_ret, go_sem, entry, joinEsc, if_pos, reduceIte, Nat.reduceAdd, Nat.reduceLeDiff, Nat.reduceLT, Nat.reduceEqDiff]
  refine (wc_placeOn x a b (Cu.new (H := H) (k := 1) (y := y2) (z := z2) rfl hc hy20) (by omega)).mono ?_
  rintro v m ⟨p, y3, z3, rfl, hy30, hy31, rfl⟩
  have hf := fun (B0 B1 B2 : Blk) => finish_slm (H := H) (s1 := 2) (n1 := ls.length) (c1 := c1) (bmV x a b) (.int .i64 p) rfl (fun _ => rfl) rfl (fun _ => rfl) (L := H ++ [B0, B1, B2, .cells (encL ls) true]) ⟨_, rfl⟩ e none rfl (b1 := H.length + 3) (by omega) (by rw [blkAt_newk]; rfl) (under_encL _ _)
  simp +contextual only [a_s_DrawBendBy, hf, Nat.add_zero, Nat.add_assoc, Wp_some, Wp_none, Wp_ite, Wc_some, Wc_none, Wc_ite, Wp_thenRun, seqQ_normal, seqQ_exit, seqQ_ret, Wp_inBlock, blkQ_normal, blkQ_ret, blkQ_same, blkQ_exit, Wp_opThen, opQ_at, Wp_guardP, retQ_normal, retQ_ret, loopQ_normal, loopQ_exit, loopQ_ret, go_sem, entry, joinEsc, if_pos, reduceIte, Nat.reduceAdd, Nat.reduceLeDiff, Nat.reduceLT, Nat.reduceEqDiff]
  exact ⟨x, a, b, p, ls, c1, rfl, hn1, rfl⟩

theorem wc_DrawOutermostPlaces {av : AV} (hc : CodeAt H av) : Wc (call T pr f_s_DrawOutermostPlaces [av] ⟨H, e⟩) (fun v m => ∃ (x a b p : Int) (ls : List Ld) (c1 : Option Nat), v = .tup [bmV x a b, slL H.length ls.length c1, .int .i64 p] ∧ ls.length ≤ 13 ∧ m = ⟨H ++ [.cells (encL ls) true], e⟩) := by
  obtain ⟨p0, s0, n0, c0, rfl⟩ := hc.form
  rw [call_wc t_s_DrawOutermostPlaces]
  simp +contextual only [a_s_DrawOutermostPlaces, c_s_DrawOutermostPlaces, fillParts, Nat.add_assoc, Wp_some, Wp_none, Wp_ite, Wc_some, Wc_none, Wc_ite, Wp_thenRun, seqQ_normal, seqQ_exit, seqQ_ret, Wp_inBlock, blkQ_normal, blkQ_ret, blkQ_same, blkQ_exit, Wp_opThen, opQ_at, Wp_guardP, retQ_normal, retQ_ret, loopQ_normal, loopQ_exit, loopQ_ret, go_sem, entry, joinEsc, if_pos, reduceIte, Nat.reduceAdd, Nat.reduceLeDiff, Nat.reduceLT, Nat.reduceEqDiff]
  refine (wc_beam (Cu.new (k := 1) (G := [z3B, curB _ 0 0]) rfl hc (by omega)) (by omega)).mono ?_
  rintro v m ⟨x, a, b, y1, z1, rfl, hy10, hy11, rfl⟩
  simp +contextual only [Nat.add_zero, Nat.add_assoc, Wp_some, Wp_none, Wp_ite, Wc_some, Wc_none, Wc_ite, Wp_thenRun, seqQ_normal, seqQ_exit, seqQ_ret, Wp_inBlock, blkQ_normal, blkQ_ret, blkQ_same, blkQ_exit, Wp_opThen, opQ_at, Wp_guardP, retQ_normal, retQ_ret, loopQ_normal, loopQ_exit, loopQ_ret, go_sem, entry, joinEsc, if_pos, reduceIte, Nat.reduceAdd, Nat.reduceLeDiff, Nat.reduceLT, Nat.reduceEqDiff]
  refine (wc_onBeam x a b (Cu.new (H := H) (k := 1) (y := y1) (z := z1) rfl hc hy10) (by omega)).mono ?_
  rintro v m ⟨ls, c1, y2, z2, rfl, hn1, hy20, hy21, rfl⟩
  simp (maxSteps := 2000000) +contextual only [fillParts, Nat.add_zero, Nat.add_assoc, Wp_some, Wp_none, Wp_ite, Wc_some, Wc_none, Wc_ite, Wp_thenRun, seqQ_normal, seqQ_exit, seqQ_ret, Wp_inBlock, blkQ_normal, blkQ_ret, blkQ_same, blkQ_exit, Wp_opThen, opQ_at, Wp_guardP, retQ_normal, retQ_ret, loopQ_normal, loopQ_exit, loopQ_ret, go_sem, entry, joinEsc, if_pos, reduceIte, Nat.reduceAdd, Nat.reduceLeDiff, Nat.reduceLT, Nat.reduceEqDiff]
  refine (amongZ (n := 7) [1, 3, 10, 40, 99, 100, 0] (Cu.new (H := H) (k := 1) (y := y2) (z := z2) rfl hc hy20) (by omega) (by simp +contextual only [go_sem, entry, joinEsc, if_pos, reduceIte, Nat.reduceAdd, Nat.reduceLeDiff, Nat.reduceLT, Nat.reduceEqDiff]) (by omega) rfl (by omega) (by omega)).mono ?_
  rintro v m ⟨p, y3, z3, rfl, hx3, hy30, hy31, rfl⟩
  have hf := fun (B0 B1 B2 B4 : Blk) => finish_slm (H := H) (s1 := 2) (n1 := ls.length) (c1 := c1) (bmV x a b) (.int .i64 p) rfl (fun _ => rfl) rfl (fun _ => rfl) (L := H ++ [B0, B1, B2, .cells (encL ls) true, B4]) ⟨_, rfl⟩ e none rfl (b1 := H.length + 3) (by omega) (by rw [blkAt_newk]; rfl) (under_encL _ _)
  simp (maxSteps := 2000000) +contextual only [a_s_DrawOutermostPlaces, hf, Nat.add_zero, Nat.add_assoc, Wp_some, Wp_none, Wp_ite, Wc_some, Wc_none, Wc_ite, Wp_thenRun, seqQ_normal, seqQ_exit, seqQ_ret, Wp_inBlock, blkQ_normal, blkQ_ret, blkQ_same, blkQ_exit, Wp_opThen, opQ_at, Wp_guardP, retQ_normal, retQ_ret, loopQ_normal, loopQ_exit, loopQ_ret, go_sem, entry, joinEsc, if_pos, reduceIte, Nat.reduceAdd, Nat.reduceLeDiff, Nat.reduceLT, Nat.reduceEqDiff]
  exact ⟨x, a, b, p, ls, c1, rfl, hn1, rfl⟩

theorem wc_DrawIsConvoy {av : AV} (hc : CodeAt H av) : Wc (call T pr f_s_DrawIsConvoy [av] ⟨H, e⟩) (fun v m => ∃ (ls : List Ld) (c1 : Option Nat), v = slL H.length ls.length c1 ∧ ls.length ≤ 13 ∧ m = ⟨H ++ [.cells (encL ls) true], e⟩) := by
  obtain ⟨p0, s0, n0, c0, rfl⟩ := hc.form
  rw [call_wc t_s_DrawIsConvoy]
  simp +contextual only [a_s_DrawIsConvoy, c_s_DrawIsConvoy, fillParts, Nat.add_assoc, Wp_some, Wp_none, Wp_ite, Wc_some, Wc_none, Wc_ite, Wp_thenRun, seqQ_normal, seqQ_exit, seqQ_ret, Wp_inBlock, blkQ_normal, blkQ_ret, blkQ_same, blkQ_exit, Wp_opThen, opQ_at, Wp_guardP, retQ_normal, retQ_ret, loopQ_normal, loopQ_exit, loopQ_ret, go_sem, entry, joinEsc, if_pos, reduceIte, Nat.reduceAdd, Nat.reduceLeDiff, Nat.reduceLT, Nat.reduceEqDiff]
  refine (wc_convoy (Cu.new (k := 0) (G := [curB _ 0 0]) rfl hc (by omega)) (by omega)).mono ?_
  rintro v m ⟨ls, c1, y2, z2, rfl, hn1, hy20, hy21, rfl⟩
  have hf := fun (B0 : Blk) => finish_sl (H := H) (sz := 2) (n := ls.length) (c := c1) (L := H ++ [B0, .cells (encL ls) true]) ⟨_, rfl⟩ e none rfl (b := H.length + 1) (by omega) (by rw [blkAt_newk]; rfl) (under_encL _ _)
  simp +contextual only [a_s_DrawIsConvoy, hf, Nat.add_zero, Nat.add_assoc, Wp_some, Wp_none, Wp_ite, Wc_some, Wc_none, Wc_ite, Wp_thenRun, seqQ_normal, seqQ_exit, seqQ_ret, Wp_inBlock, blkQ_normal, blkQ_ret, blkQ_same, blkQ_exit, Wp_opThen, opQ_at, Wp_guardP, retQ_normal, retQ_ret, loopQ_normal, loopQ_exit, loopQ_ret, go_sem, entry, joinEsc, if_pos, reduceIte, Nat.reduceAdd, Nat.reduceLeDiff, Nat.reduceLT, Nat.reduceEqDiff]
  exact ⟨ls, c1, rfl, hn1, rfl⟩

theorem wc_DrawConvoyRow {av : AV} (hc : CodeAt H av) : Wc (call T pr f_s_DrawConvoyRow [av] ⟨H, e⟩) (fun v m => ∃ (x a b p : Int) (ls : List Ld) (c1 : Option Nat), v = .tup [bmV x a b, slL H.length ls.length c1, .int .i64 p] ∧ ls.length ≤ 13 ∧ m = ⟨H ++ [.cells (encL ls) true], e⟩) := by
  obtain ⟨p0, s0, n0, c0, rfl⟩ := hc.form
  rw [call_wc t_s_DrawConvoyRow]
  simp +contextual only [a_s_DrawConvoyRow, c_s_DrawConvoyRow, fillParts, Nat.add_assoc, Wp_some, Wp_none, Wp_ite, Wc_some, Wc_none, Wc_ite, Wp_thenRun, seqQ_normal, seqQ_exit, seqQ_ret, Wp_inBlock, blkQ_normal, blkQ_ret, blkQ_same, blkQ_exit, Wp_opThen, opQ_at, Wp_guardP, retQ_normal, retQ_ret, loopQ_normal, loopQ_exit, loopQ_ret, go_sem, entry, joinEsc, if_pos, reduceIte, Nat.reduceAdd, Nat.reduceLeDiff, Nat.reduceLT, Nat.reduceEqDiff]
  refine (wc_beam (Cu.new (k := 1) (G := [z3B, curB _ 0 0]) rfl hc (by omega)) (by omega)).mono ?_
  rintro v m ⟨x, a, b, y1, z1, rfl, hy10, hy11, rfl⟩
  simp +contextual only [Nat.add_zero, Nat.add_assoc, Wp_some, Wp_none, Wp_ite, Wc_some, Wc_none, Wc_ite, Wp_thenRun, seqQ_normal, seqQ_exit, seqQ_ret, Wp_inBlock, blkQ_normal, blkQ_ret, blkQ_same, blkQ_exit, Wp_opThen, opQ_at, Wp_guardP, retQ_normal, retQ_ret, loopQ_normal, loopQ_exit, loopQ_ret, go_sem, entry, joinEsc, if_pos, reduceIte, Nat.reduceAdd, Nat.reduceLeDiff, Nat.reduceLT, Nat.reduceEqDiff]
  refine (wc_convoy (Cu.new (H := H) (k := 1) (y := y1) (z := z1) rfl hc hy10) (by omega)).mono ?_
  rintro v m ⟨ls, c1, y2, z2, rfl, hn1, hy20, hy21, rfl⟩
  simp +contextual only [Nat.add_zero, Nat.add_assoc, Wp_some, Wp_none, Wp_ite, Wc_some, Wc_none, Wc_ite, Wp_thenRun, seqQ_normal, seqQ_exit, seqQ_ret, Wp_inBlock, blkQ_normal, blkQ_ret, blkQ_same, blkQ_exit, Wp_opThen, opQ_at, Wp_guardP, retQ_normal, retQ_ret, loopQ_normal, loopQ_exit, loopQ_ret, go_sem, entry, joinEsc, if_pos, reduceIte, Nat.reduceAdd, Nat.reduceLeDiff, Nat.reduceLT, Nat.reduceEqDiff]
  refine (wc_placeOn x a b (Cu.new (H := H) (k := 1) (y := y2) (z := z2) rfl hc hy20) (by omega)).mono ?_
  rintro v m ⟨p, y3, z3, rfl, hy30, hy31, rfl⟩
  have hf := fun (B0 B1 B2 : Blk) => finish_slm (H := H) (s1 := 2) (n1 := ls.length) (c1 := c1) (bmV x a b) (.int .i64 p) rfl (fun _ => rfl) rfl (fun _ => rfl) (L := H ++ [B0, B1, B2, .cells (encL ls) true]) ⟨_, rfl⟩ e none rfl (b1 := H.length + 3) (by omega) (by rw [blkAt_newk]; rfl) (under_encL _ _)
  simp +contextual only [a_s_DrawConvoyRow, hf, Nat.add_zero, Nat.add_assoc, Wp_some, Wp_none, Wp_ite, Wc_some, Wc_none, Wc_ite, Wp_thenRun, seqQ_normal, seqQ_exit, seqQ_ret, Wp_inBlock, blkQ_normal, blkQ_ret, blkQ_same, blkQ_exit, Wp_opThen, opQ_at, Wp_guardP, retQ_normal, retQ_ret, loopQ_normal, loopQ_exit, loopQ_ret, go_sem, entry, joinEsc, if_pos, reduceIte, Nat.reduceAdd, Nat.reduceLeDiff, Nat.reduceLT, Nat.reduceEqDiff]
  exact ⟨x, a, b, p, ls, c1, rfl, hn1, rfl⟩

theorem wc_DrawWorstBend {av : AV} (hc : CodeAt H av) : Wc (call T pr f_s_DrawWorstBend [av] ⟨H, e⟩) (fun v m => ∃ (x a b p : Int) (ls : List Ld) (c1 : Option Nat), v = .tup [bmV x a b, slL H.length ls.length c1, .int .i64 p] ∧ ls.length ≤ 13 ∧ m = ⟨H ++ [.cells (encL ls) true], e⟩) := by
  rw [call_wc t_s_DrawWorstBend]
  simp +contextual only [a_s_DrawWorstBend, c_s_DrawWorstBend, fillParts, Nat.add_assoc, Wp_some, Wp_none, Wp_ite, Wc_some, Wc_none, Wc_ite, Wp_thenRun, seqQ_normal, seqQ_exit, seqQ_ret, Wp_inBlock, blkQ_normal, blkQ_ret, blkQ_same, blkQ_exit, Wp_opThen, opQ_at, Wp_guardP, retQ_normal, retQ_ret, loopQ_normal, loopQ_exit, loopQ_ret, go_sem, entry, joinEsc, if_pos, reduceIte, Nat.reduceAdd, Nat.reduceLeDiff, Nat.reduceLT, Nat.reduceEqDiff]
  refine (wc_DrawConvoyRow (hc.more _)).mono ?_
  rintro v m ⟨x, a, b, p, ls, c1, rfl, hn1, rfl⟩
  have hf := fun (B0 : Blk) => finish_slm (H := H) (s1 := 2) (n1 := ls.length) (c1 := c1) (bmV x a b) (.int .i64 p) rfl (fun _ => rfl) rfl (fun _ => rfl) (L := H ++ [B0, .cells (encL ls) true]) ⟨_, rfl⟩ e none rfl (b1 := H.length + 1) (by omega) (by rw [blkAt_newk]; rfl) (under_encL _ _)
  simp +contextual only [a_s_DrawWorstBend, hf, Nat.add_zero, Nat.add_assoc, Wp_some, Wp_none, Wp_ite, Wc_some, Wc_none, Wc_ite, Wp_thenRun, seqQ_normal, seqQ_exit, seqQ_ret, Wp_inBlock, blkQ_normal, blkQ_ret, blkQ_same, blkQ_exit, Wp_opThen, opQ_at, Wp_guardP, retQ_normal, retQ_ret, loopQ_normal, loopQ_exit, loopQ_ret, go_sem, entry, joinEsc, if_pos, reduceIte, Nat.reduceAdd, Nat.reduceLeDiff, Nat.reduceLT, Nat.reduceEqDiff]
  exact ⟨x, a, b, p, ls, c1, rfl, hn1, rfl⟩

theorem wc_DrawCanCross {av : AV} (hc : CodeAt H av) : Wc (call T pr f_s_DrawCanCross [av] ⟨H, e⟩) (fun v m => ∃ (x a b : Int) (ls : List Ld) (c1 : Option Nat), v = .tup [bmV x a b, slL H.length ls.length c1] ∧ ls.length ≤ 13 ∧ m = ⟨H ++ [.cells (encL ls) true], e⟩) := by
  obtain ⟨p0, s0, n0, c0, rfl⟩ := hc.form
  rw [call_wc t_s_DrawCanCross]
  simp +contextual only [a_s_DrawCanCross, c_s_DrawCanCross, fillParts, Nat.add_assoc, Wp_some, Wp_none, Wp_ite, Wc_some, Wc_none, Wc_ite, Wp_thenRun, seqQ_normal, seqQ_exit, seqQ_ret, Wp_inBlock, blkQ_normal, blkQ_ret, blkQ_same, blkQ_exit, Wp_opThen, opQ_at, Wp_guardP, retQ_normal, retQ_ret, loopQ_normal, loopQ_exit, loopQ_ret, go_sem, entry, joinEsc, if_pos, reduceIte, Nat.reduceAdd, Nat.reduceLeDiff, Nat.reduceLT, Nat.reduceEqDiff]
  refine (wc_beam (Cu.new (k := 1) (G := [z3B, curB _ 0 0]) rfl hc (by omega)) (by omega)).mono ?_
  rintro v m ⟨x, a, b, y1, z1, rfl, hy10, hy11, rfl⟩
  simp +contextual only [Nat.add_zero, Nat.add_assoc, Wp_some, Wp_none, Wp_ite, Wc_some, Wc_none, Wc_ite, Wp_thenRun, seqQ_normal, seqQ_exit, seqQ_ret, Wp_inBlock, blkQ_normal, blkQ_ret, blkQ_same, blkQ_exit, Wp_opThen, opQ_at, Wp_guardP, retQ_normal, retQ_ret, loopQ_normal, loopQ_exit, loopQ_ret, go_sem, entry, joinEsc, if_pos, reduceIte, Nat.reduceAdd, Nat.reduceLeDiff, Nat.reduceLT, Nat.reduceEqDiff]
  refine (wc_convoy (Cu.new (H := H) (k := 1) (y := y1) (z := z1) rfl hc hy10) (by omega)).mono ?_
  rintro v m ⟨ls, c1, y2, z2, rfl, hn1, hy20, hy21, rfl⟩
  have hf := fun (B0 B1 : Blk) => finish_sl1 (H := H) (s1 := 2) (n1 := ls.length) (c1 := c1) (bmV x a b) rfl (fun _ => rfl) (L := H ++ [B0, B1, .cells (encL ls) true]) ⟨_, rfl⟩ e none rfl (b1 := H.length + 2) (by omega) (by rw [blkAt_newk]; rfl) (under_encL _ _)
  simp +contextual only [a_s_DrawCanCross, hf, Nat.add_zero, Nat.add_assoc, Wp_some, Wp_none, Wp_ite, Wc_some, Wc_none, Wc_ite, Wp_thenRun, seqQ_normal, seqQ_exit, seqQ_ret, Wp_inBlock, blkQ_normal, blkQ_ret, blkQ_same, blkQ_exit, Wp_opThen, opQ_at, Wp_guardP, retQ_normal, retQ_ret, loopQ_normal, loopQ_exit, loopQ_ret, go_sem, entry, joinEsc, if_pos, reduceIte, Nat.reduceAdd, Nat.reduceLeDiff, Nat.reduceLT, Nat.reduceEqDiff]
  exact ⟨x, a, b, ls, c1, rfl, hn1, rfl⟩

end Go.Proofs.Ytaikmfldjkbmmaa.Slim

/- Beams: the middle of the law on beams. -/
namespace Go.Proofs.Ytaikmfldjkbmmaa.Slim

open Go

set_option linter.unusedSimpArgs false

set_option linter.unusedVariables false

variable {pr : Prims} {H : List Blk} {e : Option Nat}

theorem bm_rInts {b1 b2 : Nat} {c1 c2 : Option Nat} {ls : List Int} (h1 : cellsAt H b1 = some (encI ls)) (h2 : cellsAt H b2 = some (encI ls)) (hn : ls.length ≤ 1048576) : call T pr f_l_rInts [slI b1 ls.length c1, slI b2 ls.length c2] ⟨H, e⟩ = some (.bool true, ⟨H, e⟩) := by
  apply Wc.eq
  rw [call_wc t_l_rInts]
  have hdd : ∀ x : Int, decide (x = x) = true := fun x => decide_eq_true rfl
  simp +contextual only [a_l_rInts, c_l_rInts, decide_true, Wp_some, Wp_none, Wp_ite, Wc_some, Wc_none, Wc_ite, Wp_thenRun, seqQ_normal, seqQ_exit, seqQ_ret, Wp_inBlock, blkQ_normal, blkQ_ret, blkQ_same, blkQ_exit, Wp_opThen, opQ_at, Wp_guardP, retQ_normal, retQ_ret, loopQ_normal, loopQ_exit, loopQ_ret, go_sem, entry, joinEsc, if_pos, reduceIte, Nat.reduceAdd, Nat.reduceLeDiff, Nat.reduceLT, Nat.reduceEqDiff]
  refine Wp_loop (fun k st => ∃ (i : Nat) (w5 w6 : AV), k + i = ls.length ∧ st = ⟨[slI b1 ls.length c1, slI b2 ls.length c2, .bool false, .int .i64 i, .bool false, w5, w6], ⟨H, none⟩⟩) ?_ ls.length _ ⟨0, _, _, rfl, rfl⟩
  rintro k _ ⟨i, w5, w6, hk, rfl⟩
  by_cases h0 : k = 0
  · have hd : ¬ i < ls.length := by omega
    simp +contextual only [w_l_rInts_1, hd, decide_false, Wp_some, Wp_none, Wp_ite, Wc_some, Wc_none, Wc_ite, Wp_thenRun, seqQ_normal, seqQ_exit, seqQ_ret, Wp_inBlock, blkQ_normal, blkQ_ret, blkQ_same, blkQ_exit, Wp_opThen, opQ_at, Wp_guardP, retQ_normal, retQ_ret, loopQ_normal, loopQ_exit, loopQ_ret, finish_one_eq, finish_one_eq0, finish_two_eq, finish_two_eq0, roots_slice_new, roots_slice_new0, roots_slice_none, roots_ptr_new, roots_ptr_new0, roots_int, roots_bool, roots_str, roots_agg, roots_tup, roots_cons, roots_nil, rename_slice, rename_slice_none, rename_ptr, rename_int, rename_bool, rename_str, rename_agg, rename_tup, rename_cons, rename_nil, keepBlks_nil, keepBlks_cons, flatAll_nil, flatAll_cons, flatBlk_cells, dedup_nil, dedup_one, dedup_two, renum_one, renum_one0, renum_two0, renum_two1, clean_none', clean_some, minEsc_none, minEsc_some, Nat.add_left_cancel_iff, Nat.le_add_right, Nat.le_refl, decide_true, go_sem, entry, joinEsc, if_pos, reduceIte, Nat.reduceAdd, Nat.reduceLeDiff, Nat.reduceLT, Nat.reduceEqDiff]
  · have hd : i < ls.length := by omega
    have hl : ls[i]? = some ls[i] := List.getElem?_eq_getElem hd
    have hw := wrap_succ (show i < 9223372036854775807 by omega)
    simp +contextual only [w_l_rInts_1, h1, h2, hd, hdd, hw, part_encI _ hl, Nat.mul_one, decide_true, Wp_some, Wp_none, Wp_ite, Wc_some, Wc_none, Wc_ite, Wp_thenRun, seqQ_normal, seqQ_exit, seqQ_ret, Wp_inBlock, blkQ_normal, blkQ_ret, blkQ_same, blkQ_exit, Wp_opThen, opQ_at, Wp_guardP, retQ_normal, retQ_ret, loopQ_normal, loopQ_exit, loopQ_ret, go_sem, entry, joinEsc, if_pos, reduceIte, Nat.reduceAdd, Nat.reduceLeDiff, Nat.reduceLT, Nat.reduceEqDiff]
    exact ⟨k - 1, by omega, i + 1, _, _, by omega, rfl⟩

theorem bm_rInts_none {p1 p2 : Option (Nat × Nat)} {s1 s2 : Nat} {c1 c2 : Option Nat} : call T pr f_l_rInts [.slice p1 s1 0 c1, .slice p2 s2 0 c2] ⟨H, e⟩ = some (.bool true, ⟨H, e⟩) := by
  apply Wc.eq
  rw [call_wc t_l_rInts]
  have h00 : ¬ ((0 : Nat) : Int) < ((0 : Nat) : Int) := by omega
  simp +contextual only [a_l_rInts, c_l_rInts, decide_true, Wp_some, Wp_none, Wp_ite, Wc_some, Wc_none, Wc_ite, Wp_thenRun, seqQ_normal, seqQ_exit, seqQ_ret, Wp_inBlock, blkQ_normal, blkQ_ret, blkQ_same, blkQ_exit, Wp_opThen, opQ_at, Wp_guardP, retQ_normal, retQ_ret, loopQ_normal, loopQ_exit, loopQ_ret, go_sem, entry, joinEsc, if_pos, reduceIte, Nat.reduceAdd, Nat.reduceLeDiff, Nat.reduceLT, Nat.reduceEqDiff]
  refine Wp_loop (fun k st => st = ⟨[.slice p1 s1 0 c1, .slice p2 s2 0 c2, .bool false, .int .i64 0, .bool false, .undef, .undef], ⟨H, none⟩⟩) ?_ 0 _ rfl
  rintro k _ rfl
  simp +contextual only [w_l_rInts_1, h00, show ¬ (0 : Int) < ((0 : Nat) : Int) by omega, decide_false, Wp_some, Wp_none, Wp_ite, Wc_some, Wc_none, Wc_ite, Wp_thenRun, seqQ_normal, seqQ_exit, seqQ_ret, Wp_inBlock, blkQ_normal, blkQ_ret, blkQ_same, blkQ_exit, Wp_opThen, opQ_at, Wp_guardP, retQ_normal, retQ_ret, loopQ_normal, loopQ_exit, loopQ_ret, finish_one_eq, finish_one_eq0, finish_two_eq, finish_two_eq0, roots_slice_new, roots_slice_new0, roots_slice_none, roots_ptr_new, roots_ptr_new0, roots_int, roots_bool, roots_str, roots_agg, roots_tup, roots_cons, roots_nil, rename_slice, rename_slice_none, rename_ptr, rename_int, rename_bool, rename_str, rename_agg, rename_tup, rename_cons, rename_nil, keepBlks_nil, keepBlks_cons, flatAll_nil, flatAll_cons, flatBlk_cells, dedup_nil, dedup_one, dedup_two, renum_one, renum_one0, renum_two0, renum_two1, clean_none', clean_some, minEsc_none, minEsc_some, Nat.add_left_cancel_iff, Nat.le_add_right, Nat.le_refl, decide_true, go_sem, entry, joinEsc, if_pos, reduceIte, Nat.reduceAdd, Nat.reduceLeDiff, Nat.reduceLT, Nat.reduceEqDiff]

theorem e_s_IsBeam (x a b : Int) : call T pr f_s_IsBeam [bmV x a b] ⟨H, e⟩ = some (.bool (beamOk x a b), ⟨H, e⟩) := by
  rw [call_eq t_s_IsBeam]
  simp +contextual only [a_s_IsBeam, c_s_IsBeam, e_s_l6Beam, go_sem, entry, joinEsc, if_pos, reduceIte, Nat.reduceAdd, Nat.reduceLeDiff, Nat.reduceLT, Nat.reduceEqDiff]

/-- the law's third drawn part: influences -/
theorem bm_mid1 {w2 w3 w4 w5 w6 w7 w8 w9 w10 w11 w12 w13 w14 w15 w16 w17 w18 w19 w20 w21 w22 w23 w24 w25 w26 w27 w28 w29 w30 w31 w32 w33 w34 w35 w36 w37 w38 w39 w40 w41 w42 w43 w44 w45 w46 w47 w48 w49 w50 w51 w52 w53 w54 w55 w56 w57 w58 w59 w60 w61 w62 w63 w64 w65 w66 w67 w68 w69 w70 w71 w72 w73 : AV} {p0 : Option (Nat × Nat)} {s0 n0 : Nat} {c0 : Option Nat} {L : List Blk} (hc : CodeAt L (.slice p0 s0 n0 c0)) {Q : Ex → St → Prop}
    (hK : ∀ (G : List Blk) (v28 v29 v30 v31 v32 v33 v61 : AV), Wp (run T pr (seqTl (seqTl (seqTl (seqTl (seqTl (seqTl (seqTl (seqTl (seqTl (seqTl (seqTl (seqTl (seqTl (seqTl (seqTl (seqTl c_l_FnBeams)))))))))))))))) ⟨((.slice p0 s0 n0 c0) :: (.bool false) :: w2 :: w3 :: w4 :: w5 :: w6 :: w7 :: w8 :: w9 :: w10 :: w11 :: w12 :: w13 :: w14 :: w15 :: w16 :: w17 :: w18 :: w19 :: w20 :: w21 :: w22 :: w23 :: w24 :: w25 :: w26 :: w27 :: (v28) :: (v29) :: (v30) :: (v31) :: (v32) :: (v33) :: w34 :: w35 :: w36 :: w37 :: w38 :: w39 :: w40 :: w41 :: w42 :: w43 :: w44 :: w45 :: w46 :: w47 :: w48 :: w49 :: w50 :: w51 :: w52 :: w53 :: w54 :: w55 :: w56 :: w57 :: w58 :: w59 :: w60 :: (v61) :: w62 :: w63 :: w64 :: w65 :: w66 :: w67 :: w68 :: w69 :: w70 :: w71 :: w72 :: w73 :: []), ⟨L ++ G, none⟩⟩) Q) :
    Wp (run T pr (seqTl (seqTl (seqTl (seqTl (seqTl (seqTl (seqTl (seqTl (seqTl (seqTl (seqTl (seqTl (seqTl c_l_FnBeams))))))))))))) ⟨((.slice p0 s0 n0 c0) :: (.bool false) :: w2 :: w3 :: w4 :: w5 :: w6 :: w7 :: w8 :: w9 :: w10 :: w11 :: w12 :: w13 :: w14 :: w15 :: w16 :: w17 :: w18 :: w19 :: w20 :: w21 :: w22 :: w23 :: w24 :: w25 :: w26 :: w27 :: w28 :: w29 :: w30 :: w31 :: w32 :: w33 :: w34 :: w35 :: w36 :: w37 :: w38 :: w39 :: w40 :: w41 :: w42 :: w43 :: w44 :: w45 :: w46 :: w47 :: w48 :: w49 :: w50 :: w51 :: w52 :: w53 :: w54 :: w55 :: w56 :: w57 :: w58 :: w59 :: w60 :: w61 :: w62 :: w63 :: w64 :: w65 :: w66 :: w67 :: w68 :: w69 :: w70 :: w71 :: w72 :: w73 :: []), ⟨L, none⟩⟩) Q := by
  obtain ⟨R, hR⟩ : ∃ R, R = (seqTl (seqTl (seqTl (seqTl (seqTl (seqTl (seqTl (seqTl (seqTl (seqTl (seqTl (seqTl (seqTl (seqTl (seqTl (seqTl c_l_FnBeams)))))))))))))))) := ⟨_, rfl⟩
  rw [← hR] at hK
  have hcc : (seqTl (seqTl (seqTl (seqTl (seqTl (seqTl (seqTl (seqTl (seqTl (seqTl (seqTl (seqTl (seqTl c_l_FnBeams))))))))))))) = (.seq (seqHd (seqTl (seqTl (seqTl (seqTl (seqTl (seqTl (seqTl (seqTl (seqTl (seqTl (seqTl (seqTl (seqTl c_l_FnBeams)))))))))))))) (.seq (seqHd (seqTl (seqTl (seqTl (seqTl (seqTl (seqTl (seqTl (seqTl (seqTl (seqTl (seqTl (seqTl (seqTl (seqTl c_l_FnBeams))))))))))))))) (.seq (seqHd (seqTl (seqTl (seqTl (seqTl (seqTl (seqTl (seqTl (seqTl (seqTl (seqTl (seqTl (seqTl (seqTl (seqTl (seqTl c_l_FnBeams)))))))))))))))) R))) := by rw [hR]; rfl
  rw [hcc]
  have bxx : ∀ x : Bool, (!decide (x = x)) = false := fun x => by simp
  have hbb : ∀ x : Bool, (!(x == x)) = false := fun x => by simp
  have hib := fun G => e_s_IsBeam (pr := pr) (H := L ++ G) (e := none)
  simp (maxSteps := 2000000) +contextual only [c_l_FnBeams, seqTl, seqHd, Wp_some, Wp_none, Wp_ite, Wc_some, Wc_none, Wc_ite, Wp_thenRun, seqQ_normal, seqQ_exit, seqQ_ret, Wp_inBlock, blkQ_normal, blkQ_ret, blkQ_same, blkQ_exit, Wp_opThen, opQ_at, Wp_guardP, retQ_normal, retQ_ret, loopQ_normal, loopQ_exit, loopQ_ret, go_sem, entry, joinEsc, if_pos, reduceIte, Nat.reduceAdd, Nat.reduceLeDiff, Nat.reduceLT, Nat.reduceEqDiff]
  refine (wc_DrawInfluenceOf hc).mono ?_
  rintro v m ⟨x, a, b, p, rfl, rfl⟩
  simp (maxSteps := 2000000) +contextual only [Nat.add_assoc, Wp_some, Wp_none, Wp_ite, Wc_some, Wc_none, Wc_ite, Wp_thenRun, seqQ_normal, seqQ_exit, seqQ_ret, Wp_inBlock, blkQ_normal, blkQ_ret, blkQ_same, blkQ_exit, Wp_opThen, opQ_at, Wp_guardP, retQ_normal, retQ_ret, loopQ_normal, loopQ_exit, loopQ_ret, go_sem, entry, joinEsc, if_pos, reduceIte, Nat.reduceAdd, Nat.reduceLeDiff, Nat.reduceLT, Nat.reduceEqDiff]
  by_cases hv : beamOk x a b = true ∧ 0 ≤ p ∧ p ≤ x
  · obtain ⟨hv1, hv2, hv3⟩ := hv
    have hb := hv1
    unfold beamOk at hb
    simp only [decide_eq_true_eq] at hb
    obtain ⟨X, rfl⟩ := Int.eq_ofNat_of_zero_le (show 0 ≤ x by omega)
    obtain ⟨P, rfl⟩ := Int.eq_ofNat_of_zero_le hv2
    have hi := fun G => e_i_InfluenceOf (pr := pr) (H := L ++ G) (e := none) hv1 hv2 hv3
    have hs := fun G => e_s_InfluenceOf (pr := pr) (H := L ++ G) (e := none) hv1 (show P ≤ X by omega)
    have hri := fun G => bm_rInts (pr := pr) (H := L ++ (.cells [.int .i64 X, .int .i64 a, .int .i64 b] true :: .cells (encI (mapR (X + 1) (fun y => fZ a b y P))) true :: .cells (encI (mapR (X + 1) (fun y => fZ a b y P))) true :: G)) (e := none) (b1 := L.length + 1) (b2 := L.length + 2) (c1 := none) (c2 := none) (ls := mapR (X + 1) (fun y => fZ a b y P)) (by simp +contextual only [go_sem, entry, joinEsc, if_pos, reduceIte, Nat.reduceAdd, Nat.reduceLeDiff, Nat.reduceLT, Nat.reduceEqDiff]) (by simp +contextual only [go_sem, entry, joinEsc, if_pos, reduceIte, Nat.reduceAdd, Nat.reduceLeDiff, Nat.reduceLT, Nat.reduceEqDiff]) (by rw [mapR_len]; omega)
    rw [mapR_len] at hri
    simp (maxSteps := 2000000) +contextual only [hi, hs, hri, e_i_IsBeam, hib, bxx, hbb, beq_self_eq_true, Nat.add_assoc, decide_true, Wp_some, Wp_none, Wp_ite, Wc_some, Wc_none, Wc_ite, Wp_thenRun, seqQ_normal, seqQ_exit, seqQ_ret, Wp_inBlock, blkQ_normal, blkQ_ret, blkQ_same, blkQ_exit, Wp_opThen, opQ_at, Wp_guardP, retQ_normal, retQ_ret, loopQ_normal, loopQ_exit, loopQ_ret, go_sem, entry, joinEsc, if_pos, reduceIte, Nat.reduceAdd, Nat.reduceLeDiff, Nat.reduceLT, Nat.reduceEqDiff]
    exact ⟨fun _ => hK _ _ _ _ _ _ _ _, fun h => (h (Or.inr trivial)).elim⟩
  · have hv' : beamOk x a b = true → ¬ (0 ≤ p ∧ p ≤ x) := fun h1 h2 => hv ⟨h1, h2⟩
    have hi := fun G => e_i_InfluenceOf_bad (pr := pr) (H := L ++ G) (e := none) hv'
    have hs := fun G => e_s_InfluenceOf_bad (pr := pr) (H := L ++ G) (e := none) hv'
    simp (maxSteps := 2000000) +contextual only [hi, hs, bm_rInts_none, e_i_IsBeam, hib, bxx, hbb, beq_self_eq_true, Nat.add_assoc, decide_true, Wp_some, Wp_none, Wp_ite, Wc_some, Wc_none, Wc_ite, Wp_thenRun, seqQ_normal, seqQ_exit, seqQ_ret, Wp_inBlock, blkQ_normal, blkQ_ret, blkQ_same, blkQ_exit, Wp_opThen, opQ_at, Wp_guardP, retQ_normal, retQ_ret, loopQ_normal, loopQ_exit, loopQ_ret, go_sem, entry, joinEsc, if_pos, reduceIte, Nat.reduceAdd, Nat.reduceLeDiff, Nat.reduceLT, Nat.reduceEqDiff]
    exact ⟨fun _ => hK _ _ _ _ _ _ _ _, fun h => (h (Or.inr trivial)).elim⟩

/-- the fourth: bends by a row -/
theorem bm_mid2 {w2 w3 w4 w5 w6 w7 w8 w9 w10 w11 w12 w13 w14 w15 w16 w17 w18 w19 w20 w21 w22 w23 w24 w25 w26 w27 w28 w29 w30 w31 w32 w33 w34 w35 w36 w37 w38 w39 w40 w41 w42 w43 w44 w45 w46 w47 w48 w49 w50 w51 w52 w53 w54 w55 w56 w57 w58 w59 w60 w61 w62 w63 w64 w65 w66 w67 w68 w69 w70 w71 w72 w73 : AV} {p0 : Option (Nat × Nat)} {s0 n0 : Nat} {c0 : Option Nat} {L : List Blk} (hc : CodeAt L (.slice p0 s0 n0 c0)) {Q : Ex → St → Prop}
    (hK : ∀ (G : List Blk) (x a b p bd : Int) (u q : Nat) (ls : List Ld) (c : Option Nat) (six : Bool) (v39 v40 v62 : AV), cellsAt (L ++ G) u = some [.int .i64 x, .int .i64 a, .int .i64 b] → cellsAt (L ++ G) q = some (encL ls) → (six = true → onOk x a b ls = true ∧ 0 ≤ p ∧ p ≤ x ∧ bd = bendZ a b ls p) →
      Wp (run T pr (seqTl (seqTl (seqTl (seqTl (seqTl (seqTl (seqTl (seqTl (seqTl (seqTl (seqTl (seqTl (seqTl (seqTl (seqTl (seqTl (seqTl (seqTl (seqTl c_l_FnBeams))))))))))))))))))) ⟨((.slice p0 s0 n0 c0) :: (.bool false) :: w2 :: w3 :: w4 :: w5 :: w6 :: w7 :: w8 :: w9 :: w10 :: w11 :: w12 :: w13 :: w14 :: w15 :: w16 :: w17 :: w18 :: w19 :: w20 :: w21 :: w22 :: w23 :: w24 :: w25 :: w26 :: w27 :: w28 :: w29 :: w30 :: w31 :: w32 :: w33 :: (.ptr (some (u, 0))) :: (slL q ls.length c) :: (.int .i64 p) :: (.int .i64 bd) :: (.bool six) :: (v39) :: (v40) :: w41 :: w42 :: w43 :: w44 :: w45 :: w46 :: w47 :: w48 :: w49 :: w50 :: w51 :: w52 :: w53 :: w54 :: w55 :: w56 :: w57 :: w58 :: w59 :: w60 :: w61 :: (v62) :: w63 :: w64 :: w65 :: w66 :: w67 :: w68 :: w69 :: w70 :: w71 :: w72 :: w73 :: []), ⟨L ++ G, none⟩⟩) Q) :
    Wp (run T pr (seqTl (seqTl (seqTl (seqTl (seqTl (seqTl (seqTl (seqTl (seqTl (seqTl (seqTl (seqTl (seqTl (seqTl (seqTl (seqTl c_l_FnBeams)))))))))))))))) ⟨((.slice p0 s0 n0 c0) :: (.bool false) :: w2 :: w3 :: w4 :: w5 :: w6 :: w7 :: w8 :: w9 :: w10 :: w11 :: w12 :: w13 :: w14 :: w15 :: w16 :: w17 :: w18 :: w19 :: w20 :: w21 :: w22 :: w23 :: w24 :: w25 :: w26 :: w27 :: w28 :: w29 :: w30 :: w31 :: w32 :: w33 :: w34 :: w35 :: w36 :: w37 :: w38 :: w39 :: w40 :: w41 :: w42 :: w43 :: w44 :: w45 :: w46 :: w47 :: w48 :: w49 :: w50 :: w51 :: w52 :: w53 :: w54 :: w55 :: w56 :: w57 :: w58 :: w59 :: w60 :: w61 :: w62 :: w63 :: w64 :: w65 :: w66 :: w67 :: w68 :: w69 :: w70 :: w71 :: w72 :: w73 :: []), ⟨L, none⟩⟩) Q := by
  obtain ⟨R, hR⟩ : ∃ R, R = (seqTl (seqTl (seqTl (seqTl (seqTl (seqTl (seqTl (seqTl (seqTl (seqTl (seqTl (seqTl (seqTl (seqTl (seqTl (seqTl (seqTl (seqTl (seqTl c_l_FnBeams))))))))))))))))))) := ⟨_, rfl⟩
  rw [← hR] at hK
  have hcc : (seqTl (seqTl (seqTl (seqTl (seqTl (seqTl (seqTl (seqTl (seqTl (seqTl (seqTl (seqTl (seqTl (seqTl (seqTl (seqTl c_l_FnBeams)))))))))))))))) = (.seq (seqHd (seqTl (seqTl (seqTl (seqTl (seqTl (seqTl (seqTl (seqTl (seqTl (seqTl (seqTl (seqTl (seqTl (seqTl (seqTl (seqTl c_l_FnBeams))))))))))))))))) (.seq (seqHd (seqTl (seqTl (seqTl (seqTl (seqTl (seqTl (seqTl (seqTl (seqTl (seqTl (seqTl (seqTl (seqTl (seqTl (seqTl (seqTl (seqTl c_l_FnBeams)))))))))))))))))) (.seq (seqHd (seqTl (seqTl (seqTl (seqTl (seqTl (seqTl (seqTl (seqTl (seqTl (seqTl (seqTl (seqTl (seqTl (seqTl (seqTl (seqTl (seqTl (seqTl c_l_FnBeams))))))))))))))))))) R))) := by rw [hR]; rfl
  rw [hcc]
  have bxx : ∀ x : Bool, (!decide (x = x)) = false := fun x => by simp
  have hbb : ∀ x : Bool, (!(x == x)) = false := fun x => by simp
  have hdd : ∀ x : Int, decide (x = x) = true := fun x => decide_eq_true rfl
  simp (maxSteps := 2000000) +contextual only [c_l_FnBeams, seqTl, seqHd, Wp_some, Wp_none, Wp_ite, Wc_some, Wc_none, Wc_ite, Wp_thenRun, seqQ_normal, seqQ_exit, seqQ_ret, Wp_inBlock, blkQ_normal, blkQ_ret, blkQ_same, blkQ_exit, Wp_opThen, opQ_at, Wp_guardP, retQ_normal, retQ_ret, loopQ_normal, loopQ_exit, loopQ_ret, go_sem, entry, joinEsc, if_pos, reduceIte, Nat.reduceAdd, Nat.reduceLeDiff, Nat.reduceLT, Nat.reduceEqDiff]
  refine (wc_DrawBendBy hc).mono ?_
  rintro v m ⟨x, a, b, p, ls, c1, rfl, hn1, rfl⟩
  simp (maxSteps := 2000000) +contextual only [Nat.add_assoc, Wp_some, Wp_none, Wp_ite, Wc_some, Wc_none, Wc_ite, Wp_thenRun, seqQ_normal, seqQ_exit, seqQ_ret, Wp_inBlock, blkQ_normal, blkQ_ret, blkQ_same, blkQ_exit, Wp_opThen, opQ_at, Wp_guardP, retQ_normal, retQ_ret, loopQ_normal, loopQ_exit, loopQ_ret, go_sem, entry, joinEsc, if_pos, reduceIte, Nat.reduceAdd, Nat.reduceLeDiff, Nat.reduceLT, Nat.reduceEqDiff]
  by_cases hv : onOk x a b ls = true ∧ 0 ≤ p ∧ p ≤ x
  · obtain ⟨hv1, hv2, hv3⟩ := hv
    have hb := (on_facts hv1).x1
    obtain ⟨X, rfl⟩ := Int.eq_ofNat_of_zero_le (show 0 ≤ x by omega)
    obtain ⟨P, rfl⟩ := Int.eq_ofNat_of_zero_le hv2
    have hi := fun G => e_i_BendBy (pr := pr) (H := L ++ (.cells (encL ls) true :: G)) (e := none) (q := L.length) (c := c1) (ls := ls) (by simp +contextual only [go_sem, entry, joinEsc, if_pos, reduceIte, Nat.reduceAdd, Nat.reduceLeDiff, Nat.reduceLT, Nat.reduceEqDiff]) hv1 hv2 hv3
    have hs := fun G => e_s_BendBy (pr := pr) (H := L ++ (.cells (encL ls) true :: G)) (e := none) (q := L.length) (c := c1) (ls := ls) (by simp +contextual only [go_sem, entry, joinEsc, if_pos, reduceIte, Nat.reduceAdd, Nat.reduceLeDiff, Nat.reduceLT, Nat.reduceEqDiff]) hv1 (show P ≤ X by omega)
    simp (maxSteps := 2000000) +contextual only [hi, hs, bxx, hbb, hdd, beq_self_eq_true, Nat.add_assoc, decide_true, Wp_some, Wp_none, Wp_ite, Wc_some, Wc_none, Wc_ite, Wp_thenRun, seqQ_normal, seqQ_exit, seqQ_ret, Wp_inBlock, blkQ_normal, blkQ_ret, blkQ_same, blkQ_exit, Wp_opThen, opQ_at, Wp_guardP, retQ_normal, retQ_ret, loopQ_normal, loopQ_exit, loopQ_ret, go_sem, entry, joinEsc, if_pos, reduceIte, Nat.reduceAdd, Nat.reduceLeDiff, Nat.reduceLT, Nat.reduceEqDiff]
    exact hK _ X a b P _ _ _ ls _ true _ _ _ (by simp +contextual only [go_sem, entry, joinEsc, if_pos, reduceIte, Nat.reduceAdd, Nat.reduceLeDiff, Nat.reduceLT, Nat.reduceEqDiff]) (by simp +contextual only [go_sem, entry, joinEsc, if_pos, reduceIte, Nat.reduceAdd, Nat.reduceLeDiff, Nat.reduceLT, Nat.reduceEqDiff]) (fun _ => ⟨hv1, hv2, hv3, rfl⟩)
  · have hv' : onOk x a b ls = true → ¬ (0 ≤ p ∧ p ≤ x) := fun h1 h2 => hv ⟨h1, h2⟩
    have hi := fun G => e_i_BendBy_bad (pr := pr) (H := L ++ (.cells (encL ls) true :: G)) (e := none) (q := L.length) (c := c1) (ls := ls) (by simp +contextual only [go_sem, entry, joinEsc, if_pos, reduceIte, Nat.reduceAdd, Nat.reduceLeDiff, Nat.reduceLT, Nat.reduceEqDiff]) (by omega) hv'
    have hs := fun G => e_s_BendBy_bad (pr := pr) (H := L ++ (.cells (encL ls) true :: G)) (e := none) (q := L.length) (c := c1) (ls := ls) (by simp +contextual only [go_sem, entry, joinEsc, if_pos, reduceIte, Nat.reduceAdd, Nat.reduceLeDiff, Nat.reduceLT, Nat.reduceEqDiff]) (by omega) hv'
    simp (maxSteps := 2000000) +contextual only [hi, hs, bxx, hbb, hdd, beq_self_eq_true, Nat.add_assoc, decide_true, Wp_some, Wp_none, Wp_ite, Wc_some, Wc_none, Wc_ite, Wp_thenRun, seqQ_normal, seqQ_exit, seqQ_ret, Wp_inBlock, blkQ_normal, blkQ_ret, blkQ_same, blkQ_exit, Wp_opThen, opQ_at, Wp_guardP, retQ_normal, retQ_ret, loopQ_normal, loopQ_exit, loopQ_ret, go_sem, entry, joinEsc, if_pos, reduceIte, Nat.reduceAdd, Nat.reduceLeDiff, Nat.reduceLT, Nat.reduceEqDiff]
    exact hK _ x a b p 0 _ _ ls _ false _ _ _ (by simp +contextual only [go_sem, entry, joinEsc, if_pos, reduceIte, Nat.reduceAdd, Nat.reduceLeDiff, Nat.reduceLT, Nat.reduceEqDiff]) (by simp +contextual only [go_sem, entry, joinEsc, if_pos, reduceIte, Nat.reduceAdd, Nat.reduceLeDiff, Nat.reduceLT, Nat.reduceEqDiff]) (fun h => by simp at h)

theorem bm_eq3 (x y z : Int) : eqList [0, 0, 0] [.int .i64 x, .int .i64 y, .int .i64 z] [.int .i64 x, .int .i64 y, .int .i64 z] = some true := by
  simp [eqList, eqCell]

/-- the mirror -/
theorem bm_mid3 {w0 w3 w4 w6 w7 w8 w9 w10 w11 w12 w13 w14 w15 w16 w17 w18 w19 w20 w21 w22 w23 w24 w25 w26 w27 w28 w29 w30 w31 w32 w33 w34 w35 w36 w37 w38 w39 w40 w41 w42 w43 w44 w45 w46 w47 w48 w49 w50 w51 w52 w53 w54 w55 w56 w57 w58 w59 w60 w61 w62 w63 w64 w65 w66 w67 w68 w69 w70 w71 w72 w73 : AV} {x a b : Int} {u : Nat} {ok : Bool} {L : List Blk} (hu : cellsAt L u = some [.int .i64 x, .int .i64 a, .int .i64 b]) (hok : ok = true → beamOk x a b = true) {Q : Ex → St → Prop}
    (hK : ∀ (G : List Blk) (u2 : Nat) (v42 v43 v44 v63 : AV), (ok = true → cellsAt (L ++ G) u2 = some [.int .i64 x, .int .i64 (x - b), .int .i64 (x - a)]) →
      Wp (run T pr (seqTl (seqTl (seqTl (seqTl (seqTl (seqTl (seqTl (seqTl (seqTl (seqTl (seqTl (seqTl (seqTl (seqTl (seqTl (seqTl (seqTl (seqTl (seqTl (seqTl (seqTl c_l_FnBeams))))))))))))))))))))) ⟨(w0 :: (.bool false) :: (.ptr (some (u, 0))) :: w3 :: w4 :: (.bool ok) :: w6 :: w7 :: w8 :: w9 :: w10 :: w11 :: w12 :: w13 :: w14 :: w15 :: w16 :: w17 :: w18 :: w19 :: w20 :: w21 :: w22 :: w23 :: w24 :: w25 :: w26 :: w27 :: w28 :: w29 :: w30 :: w31 :: w32 :: w33 :: w34 :: w35 :: w36 :: w37 :: w38 :: w39 :: w40 :: (.ptr (some (u2, 0))) :: (v42) :: (v43) :: (v44) :: w45 :: w46 :: w47 :: w48 :: w49 :: w50 :: w51 :: w52 :: w53 :: w54 :: w55 :: w56 :: w57 :: w58 :: w59 :: w60 :: w61 :: w62 :: (v63) :: w64 :: w65 :: w66 :: w67 :: w68 :: w69 :: w70 :: w71 :: w72 :: w73 :: []), ⟨L ++ G, none⟩⟩) Q) :
    Wp (run T pr (seqTl (seqTl (seqTl (seqTl (seqTl (seqTl (seqTl (seqTl (seqTl (seqTl (seqTl (seqTl (seqTl (seqTl (seqTl (seqTl (seqTl (seqTl (seqTl c_l_FnBeams))))))))))))))))))) ⟨(w0 :: (.bool false) :: (.ptr (some (u, 0))) :: w3 :: w4 :: (.bool ok) :: w6 :: w7 :: w8 :: w9 :: w10 :: w11 :: w12 :: w13 :: w14 :: w15 :: w16 :: w17 :: w18 :: w19 :: w20 :: w21 :: w22 :: w23 :: w24 :: w25 :: w26 :: w27 :: w28 :: w29 :: w30 :: w31 :: w32 :: w33 :: w34 :: w35 :: w36 :: w37 :: w38 :: w39 :: w40 :: w41 :: w42 :: w43 :: w44 :: w45 :: w46 :: w47 :: w48 :: w49 :: w50 :: w51 :: w52 :: w53 :: w54 :: w55 :: w56 :: w57 :: w58 :: w59 :: w60 :: w61 :: w62 :: w63 :: w64 :: w65 :: w66 :: w67 :: w68 :: w69 :: w70 :: w71 :: w72 :: w73 :: []), ⟨L, none⟩⟩) Q := by
  obtain ⟨R, hR⟩ : ∃ R, R = (seqTl (seqTl (seqTl (seqTl (seqTl (seqTl (seqTl (seqTl (seqTl (seqTl (seqTl (seqTl (seqTl (seqTl (seqTl (seqTl (seqTl (seqTl (seqTl (seqTl (seqTl c_l_FnBeams))))))))))))))))))))) := ⟨_, rfl⟩
  rw [← hR] at hK
  have hcc : (seqTl (seqTl (seqTl (seqTl (seqTl (seqTl (seqTl (seqTl (seqTl (seqTl (seqTl (seqTl (seqTl (seqTl (seqTl (seqTl (seqTl (seqTl (seqTl c_l_FnBeams))))))))))))))))))) = (.seq (seqHd (seqTl (seqTl (seqTl (seqTl (seqTl (seqTl (seqTl (seqTl (seqTl (seqTl (seqTl (seqTl (seqTl (seqTl (seqTl (seqTl (seqTl (seqTl (seqTl c_l_FnBeams)))))))))))))))))))) (.seq (seqHd (seqTl (seqTl (seqTl (seqTl (seqTl (seqTl (seqTl (seqTl (seqTl (seqTl (seqTl (seqTl (seqTl (seqTl (seqTl (seqTl (seqTl (seqTl (seqTl (seqTl c_l_FnBeams))))))))))))))))))))) R)) := by rw [hR]; rfl
  rw [hcc]
  have bxx : ∀ x : Bool, (!decide (x = x)) = false := fun x => by simp
  have hbb : ∀ x : Bool, (!(x == x)) = false := fun x => by simp
  have hdd : ∀ x : Int, decide (x = x) = true := fun x => decide_eq_true rfl
  have hum := fun G => cells_mono hu G
  cases hbo : beamOk x a b with
  | false =>
    cases ok with
    | true => rw [hok rfl] at hbo; cases hbo
    | false =>
      have hi := fun G => e_i_MirrorBeam_bad (pr := pr) (H := L ++ G) (e := none) x a b hbo
      have hi0 := e_i_MirrorBeam_bad (pr := pr) (H := L) (e := none) x a b hbo
      have hs := fun G => e_s_MirrorBeam_bad (pr := pr) (H := L ++ G) (e := none) x a b hbo
      simp (maxSteps := 2000000) +contextual only [c_l_FnBeams, seqTl, seqHd, hu, hum, hi, hi0, hs, bm_eq3, Option.map_some, bxx, hbb, hdd, beq_self_eq_true, Nat.add_assoc, decide_true, Wp_some, Wp_none, Wp_ite, Wc_some, Wc_none, Wc_ite, Wp_thenRun, seqQ_normal, seqQ_exit, seqQ_ret, Wp_inBlock, blkQ_normal, blkQ_ret, blkQ_same, blkQ_exit, Wp_opThen, opQ_at, Wp_guardP, retQ_normal, retQ_ret, loopQ_normal, loopQ_exit, loopQ_ret, go_sem, entry, joinEsc, if_pos, reduceIte, Nat.reduceAdd, Nat.reduceLeDiff, Nat.reduceLT, Nat.reduceEqDiff]
      exact hK _ L.length _ _ _ _ (fun h => by simp at h)
  | true =>
    have hi := fun G => e_i_MirrorBeam (pr := pr) (H := L ++ G) (e := none) x a b hbo
    have hi0 := e_i_MirrorBeam (pr := pr) (H := L) (e := none) x a b hbo
    have hs := fun G => e_s_MirrorBeam (pr := pr) (H := L ++ G) (e := none) x a b hbo
    cases ok <;> simp (maxSteps := 2000000) +contextual only [c_l_FnBeams, seqTl, seqHd, hu, hum, hi, hi0, hs, bm_eq3, Option.map_some, bxx, hbb, hdd, beq_self_eq_true, Nat.add_assoc, decide_true, Wp_some, Wp_none, Wp_ite, Wc_some, Wc_none, Wc_ite, Wp_thenRun, seqQ_normal, seqQ_exit, seqQ_ret, Wp_inBlock, blkQ_normal, blkQ_ret, blkQ_same, blkQ_exit, Wp_opThen, opQ_at, Wp_guardP, retQ_normal, retQ_ret, loopQ_normal, loopQ_exit, loopQ_ret, go_sem, entry, joinEsc, if_pos, reduceIte, Nat.reduceAdd, Nat.reduceLeDiff, Nat.reduceLT, Nat.reduceEqDiff]
    · exact hK _ L.length _ _ _ _ (fun h => by simp at h)
    · exact hK _ L.length _ _ _ _ (fun _ => by simp +contextual only [go_sem, entry, joinEsc, if_pos, reduceIte, Nat.reduceAdd, Nat.reduceLeDiff, Nat.reduceLT, Nat.reduceEqDiff])

/-- the bend by a row is one of all bends -/
theorem bm_mid4 {w0 w2 w3 w4 w5 w6 w7 w8 w9 w10 w11 w12 w13 w14 w15 w16 w17 w18 w19 w20 w21 w22 w23 w24 w25 w26 w27 w28 w29 w30 w31 w32 w33 w39 w40 w41 w42 w43 w44 w45 w46 w47 w48 w49 w50 w51 w52 w53 w54 w55 w56 w57 w58 w59 w60 w61 w62 w63 w64 w65 w66 w67 w68 w69 w70 w71 w72 w73 : AV} {m0 : Mem} {x a b p bd : Int} {u q : Nat} {ls : List Ld} {c : Option Nat} {six : Bool} {L : List Blk} (hu : cellsAt L u = some [.int .i64 x, .int .i64 a, .int .i64 b]) (hq : cellsAt L q = some (encL ls)) (h6 : six = true → onOk x a b ls = true ∧ 0 ≤ p ∧ p ≤ x ∧ bd = bendZ a b ls p) {Q : Ex → St → Prop}
    (hK : ∀ (G : List Blk) (v45 v46 v64 v65 : AV), Wp (run T pr (seqTl (seqTl (seqTl (seqTl (seqTl (seqTl (seqTl (seqTl (seqTl (seqTl (seqTl (seqTl (seqTl (seqTl (seqTl (seqTl (seqTl (seqTl (seqTl (seqTl (seqTl (seqTl c_l_FnBeams)))))))))))))))))))))) ⟨(w0 :: (.bool false) :: w2 :: w3 :: w4 :: w5 :: w6 :: w7 :: w8 :: w9 :: w10 :: w11 :: w12 :: w13 :: w14 :: w15 :: w16 :: w17 :: w18 :: w19 :: w20 :: w21 :: w22 :: w23 :: w24 :: w25 :: w26 :: w27 :: w28 :: w29 :: w30 :: w31 :: w32 :: w33 :: (.ptr (some (u, 0))) :: (slL q ls.length c) :: (.int .i64 p) :: (.int .i64 bd) :: (.bool six) :: w39 :: w40 :: w41 :: w42 :: w43 :: w44 :: (v45) :: (v46) :: w47 :: w48 :: w49 :: w50 :: w51 :: w52 :: w53 :: w54 :: w55 :: w56 :: w57 :: w58 :: w59 :: w60 :: w61 :: w62 :: w63 :: (v64) :: (v65) :: w66 :: w67 :: w68 :: w69 :: w70 :: w71 :: w72 :: w73 :: []), ⟨L ++ G, none⟩⟩) Q) :
    Wp (run T pr (seqTl (seqTl (seqTl (seqTl (seqTl (seqTl (seqTl (seqTl (seqTl (seqTl (seqTl (seqTl (seqTl (seqTl (seqTl (seqTl (seqTl (seqTl (seqTl (seqTl (seqTl c_l_FnBeams))))))))))))))))))))) ⟨(w0 :: (.bool false) :: w2 :: w3 :: w4 :: w5 :: w6 :: w7 :: w8 :: w9 :: w10 :: w11 :: w12 :: w13 :: w14 :: w15 :: w16 :: w17 :: w18 :: w19 :: w20 :: w21 :: w22 :: w23 :: w24 :: w25 :: w26 :: w27 :: w28 :: w29 :: w30 :: w31 :: w32 :: w33 :: (.ptr (some (u, 0))) :: (slL q ls.length c) :: (.int .i64 p) :: (.int .i64 bd) :: (.bool six) :: w39 :: w40 :: w41 :: w42 :: w43 :: w44 :: w45 :: w46 :: w47 :: w48 :: w49 :: w50 :: w51 :: w52 :: w53 :: w54 :: w55 :: w56 :: w57 :: w58 :: w59 :: w60 :: w61 :: w62 :: w63 :: w64 :: w65 :: w66 :: w67 :: w68 :: w69 :: w70 :: w71 :: w72 :: w73 :: []), ⟨L, none⟩⟩) Q := by
  obtain ⟨R, hR⟩ : ∃ R, R = (seqTl (seqTl (seqTl (seqTl (seqTl (seqTl (seqTl (seqTl (seqTl (seqTl (seqTl (seqTl (seqTl (seqTl (seqTl (seqTl (seqTl (seqTl (seqTl (seqTl (seqTl (seqTl c_l_FnBeams)))))))))))))))))))))) := ⟨_, rfl⟩
  rw [← hR] at hK
  have hcc : (seqTl (seqTl (seqTl (seqTl (seqTl (seqTl (seqTl (seqTl (seqTl (seqTl (seqTl (seqTl (seqTl (seqTl (seqTl (seqTl (seqTl (seqTl (seqTl (seqTl (seqTl c_l_FnBeams))))))))))))))))))))) = (.seq (seqHd (seqTl (seqTl (seqTl (seqTl (seqTl (seqTl (seqTl (seqTl (seqTl (seqTl (seqTl (seqTl (seqTl (seqTl (seqTl (seqTl (seqTl (seqTl (seqTl (seqTl (seqTl c_l_FnBeams)))))))))))))))))))))) R) := by rw [hR]; rfl
  rw [hcc]
  cases six with
  | false =>
    simp (maxSteps := 2000000) +contextual only [c_l_FnBeams, seqTl, seqHd, Wp_some, Wp_none, Wp_ite, Wc_some, Wc_none, Wc_ite, Wp_thenRun, seqQ_normal, seqQ_exit, seqQ_ret, Wp_inBlock, blkQ_normal, blkQ_ret, blkQ_same, blkQ_exit, Wp_opThen, opQ_at, Wp_guardP, retQ_normal, retQ_ret, loopQ_normal, loopQ_exit, loopQ_ret, go_sem, entry, joinEsc, if_pos, reduceIte, Nat.reduceAdd, Nat.reduceLeDiff, Nat.reduceLT, Nat.reduceEqDiff]
    have := hK []
    simp only [List.append_nil] at this
    exact this _ _ _ _
  | true =>
    obtain ⟨hv1, hv2, hv3, rfl⟩ := h6 rfl
    have hb := (on_facts hv1).x1
    have hb2 := (on_facts hv1).x2
    obtain ⟨X, rfl⟩ := Int.eq_ofNat_of_zero_le (show 0 ≤ x by omega)
    obtain ⟨P, rfl⟩ := Int.eq_ofNat_of_zero_le hv2
    have hi := e_i_BendTimes (pr := pr) (H := L) (e := none) (c := c) hq hv1
    have hum := fun G => cells_mono hu G
    have hPX : P < X + 1 := by omega
    have hw := wrap_succ (show X < 9223372036854775807 by omega)
    have hpt := part_encI 1 (mapR_get (bendZ a b ls) hPX)
    have hdd : ∀ x : Int, decide (x = x) = true := fun x => decide_eq_true rfl
    simp (maxSteps := 2000000) +contextual only [c_l_FnBeams, seqTl, seqHd, hu, hum, hi, hPX, hw, hpt, hdd, Nat.add_assoc, decide_true, Wp_some, Wp_none, Wp_ite, Wc_some, Wc_none, Wc_ite, Wp_thenRun, seqQ_normal, seqQ_exit, seqQ_ret, Wp_inBlock, blkQ_normal, blkQ_ret, blkQ_same, blkQ_exit, Wp_opThen, opQ_at, Wp_guardP, retQ_normal, retQ_ret, loopQ_normal, loopQ_exit, loopQ_ret, go_sem, entry, joinEsc, if_pos, reduceIte, Nat.reduceAdd, Nat.reduceLeDiff, Nat.reduceLT, Nat.reduceEqDiff]
    exact hK _ _ _ _ _

end Go.Proofs.Ytaikmfldjkbmmaa.Slim
